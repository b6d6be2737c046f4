/- Texts laid into one: X4 XU XT Pm XP XQ XV X3 XC XY XK XL. -/
import Derived.Test.YtlbgcjpkegpmlaaLates3
import Derived.WalkKit
import Derived.WalkLawsBesides
import Derived.Lib.Hide
import Derived.Handy
/- What is to be shown of each function, as the executor has it. Printed by trees.py. -/
namespace Go.Proofs.Ytlbgcjpkegpmlaa
noncomputable def csensorof : Cx := tab.only [26] (fun _ => []) [] 0 []
def tsensorof_1 : Tree :=
  (.ob (.and (.cmp .le (.lit (-9223372036854775808)) (.add (.lit 1) (.var 26))) (.cmp .le (.add (.lit 1) (.var 26)) (.lit 9223372036854775807))) (.split (.cmp .eq (.add (.lit 1) (.var 2)) (.lit 1)) (.ob (.and (.cmp .le (.lit (-9223372036854775808)) (.mul (.add (.lit 1) (.var 23)) (.lit 20))) (.cmp .le (.mul (.add (.lit 1) (.var 23)) (.lit 20)) (.lit 9223372036854775807))) (.ob (.and (.cmp .le (.lit (-9223372036854775808)) (.add (.lit 1) (.var 2))) (.cmp .le (.add (.lit 1) (.var 2)) (.lit 9223372036854775807))) (.ob (.and (.cmp .le (.lit (-9223372036854775808)) (.add (.lit 1) (.var 5))) (.cmp .le (.add (.lit 1) (.var 5)) (.lit 9223372036854775807))) (.ob (.and (.cmp .le (.lit (-9223372036854775808)) (.mul (.var 8) (.var 11))) (.cmp .le (.mul (.var 8) (.var 11)) (.lit 9223372036854775807))) (.ob (.and (.cmp .le (.lit (-9223372036854775808)) (.add (.lit 1) (.var 17))) (.cmp .le (.add (.lit 1) (.var 17)) (.lit 9223372036854775807))) (.ob (.and (.cmp .le (.lit (-9223372036854775808)) (.mul (.add (.lit 1) (.var 23)) (.lit 20))) (.cmp .le (.mul (.add (.lit 1) (.var 23)) (.lit 20)) (.lit 9223372036854775807))) (.ob (.and (.cmp .le (.lit (-9223372036854775808)) (.add (.lit 1) (.var 26))) (.cmp .le (.add (.lit 1) (.var 26)) (.lit 9223372036854775807))) (.ret [(.int (.add (.lit 1) (.var 2))), (.int (.add (.lit 1) (.var 5))), (.int (.mul (.var 8) (.var 11))), (.int (.var 14)), (.int (.add (.lit 1) (.var 17))), (.int (.var 20)), (.int (.mul (.add (.lit 1) (.var 23)) (.lit 20))), (.int (.add (.lit 1) (.var 26))), (.arr 3 (.var 27)), (.int (.var 28))])))))))) (.ob (.and (.cmp .le (.lit (-9223372036854775808)) (.add (.lit 1) (.var 2))) (.cmp .le (.add (.lit 1) (.var 2)) (.lit 9223372036854775807))) (.ob (.and (.cmp .le (.lit (-9223372036854775808)) (.add (.lit 1) (.var 5))) (.cmp .le (.add (.lit 1) (.var 5)) (.lit 9223372036854775807))) (.ob (.and (.cmp .le (.lit (-9223372036854775808)) (.mul (.var 8) (.var 11))) (.cmp .le (.mul (.var 8) (.var 11)) (.lit 9223372036854775807))) (.ob (.and (.cmp .le (.lit (-9223372036854775808)) (.add (.lit 1) (.var 17))) (.cmp .le (.add (.lit 1) (.var 17)) (.lit 9223372036854775807))) (.ob (.and (.cmp .le (.lit (-9223372036854775808)) (.add (.lit 1) (.var 23))) (.cmp .le (.add (.lit 1) (.var 23)) (.lit 9223372036854775807))) (.ob (.and (.cmp .le (.lit (-9223372036854775808)) (.add (.lit 1) (.var 26))) (.cmp .le (.add (.lit 1) (.var 26)) (.lit 9223372036854775807))) (.ret [(.int (.add (.lit 1) (.var 2))), (.int (.add (.lit 1) (.var 5))), (.int (.mul (.var 8) (.var 11))), (.int (.var 14)), (.int (.add (.lit 1) (.var 17))), (.int (.var 20)), (.int (.add (.lit 1) (.var 23))), (.int (.add (.lit 1) (.var 26))), (.arr 3 (.var 27)), (.int (.var 28))])))))))))
def tsensorof_2 : Tree :=
  (.ob (.and (.cmp .le (.lit (-9223372036854775808)) (.add (.lit 1) (.var 23))) (.cmp .le (.add (.lit 1) (.var 23)) (.lit 9223372036854775807))) (.call 26 [(.arr 3 (.var 24)), (.int (.var 25)), (.int (.lit 4))] tsensorof_1))
def tsensorof_3 : Tree :=
  (.ob (.and (.cmp .le (.lit (-9223372036854775808)) (.add (.lit 1) (.var 17))) (.cmp .le (.add (.lit 1) (.var 17)) (.lit 9223372036854775807))) (.call 26 [(.arr 3 (.var 18)), (.int (.var 19)), (.int (.lit 4))] (.call 26 [(.arr 3 (.var 21)), (.int (.var 22)), (.int (.lit 9000))] tsensorof_2)))
def tsensorof_4 : Tree :=
  (.ob (.and (.cmp .le (.lit (-9223372036854775808)) (.mul (.var 8) (.var 11))) (.cmp .le (.mul (.var 8) (.var 11)) (.lit 9223372036854775807))) (.call 26 [(.arr 3 (.var 12)), (.int (.var 13)), (.int (.lit 4))] (.call 26 [(.arr 3 (.var 15)), (.int (.var 16)), (.int (.lit 500))] tsensorof_3)))
def tsensorof_5 : Tree :=
  (.ob (.and (.cmp .le (.lit (-9223372036854775808)) (.add (.lit 1) (.var 5))) (.cmp .le (.add (.lit 1) (.var 5)) (.lit 9223372036854775807))) (.call 26 [(.arr 3 (.var 6)), (.int (.var 7)), (.int (.lit 3))] (.call 26 [(.arr 3 (.var 9)), (.int (.var 10)), (.int (.lit 20))] tsensorof_4)))
def tsensorof_6 : Tree :=
  (.ob (.and (.cmp .le (.lit (-9223372036854775808)) (.add (.lit 1) (.var 2))) (.cmp .le (.add (.lit 1) (.var 2)) (.lit 9223372036854775807))) (.call 26 [(.arr 3 (.var 3)), (.int (.var 4)), (.int (.lit 12))] tsensorof_5))
def tsensorof : Tree :=
  (.call 26 [(.arr 3 (.var 0)), (.int (.var 1)), (.int (.lit 2))] tsensorof_6)
noncomputable def csamples : Cx := tab.only [26] (fun r => match r with
  | 50014 => [.blk 0]
  | 4 => [.blk 0]
  | _ => []) [] 0 []
def tsamples_1 : Tree :=
  (.split (.cmp .eq (.var 31) (.lit 0)) (.ob (.and (.cmp .le (.lit (-9223372036854775808)) (.add (.add (.mul (.sub (.var 22) (.var 13)) (.var 11)) (.mul (.var 12) (.quo (.mul (.sub (.var 22) (.var 13)) (.sub (.sub (.var 22) (.var 13)) (.lit 1))) (.lit 2)))) (.mul (.sub (.lit 0) (.var 6)) (.var 7)))) (.cmp .le (.add (.add (.mul (.sub (.var 22) (.var 13)) (.var 11)) (.mul (.var 12) (.quo (.mul (.sub (.var 22) (.var 13)) (.sub (.sub (.var 22) (.var 13)) (.lit 1))) (.lit 2)))) (.mul (.sub (.lit 0) (.var 6)) (.var 7))) (.lit 9223372036854775807))) (.ob (.and (.cmp .le (.lit (-9223372036854775808)) (.add (.add (.mul (.sub (.var 22) (.var 13)) (.var 11)) (.mul (.var 12) (.quo (.mul (.sub (.var 22) (.var 13)) (.sub (.sub (.var 22) (.var 13)) (.lit 1))) (.lit 2)))) (.mul (.sub (.lit 0) (.var 6)) (.var 7)))) (.cmp .le (.add (.add (.mul (.sub (.var 22) (.var 13)) (.var 11)) (.mul (.var 12) (.quo (.mul (.sub (.var 22) (.var 13)) (.sub (.sub (.var 22) (.var 13)) (.lit 1))) (.lit 2)))) (.mul (.sub (.lit 0) (.var 6)) (.var 7))) (.lit 9223372036854775807))) (.arr [[(.int (.var 2)), (.int (.var 22)), (.int (.add (.add (.mul (.sub (.var 22) (.var 13)) (.var 11)) (.mul (.var 12) (.quo (.mul (.sub (.var 22) (.var 13)) (.sub (.sub (.var 22) (.var 13)) (.lit 1))) (.lit 2)))) (.mul (.sub (.lit 0) (.var 6)) (.var 7))))]] (.ob (.cmp .le (.mul (.add (.len (.var 20)) (.len (.var 34))) (.lit 24)) (.lit 140737488355328)) (.cat (.var 20) (.var 34) (.back 0 [(.cnt 40 (.var 35)), (.int (.var 8)), (.int (.add (.var 22) (.var 4))), (.arr 3 (.var 32)), (.int (.var 33))])))))) (.ob (.and (.cmp .le (.lit (-9223372036854775808)) (.mul (.sub (.var 28) (.var 6)) (.var 7))) (.cmp .le (.mul (.sub (.var 28) (.var 6)) (.var 7)) (.lit 9223372036854775807))) (.ob (.and (.cmp .le (.lit (-9223372036854775808)) (.add (.add (.mul (.sub (.var 22) (.var 13)) (.var 11)) (.mul (.var 12) (.quo (.mul (.sub (.var 22) (.var 13)) (.sub (.sub (.var 22) (.var 13)) (.lit 1))) (.lit 2)))) (.mul (.sub (.var 28) (.var 6)) (.var 7)))) (.cmp .le (.add (.add (.mul (.sub (.var 22) (.var 13)) (.var 11)) (.mul (.var 12) (.quo (.mul (.sub (.var 22) (.var 13)) (.sub (.sub (.var 22) (.var 13)) (.lit 1))) (.lit 2)))) (.mul (.sub (.var 28) (.var 6)) (.var 7))) (.lit 9223372036854775807))) (.ob (.and (.cmp .le (.lit (-9223372036854775808)) (.add (.add (.mul (.sub (.var 22) (.var 13)) (.var 11)) (.mul (.var 12) (.quo (.mul (.sub (.var 22) (.var 13)) (.sub (.sub (.var 22) (.var 13)) (.lit 1))) (.lit 2)))) (.mul (.sub (.var 28) (.var 6)) (.var 7)))) (.cmp .le (.add (.add (.mul (.sub (.var 22) (.var 13)) (.var 11)) (.mul (.var 12) (.quo (.mul (.sub (.var 22) (.var 13)) (.sub (.sub (.var 22) (.var 13)) (.lit 1))) (.lit 2)))) (.mul (.sub (.var 28) (.var 6)) (.var 7))) (.lit 9223372036854775807))) (.arr [[(.int (.var 2)), (.int (.var 22)), (.int (.add (.add (.mul (.sub (.var 22) (.var 13)) (.var 11)) (.mul (.var 12) (.quo (.mul (.sub (.var 22) (.var 13)) (.sub (.sub (.var 22) (.var 13)) (.lit 1))) (.lit 2)))) (.mul (.sub (.var 28) (.var 6)) (.var 7))))]] (.ob (.cmp .le (.mul (.add (.len (.var 20)) (.len (.var 34))) (.lit 24)) (.lit 140737488355328)) (.cat (.var 20) (.var 34) (.back 0 [(.cnt 40 (.var 35)), (.int (.var 8)), (.int (.add (.var 22) (.var 4))), (.arr 3 (.var 32)), (.int (.var 33))]))))))))
def tsamples_2 : Tree :=
  (.ob (.and (.cmp .le (.lit (-9223372036854775808)) (.sub (.var 28) (.var 6))) (.cmp .le (.sub (.var 28) (.var 6)) (.lit 9223372036854775807))) (.call 26 [(.arr 3 (.var 29)), (.int (.var 30)), (.int (.lit 3))] tsamples_1))
def tsamples_3 : Tree :=
  (.split (.cmp .eq (.var 31) (.lit 0)) (.ob (.and (.cmp .le (.lit (-9223372036854775808)) (.add (.add (.var 11) (.mul (.sub (.var 22) (.var 13)) (.var 12))) (.mul (.sub (.lit 0) (.var 6)) (.var 7)))) (.cmp .le (.add (.add (.var 11) (.mul (.sub (.var 22) (.var 13)) (.var 12))) (.mul (.sub (.lit 0) (.var 6)) (.var 7))) (.lit 9223372036854775807))) (.ob (.and (.cmp .le (.lit (-9223372036854775808)) (.add (.add (.var 11) (.mul (.sub (.var 22) (.var 13)) (.var 12))) (.mul (.sub (.lit 0) (.var 6)) (.var 7)))) (.cmp .le (.add (.add (.var 11) (.mul (.sub (.var 22) (.var 13)) (.var 12))) (.mul (.sub (.lit 0) (.var 6)) (.var 7))) (.lit 9223372036854775807))) (.arr [[(.int (.var 2)), (.int (.var 22)), (.int (.add (.add (.var 11) (.mul (.sub (.var 22) (.var 13)) (.var 12))) (.mul (.sub (.lit 0) (.var 6)) (.var 7))))]] (.ob (.cmp .le (.mul (.add (.len (.var 20)) (.len (.var 34))) (.lit 24)) (.lit 140737488355328)) (.cat (.var 20) (.var 34) (.back 0 [(.cnt 40 (.var 35)), (.int (.var 8)), (.int (.add (.var 22) (.var 4))), (.arr 3 (.var 32)), (.int (.var 33))])))))) (.ob (.and (.cmp .le (.lit (-9223372036854775808)) (.mul (.sub (.var 28) (.var 6)) (.var 7))) (.cmp .le (.mul (.sub (.var 28) (.var 6)) (.var 7)) (.lit 9223372036854775807))) (.ob (.and (.cmp .le (.lit (-9223372036854775808)) (.add (.add (.var 11) (.mul (.sub (.var 22) (.var 13)) (.var 12))) (.mul (.sub (.var 28) (.var 6)) (.var 7)))) (.cmp .le (.add (.add (.var 11) (.mul (.sub (.var 22) (.var 13)) (.var 12))) (.mul (.sub (.var 28) (.var 6)) (.var 7))) (.lit 9223372036854775807))) (.ob (.and (.cmp .le (.lit (-9223372036854775808)) (.add (.add (.var 11) (.mul (.sub (.var 22) (.var 13)) (.var 12))) (.mul (.sub (.var 28) (.var 6)) (.var 7)))) (.cmp .le (.add (.add (.var 11) (.mul (.sub (.var 22) (.var 13)) (.var 12))) (.mul (.sub (.var 28) (.var 6)) (.var 7))) (.lit 9223372036854775807))) (.arr [[(.int (.var 2)), (.int (.var 22)), (.int (.add (.add (.var 11) (.mul (.sub (.var 22) (.var 13)) (.var 12))) (.mul (.sub (.var 28) (.var 6)) (.var 7))))]] (.ob (.cmp .le (.mul (.add (.len (.var 20)) (.len (.var 34))) (.lit 24)) (.lit 140737488355328)) (.cat (.var 20) (.var 34) (.back 0 [(.cnt 40 (.var 35)), (.int (.var 8)), (.int (.add (.var 22) (.var 4))), (.arr 3 (.var 32)), (.int (.var 33))]))))))))
def tsamples_4 : Tree :=
  (.ob (.and (.cmp .le (.lit (-9223372036854775808)) (.sub (.var 28) (.var 6))) (.cmp .le (.sub (.var 28) (.var 6)) (.lit 9223372036854775807))) (.call 26 [(.arr 3 (.var 29)), (.int (.var 30)), (.int (.lit 3))] tsamples_3))
def tsamples_5 : Tree :=
  (.split (.cmp .eq (.var 31) (.lit 0)) (.ob (.and (.cmp .le (.lit (-9223372036854775808)) (.add (.add (.var 11) (.mul (.sub (.var 22) (.var 13)) (.var 12))) (.mul (.sub (.lit 0) (.var 6)) (.var 7)))) (.cmp .le (.add (.add (.var 11) (.mul (.sub (.var 22) (.var 13)) (.var 12))) (.mul (.sub (.lit 0) (.var 6)) (.var 7))) (.lit 9223372036854775807))) (.ob (.and (.cmp .le (.lit (-9223372036854775808)) (.add (.add (.var 11) (.mul (.sub (.var 22) (.var 13)) (.var 12))) (.mul (.sub (.lit 0) (.var 6)) (.var 7)))) (.cmp .le (.add (.add (.var 11) (.mul (.sub (.var 22) (.var 13)) (.var 12))) (.mul (.sub (.lit 0) (.var 6)) (.var 7))) (.lit 9223372036854775807))) (.arr [[(.int (.var 2)), (.int (.var 22)), (.int (.add (.add (.var 11) (.mul (.sub (.var 22) (.var 13)) (.var 12))) (.mul (.sub (.lit 0) (.var 6)) (.var 7))))]] (.ob (.cmp .le (.mul (.add (.len (.var 20)) (.len (.var 34))) (.lit 24)) (.lit 140737488355328)) (.cat (.var 20) (.var 34) (.back 0 [(.cnt 40 (.var 35)), (.int (.var 8)), (.int (.add (.var 22) (.var 4))), (.arr 3 (.var 32)), (.int (.var 33))])))))) (.ob (.and (.cmp .le (.lit (-9223372036854775808)) (.mul (.sub (.var 28) (.var 6)) (.var 7))) (.cmp .le (.mul (.sub (.var 28) (.var 6)) (.var 7)) (.lit 9223372036854775807))) (.ob (.and (.cmp .le (.lit (-9223372036854775808)) (.add (.add (.var 11) (.mul (.sub (.var 22) (.var 13)) (.var 12))) (.mul (.sub (.var 28) (.var 6)) (.var 7)))) (.cmp .le (.add (.add (.var 11) (.mul (.sub (.var 22) (.var 13)) (.var 12))) (.mul (.sub (.var 28) (.var 6)) (.var 7))) (.lit 9223372036854775807))) (.ob (.and (.cmp .le (.lit (-9223372036854775808)) (.add (.add (.var 11) (.mul (.sub (.var 22) (.var 13)) (.var 12))) (.mul (.sub (.var 28) (.var 6)) (.var 7)))) (.cmp .le (.add (.add (.var 11) (.mul (.sub (.var 22) (.var 13)) (.var 12))) (.mul (.sub (.var 28) (.var 6)) (.var 7))) (.lit 9223372036854775807))) (.arr [[(.int (.var 2)), (.int (.var 22)), (.int (.add (.add (.var 11) (.mul (.sub (.var 22) (.var 13)) (.var 12))) (.mul (.sub (.var 28) (.var 6)) (.var 7))))]] (.ob (.cmp .le (.mul (.add (.len (.var 20)) (.len (.var 34))) (.lit 24)) (.lit 140737488355328)) (.cat (.var 20) (.var 34) (.back 0 [(.cnt 40 (.var 35)), (.int (.var 8)), (.int (.add (.var 22) (.var 4))), (.arr 3 (.var 32)), (.int (.var 33))]))))))))
def tsamples_6 : Tree :=
  (.ob (.and (.cmp .le (.lit (-9223372036854775808)) (.sub (.var 28) (.var 6))) (.cmp .le (.sub (.var 28) (.var 6)) (.lit 9223372036854775807))) (.call 26 [(.arr 3 (.var 29)), (.int (.var 30)), (.int (.lit 3))] tsamples_5))
def tsamples_7 : Tree :=
  (.split (.cmp .eq (.var 31) (.lit 0)) (.arr [[(.int (.var 2)), (.int (.var 22)), (.int (.mul (.sub (.lit 0) (.var 6)) (.var 7)))]] (.ob (.cmp .le (.mul (.add (.len (.var 20)) (.len (.var 34))) (.lit 24)) (.lit 140737488355328)) (.cat (.var 20) (.var 34) (.back 0 [(.cnt 40 (.var 35)), (.int (.var 8)), (.int (.add (.var 22) (.var 4))), (.arr 3 (.var 32)), (.int (.var 33))])))) (.ob (.and (.cmp .le (.lit (-9223372036854775808)) (.mul (.sub (.var 28) (.var 6)) (.var 7))) (.cmp .le (.mul (.sub (.var 28) (.var 6)) (.var 7)) (.lit 9223372036854775807))) (.ob (.and (.cmp .le (.lit (-9223372036854775808)) (.add (.lit 0) (.mul (.sub (.var 28) (.var 6)) (.var 7)))) (.cmp .le (.add (.lit 0) (.mul (.sub (.var 28) (.var 6)) (.var 7))) (.lit 9223372036854775807))) (.ob (.and (.cmp .le (.lit (-9223372036854775808)) (.mul (.sub (.var 28) (.var 6)) (.var 7))) (.cmp .le (.mul (.sub (.var 28) (.var 6)) (.var 7)) (.lit 9223372036854775807))) (.arr [[(.int (.var 2)), (.int (.var 22)), (.int (.mul (.sub (.var 28) (.var 6)) (.var 7)))]] (.ob (.cmp .le (.mul (.add (.len (.var 20)) (.len (.var 34))) (.lit 24)) (.lit 140737488355328)) (.cat (.var 20) (.var 34) (.back 0 [(.cnt 40 (.var 35)), (.int (.var 8)), (.int (.add (.var 22) (.var 4))), (.arr 3 (.var 32)), (.int (.var 33))]))))))))
def tsamples_8 : Tree :=
  (.ob (.and (.cmp .le (.lit (-9223372036854775808)) (.sub (.var 28) (.var 6))) (.cmp .le (.sub (.var 28) (.var 6)) (.lit 9223372036854775807))) (.call 26 [(.arr 3 (.var 29)), (.int (.var 30)), (.int (.lit 3))] tsamples_7))
def tsamples_9 : Tree :=
  (.split (.cmp .eq (.var 31) (.lit 0)) (.arr [[(.int (.var 2)), (.int (.var 22)), (.int (.mul (.sub (.lit 0) (.var 6)) (.var 7)))]] (.ob (.cmp .le (.mul (.add (.len (.var 20)) (.len (.var 34))) (.lit 24)) (.lit 140737488355328)) (.cat (.var 20) (.var 34) (.back 0 [(.cnt 40 (.var 35)), (.int (.var 8)), (.int (.add (.var 22) (.var 4))), (.arr 3 (.var 32)), (.int (.var 33))])))) (.ob (.and (.cmp .le (.lit (-9223372036854775808)) (.mul (.sub (.var 28) (.var 6)) (.var 7))) (.cmp .le (.mul (.sub (.var 28) (.var 6)) (.var 7)) (.lit 9223372036854775807))) (.ob (.and (.cmp .le (.lit (-9223372036854775808)) (.add (.lit 0) (.mul (.sub (.var 28) (.var 6)) (.var 7)))) (.cmp .le (.add (.lit 0) (.mul (.sub (.var 28) (.var 6)) (.var 7))) (.lit 9223372036854775807))) (.ob (.and (.cmp .le (.lit (-9223372036854775808)) (.mul (.sub (.var 28) (.var 6)) (.var 7))) (.cmp .le (.mul (.sub (.var 28) (.var 6)) (.var 7)) (.lit 9223372036854775807))) (.arr [[(.int (.var 2)), (.int (.var 22)), (.int (.mul (.sub (.var 28) (.var 6)) (.var 7)))]] (.ob (.cmp .le (.mul (.add (.len (.var 20)) (.len (.var 34))) (.lit 24)) (.lit 140737488355328)) (.cat (.var 20) (.var 34) (.back 0 [(.cnt 40 (.var 35)), (.int (.var 8)), (.int (.add (.var 22) (.var 4))), (.arr 3 (.var 32)), (.int (.var 33))]))))))))
def tsamples_10 : Tree :=
  (.ob (.and (.cmp .le (.lit (-9223372036854775808)) (.sub (.var 28) (.var 6))) (.cmp .le (.sub (.var 28) (.var 6)) (.lit 9223372036854775807))) (.call 26 [(.arr 3 (.var 29)), (.int (.var 30)), (.int (.lit 3))] tsamples_9))
def tsamples_11 : Tree :=
  (.split (.cmp .eq (.var 25) (.lit 0)) (.back 0 [(.cnt 40 (.var 20)), (.int (.sub (.var 21) (.lit 1))), (.int (.add (.var 22) (.var 4))), (.arr 3 (.var 26)), (.int (.var 27))]) (.ob (.and (.cmp .le (.lit (-9223372036854775808)) (.sub (.var 22) (.var 13))) (.cmp .le (.sub (.var 22) (.var 13)) (.lit 9223372036854775807))) (.split (.cmp .lt (.lit 0) (.sub (.var 22) (.var 13))) (.ob (.and (.cmp .le (.lit (-9223372036854775808)) (.mul (.sub (.var 22) (.var 13)) (.var 12))) (.cmp .le (.mul (.sub (.var 22) (.var 13)) (.var 12)) (.lit 9223372036854775807))) (.ob (.and (.cmp .le (.lit (-9223372036854775808)) (.add (.var 11) (.mul (.sub (.var 22) (.var 13)) (.var 12)))) (.cmp .le (.add (.var 11) (.mul (.sub (.var 22) (.var 13)) (.var 12))) (.lit 9223372036854775807))) (.split (.cmp .eq (.var 3) (.lit 1)) (.ob (.and (.cmp .le (.lit (-9223372036854775808)) (.mul (.sub (.var 22) (.var 13)) (.var 11))) (.cmp .le (.mul (.sub (.var 22) (.var 13)) (.var 11)) (.lit 9223372036854775807))) (.ob (.and (.cmp .le (.lit (-9223372036854775808)) (.sub (.sub (.var 22) (.var 13)) (.lit 1))) (.cmp .le (.sub (.sub (.var 22) (.var 13)) (.lit 1)) (.lit 9223372036854775807))) (.ob (.and (.cmp .le (.lit (-9223372036854775808)) (.mul (.sub (.var 22) (.var 13)) (.sub (.sub (.var 22) (.var 13)) (.lit 1)))) (.cmp .le (.mul (.sub (.var 22) (.var 13)) (.sub (.sub (.var 22) (.var 13)) (.lit 1))) (.lit 9223372036854775807))) (.ob (.and (.cmp .le (.lit (-9223372036854775808)) (.quo (.mul (.sub (.var 22) (.var 13)) (.sub (.sub (.var 22) (.var 13)) (.lit 1))) (.lit 2))) (.cmp .le (.quo (.mul (.sub (.var 22) (.var 13)) (.sub (.sub (.var 22) (.var 13)) (.lit 1))) (.lit 2)) (.lit 9223372036854775807))) (.ob (.and (.cmp .le (.lit (-9223372036854775808)) (.mul (.var 12) (.quo (.mul (.sub (.var 22) (.var 13)) (.sub (.sub (.var 22) (.var 13)) (.lit 1))) (.lit 2)))) (.cmp .le (.mul (.var 12) (.quo (.mul (.sub (.var 22) (.var 13)) (.sub (.sub (.var 22) (.var 13)) (.lit 1))) (.lit 2))) (.lit 9223372036854775807))) (.ob (.and (.cmp .le (.lit (-9223372036854775808)) (.add (.mul (.sub (.var 22) (.var 13)) (.var 11)) (.mul (.var 12) (.quo (.mul (.sub (.var 22) (.var 13)) (.sub (.sub (.var 22) (.var 13)) (.lit 1))) (.lit 2))))) (.cmp .le (.add (.mul (.sub (.var 22) (.var 13)) (.var 11)) (.mul (.var 12) (.quo (.mul (.sub (.var 22) (.var 13)) (.sub (.sub (.var 22) (.var 13)) (.lit 1))) (.lit 2)))) (.lit 9223372036854775807))) (.call 26 [(.arr 3 (.var 26)), (.int (.var 27)), (.int (.add (.mul (.lit 2) (.var 6)) (.lit 1)))] tsamples_2))))))) (.call 26 [(.arr 3 (.var 26)), (.int (.var 27)), (.int (.add (.mul (.lit 2) (.var 6)) (.lit 1)))] tsamples_4)))) (.split (.cmp .eq (.sub (.var 22) (.var 13)) (.lit 0)) (.split (.cmp .eq (.var 3) (.lit 2)) (.ob (.and (.cmp .le (.lit (-9223372036854775808)) (.mul (.sub (.var 22) (.var 13)) (.var 12))) (.cmp .le (.mul (.sub (.var 22) (.var 13)) (.var 12)) (.lit 9223372036854775807))) (.ob (.and (.cmp .le (.lit (-9223372036854775808)) (.add (.var 11) (.mul (.sub (.var 22) (.var 13)) (.var 12)))) (.cmp .le (.add (.var 11) (.mul (.sub (.var 22) (.var 13)) (.var 12))) (.lit 9223372036854775807))) (.call 26 [(.arr 3 (.var 26)), (.int (.var 27)), (.int (.add (.mul (.lit 2) (.var 6)) (.lit 1)))] tsamples_6))) (.call 26 [(.arr 3 (.var 26)), (.int (.var 27)), (.int (.add (.mul (.lit 2) (.var 6)) (.lit 1)))] tsamples_8)) (.call 26 [(.arr 3 (.var 26)), (.int (.var 27)), (.int (.add (.mul (.lit 2) (.var 6)) (.lit 1)))] tsamples_10)))))
def tsamples_12 : Tree :=
  (.split (.cmp .eq (.var 28) (.lit 0)) (.ob (.and (.cmp .le (.lit (-9223372036854775808)) (.add (.add (.mul (.sub (.var 22) (.var 13)) (.var 11)) (.mul (.var 12) (.quo (.mul (.sub (.var 22) (.var 13)) (.sub (.sub (.var 22) (.var 13)) (.lit 1))) (.lit 2)))) (.mul (.sub (.lit 0) (.var 6)) (.var 7)))) (.cmp .le (.add (.add (.mul (.sub (.var 22) (.var 13)) (.var 11)) (.mul (.var 12) (.quo (.mul (.sub (.var 22) (.var 13)) (.sub (.sub (.var 22) (.var 13)) (.lit 1))) (.lit 2)))) (.mul (.sub (.lit 0) (.var 6)) (.var 7))) (.lit 9223372036854775807))) (.ob (.and (.cmp .le (.lit (-9223372036854775808)) (.add (.add (.mul (.sub (.var 22) (.var 13)) (.var 11)) (.mul (.var 12) (.quo (.mul (.sub (.var 22) (.var 13)) (.sub (.sub (.var 22) (.var 13)) (.lit 1))) (.lit 2)))) (.mul (.sub (.lit 0) (.var 6)) (.var 7)))) (.cmp .le (.add (.add (.mul (.sub (.var 22) (.var 13)) (.var 11)) (.mul (.var 12) (.quo (.mul (.sub (.var 22) (.var 13)) (.sub (.sub (.var 22) (.var 13)) (.lit 1))) (.lit 2)))) (.mul (.sub (.lit 0) (.var 6)) (.var 7))) (.lit 9223372036854775807))) (.arr [[(.int (.var 2)), (.int (.var 22)), (.int (.add (.add (.mul (.sub (.var 22) (.var 13)) (.var 11)) (.mul (.var 12) (.quo (.mul (.sub (.var 22) (.var 13)) (.sub (.sub (.var 22) (.var 13)) (.lit 1))) (.lit 2)))) (.mul (.sub (.lit 0) (.var 6)) (.var 7))))]] (.ob (.cmp .le (.mul (.add (.len (.var 20)) (.len (.var 31))) (.lit 24)) (.lit 140737488355328)) (.cat (.var 20) (.var 31) (.back 0 [(.cnt 40 (.var 32)), (.int (.var 8)), (.int (.add (.var 22) (.var 4))), (.arr 3 (.var 29)), (.int (.var 30))])))))) (.ob (.and (.cmp .le (.lit (-9223372036854775808)) (.mul (.sub (.var 25) (.var 6)) (.var 7))) (.cmp .le (.mul (.sub (.var 25) (.var 6)) (.var 7)) (.lit 9223372036854775807))) (.ob (.and (.cmp .le (.lit (-9223372036854775808)) (.add (.add (.mul (.sub (.var 22) (.var 13)) (.var 11)) (.mul (.var 12) (.quo (.mul (.sub (.var 22) (.var 13)) (.sub (.sub (.var 22) (.var 13)) (.lit 1))) (.lit 2)))) (.mul (.sub (.var 25) (.var 6)) (.var 7)))) (.cmp .le (.add (.add (.mul (.sub (.var 22) (.var 13)) (.var 11)) (.mul (.var 12) (.quo (.mul (.sub (.var 22) (.var 13)) (.sub (.sub (.var 22) (.var 13)) (.lit 1))) (.lit 2)))) (.mul (.sub (.var 25) (.var 6)) (.var 7))) (.lit 9223372036854775807))) (.ob (.and (.cmp .le (.lit (-9223372036854775808)) (.add (.add (.mul (.sub (.var 22) (.var 13)) (.var 11)) (.mul (.var 12) (.quo (.mul (.sub (.var 22) (.var 13)) (.sub (.sub (.var 22) (.var 13)) (.lit 1))) (.lit 2)))) (.mul (.sub (.var 25) (.var 6)) (.var 7)))) (.cmp .le (.add (.add (.mul (.sub (.var 22) (.var 13)) (.var 11)) (.mul (.var 12) (.quo (.mul (.sub (.var 22) (.var 13)) (.sub (.sub (.var 22) (.var 13)) (.lit 1))) (.lit 2)))) (.mul (.sub (.var 25) (.var 6)) (.var 7))) (.lit 9223372036854775807))) (.arr [[(.int (.var 2)), (.int (.var 22)), (.int (.add (.add (.mul (.sub (.var 22) (.var 13)) (.var 11)) (.mul (.var 12) (.quo (.mul (.sub (.var 22) (.var 13)) (.sub (.sub (.var 22) (.var 13)) (.lit 1))) (.lit 2)))) (.mul (.sub (.var 25) (.var 6)) (.var 7))))]] (.ob (.cmp .le (.mul (.add (.len (.var 20)) (.len (.var 31))) (.lit 24)) (.lit 140737488355328)) (.cat (.var 20) (.var 31) (.back 0 [(.cnt 40 (.var 32)), (.int (.var 8)), (.int (.add (.var 22) (.var 4))), (.arr 3 (.var 29)), (.int (.var 30))]))))))))
def tsamples_13 : Tree :=
  (.ob (.and (.cmp .le (.lit (-9223372036854775808)) (.sub (.var 25) (.var 6))) (.cmp .le (.sub (.var 25) (.var 6)) (.lit 9223372036854775807))) (.call 26 [(.arr 3 (.var 26)), (.int (.var 27)), (.int (.lit 3))] tsamples_12))
def tsamples_14 : Tree :=
  (.split (.cmp .eq (.var 28) (.lit 0)) (.ob (.and (.cmp .le (.lit (-9223372036854775808)) (.add (.add (.var 11) (.mul (.sub (.var 22) (.var 13)) (.var 12))) (.mul (.sub (.lit 0) (.var 6)) (.var 7)))) (.cmp .le (.add (.add (.var 11) (.mul (.sub (.var 22) (.var 13)) (.var 12))) (.mul (.sub (.lit 0) (.var 6)) (.var 7))) (.lit 9223372036854775807))) (.ob (.and (.cmp .le (.lit (-9223372036854775808)) (.add (.add (.var 11) (.mul (.sub (.var 22) (.var 13)) (.var 12))) (.mul (.sub (.lit 0) (.var 6)) (.var 7)))) (.cmp .le (.add (.add (.var 11) (.mul (.sub (.var 22) (.var 13)) (.var 12))) (.mul (.sub (.lit 0) (.var 6)) (.var 7))) (.lit 9223372036854775807))) (.arr [[(.int (.var 2)), (.int (.var 22)), (.int (.add (.add (.var 11) (.mul (.sub (.var 22) (.var 13)) (.var 12))) (.mul (.sub (.lit 0) (.var 6)) (.var 7))))]] (.ob (.cmp .le (.mul (.add (.len (.var 20)) (.len (.var 31))) (.lit 24)) (.lit 140737488355328)) (.cat (.var 20) (.var 31) (.back 0 [(.cnt 40 (.var 32)), (.int (.var 8)), (.int (.add (.var 22) (.var 4))), (.arr 3 (.var 29)), (.int (.var 30))])))))) (.ob (.and (.cmp .le (.lit (-9223372036854775808)) (.mul (.sub (.var 25) (.var 6)) (.var 7))) (.cmp .le (.mul (.sub (.var 25) (.var 6)) (.var 7)) (.lit 9223372036854775807))) (.ob (.and (.cmp .le (.lit (-9223372036854775808)) (.add (.add (.var 11) (.mul (.sub (.var 22) (.var 13)) (.var 12))) (.mul (.sub (.var 25) (.var 6)) (.var 7)))) (.cmp .le (.add (.add (.var 11) (.mul (.sub (.var 22) (.var 13)) (.var 12))) (.mul (.sub (.var 25) (.var 6)) (.var 7))) (.lit 9223372036854775807))) (.ob (.and (.cmp .le (.lit (-9223372036854775808)) (.add (.add (.var 11) (.mul (.sub (.var 22) (.var 13)) (.var 12))) (.mul (.sub (.var 25) (.var 6)) (.var 7)))) (.cmp .le (.add (.add (.var 11) (.mul (.sub (.var 22) (.var 13)) (.var 12))) (.mul (.sub (.var 25) (.var 6)) (.var 7))) (.lit 9223372036854775807))) (.arr [[(.int (.var 2)), (.int (.var 22)), (.int (.add (.add (.var 11) (.mul (.sub (.var 22) (.var 13)) (.var 12))) (.mul (.sub (.var 25) (.var 6)) (.var 7))))]] (.ob (.cmp .le (.mul (.add (.len (.var 20)) (.len (.var 31))) (.lit 24)) (.lit 140737488355328)) (.cat (.var 20) (.var 31) (.back 0 [(.cnt 40 (.var 32)), (.int (.var 8)), (.int (.add (.var 22) (.var 4))), (.arr 3 (.var 29)), (.int (.var 30))]))))))))
def tsamples_15 : Tree :=
  (.ob (.and (.cmp .le (.lit (-9223372036854775808)) (.sub (.var 25) (.var 6))) (.cmp .le (.sub (.var 25) (.var 6)) (.lit 9223372036854775807))) (.call 26 [(.arr 3 (.var 26)), (.int (.var 27)), (.int (.lit 3))] tsamples_14))
def tsamples_16 : Tree :=
  (.split (.cmp .eq (.var 28) (.lit 0)) (.ob (.and (.cmp .le (.lit (-9223372036854775808)) (.add (.add (.var 11) (.mul (.sub (.var 22) (.var 13)) (.var 12))) (.mul (.sub (.lit 0) (.var 6)) (.var 7)))) (.cmp .le (.add (.add (.var 11) (.mul (.sub (.var 22) (.var 13)) (.var 12))) (.mul (.sub (.lit 0) (.var 6)) (.var 7))) (.lit 9223372036854775807))) (.ob (.and (.cmp .le (.lit (-9223372036854775808)) (.add (.add (.var 11) (.mul (.sub (.var 22) (.var 13)) (.var 12))) (.mul (.sub (.lit 0) (.var 6)) (.var 7)))) (.cmp .le (.add (.add (.var 11) (.mul (.sub (.var 22) (.var 13)) (.var 12))) (.mul (.sub (.lit 0) (.var 6)) (.var 7))) (.lit 9223372036854775807))) (.arr [[(.int (.var 2)), (.int (.var 22)), (.int (.add (.add (.var 11) (.mul (.sub (.var 22) (.var 13)) (.var 12))) (.mul (.sub (.lit 0) (.var 6)) (.var 7))))]] (.ob (.cmp .le (.mul (.add (.len (.var 20)) (.len (.var 31))) (.lit 24)) (.lit 140737488355328)) (.cat (.var 20) (.var 31) (.back 0 [(.cnt 40 (.var 32)), (.int (.var 8)), (.int (.add (.var 22) (.var 4))), (.arr 3 (.var 29)), (.int (.var 30))])))))) (.ob (.and (.cmp .le (.lit (-9223372036854775808)) (.mul (.sub (.var 25) (.var 6)) (.var 7))) (.cmp .le (.mul (.sub (.var 25) (.var 6)) (.var 7)) (.lit 9223372036854775807))) (.ob (.and (.cmp .le (.lit (-9223372036854775808)) (.add (.add (.var 11) (.mul (.sub (.var 22) (.var 13)) (.var 12))) (.mul (.sub (.var 25) (.var 6)) (.var 7)))) (.cmp .le (.add (.add (.var 11) (.mul (.sub (.var 22) (.var 13)) (.var 12))) (.mul (.sub (.var 25) (.var 6)) (.var 7))) (.lit 9223372036854775807))) (.ob (.and (.cmp .le (.lit (-9223372036854775808)) (.add (.add (.var 11) (.mul (.sub (.var 22) (.var 13)) (.var 12))) (.mul (.sub (.var 25) (.var 6)) (.var 7)))) (.cmp .le (.add (.add (.var 11) (.mul (.sub (.var 22) (.var 13)) (.var 12))) (.mul (.sub (.var 25) (.var 6)) (.var 7))) (.lit 9223372036854775807))) (.arr [[(.int (.var 2)), (.int (.var 22)), (.int (.add (.add (.var 11) (.mul (.sub (.var 22) (.var 13)) (.var 12))) (.mul (.sub (.var 25) (.var 6)) (.var 7))))]] (.ob (.cmp .le (.mul (.add (.len (.var 20)) (.len (.var 31))) (.lit 24)) (.lit 140737488355328)) (.cat (.var 20) (.var 31) (.back 0 [(.cnt 40 (.var 32)), (.int (.var 8)), (.int (.add (.var 22) (.var 4))), (.arr 3 (.var 29)), (.int (.var 30))]))))))))
def tsamples_17 : Tree :=
  (.ob (.and (.cmp .le (.lit (-9223372036854775808)) (.sub (.var 25) (.var 6))) (.cmp .le (.sub (.var 25) (.var 6)) (.lit 9223372036854775807))) (.call 26 [(.arr 3 (.var 26)), (.int (.var 27)), (.int (.lit 3))] tsamples_16))
def tsamples_18 : Tree :=
  (.split (.cmp .eq (.var 28) (.lit 0)) (.arr [[(.int (.var 2)), (.int (.var 22)), (.int (.mul (.sub (.lit 0) (.var 6)) (.var 7)))]] (.ob (.cmp .le (.mul (.add (.len (.var 20)) (.len (.var 31))) (.lit 24)) (.lit 140737488355328)) (.cat (.var 20) (.var 31) (.back 0 [(.cnt 40 (.var 32)), (.int (.var 8)), (.int (.add (.var 22) (.var 4))), (.arr 3 (.var 29)), (.int (.var 30))])))) (.ob (.and (.cmp .le (.lit (-9223372036854775808)) (.mul (.sub (.var 25) (.var 6)) (.var 7))) (.cmp .le (.mul (.sub (.var 25) (.var 6)) (.var 7)) (.lit 9223372036854775807))) (.ob (.and (.cmp .le (.lit (-9223372036854775808)) (.add (.lit 0) (.mul (.sub (.var 25) (.var 6)) (.var 7)))) (.cmp .le (.add (.lit 0) (.mul (.sub (.var 25) (.var 6)) (.var 7))) (.lit 9223372036854775807))) (.ob (.and (.cmp .le (.lit (-9223372036854775808)) (.mul (.sub (.var 25) (.var 6)) (.var 7))) (.cmp .le (.mul (.sub (.var 25) (.var 6)) (.var 7)) (.lit 9223372036854775807))) (.arr [[(.int (.var 2)), (.int (.var 22)), (.int (.mul (.sub (.var 25) (.var 6)) (.var 7)))]] (.ob (.cmp .le (.mul (.add (.len (.var 20)) (.len (.var 31))) (.lit 24)) (.lit 140737488355328)) (.cat (.var 20) (.var 31) (.back 0 [(.cnt 40 (.var 32)), (.int (.var 8)), (.int (.add (.var 22) (.var 4))), (.arr 3 (.var 29)), (.int (.var 30))]))))))))
def tsamples_19 : Tree :=
  (.ob (.and (.cmp .le (.lit (-9223372036854775808)) (.sub (.var 25) (.var 6))) (.cmp .le (.sub (.var 25) (.var 6)) (.lit 9223372036854775807))) (.call 26 [(.arr 3 (.var 26)), (.int (.var 27)), (.int (.lit 3))] tsamples_18))
def tsamples_20 : Tree :=
  (.split (.cmp .eq (.var 28) (.lit 0)) (.arr [[(.int (.var 2)), (.int (.var 22)), (.int (.mul (.sub (.lit 0) (.var 6)) (.var 7)))]] (.ob (.cmp .le (.mul (.add (.len (.var 20)) (.len (.var 31))) (.lit 24)) (.lit 140737488355328)) (.cat (.var 20) (.var 31) (.back 0 [(.cnt 40 (.var 32)), (.int (.var 8)), (.int (.add (.var 22) (.var 4))), (.arr 3 (.var 29)), (.int (.var 30))])))) (.ob (.and (.cmp .le (.lit (-9223372036854775808)) (.mul (.sub (.var 25) (.var 6)) (.var 7))) (.cmp .le (.mul (.sub (.var 25) (.var 6)) (.var 7)) (.lit 9223372036854775807))) (.ob (.and (.cmp .le (.lit (-9223372036854775808)) (.add (.lit 0) (.mul (.sub (.var 25) (.var 6)) (.var 7)))) (.cmp .le (.add (.lit 0) (.mul (.sub (.var 25) (.var 6)) (.var 7))) (.lit 9223372036854775807))) (.ob (.and (.cmp .le (.lit (-9223372036854775808)) (.mul (.sub (.var 25) (.var 6)) (.var 7))) (.cmp .le (.mul (.sub (.var 25) (.var 6)) (.var 7)) (.lit 9223372036854775807))) (.arr [[(.int (.var 2)), (.int (.var 22)), (.int (.mul (.sub (.var 25) (.var 6)) (.var 7)))]] (.ob (.cmp .le (.mul (.add (.len (.var 20)) (.len (.var 31))) (.lit 24)) (.lit 140737488355328)) (.cat (.var 20) (.var 31) (.back 0 [(.cnt 40 (.var 32)), (.int (.var 8)), (.int (.add (.var 22) (.var 4))), (.arr 3 (.var 29)), (.int (.var 30))]))))))))
def tsamples_21 : Tree :=
  (.ob (.and (.cmp .le (.lit (-9223372036854775808)) (.sub (.var 25) (.var 6))) (.cmp .le (.sub (.var 25) (.var 6)) (.lit 9223372036854775807))) (.call 26 [(.arr 3 (.var 26)), (.int (.var 27)), (.int (.lit 3))] tsamples_20))
def tsamples_22 : Tree :=
  (.loop [(.vec 40), .int, .int, (.arr 3), .int] [(.cnt 40 (.var 16)), (.int (.var 8)), (.int (.var 17)), (.arr 3 (.var 18)), (.int (.var 19))] (.split (.cmp .le (.var 22) (.var 14)) (.split (.cmp .lt (.len (.var 20)) (.lit 190)) (.split (.cmp .lt (.lit 0) (.var 21)) (.call 26 [(.arr 3 (.var 23)), (.int (.var 24)), (.int (.lit 2))] tsamples_11) (.ob (.and (.cmp .le (.lit (-9223372036854775808)) (.sub (.var 22) (.var 13))) (.cmp .le (.sub (.var 22) (.var 13)) (.lit 9223372036854775807))) (.split (.cmp .lt (.lit 0) (.sub (.var 22) (.var 13))) (.ob (.and (.cmp .le (.lit (-9223372036854775808)) (.mul (.sub (.var 22) (.var 13)) (.var 12))) (.cmp .le (.mul (.sub (.var 22) (.var 13)) (.var 12)) (.lit 9223372036854775807))) (.ob (.and (.cmp .le (.lit (-9223372036854775808)) (.add (.var 11) (.mul (.sub (.var 22) (.var 13)) (.var 12)))) (.cmp .le (.add (.var 11) (.mul (.sub (.var 22) (.var 13)) (.var 12))) (.lit 9223372036854775807))) (.split (.cmp .eq (.var 3) (.lit 1)) (.ob (.and (.cmp .le (.lit (-9223372036854775808)) (.mul (.sub (.var 22) (.var 13)) (.var 11))) (.cmp .le (.mul (.sub (.var 22) (.var 13)) (.var 11)) (.lit 9223372036854775807))) (.ob (.and (.cmp .le (.lit (-9223372036854775808)) (.sub (.sub (.var 22) (.var 13)) (.lit 1))) (.cmp .le (.sub (.sub (.var 22) (.var 13)) (.lit 1)) (.lit 9223372036854775807))) (.ob (.and (.cmp .le (.lit (-9223372036854775808)) (.mul (.sub (.var 22) (.var 13)) (.sub (.sub (.var 22) (.var 13)) (.lit 1)))) (.cmp .le (.mul (.sub (.var 22) (.var 13)) (.sub (.sub (.var 22) (.var 13)) (.lit 1))) (.lit 9223372036854775807))) (.ob (.and (.cmp .le (.lit (-9223372036854775808)) (.quo (.mul (.sub (.var 22) (.var 13)) (.sub (.sub (.var 22) (.var 13)) (.lit 1))) (.lit 2))) (.cmp .le (.quo (.mul (.sub (.var 22) (.var 13)) (.sub (.sub (.var 22) (.var 13)) (.lit 1))) (.lit 2)) (.lit 9223372036854775807))) (.ob (.and (.cmp .le (.lit (-9223372036854775808)) (.mul (.var 12) (.quo (.mul (.sub (.var 22) (.var 13)) (.sub (.sub (.var 22) (.var 13)) (.lit 1))) (.lit 2)))) (.cmp .le (.mul (.var 12) (.quo (.mul (.sub (.var 22) (.var 13)) (.sub (.sub (.var 22) (.var 13)) (.lit 1))) (.lit 2))) (.lit 9223372036854775807))) (.ob (.and (.cmp .le (.lit (-9223372036854775808)) (.add (.mul (.sub (.var 22) (.var 13)) (.var 11)) (.mul (.var 12) (.quo (.mul (.sub (.var 22) (.var 13)) (.sub (.sub (.var 22) (.var 13)) (.lit 1))) (.lit 2))))) (.cmp .le (.add (.mul (.sub (.var 22) (.var 13)) (.var 11)) (.mul (.var 12) (.quo (.mul (.sub (.var 22) (.var 13)) (.sub (.sub (.var 22) (.var 13)) (.lit 1))) (.lit 2)))) (.lit 9223372036854775807))) (.call 26 [(.arr 3 (.var 23)), (.int (.var 24)), (.int (.add (.mul (.lit 2) (.var 6)) (.lit 1)))] tsamples_13))))))) (.call 26 [(.arr 3 (.var 23)), (.int (.var 24)), (.int (.add (.mul (.lit 2) (.var 6)) (.lit 1)))] tsamples_15)))) (.split (.cmp .eq (.sub (.var 22) (.var 13)) (.lit 0)) (.split (.cmp .eq (.var 3) (.lit 2)) (.ob (.and (.cmp .le (.lit (-9223372036854775808)) (.mul (.sub (.var 22) (.var 13)) (.var 12))) (.cmp .le (.mul (.sub (.var 22) (.var 13)) (.var 12)) (.lit 9223372036854775807))) (.ob (.and (.cmp .le (.lit (-9223372036854775808)) (.add (.var 11) (.mul (.sub (.var 22) (.var 13)) (.var 12)))) (.cmp .le (.add (.var 11) (.mul (.sub (.var 22) (.var 13)) (.var 12))) (.lit 9223372036854775807))) (.call 26 [(.arr 3 (.var 23)), (.int (.var 24)), (.int (.add (.mul (.lit 2) (.var 6)) (.lit 1)))] tsamples_17))) (.call 26 [(.arr 3 (.var 23)), (.int (.var 24)), (.int (.add (.mul (.lit 2) (.var 6)) (.lit 1)))] tsamples_19)) (.call 26 [(.arr 3 (.var 23)), (.int (.var 24)), (.int (.add (.mul (.lit 2) (.var 6)) (.lit 1)))] tsamples_21))))) (.ret [(.cnt 40 (.var 20)), (.arr 3 (.var 23)), (.int (.var 24))])) (.ret [(.cnt 40 (.var 20)), (.arr 3 (.var 23)), (.int (.var 24))])))
def tsamples : Tree :=
  (.dfn .nil (.dfn .nil (.call 26 [(.arr 3 (.var 0)), (.int (.var 1)), (.int (.var 4))] tsamples_22)))
noncomputable def cmeas : Cx := tab.only [47] (fun _ => []) [] 0 []
def tmeas : Tree :=
  (.ob (.and (.cmp .le (.lit (-9223372036854775808)) (.sub (.lit 0) (.var 3))) (.cmp .le (.sub (.lit 0) (.var 3)) (.lit 9223372036854775807))) (.ob (.and (.cmp .le (.lit (-9223372036854775808)) (.sub (.lit 0) (.var 3))) (.cmp .le (.sub (.lit 0) (.var 3)) (.lit 9223372036854775807))) (.loop [.bool, .int] [(.bool (.lit false)), (.int (.sub (.lit 0) (.var 3)))] (.split (.cmp .le (.var 13) (.var 3)) (.split (.cmp .le (.var 10) (.lit 20000)) (.call 47 [(.int (.var 0)), (.int (.var 1)), (.int (.var 2)), (.int (.var 3)), (.int (.var 4)), (.int (.var 5)), (.int (.var 6)), (.int (.var 7)), (.int (.var 8)), (.int (.var 9)), (.int (.var 10)), (.int (.var 13))] (.split (.cmp .eq (.var 14) (.var 11)) (.ret [(.bool (.lit true))]) (.ob (.and (.cmp .le (.lit (-9223372036854775808)) (.add (.var 13) (.lit 1))) (.cmp .le (.add (.var 13) (.lit 1)) (.lit 9223372036854775807))) (.ob (.and (.cmp .le (.lit (-9223372036854775808)) (.add (.var 13) (.lit 1))) (.cmp .le (.add (.var 13) (.lit 1)) (.lit 9223372036854775807))) (.back 0 [(.bool (.of (.var 12))), (.int (.add (.var 13) (.lit 1)))]))))) (.ob (.and (.cmp .le (.lit (-9223372036854775808)) (.add (.var 13) (.lit 1))) (.cmp .le (.add (.var 13) (.lit 1)) (.lit 9223372036854775807))) (.ob (.and (.cmp .le (.lit (-9223372036854775808)) (.add (.var 13) (.lit 1))) (.cmp .le (.add (.var 13) (.lit 1)) (.lit 9223372036854775807))) (.back 0 [(.bool (.of (.var 12))), (.int (.add (.var 13) (.lit 1)))])))) (.ret [(.bool (.lit false))])))))
noncomputable def crposs : Cx := tab.only [41, 37, 69, 70] (fun _ => []) [] 0 []
def trposs_1 : Tree :=
  (.split (.cmp .ne (.var 13) (.lit 0)) (.ret [(.bool (.lit false))]) (.split (.not (.and (.cmp .le (.lit 0) (.var 10)) (.cmp .le (.var 10) (.lit 20000)))) (.ret [(.bool (.lit false))]) (.split (.cmp .lt (.lit 200) (.len (.var 11))) (.ret [(.bool (.lit false))]) (.loop [.bool, .int] [(.bool (.lit false)), (.int (.lit 0))] (.split (.cmp .lt (.var 15) (.len (.var 11))) (.ob (.cmp .le (.lit 0) (.var 15)) (.ob (.cmp .lt (.var 15) (.len (.var 11))) (.split (.not (.and (.cmp .le (.lit 0) (.cell (.var 11) (.var 15) 1)) (.cmp .le (.cell (.var 11) (.var 15) 1) (.lit 40000)))) (.ret [(.bool (.lit false))]) (.ob (.cmp .lt (.lit 0) (.len (.var 11))) (.split (.cmp .ne (.cell (.var 11) (.var 15) 0) (.cell (.var 11) (.lit 0) 0)) (.ret [(.bool (.lit false))]) (.ob (.cmp .ne (.var 1) (.lit 0)) (.ob (.cmp .lt (.lit 0) (.len (.var 11))) (.ob (.cmp .ne (.var 1) (.lit 0)) (.split (.cmp .ne (.rem (.cell (.var 11) (.var 15) 1) (.var 1)) (.rem (.cell (.var 11) (.lit 0) 1) (.var 1))) (.ret [(.bool (.lit false))]) (.split (.cmp .lt (.lit 0) (.var 15)) (.ob (.cmp .lt (.sub (.var 15) (.lit 1)) (.len (.var 11))) (.ob (.cmp .ne (.var 1) (.lit 0)) (.ob (.and (.cmp .le (.lit (-9223372036854775808)) (.quo (.cell (.var 11) (.sub (.var 15) (.lit 1)) 1) (.var 1))) (.cmp .le (.quo (.cell (.var 11) (.sub (.var 15) (.lit 1)) 1) (.var 1)) (.lit 9223372036854775807))) (.ob (.cmp .ne (.var 1) (.lit 0)) (.ob (.and (.cmp .le (.lit (-9223372036854775808)) (.quo (.cell (.var 11) (.var 15) 1) (.var 1))) (.cmp .le (.quo (.cell (.var 11) (.var 15) 1) (.var 1)) (.lit 9223372036854775807))) (.ob (.and (.cmp .le (.lit (-9223372036854775808)) (.sub (.quo (.cell (.var 11) (.var 15) 1) (.var 1)) (.quo (.cell (.var 11) (.sub (.var 15) (.lit 1)) 1) (.var 1)))) (.cmp .le (.sub (.quo (.cell (.var 11) (.var 15) 1) (.var 1)) (.quo (.cell (.var 11) (.sub (.var 15) (.lit 1)) 1) (.var 1))) (.lit 9223372036854775807))) (.split (.cmp .lt (.sub (.quo (.cell (.var 11) (.var 15) 1) (.var 1)) (.quo (.cell (.var 11) (.sub (.var 15) (.lit 1)) 1) (.var 1))) (.lit 1)) (.ret [(.bool (.lit false))]) (.ob (.and (.cmp .le (.lit (-9223372036854775808)) (.add (.var 5) (.lit 1))) (.cmp .le (.add (.var 5) (.lit 1)) (.lit 9223372036854775807))) (.split (.cmp .lt (.add (.var 5) (.lit 1)) (.sub (.quo (.cell (.var 11) (.var 15) 1) (.var 1)) (.quo (.cell (.var 11) (.sub (.var 15) (.lit 1)) 1) (.var 1)))) (.ret [(.bool (.lit false))]) (.ob (.and (.cmp .le (.lit (-9223372036854775808)) (.sub (.cell (.var 11) (.var 15) 1) (.var 10))) (.cmp .le (.sub (.cell (.var 11) (.var 15) 1) (.var 10)) (.lit 9223372036854775807))) (.ob (.and (.cmp .le (.lit (-9223372036854775808)) (.sub (.cell (.var 11) (.var 15) 1) (.var 10))) (.cmp .le (.sub (.cell (.var 11) (.var 15) 1) (.var 10)) (.lit 9223372036854775807))) (.call 70 [(.int (.var 0)), (.int (.var 1)), (.int (.var 2)), (.int (.var 3)), (.int (.var 4)), (.int (.var 5)), (.int (.var 6)), (.int (.var 7)), (.int (.var 8)), (.int (.var 9)), (.int (.sub (.cell (.var 11) (.var 15) 1) (.var 10))), (.int (.cell (.var 11) (.var 15) 2))] (.split (.not (.of (.var 16))) (.ret [(.bool (.lit false))]) (.back 0 [(.bool (.of (.var 14))), (.int (.add (.var 15) (.lit 1)))])))))))))))))) (.ob (.cmp .ne (.var 1) (.lit 0)) (.ob (.and (.cmp .le (.lit (-9223372036854775808)) (.quo (.cell (.var 11) (.var 15) 1) (.var 1))) (.cmp .le (.quo (.cell (.var 11) (.var 15) 1) (.var 1)) (.lit 9223372036854775807))) (.ob (.and (.cmp .le (.lit (-9223372036854775808)) (.sub (.quo (.cell (.var 11) (.var 15) 1) (.var 1)) (.lit (-1)))) (.cmp .le (.sub (.quo (.cell (.var 11) (.var 15) 1) (.var 1)) (.lit (-1))) (.lit 9223372036854775807))) (.split (.cmp .lt (.sub (.quo (.cell (.var 11) (.var 15) 1) (.var 1)) (.lit (-1))) (.lit 1)) (.ret [(.bool (.lit false))]) (.ob (.and (.cmp .le (.lit (-9223372036854775808)) (.add (.var 5) (.lit 1))) (.cmp .le (.add (.var 5) (.lit 1)) (.lit 9223372036854775807))) (.split (.cmp .lt (.add (.var 5) (.lit 1)) (.sub (.quo (.cell (.var 11) (.var 15) 1) (.var 1)) (.lit (-1)))) (.ret [(.bool (.lit false))]) (.ob (.and (.cmp .le (.lit (-9223372036854775808)) (.sub (.cell (.var 11) (.var 15) 1) (.var 10))) (.cmp .le (.sub (.cell (.var 11) (.var 15) 1) (.var 10)) (.lit 9223372036854775807))) (.ob (.and (.cmp .le (.lit (-9223372036854775808)) (.sub (.cell (.var 11) (.var 15) 1) (.var 10))) (.cmp .le (.sub (.cell (.var 11) (.var 15) 1) (.var 10)) (.lit 9223372036854775807))) (.call 70 [(.int (.var 0)), (.int (.var 1)), (.int (.var 2)), (.int (.var 3)), (.int (.var 4)), (.int (.var 5)), (.int (.var 6)), (.int (.var 7)), (.int (.var 8)), (.int (.var 9)), (.int (.sub (.cell (.var 11) (.var 15) 1) (.var 10))), (.int (.cell (.var 11) (.var 15) 2))] (.split (.not (.of (.var 16))) (.ret [(.bool (.lit false))]) (.back 0 [(.bool (.of (.var 14))), (.int (.add (.var 15) (.lit 1)))]))))))))))))))))))))) (.ret [(.bool (.lit true))]))))))
def trposs : Tree :=
  (.call 41 [(.int (.var 0)), (.int (.var 1)), (.int (.var 2)), (.int (.var 3)), (.int (.var 4)), (.int (.var 5)), (.int (.var 6)), (.int (.var 7))] (.split (.cmp .ne (.var 12) (.lit 0)) (.ret [(.bool (.lit false))]) (.call 37 [(.int (.var 8)), (.int (.var 9))] trposs_1)))
noncomputable def cposs : Cx := tab.only [40, 36, 68, 46] (fun _ => []) [] 0 [82]
def tposs_1 : Tree :=
  (.split (.cmp .lt (.sub (.quo (.cell (.var 11) (.var 16) 1) (.var 1)) (.var 15)) (.lit 1)) (.ret [(.bool (.lit false))]) (.ob (.and (.cmp .le (.lit (-9223372036854775808)) (.add (.var 5) (.lit 1))) (.cmp .le (.add (.var 5) (.lit 1)) (.lit 9223372036854775807))) (.split (.cmp .lt (.add (.var 5) (.lit 1)) (.sub (.quo (.cell (.var 11) (.var 16) 1) (.var 1)) (.var 15))) (.ret [(.bool (.lit false))]) (.ob (.and (.cmp .le (.lit (-9223372036854775808)) (.sub (.cell (.var 11) (.var 16) 1) (.var 10))) (.cmp .le (.sub (.cell (.var 11) (.var 16) 1) (.var 10)) (.lit 9223372036854775807))) (.split (.cmp .lt (.lit 20000) (.sub (.cell (.var 11) (.var 16) 1) (.var 10))) (.ret [(.bool (.lit false))]) (.ob (.cmp .ne (.var 4) (.lit 0)) (.split (.cmp .ne (.rem (.wr (.sub (.cell (.var 11) (.var 16) 2) (.var 17))) (.var 4)) (.lit 0)) (.ret [(.bool (.lit false))]) (.ob (.cmp .ne (.var 4) (.lit 0)) (.ob (.and (.cmp .le (.lit (-9223372036854775808)) (.quo (.wr (.sub (.cell (.var 11) (.var 16) 2) (.var 17))) (.var 4))) (.cmp .le (.quo (.wr (.sub (.cell (.var 11) (.var 16) 2) (.var 17))) (.var 4)) (.lit 9223372036854775807))) (.ob (.and (.cmp .le (.lit (-9223372036854775808)) (.sub (.lit 0) (.var 3))) (.cmp .le (.sub (.lit 0) (.var 3)) (.lit 9223372036854775807))) (.ob (.and (.cmp .le (.lit (-9223372036854775808)) (.quo (.wr (.sub (.cell (.var 11) (.var 16) 2) (.var 17))) (.var 4))) (.cmp .le (.quo (.wr (.sub (.cell (.var 11) (.var 16) 2) (.var 17))) (.var 4)) (.lit 9223372036854775807))) (.ob (.and (.cmp .le (.lit (-9223372036854775808)) (.sub (.lit 0) (.var 3))) (.cmp .le (.sub (.lit 0) (.var 3)) (.lit 9223372036854775807))) (.split (.not (.and (.cmp .le (.sub (.lit 0) (.var 3)) (.quo (.wr (.sub (.cell (.var 11) (.var 16) 2) (.var 17))) (.var 4))) (.cmp .le (.quo (.wr (.sub (.cell (.var 11) (.var 16) 2) (.var 17))) (.var 4)) (.var 3)))) (.ret [(.bool (.lit false))]) (.ob (.cmp .ne (.var 1) (.lit 0)) (.ob (.and (.cmp .le (.lit (-9223372036854775808)) (.quo (.cell (.var 11) (.var 16) 1) (.var 1))) (.cmp .le (.quo (.cell (.var 11) (.var 16) 1) (.var 1)) (.lit 9223372036854775807))) (.ob (.and (.cmp .le (.lit (-9223372036854775808)) (.quo (.cell (.var 11) (.var 16) 1) (.var 1))) (.cmp .le (.quo (.cell (.var 11) (.var 16) 1) (.var 1)) (.lit 9223372036854775807))) (.back 0 [(.bool (.of (.var 14))), (.int (.quo (.cell (.var 11) (.var 16) 1) (.var 1))), (.int (.add (.var 16) (.lit 1)))])))))))))))))))))
def tposs_2 : Tree :=
  (.split (.cmp .ne (.var 13) (.lit 0)) (.ret [(.bool (.lit false))]) (.split (.not (.and (.cmp .le (.lit 0) (.var 10)) (.cmp .le (.var 10) (.lit 20000)))) (.ret [(.bool (.lit false))]) (.split (.cmp .lt (.lit 200) (.len (.var 11))) (.ret [(.bool (.lit false))]) (.loop [.bool, .int, .int] [(.bool (.lit false)), (.int (.lit (-1))), (.int (.lit 0))] (.split (.cmp .lt (.var 16) (.len (.var 11))) (.ob (.cmp .le (.lit 0) (.var 16)) (.ob (.cmp .lt (.var 16) (.len (.var 11))) (.split (.not (.and (.cmp .le (.lit 0) (.cell (.var 11) (.var 16) 1)) (.cmp .le (.cell (.var 11) (.var 16) 1) (.lit 40000)))) (.ret [(.bool (.lit false))]) (.ob (.cmp .lt (.lit 0) (.len (.var 11))) (.split (.cmp .ne (.cell (.var 11) (.var 16) 0) (.cell (.var 11) (.lit 0) 0)) (.ret [(.bool (.lit false))]) (.ob (.cmp .ne (.var 1) (.lit 0)) (.ob (.cmp .lt (.lit 0) (.len (.var 11))) (.ob (.cmp .ne (.var 1) (.lit 0)) (.split (.cmp .ne (.rem (.cell (.var 11) (.var 16) 1) (.var 1)) (.rem (.cell (.var 11) (.lit 0) 1) (.var 1))) (.ret [(.bool (.lit false))]) (.ob (.cmp .ne (.var 1) (.lit 0)) (.ob (.and (.cmp .le (.lit (-9223372036854775808)) (.quo (.cell (.var 11) (.var 16) 1) (.var 1))) (.cmp .le (.quo (.cell (.var 11) (.var 16) 1) (.var 1)) (.lit 9223372036854775807))) (.ob (.and (.cmp .le (.lit (-9223372036854775808)) (.sub (.quo (.cell (.var 11) (.var 16) 1) (.var 1)) (.var 15))) (.cmp .le (.sub (.quo (.cell (.var 11) (.var 16) 1) (.var 1)) (.var 15)) (.lit 9223372036854775807))) (.ob (.and (.cmp .le (.lit (-9223372036854775808)) (.sub (.cell (.var 11) (.var 16) 1) (.var 10))) (.cmp .le (.sub (.cell (.var 11) (.var 16) 1) (.var 10)) (.lit 9223372036854775807))) (.ob (.and (.cmp .le (.lit (-9223372036854775808)) (.sub (.cell (.var 11) (.var 16) 1) (.var 10))) (.cmp .le (.sub (.cell (.var 11) (.var 16) 1) (.var 10)) (.lit 9223372036854775807))) (.call 46 [(.int (.var 0)), (.int (.var 1)), (.int (.var 2)), (.int (.var 3)), (.int (.var 4)), (.int (.var 5)), (.int (.var 6)), (.int (.var 7)), (.int (.var 8)), (.int (.var 9)), (.int (.sub (.cell (.var 11) (.var 16) 1) (.var 10))), (.int (.lit 0))] tposs_1))))))))))))))) (.ret [(.bool (.lit true))]))))))
def tposs : Tree :=
  (.call 40 [(.int (.var 0)), (.int (.var 1)), (.int (.var 2)), (.int (.var 3)), (.int (.var 4)), (.int (.var 5)), (.int (.var 6)), (.int (.var 7))] (.split (.cmp .ne (.var 12) (.lit 0)) (.ret [(.bool (.lit false))]) (.call 36 [(.int (.var 8)), (.int (.var 9))] tposs_2)))
noncomputable def cpossible : Cx := tab.only [21, 20, 25, 26, 27, 28, 29, 30, 19] (fun r => match r with
  | 50008 => [.vec 36]
  | _ => []) [] 0 []
def tpossible_1 : Tree :=
  (.call 30 [(.int (.var 23)), (.int (.var 24)), (.int (.var 25)), (.int (.var 26)), (.int (.var 27)), (.int (.var 28)), (.int (.var 29)), (.int (.var 30)), (.int (.var 19)), (.int (.var 20)), (.int (.var 33)), (.arr 40 (.var 36))] (.split (.beq (.of (.var 41)) (.of (.var 42))) (.call 19 [] (.ret [(.bool (.of (.var 43)))])) (.ret [(.bool (.lit false))])))
def tpossible_2 : Tree :=
  (.split (.beq (.of (.var 39)) (.of (.var 40))) (.call 29 [(.int (.var 23)), (.int (.var 24)), (.int (.var 25)), (.int (.var 26)), (.int (.var 27)), (.int (.var 28)), (.int (.var 29)), (.int (.var 30)), (.int (.var 19)), (.int (.var 20)), (.int (.var 33)), (.arr 40 (.var 36))] tpossible_1) (.ret [(.bool (.lit false))]))
def tpossible_3 : Tree :=
  (.call 30 [(.int (.var 0)), (.int (.var 1)), (.int (.var 2)), (.int (.var 3)), (.int (.var 4)), (.int (.var 5)), (.int (.var 6)), (.int (.var 7)), (.int (.var 8)), (.int (.var 9)), (.int (.var 10)), (.arr 40 (.var 11))] tpossible_2)
def tpossible_4 : Tree :=
  (.call 30 [(.int (.var 23)), (.int (.var 24)), (.int (.var 25)), (.int (.var 26)), (.int (.var 27)), (.int (.var 28)), (.int (.var 29)), (.int (.var 30)), (.int (.var 19)), (.int (.var 20)), (.int (.var 33)), (.arr 40 (.var 36))] (.split (.beq (.of (.var 41)) (.of (.var 42))) (.call 19 [] (.ret [(.bool (.of (.var 43)))])) (.ret [(.bool (.lit false))])))
def tpossible_5 : Tree :=
  (.split (.beq (.of (.var 39)) (.of (.var 40))) (.call 29 [(.int (.var 23)), (.int (.var 24)), (.int (.var 25)), (.int (.var 26)), (.int (.var 27)), (.int (.var 28)), (.int (.var 29)), (.int (.var 30)), (.int (.var 19)), (.int (.var 20)), (.int (.var 33)), (.arr 40 (.var 36))] tpossible_4) (.ret [(.bool (.lit false))]))
def tpossible_6 : Tree :=
  (.call 30 [(.int (.var 0)), (.int (.var 1)), (.int (.var 2)), (.int (.var 3)), (.int (.var 4)), (.int (.var 5)), (.int (.var 6)), (.int (.var 7)), (.int (.var 8)), (.int (.var 9)), (.int (.var 10)), (.arr 40 (.var 11))] tpossible_5)
def tpossible_7 : Tree :=
  (.split (.cmp .lt (.lit 0) (.len (.var 36))) (.split (.cmp .lt (.lit 0) (.rem (.var 13) (.lit 3))) (.ob (.and (.cmp .le (.lit (-9223372036854775808)) (.quo (.var 13) (.lit 3))) (.cmp .le (.quo (.var 13) (.lit 3)) (.lit 9223372036854775807))) (.ob (.and (.cmp .le (.lit (-9223372036854775808)) (.quo (.var 13) (.lit 3))) (.cmp .le (.quo (.var 13) (.lit 3)) (.lit 9223372036854775807))) (.call 28 [(.int (.quo (.var 13) (.lit 3))), (.int (.len (.var 36)))] (.fail 50008 [0])))) (.call 29 [(.int (.var 0)), (.int (.var 1)), (.int (.var 2)), (.int (.var 3)), (.int (.var 4)), (.int (.var 5)), (.int (.var 6)), (.int (.var 7)), (.int (.var 8)), (.int (.var 9)), (.int (.var 10)), (.arr 40 (.var 11))] tpossible_3)) (.call 29 [(.int (.var 0)), (.int (.var 1)), (.int (.var 2)), (.int (.var 3)), (.int (.var 4)), (.int (.var 5)), (.int (.var 6)), (.int (.var 7)), (.int (.var 8)), (.int (.var 9)), (.int (.var 10)), (.arr 40 (.var 11))] tpossible_6))
def tpossible_8 : Tree :=
  (.call 27 [(.arr 3 (.var 34)), (.int (.var 35)), (.int (.lit 3)), (.int (.var 23)), (.int (.var 24)), (.int (.var 25)), (.int (.var 26)), (.int (.var 27)), (.int (.var 28)), (.int (.var 29)), (.int (.var 30)), (.int (.var 19)), (.int (.var 20)), (.int (.var 33)), (.int (.lit 150))] tpossible_7)
def tpossible : Tree :=
  (.split (.cmp .lt (.lit 210) (.len (.var 11))) (.call 19 [] (.ret [(.bool (.of (.var 17)))])) (.call 21 [(.arr 3 (.var 12))] (.call 20 [(.arr 3 (.var 17)), (.int (.var 18))] (.call 25 [(.arr 3 (.var 21)), (.int (.var 22))] (.call 26 [(.arr 3 (.var 31)), (.int (.var 32)), (.int (.lit 40))] tpossible_8)))))
end Go.Proofs.Ytlbgcjpkegpmlaa
/- What is to be shown of each function, as the executor has it. Printed by trees.py. -/
namespace Go.Proofs.Ytlbgcjpkegpmlaa
noncomputable def cmod : Cx := tab.only [] (fun _ => []) [] 0 []
def tmod : Tree :=
  (.ob (.cmp .ne (.var 1) (.lit 0)) (.split (.cmp .lt (.rem (.var 0) (.var 1)) (.lit 0)) (.ob (.and (.cmp .le (.lit (-9223372036854775808)) (.add (.rem (.var 0) (.var 1)) (.var 1))) (.cmp .le (.add (.rem (.var 0) (.var 1)) (.var 1)) (.lit 9223372036854775807))) (.ob (.and (.cmp .le (.lit (-9223372036854775808)) (.add (.rem (.var 0) (.var 1)) (.var 1))) (.cmp .le (.add (.rem (.var 0) (.var 1)) (.var 1)) (.lit 9223372036854775807))) (.ret [(.int (.add (.rem (.var 0) (.var 1)) (.var 1)))]))) (.ob (.and (.cmp .le (.lit (-9223372036854775808)) (.rem (.var 0) (.var 1))) (.cmp .le (.rem (.var 0) (.var 1)) (.lit 9223372036854775807))) (.ret [(.int (.rem (.var 0) (.var 1)))]))))
noncomputable def cmod64 : Cx := tab.only [] (fun _ => []) [] 0 []
def tmod64 : Tree :=
  (.ob (.cmp .ne (.var 1) (.lit 0)) (.split (.cmp .lt (.rem (.var 0) (.var 1)) (.lit 0)) (.ob (.and (.cmp .le (.lit (-9223372036854775808)) (.add (.rem (.var 0) (.var 1)) (.var 1))) (.cmp .le (.add (.rem (.var 0) (.var 1)) (.var 1)) (.lit 9223372036854775807))) (.ob (.and (.cmp .le (.lit (-9223372036854775808)) (.add (.rem (.var 0) (.var 1)) (.var 1))) (.cmp .le (.add (.rem (.var 0) (.var 1)) (.var 1)) (.lit 9223372036854775807))) (.ret [(.int (.add (.rem (.var 0) (.var 1)) (.var 1)))]))) (.ob (.and (.cmp .le (.lit (-9223372036854775808)) (.rem (.var 0) (.var 1))) (.cmp .le (.rem (.var 0) (.var 1)) (.lit 9223372036854775807))) (.ret [(.int (.rem (.var 0) (.var 1)))]))))
noncomputable def cnewring : Cx := tab.only [] (fun _ => []) [] 0 []
def tnewring : Tree :=
  (.ret [(.arr 3 (.var 0)), (.int (.lit 0))])
noncomputable def cnext : Cx := tab.only [28] (fun _ => []) [] 0 []
def tnext : Tree :=
  (.split (.cmp .lt (.lit 0) (.len (.var 0))) (.ob (.cmp .ne (.len (.var 0)) (.lit 0)) (.ob (.cmp .lt (.rem (.add (.var 1) (.lit 1)) (.len (.var 0))) (.len (.var 0))) (.ob (.cmp .ne (.len (.var 0)) (.lit 0)) (.call 28 [(.int (.cell (.var 0) (.rem (.add (.var 1) (.lit 1)) (.len (.var 0))) 0)), (.int (.lit 1048576))] (.ob (.and (.cmp .le (.lit (-9223372036854775808)) (.quo (.var 3) (.add (.lit 1) (.quo (.add (.var 1) (.lit 1)) (.len (.var 0)))))) (.cmp .le (.quo (.var 3) (.add (.lit 1) (.quo (.add (.var 1) (.lit 1)) (.len (.var 0))))) (.lit 9223372036854775807))) (.ob (.and (.cmp .le (.lit (-9223372036854775808)) (.add (.rem (.mul (.add (.var 1) (.lit 1)) (.lit 7919)) (.lit 10007)) (.quo (.var 3) (.add (.lit 1) (.quo (.add (.var 1) (.lit 1)) (.len (.var 0))))))) (.cmp .le (.add (.rem (.mul (.add (.var 1) (.lit 1)) (.lit 7919)) (.lit 10007)) (.quo (.var 3) (.add (.lit 1) (.quo (.add (.var 1) (.lit 1)) (.len (.var 0)))))) (.lit 9223372036854775807))) (.ob (.cmp .ne (.var 2) (.lit 0)) (.ob (.and (.cmp .le (.lit (-9223372036854775808)) (.rem (.add (.rem (.mul (.add (.var 1) (.lit 1)) (.lit 7919)) (.lit 10007)) (.quo (.var 3) (.add (.lit 1) (.quo (.add (.var 1) (.lit 1)) (.len (.var 0)))))) (.var 2))) (.cmp .le (.rem (.add (.rem (.mul (.add (.var 1) (.lit 1)) (.lit 7919)) (.lit 10007)) (.quo (.var 3) (.add (.lit 1) (.quo (.add (.var 1) (.lit 1)) (.len (.var 0)))))) (.var 2)) (.lit 9223372036854775807))) (.ret [(.int (.rem (.add (.rem (.mul (.add (.var 1) (.lit 1)) (.lit 7919)) (.lit 10007)) (.quo (.var 3) (.add (.lit 1) (.quo (.add (.var 1) (.lit 1)) (.len (.var 0)))))) (.var 2))), (.arr 3 (.var 0)), (.int (.add (.var 1) (.lit 1)))]))))))))) (.ob (.cmp .ne (.var 2) (.lit 0)) (.ret [(.int (.rem (.rem (.mul (.add (.var 1) (.lit 1)) (.lit 7919)) (.lit 10007)) (.var 2))), (.arr 3 (.var 0)), (.int (.add (.var 1) (.lit 1)))])))
noncomputable def ckickof : Cx := tab.only [26] (fun _ => []) [] 0 []
def tkickof : Tree :=
  (.call 26 [(.arr 3 (.var 0)), (.int (.var 1)), (.int (.lit 3))] (.call 26 [(.arr 3 (.var 3)), (.int (.var 4)), (.int (.lit 5000))] (.ob (.and (.cmp .le (.lit (-9223372036854775808)) (.mul (.var 2) (.var 5))) (.cmp .le (.mul (.var 2) (.var 5)) (.lit 9223372036854775807))) (.call 26 [(.arr 3 (.var 6)), (.int (.var 7)), (.int (.lit 2))] (.call 26 [(.arr 3 (.var 9)), (.int (.var 10)), (.int (.lit 300))] (.ob (.and (.cmp .le (.lit (-9223372036854775808)) (.mul (.var 8) (.var 11))) (.cmp .le (.mul (.var 8) (.var 11)) (.lit 9223372036854775807))) (.ob (.and (.cmp .le (.lit (-9223372036854775808)) (.mul (.var 2) (.var 5))) (.cmp .le (.mul (.var 2) (.var 5)) (.lit 9223372036854775807))) (.ob (.and (.cmp .le (.lit (-9223372036854775808)) (.mul (.var 8) (.var 11))) (.cmp .le (.mul (.var 8) (.var 11)) (.lit 9223372036854775807))) (.ret [(.int (.mul (.var 2) (.var 5))), (.int (.mul (.var 8) (.var 11))), (.arr 3 (.var 12)), (.int (.var 13))])))))))))
noncomputable def cshutof : Cx := tab.only [26] (fun r => match r with
  | 50003 => [.blk 0]
  | 50004 => [.blk 0]
  | 50005 => [.blk 0]
  | 50006 => [.blk 0]
  | 50007 => [.blk 0]
  | 50008 => [.blk 0]
  | _ => []) [] 0 []
def tshutof_1 : Tree :=
  (.ob (.and (.cmp .le (.lit (-9223372036854775808)) (.mul (.var 35) (.var 38))) (.cmp .le (.mul (.var 35) (.var 38)) (.lit 9223372036854775807))) (.ob (.and (.cmp .le (.lit (-9223372036854775808)) (.add (.add (.add (.lit 1) (.var 8)) (.var 32)) (.mul (.var 35) (.var 38)))) (.cmp .le (.add (.add (.add (.lit 1) (.var 8)) (.var 32)) (.mul (.var 35) (.var 38))) (.lit 9223372036854775807))) (.ob (.and (.cmp .le (.lit (-9223372036854775808)) (.add (.var 11) (.mul (.var 14) (.var 17)))) (.cmp .le (.add (.var 11) (.mul (.var 14) (.var 17))) (.lit 9223372036854775807))) (.ob (.and (.cmp .le (.lit (-9223372036854775808)) (.add (.add (.var 11) (.mul (.var 14) (.var 17))) (.mul (.var 20) (.add (.lit 1) (.var 23))))) (.cmp .le (.add (.add (.var 11) (.mul (.var 14) (.var 17))) (.mul (.var 20) (.add (.lit 1) (.var 23)))) (.lit 9223372036854775807))) (.ob (.and (.cmp .le (.lit (-9223372036854775808)) (.add (.add (.add (.var 11) (.mul (.var 14) (.var 17))) (.mul (.var 20) (.add (.lit 1) (.var 23)))) (.mul (.var 26) (.var 29)))) (.cmp .le (.add (.add (.add (.var 11) (.mul (.var 14) (.var 17))) (.mul (.var 20) (.add (.lit 1) (.var 23)))) (.mul (.var 26) (.var 29))) (.lit 9223372036854775807))) (.ob (.and (.cmp .le (.lit (-9223372036854775808)) (.add (.add (.lit 1) (.var 8)) (.var 32))) (.cmp .le (.add (.add (.lit 1) (.var 8)) (.var 32)) (.lit 9223372036854775807))) (.ob (.and (.cmp .le (.lit (-9223372036854775808)) (.add (.add (.add (.lit 1) (.var 8)) (.var 32)) (.mul (.var 35) (.var 38)))) (.cmp .le (.add (.add (.add (.lit 1) (.var 8)) (.var 32)) (.mul (.var 35) (.var 38))) (.lit 9223372036854775807))) (.ob (.and (.cmp .le (.lit (-9223372036854775808)) (.add (.lit 9000) (.var 2))) (.cmp .le (.add (.lit 9000) (.var 2)) (.lit 9223372036854775807))) (.ob (.and (.cmp .le (.lit (-9223372036854775808)) (.add (.lit 1) (.var 5))) (.cmp .le (.add (.lit 1) (.var 5)) (.lit 9223372036854775807))) (.ob (.and (.cmp .le (.lit (-9223372036854775808)) (.add (.lit 1) (.var 8))) (.cmp .le (.add (.lit 1) (.var 8)) (.lit 9223372036854775807))) (.ret [(.int (.var 11)), (.int (.add (.var 11) (.mul (.var 14) (.var 17)))), (.int (.add (.add (.var 11) (.mul (.var 14) (.var 17))) (.mul (.var 20) (.add (.lit 1) (.var 23))))), (.int (.add (.add (.add (.var 11) (.mul (.var 14) (.var 17))) (.mul (.var 20) (.add (.lit 1) (.var 23)))) (.mul (.var 26) (.var 29)))), (.int (.add (.add (.lit 1) (.var 8)) (.var 32))), (.int (.add (.add (.add (.lit 1) (.var 8)) (.var 32)) (.mul (.var 35) (.var 38)))), (.int (.add (.lit 9000) (.var 2))), (.int (.add (.lit 1) (.var 5))), (.int (.add (.lit 1) (.var 8))), (.arr 3 (.var 39)), (.int (.var 40))])))))))))))
def tshutof_2 : Tree :=
  (.ob (.and (.cmp .le (.lit (-9223372036854775808)) (.add (.add (.lit 1) (.var 8)) (.var 32))) (.cmp .le (.add (.add (.lit 1) (.var 8)) (.var 32)) (.lit 9223372036854775807))) (.call 26 [(.arr 3 (.var 33)), (.int (.var 34)), (.int (.lit 3))] (.call 26 [(.arr 3 (.var 36)), (.int (.var 37)), (.int (.lit 16384))] tshutof_1)))
def tshutof_3 : Tree :=
  (.ob (.and (.cmp .le (.lit (-9223372036854775808)) (.mul (.var 26) (.var 29))) (.cmp .le (.mul (.var 26) (.var 29)) (.lit 9223372036854775807))) (.ob (.and (.cmp .le (.lit (-9223372036854775808)) (.add (.add (.add (.var 11) (.mul (.var 14) (.var 17))) (.mul (.var 20) (.add (.lit 1) (.var 23)))) (.mul (.var 26) (.var 29)))) (.cmp .le (.add (.add (.add (.var 11) (.mul (.var 14) (.var 17))) (.mul (.var 20) (.add (.lit 1) (.var 23)))) (.mul (.var 26) (.var 29))) (.lit 9223372036854775807))) (.call 26 [(.arr 3 (.var 30)), (.int (.var 31)), (.int (.lit 1048576))] tshutof_2)))
def tshutof_4 : Tree :=
  (.ob (.and (.cmp .le (.lit (-9223372036854775808)) (.add (.lit 1) (.var 23))) (.cmp .le (.add (.lit 1) (.var 23)) (.lit 9223372036854775807))) (.ob (.and (.cmp .le (.lit (-9223372036854775808)) (.mul (.var 20) (.add (.lit 1) (.var 23)))) (.cmp .le (.mul (.var 20) (.add (.lit 1) (.var 23))) (.lit 9223372036854775807))) (.ob (.and (.cmp .le (.lit (-9223372036854775808)) (.add (.add (.var 11) (.mul (.var 14) (.var 17))) (.mul (.var 20) (.add (.lit 1) (.var 23))))) (.cmp .le (.add (.add (.var 11) (.mul (.var 14) (.var 17))) (.mul (.var 20) (.add (.lit 1) (.var 23)))) (.lit 9223372036854775807))) (.call 26 [(.arr 3 (.var 24)), (.int (.var 25)), (.int (.lit 3))] (.call 26 [(.arr 3 (.var 27)), (.int (.var 28)), (.int (.lit 262144))] tshutof_3)))))
def tshutof_5 : Tree :=
  (.ob (.and (.cmp .le (.lit (-9223372036854775808)) (.mul (.var 14) (.var 17))) (.cmp .le (.mul (.var 14) (.var 17)) (.lit 9223372036854775807))) (.ob (.and (.cmp .le (.lit (-9223372036854775808)) (.add (.var 11) (.mul (.var 14) (.var 17)))) (.cmp .le (.add (.var 11) (.mul (.var 14) (.var 17))) (.lit 9223372036854775807))) (.call 26 [(.arr 3 (.var 18)), (.int (.var 19)), (.int (.lit 1048576))] (.call 26 [(.arr 3 (.var 21)), (.int (.var 22)), (.int (.lit 200))] tshutof_4))))
def tshutof_6 : Tree :=
  (.ob (.and (.cmp .le (.lit (-9223372036854775808)) (.add (.lit 1) (.var 8))) (.cmp .le (.add (.lit 1) (.var 8)) (.lit 9223372036854775807))) (.call 26 [(.arr 3 (.var 9)), (.int (.var 10)), (.int (.lit 1048576))] (.call 26 [(.arr 3 (.var 12)), (.int (.var 13)), (.int (.lit 3))] (.call 26 [(.arr 3 (.var 15)), (.int (.var 16)), (.int (.lit 262144))] tshutof_5))))
def tshutof_7 : Tree :=
  (.ob (.and (.cmp .le (.lit (-9223372036854775808)) (.add (.lit 1) (.var 5))) (.cmp .le (.add (.lit 1) (.var 5)) (.lit 9223372036854775807))) (.call 26 [(.arr 3 (.var 6)), (.int (.var 7)), (.int (.lit 500))] tshutof_6))
def tshutof_8 : Tree :=
  (.ob (.and (.cmp .le (.lit (-9223372036854775808)) (.add (.lit 9000) (.var 2))) (.cmp .le (.add (.lit 9000) (.var 2)) (.lit 9223372036854775807))) (.call 26 [(.arr 3 (.var 3)), (.int (.var 4)), (.int (.lit 400000))] tshutof_7))
def tshutof : Tree :=
  (.call 26 [(.arr 3 (.var 0)), (.int (.var 1)), (.int (.lit 12000))] tshutof_8)
noncomputable def clwithin : Cx := tab.only [22] (fun _ => []) [] 0 []
def tlwithin : Tree :=
  (.ob (.and (.cmp .le (.lit (-9223372036854775808)) (.sub (.var 1) (.var 0))) (.cmp .le (.sub (.var 1) (.var 0)) (.lit 9223372036854775807))) (.ob (.and (.cmp .le (.lit (-9223372036854775808)) (.add (.sub (.var 1) (.var 0)) (.lit 1))) (.cmp .le (.add (.sub (.var 1) (.var 0)) (.lit 1)) (.lit 9223372036854775807))) (.ob (.and (.cmp .le (.lit (-9223372036854775808)) (.add (.sub (.var 1) (.var 0)) (.lit 1))) (.cmp .le (.add (.sub (.var 1) (.var 0)) (.lit 1)) (.lit 9223372036854775807))) (.call 22 [(.int (.var 2)), (.int (.add (.sub (.var 1) (.var 0)) (.lit 1)))] (.ob (.and (.cmp .le (.lit (-9223372036854775808)) (.add (.var 0) (.var 3))) (.cmp .le (.add (.var 0) (.var 3)) (.lit 9223372036854775807))) (.ob (.and (.cmp .le (.lit (-9223372036854775808)) (.add (.var 0) (.var 3))) (.cmp .le (.add (.var 0) (.var 3)) (.lit 9223372036854775807))) (.ob (.and (.cmp .le (.lit (-9223372036854775808)) (.add (.var 0) (.var 3))) (.cmp .le (.add (.var 0) (.var 3)) (.lit 9223372036854775807))) (.ret [(.int (.add (.var 0) (.var 3))), (.int (.add (.var 0) (.var 3)))]))))))))
noncomputable def clin : Cx := tab.only [] (fun _ => []) [] 0 []
def tlin : Tree :=
  (.split (.cmp .le (.var 2) (.var 0)) (.ret [(.bool (.cmp .le (.var 1) (.var 3)))]) (.ret [(.bool (.lit false))]))
noncomputable def cencloses : Cx := tab.only [21, 33, 34, 35, 31, 19] (fun _ => []) [] 0 []
def tencloses_1 : Tree :=
  (.split (.cmp .ne (.var 30) (.lit 0)) (.ret [(.bool (.lit false))]) (.split (.cmp .ne (.var 38) (.lit 0)) (.ret [(.bool (.lit false))]) (.split (.not (.and (.cmp .le (.var 23) (.var 31)) (.cmp .le (.var 32) (.var 24)))) (.ret [(.bool (.lit false))]) (.split (.not (.and (.cmp .le (.var 25) (.var 33)) (.cmp .le (.var 34) (.var 26)))) (.ret [(.bool (.lit false))]) (.split (.not (.and (.cmp .le (.var 27) (.var 35)) (.cmp .le (.var 36) (.var 28)))) (.ret [(.bool (.lit false))]) (.split (.cmp .ne (.var 31) (.var 32)) (.ret [(.bool (.lit false))]) (.ob (.and (.cmp .le (.lit (-9223372036854775808)) (.sub (.var 34) (.var 33))) (.cmp .le (.sub (.var 34) (.var 33)) (.lit 9223372036854775807))) (.split (.cmp .lt (.lit 1) (.sub (.var 34) (.var 33))) (.ret [(.bool (.lit false))]) (.ob (.and (.cmp .le (.lit (-9223372036854775808)) (.sub (.var 19) (.var 17))) (.cmp .le (.sub (.var 19) (.var 17)) (.lit 9223372036854775807))) (.ob (.and (.cmp .le (.lit (-9223372036854775808)) (.sub (.var 12) (.var 36))) (.cmp .le (.sub (.var 12) (.var 36)) (.lit 9223372036854775807))) (.ob (.and (.cmp .le (.lit (-9223372036854775808)) (.mul (.sub (.var 12) (.var 36)) (.var 21))) (.cmp .le (.mul (.sub (.var 12) (.var 36)) (.var 21)) (.lit 9223372036854775807))) (.ob (.and (.cmp .le (.lit (-9223372036854775808)) (.mul (.sub (.var 19) (.var 17)) (.var 14))) (.cmp .le (.mul (.sub (.var 19) (.var 17)) (.var 14)) (.lit 9223372036854775807))) (.split (.cmp .lt (.mul (.sub (.var 19) (.var 17)) (.var 14)) (.mul (.sub (.var 12) (.var 36)) (.var 21))) (.ret [(.bool (.lit false))]) (.ob (.and (.cmp .le (.lit (-9223372036854775808)) (.sub (.var 12) (.var 35))) (.cmp .le (.sub (.var 12) (.var 35)) (.lit 9223372036854775807))) (.ob (.and (.cmp .le (.lit (-9223372036854775808)) (.mul (.sub (.var 12) (.var 35)) (.var 21))) (.cmp .le (.mul (.sub (.var 12) (.var 35)) (.var 21)) (.lit 9223372036854775807))) (.ob (.and (.cmp .le (.lit (-9223372036854775808)) (.mul (.sub (.var 19) (.var 17)) (.var 14))) (.cmp .le (.mul (.sub (.var 19) (.var 17)) (.var 14)) (.lit 9223372036854775807))) (.split (.cmp .lt (.mul (.sub (.var 12) (.var 35)) (.var 21)) (.mul (.sub (.var 19) (.var 17)) (.var 14))) (.ret [(.bool (.lit false))]) (.split (.cmp .ne (.var 29) (.lit 4)) (.split (.cmp .ne (.var 37) (.var 29)) (.ret [(.bool (.lit false))]) (.ob (.and (.cmp .le (.lit (-9223372036854775808)) (.mul (.var 12) (.var 13))) (.cmp .le (.mul (.var 12) (.var 13)) (.lit 9223372036854775807))) (.ob (.and (.cmp .le (.lit (-9223372036854775808)) (.add (.var 17) (.mul (.var 12) (.var 13)))) (.cmp .le (.add (.var 17) (.mul (.var 12) (.var 13))) (.lit 9223372036854775807))) (.split (.cmp .eq (.var 31) (.add (.var 17) (.mul (.var 12) (.var 13)))) (.call 19 [] (.ret [(.bool (.of (.var 39)))])) (.ret [(.bool (.lit false))]))))) (.ob (.and (.cmp .le (.lit (-9223372036854775808)) (.mul (.var 12) (.var 13))) (.cmp .le (.mul (.var 12) (.var 13)) (.lit 9223372036854775807))) (.ob (.and (.cmp .le (.lit (-9223372036854775808)) (.add (.var 17) (.mul (.var 12) (.var 13)))) (.cmp .le (.add (.var 17) (.mul (.var 12) (.var 13))) (.lit 9223372036854775807))) (.split (.cmp .eq (.var 31) (.add (.var 17) (.mul (.var 12) (.var 13)))) (.call 19 [] (.ret [(.bool (.of (.var 39)))])) (.ret [(.bool (.lit false))]))))))))))))))))))))))
def tencloses_2 : Tree :=
  (.call 31 [(.int (.var 6)), (.int (.var 7)), (.int (.var 8)), (.int (.var 9)), (.int (.var 10)), (.int (.var 11)), (.int (.var 12)), (.int (.var 13)), (.int (.var 14))] (.call 31 [(.int (.var 17)), (.int (.var 18)), (.int (.var 19)), (.int (.var 20)), (.int (.var 21)), (.int (.var 22)), (.int (.var 12)), (.int (.var 13)), (.int (.var 14))] tencloses_1))
def tencloses_3 : Tree :=
  (.call 34 [(.int (.var 6)), (.int (.var 7)), (.int (.var 1))] (.call 34 [(.int (.var 8)), (.int (.var 9)), (.int (.var 2))] (.call 34 [(.int (.var 10)), (.int (.var 11)), (.int (.var 3))] tencloses_2)))
def tencloses : Tree :=
  (.call 21 [(.arr 3 (.var 0))] (.call 33 [(.arr 3 (.var 4)), (.int (.var 5))] tencloses_3))
end Go.Proofs.Ytlbgcjpkegpmlaa
/- What is to be shown of each function, as the executor has it. Printed by trees.py. -/
namespace Go.Proofs.Ytlbgcjpkegpmlaa
noncomputable def cwithin : Cx := tab.only [] (fun _ => []) [] 0 []
def twithin : Tree :=
  (.split (.cmp .le (.var 1) (.var 0)) (.ret [(.bool (.cmp .le (.var 0) (.var 2)))]) (.ret [(.bool (.lit false))]))
noncomputable def cbetween : Cx := tab.only [] (fun _ => []) [] 0 []
def tbetween : Tree :=
  (.split (.cmp .le (.var 1) (.var 0)) (.ret [(.bool (.cmp .le (.var 0) (.var 2)))]) (.ret [(.bool (.lit false))]))
noncomputable def cfair : Cx := tab.only [] (fun _ => []) [] 0 []
def tfair : Tree :=
  (.split (.cmp .le (.var 2) (.var 0)) (.split (.cmp .le (.var 0) (.var 1)) (.ret [(.bool (.cmp .le (.var 1) (.var 3)))]) (.ret [(.bool (.lit false))])) (.ret [(.bool (.lit false))]))
noncomputable def cfloor : Cx := tab.only [] (fun _ => []) [] 0 []
def tfloor : Tree :=
  (.ob (.cmp .ne (.var 1) (.lit 0)) (.ob (.and (.cmp .le (.lit (-9223372036854775808)) (.quo (.var 0) (.var 1))) (.cmp .le (.quo (.var 0) (.var 1)) (.lit 9223372036854775807))) (.ob (.cmp .ne (.var 1) (.lit 0)) (.split (.cmp .lt (.rem (.var 0) (.var 1)) (.lit 0)) (.ob (.and (.cmp .le (.lit (-9223372036854775808)) (.sub (.quo (.var 0) (.var 1)) (.lit 1))) (.cmp .le (.sub (.quo (.var 0) (.var 1)) (.lit 1)) (.lit 9223372036854775807))) (.ob (.and (.cmp .le (.lit (-9223372036854775808)) (.sub (.quo (.var 0) (.var 1)) (.lit 1))) (.cmp .le (.sub (.quo (.var 0) (.var 1)) (.lit 1)) (.lit 9223372036854775807))) (.ret [(.int (.sub (.quo (.var 0) (.var 1)) (.lit 1)))]))) (.ob (.and (.cmp .le (.lit (-9223372036854775808)) (.quo (.var 0) (.var 1))) (.cmp .le (.quo (.var 0) (.var 1)) (.lit 9223372036854775807))) (.ret [(.int (.quo (.var 0) (.var 1)))]))))))
noncomputable def crfloor : Cx := tab.only [] (fun _ => []) [] 0 []
def trfloor : Tree :=
  (.ob (.cmp .ne (.var 1) (.lit 0)) (.ob (.and (.cmp .le (.lit (-9223372036854775808)) (.quo (.var 0) (.var 1))) (.cmp .le (.quo (.var 0) (.var 1)) (.lit 9223372036854775807))) (.ob (.cmp .ne (.var 1) (.lit 0)) (.split (.cmp .lt (.rem (.var 0) (.var 1)) (.lit 0)) (.ob (.and (.cmp .le (.lit (-9223372036854775808)) (.sub (.quo (.var 0) (.var 1)) (.lit 1))) (.cmp .le (.sub (.quo (.var 0) (.var 1)) (.lit 1)) (.lit 9223372036854775807))) (.ob (.and (.cmp .le (.lit (-9223372036854775808)) (.sub (.quo (.var 0) (.var 1)) (.lit 1))) (.cmp .le (.sub (.quo (.var 0) (.var 1)) (.lit 1)) (.lit 9223372036854775807))) (.ret [(.int (.sub (.quo (.var 0) (.var 1)) (.lit 1)))]))) (.ob (.and (.cmp .le (.lit (-9223372036854775808)) (.quo (.var 0) (.var 1))) (.cmp .le (.quo (.var 0) (.var 1)) (.lit 9223372036854775807))) (.ret [(.int (.quo (.var 0) (.var 1)))]))))))
noncomputable def cshut : Cx := tab.only [69] (fun _ => []) [] 0 []
def tshut : Tree :=
  (.arr [[(.int (.var 0)), (.int (.var 1))], [(.int (.var 2)), (.int (.var 3))]] (.loop [.int, .int] [(.int (.lit 0)), (.int (.lit 0))] (.split (.cmp .lt (.var 11) (.lit 2)) (.ob (.cmp .le (.lit 0) (.var 11)) (.ob (.cmp .lt (.var 11) (.len (.var 9))) (.split (.cmp .lt (.cell (.var 9) (.var 11) 0) (.lit 0)) (.ret [(.int (.lit 2))]) (.ob (.cmp .lt (.var 11) (.len (.var 9))) (.ob (.cmp .lt (.var 11) (.len (.var 9))) (.split (.cmp .lt (.cell (.var 9) (.var 11) 1) (.cell (.var 9) (.var 11) 0)) (.ret [(.int (.lit 2))]) (.ob (.cmp .lt (.var 11) (.len (.var 9))) (.split (.cmp .lt (.lit 68719476736) (.cell (.var 9) (.var 11) 1)) (.ret [(.int (.lit 2))]) (.back 0 [(.int (.var 10)), (.int (.add (.var 11) (.lit 1)))]))))))))) (.split (.not (.and (.cmp .le (.lit 1) (.var 6)) (.cmp .le (.var 6) (.lit 40000)))) (.ret [(.int (.lit 2))]) (.split (.not (.and (.cmp .le (.lit 1) (.var 7)) (.cmp .le (.var 7) (.lit 1048576)))) (.ret [(.int (.lit 2))]) (.split (.not (.and (.cmp .le (.lit 1) (.var 8)) (.cmp .le (.var 8) (.lit 5000)))) (.ret [(.int (.lit 2))]) (.split (.cmp .lt (.var 4) (.var 8)) (.ret [(.int (.lit 2))]) (.split (.cmp .lt (.var 5) (.var 4)) (.ret [(.int (.lit 2))]) (.split (.cmp .lt (.lit 1073741824) (.var 5)) (.ret [(.int (.lit 2))]) (.split (.cmp .lt (.var 2) (.var 1)) (.ret [(.int (.lit 11))]) (.ret [(.int (.lit 0))])))))))))))
noncomputable def cident : Cx := tab.only [71, 68, 72] (fun _ => []) [] 0 []
def tident : Tree :=
  (.split (.not (.and (.cmp .le (.lit 0) (.var 0)) (.and (.cmp .le (.var 0) (.var 1)) (.cmp .le (.var 1) (.lit 68719476736))))) (.ret [(.int (.lit 0)), (.int (.lit 0)), (.int (.lit 0)), (.int (.lit 0)), (.int (.lit 0)), (.int (.lit 0)), (.int (.lit 0)), (.int (.lit 2))]) (.split (.not (.and (.cmp .le (.lit 0) (.var 2)) (.and (.cmp .le (.var 2) (.var 3)) (.cmp .le (.var 3) (.lit 68719476736))))) (.ret [(.int (.lit 0)), (.int (.lit 0)), (.int (.lit 0)), (.int (.lit 0)), (.int (.lit 0)), (.int (.lit 0)), (.int (.lit 0)), (.int (.lit 2))]) (.split (.not (.and (.cmp .le (.lit 1) (.var 6)) (.cmp .le (.var 6) (.lit 40000)))) (.ret [(.int (.lit 0)), (.int (.lit 0)), (.int (.lit 0)), (.int (.lit 0)), (.int (.lit 0)), (.int (.lit 0)), (.int (.lit 0)), (.int (.lit 2))]) (.split (.not (.and (.cmp .le (.lit 1) (.var 7)) (.cmp .le (.var 7) (.lit 1048576)))) (.ret [(.int (.lit 0)), (.int (.lit 0)), (.int (.lit 0)), (.int (.lit 0)), (.int (.lit 0)), (.int (.lit 0)), (.int (.lit 0)), (.int (.lit 2))]) (.split (.not (.and (.cmp .le (.lit 1) (.var 8)) (.cmp .le (.var 8) (.lit 5000)))) (.ret [(.int (.lit 0)), (.int (.lit 0)), (.int (.lit 0)), (.int (.lit 0)), (.int (.lit 0)), (.int (.lit 0)), (.int (.lit 0)), (.int (.lit 2))]) (.split (.not (.and (.cmp .le (.var 8) (.var 4)) (.and (.cmp .le (.var 4) (.var 5)) (.cmp .le (.var 5) (.lit 1073741824))))) (.ret [(.int (.lit 0)), (.int (.lit 0)), (.int (.lit 0)), (.int (.lit 0)), (.int (.lit 0)), (.int (.lit 0)), (.int (.lit 0)), (.int (.lit 2))]) (.split (.cmp .lt (.var 2) (.var 1)) (.ret [(.int (.lit 0)), (.int (.lit 0)), (.int (.lit 0)), (.int (.lit 0)), (.int (.lit 0)), (.int (.lit 0)), (.int (.lit 0)), (.int (.lit 11))]) (.ob (.and (.cmp .le (.lit (-9223372036854775808)) (.add (.var 0) (.mul (.var 6) (.var 7)))) (.cmp .le (.add (.var 0) (.mul (.var 6) (.var 7))) (.lit 9223372036854775807))) (.call 72 [(.int (.sub (.var 0) (.var 3))), (.int (.quo (.var 4) (.var 8)))] (.ob (.and (.cmp .le (.lit (-9223372036854775808)) (.add (.var 6) (.var 9))) (.cmp .le (.add (.var 6) (.var 9)) (.lit 9223372036854775807))) (.call 72 [(.int (.sub (.var 2) (.var 1))), (.int (.quo (.sub (.add (.var 5) (.var 8)) (.lit 1)) (.var 8)))] (.ob (.and (.cmp .le (.lit (-9223372036854775808)) (.sub (.var 6) (.var 10))) (.cmp .le (.sub (.var 6) (.var 10)) (.lit 9223372036854775807))) (.split (.cmp .le (.sub (.var 6) (.var 10)) (.lit 3500)) (.ob (.and (.cmp .le (.lit (-9223372036854775808)) (.add (.var 0) (.mul (.var 6) (.var 7)))) (.cmp .le (.add (.var 0) (.mul (.var 6) (.var 7))) (.lit 9223372036854775807))) (.ob (.and (.cmp .le (.lit (-9223372036854775808)) (.add (.var 6) (.var 9))) (.cmp .le (.add (.var 6) (.var 9)) (.lit 9223372036854775807))) (.ob (.and (.cmp .le (.lit (-9223372036854775808)) (.sub (.var 6) (.var 10))) (.cmp .le (.sub (.var 6) (.var 10)) (.lit 9223372036854775807))) (.ret [(.int (.add (.var 0) (.mul (.var 6) (.var 7)))), (.int (.add (.var 1) (.mul (.var 6) (.var 7)))), (.int (.quo (.var 4) (.var 8))), (.int (.quo (.sub (.add (.var 5) (.var 8)) (.lit 1)) (.var 8))), (.int (.add (.var 6) (.var 9))), (.int (.sub (.var 6) (.var 10))), (.int (.lit 1)), (.int (.lit 0))])))) (.split (.cmp .le (.lit 9000) (.add (.var 6) (.var 9))) (.ob (.and (.cmp .le (.lit (-9223372036854775808)) (.add (.var 0) (.mul (.var 6) (.var 7)))) (.cmp .le (.add (.var 0) (.mul (.var 6) (.var 7))) (.lit 9223372036854775807))) (.ob (.and (.cmp .le (.lit (-9223372036854775808)) (.add (.var 6) (.var 9))) (.cmp .le (.add (.var 6) (.var 9)) (.lit 9223372036854775807))) (.ob (.and (.cmp .le (.lit (-9223372036854775808)) (.sub (.var 6) (.var 10))) (.cmp .le (.sub (.var 6) (.var 10)) (.lit 9223372036854775807))) (.ret [(.int (.add (.var 0) (.mul (.var 6) (.var 7)))), (.int (.add (.var 1) (.mul (.var 6) (.var 7)))), (.int (.quo (.var 4) (.var 8))), (.int (.quo (.sub (.add (.var 5) (.var 8)) (.lit 1)) (.var 8))), (.int (.add (.var 6) (.var 9))), (.int (.sub (.var 6) (.var 10))), (.int (.lit 3)), (.int (.lit 0))])))) (.split (.cmp .lt (.lit 3500) (.add (.var 6) (.var 9))) (.split (.cmp .lt (.sub (.var 6) (.var 10)) (.lit 9000)) (.ob (.and (.cmp .le (.lit (-9223372036854775808)) (.add (.var 0) (.mul (.var 6) (.var 7)))) (.cmp .le (.add (.var 0) (.mul (.var 6) (.var 7))) (.lit 9223372036854775807))) (.ob (.and (.cmp .le (.lit (-9223372036854775808)) (.add (.var 6) (.var 9))) (.cmp .le (.add (.var 6) (.var 9)) (.lit 9223372036854775807))) (.ob (.and (.cmp .le (.lit (-9223372036854775808)) (.sub (.var 6) (.var 10))) (.cmp .le (.sub (.var 6) (.var 10)) (.lit 9223372036854775807))) (.ret [(.int (.add (.var 0) (.mul (.var 6) (.var 7)))), (.int (.add (.var 1) (.mul (.var 6) (.var 7)))), (.int (.quo (.var 4) (.var 8))), (.int (.quo (.sub (.add (.var 5) (.var 8)) (.lit 1)) (.var 8))), (.int (.add (.var 6) (.var 9))), (.int (.sub (.var 6) (.var 10))), (.int (.lit 2)), (.int (.lit 0))])))) (.ob (.and (.cmp .le (.lit (-9223372036854775808)) (.add (.var 0) (.mul (.var 6) (.var 7)))) (.cmp .le (.add (.var 0) (.mul (.var 6) (.var 7))) (.lit 9223372036854775807))) (.ob (.and (.cmp .le (.lit (-9223372036854775808)) (.add (.var 6) (.var 9))) (.cmp .le (.add (.var 6) (.var 9)) (.lit 9223372036854775807))) (.ob (.and (.cmp .le (.lit (-9223372036854775808)) (.sub (.var 6) (.var 10))) (.cmp .le (.sub (.var 6) (.var 10)) (.lit 9223372036854775807))) (.ret [(.int (.add (.var 0) (.mul (.var 6) (.var 7)))), (.int (.add (.var 1) (.mul (.var 6) (.var 7)))), (.int (.quo (.var 4) (.var 8))), (.int (.quo (.sub (.add (.var 5) (.var 8)) (.lit 1)) (.var 8))), (.int (.add (.var 6) (.var 9))), (.int (.sub (.var 6) (.var 10))), (.int (.lit 4)), (.int (.lit 0))]))))) (.ob (.and (.cmp .le (.lit (-9223372036854775808)) (.add (.var 0) (.mul (.var 6) (.var 7)))) (.cmp .le (.add (.var 0) (.mul (.var 6) (.var 7))) (.lit 9223372036854775807))) (.ob (.and (.cmp .le (.lit (-9223372036854775808)) (.add (.var 6) (.var 9))) (.cmp .le (.add (.var 6) (.var 9)) (.lit 9223372036854775807))) (.ob (.and (.cmp .le (.lit (-9223372036854775808)) (.sub (.var 6) (.var 10))) (.cmp .le (.sub (.var 6) (.var 10)) (.lit 9223372036854775807))) (.ret [(.int (.add (.var 0) (.mul (.var 6) (.var 7)))), (.int (.add (.var 1) (.mul (.var 6) (.var 7)))), (.int (.quo (.var 4) (.var 8))), (.int (.quo (.sub (.add (.var 5) (.var 8)) (.lit 1)) (.var 8))), (.int (.add (.var 6) (.var 9))), (.int (.sub (.var 6) (.var 10))), (.int (.lit 4)), (.int (.lit 0))])))))))))))))))))))
noncomputable def crident : Cx := tab.only [73, 74] (fun _ => []) [] 0 []
def trident : Tree :=
  (.call 73 [(.int (.var 0)), (.int (.var 1)), (.int (.var 2)), (.int (.var 3)), (.int (.var 4)), (.int (.var 5)), (.int (.var 6)), (.int (.var 7)), (.int (.var 8))] (.split (.cmp .ne (.var 9) (.lit 0)) (.ret [(.int (.lit 0)), (.int (.lit 0)), (.int (.lit 0)), (.int (.lit 0)), (.int (.lit 0)), (.int (.lit 0)), (.int (.lit 0)), (.int (.var 9))]) (.ob (.and (.cmp .le (.lit (-9223372036854775808)) (.mul (.var 6) (.var 7))) (.cmp .le (.mul (.var 6) (.var 7)) (.lit 9223372036854775807))) (.ob (.and (.cmp .le (.lit (-9223372036854775808)) (.add (.var 0) (.mul (.var 6) (.var 7)))) (.cmp .le (.add (.var 0) (.mul (.var 6) (.var 7))) (.lit 9223372036854775807))) (.ob (.and (.cmp .le (.lit (-9223372036854775808)) (.add (.var 1) (.mul (.var 6) (.var 7)))) (.cmp .le (.add (.var 1) (.mul (.var 6) (.var 7))) (.lit 9223372036854775807))) (.call 74 [(.int (.var 4)), (.int (.var 8))] (.ob (.and (.cmp .le (.lit (-9223372036854775808)) (.sub (.lit 0) (.var 5))) (.cmp .le (.sub (.lit 0) (.var 5)) (.lit 9223372036854775807))) (.ob (.and (.cmp .le (.lit (-9223372036854775808)) (.sub (.lit 0) (.var 5))) (.cmp .le (.sub (.lit 0) (.var 5)) (.lit 9223372036854775807))) (.call 74 [(.int (.sub (.lit 0) (.var 5))), (.int (.var 8))] (.ob (.and (.cmp .le (.lit (-9223372036854775808)) (.sub (.lit 0) (.var 11))) (.cmp .le (.sub (.lit 0) (.var 11)) (.lit 9223372036854775807))) (.ob (.and (.cmp .le (.lit (-9223372036854775808)) (.sub (.var 0) (.var 3))) (.cmp .le (.sub (.var 0) (.var 3)) (.lit 9223372036854775807))) (.ob (.and (.cmp .le (.lit (-9223372036854775808)) (.sub (.var 0) (.var 3))) (.cmp .le (.sub (.var 0) (.var 3)) (.lit 9223372036854775807))) (.call 74 [(.int (.sub (.var 0) (.var 3))), (.int (.var 10))] (.ob (.and (.cmp .le (.lit (-9223372036854775808)) (.add (.var 6) (.var 12))) (.cmp .le (.add (.var 6) (.var 12)) (.lit 9223372036854775807))) (.ob (.and (.cmp .le (.lit (-9223372036854775808)) (.sub (.var 2) (.var 1))) (.cmp .le (.sub (.var 2) (.var 1)) (.lit 9223372036854775807))) (.ob (.and (.cmp .le (.lit (-9223372036854775808)) (.sub (.var 2) (.var 1))) (.cmp .le (.sub (.var 2) (.var 1)) (.lit 9223372036854775807))) (.ob (.and (.cmp .le (.lit (-9223372036854775808)) (.sub (.lit 0) (.var 11))) (.cmp .le (.sub (.lit 0) (.var 11)) (.lit 9223372036854775807))) (.call 74 [(.int (.sub (.var 2) (.var 1))), (.int (.sub (.lit 0) (.var 11)))] (.ob (.and (.cmp .le (.lit (-9223372036854775808)) (.sub (.var 6) (.var 13))) (.cmp .le (.sub (.var 6) (.var 13)) (.lit 9223372036854775807))) (.split (.cmp .le (.sub (.var 6) (.var 13)) (.lit 3500)) (.ob (.and (.cmp .le (.lit (-9223372036854775808)) (.add (.var 0) (.mul (.var 6) (.var 7)))) (.cmp .le (.add (.var 0) (.mul (.var 6) (.var 7))) (.lit 9223372036854775807))) (.ob (.and (.cmp .le (.lit (-9223372036854775808)) (.add (.var 1) (.mul (.var 6) (.var 7)))) (.cmp .le (.add (.var 1) (.mul (.var 6) (.var 7))) (.lit 9223372036854775807))) (.ob (.and (.cmp .le (.lit (-9223372036854775808)) (.sub (.lit 0) (.var 11))) (.cmp .le (.sub (.lit 0) (.var 11)) (.lit 9223372036854775807))) (.ob (.and (.cmp .le (.lit (-9223372036854775808)) (.add (.var 6) (.var 12))) (.cmp .le (.add (.var 6) (.var 12)) (.lit 9223372036854775807))) (.ob (.and (.cmp .le (.lit (-9223372036854775808)) (.sub (.var 6) (.var 13))) (.cmp .le (.sub (.var 6) (.var 13)) (.lit 9223372036854775807))) (.ret [(.int (.add (.var 0) (.mul (.var 6) (.var 7)))), (.int (.add (.var 1) (.mul (.var 6) (.var 7)))), (.int (.var 10)), (.int (.sub (.lit 0) (.var 11))), (.int (.add (.var 6) (.var 12))), (.int (.sub (.var 6) (.var 13))), (.int (.lit 1)), (.int (.lit 0))])))))) (.split (.cmp .le (.lit 9000) (.add (.var 6) (.var 12))) (.ob (.and (.cmp .le (.lit (-9223372036854775808)) (.add (.var 0) (.mul (.var 6) (.var 7)))) (.cmp .le (.add (.var 0) (.mul (.var 6) (.var 7))) (.lit 9223372036854775807))) (.ob (.and (.cmp .le (.lit (-9223372036854775808)) (.add (.var 1) (.mul (.var 6) (.var 7)))) (.cmp .le (.add (.var 1) (.mul (.var 6) (.var 7))) (.lit 9223372036854775807))) (.ob (.and (.cmp .le (.lit (-9223372036854775808)) (.sub (.lit 0) (.var 11))) (.cmp .le (.sub (.lit 0) (.var 11)) (.lit 9223372036854775807))) (.ob (.and (.cmp .le (.lit (-9223372036854775808)) (.add (.var 6) (.var 12))) (.cmp .le (.add (.var 6) (.var 12)) (.lit 9223372036854775807))) (.ob (.and (.cmp .le (.lit (-9223372036854775808)) (.sub (.var 6) (.var 13))) (.cmp .le (.sub (.var 6) (.var 13)) (.lit 9223372036854775807))) (.ret [(.int (.add (.var 0) (.mul (.var 6) (.var 7)))), (.int (.add (.var 1) (.mul (.var 6) (.var 7)))), (.int (.var 10)), (.int (.sub (.lit 0) (.var 11))), (.int (.add (.var 6) (.var 12))), (.int (.sub (.var 6) (.var 13))), (.int (.lit 3)), (.int (.lit 0))])))))) (.split (.cmp .le (.lit 3501) (.add (.var 6) (.var 12))) (.split (.cmp .le (.sub (.var 6) (.var 13)) (.lit 8999)) (.ob (.and (.cmp .le (.lit (-9223372036854775808)) (.add (.var 0) (.mul (.var 6) (.var 7)))) (.cmp .le (.add (.var 0) (.mul (.var 6) (.var 7))) (.lit 9223372036854775807))) (.ob (.and (.cmp .le (.lit (-9223372036854775808)) (.add (.var 1) (.mul (.var 6) (.var 7)))) (.cmp .le (.add (.var 1) (.mul (.var 6) (.var 7))) (.lit 9223372036854775807))) (.ob (.and (.cmp .le (.lit (-9223372036854775808)) (.sub (.lit 0) (.var 11))) (.cmp .le (.sub (.lit 0) (.var 11)) (.lit 9223372036854775807))) (.ob (.and (.cmp .le (.lit (-9223372036854775808)) (.add (.var 6) (.var 12))) (.cmp .le (.add (.var 6) (.var 12)) (.lit 9223372036854775807))) (.ob (.and (.cmp .le (.lit (-9223372036854775808)) (.sub (.var 6) (.var 13))) (.cmp .le (.sub (.var 6) (.var 13)) (.lit 9223372036854775807))) (.ret [(.int (.add (.var 0) (.mul (.var 6) (.var 7)))), (.int (.add (.var 1) (.mul (.var 6) (.var 7)))), (.int (.var 10)), (.int (.sub (.lit 0) (.var 11))), (.int (.add (.var 6) (.var 12))), (.int (.sub (.var 6) (.var 13))), (.int (.lit 2)), (.int (.lit 0))])))))) (.ob (.and (.cmp .le (.lit (-9223372036854775808)) (.add (.var 0) (.mul (.var 6) (.var 7)))) (.cmp .le (.add (.var 0) (.mul (.var 6) (.var 7))) (.lit 9223372036854775807))) (.ob (.and (.cmp .le (.lit (-9223372036854775808)) (.add (.var 1) (.mul (.var 6) (.var 7)))) (.cmp .le (.add (.var 1) (.mul (.var 6) (.var 7))) (.lit 9223372036854775807))) (.ob (.and (.cmp .le (.lit (-9223372036854775808)) (.sub (.lit 0) (.var 11))) (.cmp .le (.sub (.lit 0) (.var 11)) (.lit 9223372036854775807))) (.ob (.and (.cmp .le (.lit (-9223372036854775808)) (.add (.var 6) (.var 12))) (.cmp .le (.add (.var 6) (.var 12)) (.lit 9223372036854775807))) (.ob (.and (.cmp .le (.lit (-9223372036854775808)) (.sub (.var 6) (.var 13))) (.cmp .le (.sub (.var 6) (.var 13)) (.lit 9223372036854775807))) (.ret [(.int (.add (.var 0) (.mul (.var 6) (.var 7)))), (.int (.add (.var 1) (.mul (.var 6) (.var 7)))), (.int (.var 10)), (.int (.sub (.lit 0) (.var 11))), (.int (.add (.var 6) (.var 12))), (.int (.sub (.var 6) (.var 13))), (.int (.lit 4)), (.int (.lit 0))]))))))) (.ob (.and (.cmp .le (.lit (-9223372036854775808)) (.add (.var 0) (.mul (.var 6) (.var 7)))) (.cmp .le (.add (.var 0) (.mul (.var 6) (.var 7))) (.lit 9223372036854775807))) (.ob (.and (.cmp .le (.lit (-9223372036854775808)) (.add (.var 1) (.mul (.var 6) (.var 7)))) (.cmp .le (.add (.var 1) (.mul (.var 6) (.var 7))) (.lit 9223372036854775807))) (.ob (.and (.cmp .le (.lit (-9223372036854775808)) (.sub (.lit 0) (.var 11))) (.cmp .le (.sub (.lit 0) (.var 11)) (.lit 9223372036854775807))) (.ob (.and (.cmp .le (.lit (-9223372036854775808)) (.add (.var 6) (.var 12))) (.cmp .le (.add (.var 6) (.var 12)) (.lit 9223372036854775807))) (.ob (.and (.cmp .le (.lit (-9223372036854775808)) (.sub (.var 6) (.var 13))) (.cmp .le (.sub (.var 6) (.var 13)) (.lit 9223372036854775807))) (.ret [(.int (.add (.var 0) (.mul (.var 6) (.var 7)))), (.int (.add (.var 1) (.mul (.var 6) (.var 7)))), (.int (.var 10)), (.int (.sub (.lit 0) (.var 11))), (.int (.add (.var 6) (.var 12))), (.int (.sub (.var 6) (.var 13))), (.int (.lit 4)), (.int (.lit 0))]))))))))))))))))))))))))))))
noncomputable def cfinds : Cx := tab.only [31, 32, 19] (fun _ => []) [] 0 []
def tfinds : Tree :=
  (.call 31 [(.int (.var 0)), (.int (.var 1)), (.int (.var 2)), (.int (.var 3)), (.int (.var 4)), (.int (.var 5)), (.int (.var 6)), (.int (.var 7)), (.int (.var 8))] (.call 32 [(.int (.var 0)), (.int (.var 1)), (.int (.var 2)), (.int (.var 3)), (.int (.var 4)), (.int (.var 5)), (.int (.var 6)), (.int (.var 7)), (.int (.var 8))] (.split (.and (.and (.cmp .eq (.var 9) (.var 17)) (.cmp .eq (.var 10) (.var 18))) (.and (.and (.cmp .eq (.var 11) (.var 19)) (.cmp .eq (.var 12) (.var 20))) (.and (.and (.cmp .eq (.var 13) (.var 21)) (.cmp .eq (.var 14) (.var 22))) (.cmp .eq (.var 15) (.var 23))))) (.split (.cmp .eq (.var 16) (.var 24)) (.call 19 [] (.ret [(.bool (.of (.var 25)))])) (.ret [(.bool (.lit false))])) (.ret [(.bool (.lit false))]))))
end Go.Proofs.Ytlbgcjpkegpmlaa
/- Plain arithmetic. -/
namespace Go.Proofs.Ytlbgcjpkegpmlaa
theorem ediv_bd {a b : Int} (hb : 0 < b) : (0 ≤ a → 0 ≤ a / b ∧ a / b ≤ a) ∧ (a < 0 → a ≤ a / b ∧ a / b < 0) := by
  have h1 := Int.mul_ediv_add_emod a b
  have h2 := Int.emod_nonneg a (by omega : b ≠ 0)
  have h3 := Int.emod_lt_of_pos a hb
  refine ⟨fun h => ⟨Int.ediv_nonneg h (by omega), Int.ediv_le_self _ h⟩, fun h => ⟨?_, Int.ediv_neg_of_neg_of_pos h hb⟩⟩
  have h4 : a / b < 0 := Int.ediv_neg_of_neg_of_pos h hb
  have h5 : (b - 1) * (a / b) ≤ (b - 1) * (-1) := Int.mul_le_mul_of_nonneg_left (by omega) (by omega)
  rw [Int.sub_mul] at h5
  omega
theorem tdiv_floor {a b : Int} (hb : 0 < b) : (a.tmod b < 0 → a.tdiv b = a / b + 1) ∧ (0 ≤ a.tmod b → a.tdiv b = a / b) := by
  have h1 := Int.mul_tdiv_add_tmod a b
  have h2 := Int.mul_ediv_add_emod a b
  have h3 := Int.emod_nonneg a (by omega : b ≠ 0)
  have h4 := Int.emod_lt_of_pos a hb
  have h5 : (a.tmod b).natAbs < b.natAbs := by rw [Int.natAbs_tmod]; exact Nat.mod_lt _ (by omega)
  have e : b * (a.tdiv b) - b * (a / b) = b * (a.tdiv b - a / b) := by rw [Int.mul_sub]
  constructor
  · intro h
    have h6 : b * (a.tdiv b - a / b) = a % b - a.tmod b := by omega
    have h7 : 0 < b * (a.tdiv b - a / b) := by omega
    have h8 : b * (a.tdiv b - a / b) < b * 2 := by omega
    have h9 : 0 < a.tdiv b - a / b := by
      rcases Int.lt_or_le 0 (a.tdiv b - a / b) with h | h
      · exact h
      · have := Int.mul_le_mul_of_nonneg_left h (by omega : 0 ≤ b); omega
    have h10 := Int.lt_of_mul_lt_mul_left h8 (by omega)
    omega
  · intro h
    have h6 : b * (a.tdiv b - a / b) = a % b - a.tmod b := by omega
    have h8 : b * (a.tdiv b - a / b) < b * 1 := by omega
    have h9 : b * (-1) < b * (a.tdiv b - a / b) := by omega
    have h10 := Int.lt_of_mul_lt_mul_left h8 (by omega)
    have h11 := Int.lt_of_mul_lt_mul_left h9 (by omega)
    omega
theorem mul_bd {a b A B : Int} (h1 : 0 ≤ a) (h2 : a ≤ A) (h3 : 0 ≤ b) (h4 : b ≤ B) : 0 ≤ a * b ∧ a * b ≤ A * B :=
  ⟨Int.mul_nonneg h1 h3, Int.mul_le_mul h2 h4 h3 (by omega)⟩
end Go.Proofs.Ytlbgcjpkegpmlaa
/- What the functions of chapter 6's first statements compute: proved. -/
namespace Go.Proofs.Ytlbgcjpkegpmlaa
open Go.RowKit
set_option linter.unusedSimpArgs false
set_option linter.unusedVariables false

theorem floor_ok : tab.ok 72 := by
  refine Tab.of_ct rfl rfl ⟨_, Try.func72, by decide, rfl⟩ ?_ ctF_det
  refine ct_ok (cx := cfloor) (Tab.cx_ok all_nil) Try.func72 (bds := []) (T := tfloor) (by kernel_rfl) ?_
  unfold tfloor
  simp only [VC, allC, List.map_cons, List.map_nil, List.length_cons, List.length_nil, List.getElem?_cons_zero, List.getElem?_cons_succ, List.cons.injEq, C.i.injEq, C.b.injEq, and_true, true_and, forall_const, kindsOf_nil, kindsOf_lf, kindsOf_agg, kindsOf_box, boxKinds_nil, boxKinds_lf, boxKinds_agg, boxKinds_box, List.append_nil, List.cons_append, List.nil_append, den_cmp_le, den_cmp_lt, den_cmp_eq, den_cmp_ne, den_cmp_le', den_cmp_lt', den_cmp_eq', den_cmp_ne', den_and, den_and', den_or, den_or', den_not, den_not', den_blit, den_of, ev_var, at_0, at_1, at_2, at_3, at_4, at_5, at_6, at_7, at_skip, c_int, c_bool, c_arr, c_cnt, c_vec, ev_nil, ev_join, ev_sub3, loc_s, int_i, bool_b, rows_s, cs_nil, cs_cons, E.den_lit, E.den_var, E.den_add, E.den_sub, E.den_mul, E.den_quo, E.den_rem, E.den_max, E.den_min, E.den_len, E.den_wr, E.den_cell, ctFloor, ctF]; intro a h1 h2 b h3 h4 hb; obtain ⟨f1, f2⟩ := tdiv_floor (a := a) hb; obtain ⟨g1, g2⟩ := ediv_bd (a := a) hb; have f3 : a.tmod b < 0 ∨ 0 ≤ a.tmod b := (by omega); have f4 : 0 ≤ a → 0 ≤ a.tmod b := fun h => Int.tmod_nonneg b h
  refine ⟨bds_nil _, ?_⟩
  omega
theorem rfloor_ok : tab.ok 74 := by
  refine Tab.of_ct rfl rfl ⟨_, Try.func74, by decide, rfl⟩ ?_ ctF_det
  refine ct_ok (cx := crfloor) (Tab.cx_ok all_nil) Try.func74 (bds := []) (T := trfloor) (by kernel_rfl) ?_
  unfold trfloor
  simp only [VC, allC, List.map_cons, List.map_nil, List.length_cons, List.length_nil, List.getElem?_cons_zero, List.getElem?_cons_succ, List.cons.injEq, C.i.injEq, C.b.injEq, and_true, true_and, forall_const, kindsOf_nil, kindsOf_lf, kindsOf_agg, kindsOf_box, boxKinds_nil, boxKinds_lf, boxKinds_agg, boxKinds_box, List.append_nil, List.cons_append, List.nil_append, den_cmp_le, den_cmp_lt, den_cmp_eq, den_cmp_ne, den_cmp_le', den_cmp_lt', den_cmp_eq', den_cmp_ne', den_and, den_and', den_or, den_or', den_not, den_not', den_blit, den_of, ev_var, at_0, at_1, at_2, at_3, at_4, at_5, at_6, at_7, at_skip, c_int, c_bool, c_arr, c_cnt, c_vec, ev_nil, ev_join, ev_sub3, loc_s, int_i, bool_b, rows_s, cs_nil, cs_cons, E.den_lit, E.den_var, E.den_add, E.den_sub, E.den_mul, E.den_quo, E.den_rem, E.den_max, E.den_min, E.den_len, E.den_wr, E.den_cell, ctFloor, ctF]; intro a h1 h2 b h3 h4 hb; obtain ⟨f1, f2⟩ := tdiv_floor (a := a) hb; obtain ⟨g1, g2⟩ := ediv_bd (a := a) hb; have f3 : a.tmod b < 0 ∨ 0 ≤ a.tmod b := (by omega); have f4 : 0 ≤ a → 0 ≤ a.tmod b := fun h => Int.tmod_nonneg b h
  refine ⟨bds_nil _, ?_⟩
  omega
theorem within_ct : CtOK Try.prog 68 ctWithin := by
  refine ct_ok (cx := cwithin) (Tab.cx_ok all_nil) Try.func68 (bds := []) (T := twithin) (by kernel_rfl) ?_
  unfold twithin
  simp only [VC, allC, List.map_cons, List.map_nil, List.length_cons, List.length_nil, List.getElem?_cons_zero, List.getElem?_cons_succ, List.cons.injEq, C.i.injEq, C.b.injEq, and_true, true_and, forall_const, kindsOf_nil, kindsOf_lf, kindsOf_agg, kindsOf_box, boxKinds_nil, boxKinds_lf, boxKinds_agg, boxKinds_box, List.append_nil, List.cons_append, List.nil_append, den_cmp_le, den_cmp_lt, den_cmp_eq, den_cmp_ne, den_cmp_le', den_cmp_lt', den_cmp_eq', den_cmp_ne', den_and, den_and', den_or, den_or', den_not, den_not', den_blit, den_of, ev_var, at_0, at_1, at_2, at_3, at_4, at_5, at_6, at_7, at_skip, c_int, c_bool, c_arr, c_cnt, c_vec, ev_nil, ev_join, ev_sub3, loc_s, int_i, bool_b, rows_s, cs_nil, cs_cons, E.den_lit, E.den_var, E.den_add, E.den_sub, E.den_mul, E.den_quo, E.den_rem, E.den_max, E.den_min, E.den_len, E.den_wr, E.den_cell, ctWithin, ctF]; intro n h1 h2 a h3 h4 b h5 h6; refine ⟨bds_nil _, fun h => (by simp [B.den, Cmp.den, E.den_var, at_zero, at_succ, int_i, h] <;> rfl), fun h => (by have h' := Int.not_le.2 h; simp [B.den, h'])⟩
theorem between_ct : CtOK Try.prog 69 ctWithin := by
  refine ct_ok (cx := cbetween) (Tab.cx_ok all_nil) Try.func69 (bds := []) (T := tbetween) (by kernel_rfl) ?_
  unfold tbetween
  simp only [VC, allC, List.map_cons, List.map_nil, List.length_cons, List.length_nil, List.getElem?_cons_zero, List.getElem?_cons_succ, List.cons.injEq, C.i.injEq, C.b.injEq, and_true, true_and, forall_const, kindsOf_nil, kindsOf_lf, kindsOf_agg, kindsOf_box, boxKinds_nil, boxKinds_lf, boxKinds_agg, boxKinds_box, List.append_nil, List.cons_append, List.nil_append, den_cmp_le, den_cmp_lt, den_cmp_eq, den_cmp_ne, den_cmp_le', den_cmp_lt', den_cmp_eq', den_cmp_ne', den_and, den_and', den_or, den_or', den_not, den_not', den_blit, den_of, ev_var, at_0, at_1, at_2, at_3, at_4, at_5, at_6, at_7, at_skip, c_int, c_bool, c_arr, c_cnt, c_vec, ev_nil, ev_join, ev_sub3, loc_s, int_i, bool_b, rows_s, cs_nil, cs_cons, E.den_lit, E.den_var, E.den_add, E.den_sub, E.den_mul, E.den_quo, E.den_rem, E.den_max, E.den_min, E.den_len, E.den_wr, E.den_cell, ctWithin, ctF]; intro n h1 h2 a h3 h4 b h5 h6; refine ⟨bds_nil _, fun h => (by simp [B.den, Cmp.den, E.den_var, at_zero, at_succ, int_i, h] <;> rfl), fun h => (by have h' := Int.not_le.2 h; simp [B.den, h'])⟩
theorem fair_ct : CtOK Try.prog 71 ctFair := by
  refine ct_ok (cx := cfair) (Tab.cx_ok all_nil) Try.func71 (bds := []) (T := tfair) (by kernel_rfl) ?_
  unfold tfair
  simp only [VC, allC, List.map_cons, List.map_nil, List.length_cons, List.length_nil, List.getElem?_cons_zero, List.getElem?_cons_succ, List.cons.injEq, C.i.injEq, C.b.injEq, and_true, true_and, forall_const, kindsOf_nil, kindsOf_lf, kindsOf_agg, kindsOf_box, boxKinds_nil, boxKinds_lf, boxKinds_agg, boxKinds_box, List.append_nil, List.cons_append, List.nil_append, den_cmp_le, den_cmp_lt, den_cmp_eq, den_cmp_ne, den_cmp_le', den_cmp_lt', den_cmp_eq', den_cmp_ne', den_and, den_and', den_or, den_or', den_not, den_not', den_blit, den_of, ev_var, at_0, at_1, at_2, at_3, at_4, at_5, at_6, at_7, at_skip, c_int, c_bool, c_arr, c_cnt, c_vec, ev_nil, ev_join, ev_sub3, loc_s, int_i, bool_b, rows_s, cs_nil, cs_cons, E.den_lit, E.den_var, E.den_add, E.den_sub, E.den_mul, E.den_quo, E.den_rem, E.den_max, E.den_min, E.den_len, E.den_wr, E.den_cell, ctFair, ctF]
  intro lo h1 h2 hi h3 h4 a h5 h6 b h7 h8
  refine ⟨bds_nil _, fun h => ⟨fun h' => ?_, fun h' => ?_⟩, fun h => ?_⟩
  · simp [B.den, Cmp.den, E.den_var, at_zero, at_succ, int_i, h, h'] <;> rfl
  · have h2 := Int.not_le.2 h'; simp [B.den, h2]
  · have h2 := Int.not_le.2 h; simp [B.den, h2]
theorem withinI_ok {f : Nat} (hf : CtOK Try.prog f ctWithin) : InlOK Try.prog f withinI := by
  refine Inl.of_ct hf fun bd ρ l obs s h hn ho => ?_
  unfold withinI at h
  split at h
  · cases h
    refine ⟨rfl, rfl, ho, trivial, rfl, rfl, ?_⟩
    simp [cs_, cellsOf, S0.cellsM, S0.cells, Lf.c, B.den, B.den_mkCmp hn, Cmp.den]
  · cases h
theorem fairI_ok {f : Nat} (hf : CtOK Try.prog f ctFair) : InlOK Try.prog f fairI := by
  refine Inl.of_ct hf fun bd ρ l obs s h hn ho => ?_
  unfold fairI at h
  split at h
  · cases h
    refine ⟨rfl, rfl, ho, trivial, rfl, rfl, ?_⟩
    simp [cs_, cellsOf, S0.cellsM, S0.cells, Lf.c, B.den, B.den_mkCmp hn, Cmp.den]
  · cases h
theorem within_ok : tab.ok 68 := Tab.of_inl rfl rfl ⟨_, Try.func68, by decide, rfl⟩ (withinI_ok within_ct)
theorem between_ok : tab.ok 69 := Tab.of_inl rfl rfl ⟨_, Try.func69, by decide, rfl⟩ (withinI_ok between_ct)
theorem fair_ok : tab.ok 71 := Tab.of_inl rfl rfl ⟨_, Try.func71, by decide, rfl⟩ (fairI_ok fair_ct)
theorem shut_ok : tab.ok 73 := by
  refine Tab.of_ct rfl rfl ⟨_, Try.func73, by decide, rfl⟩ ?_ ctF_det
  refine ct_ok (cx := cshut) (Tab.cx_ok (all_cons ?_ all_nil)) Try.func73 (bds := []) (T := tshut) (by kernel_rfl) ?_
  · exact between_ok
  · unfold tshut
    simp only [VC, allC, List.map_cons, List.map_nil, List.length_cons, List.length_nil, List.getElem?_cons_zero, List.getElem?_cons_succ, List.cons.injEq, C.i.injEq, C.b.injEq, and_true, true_and, forall_const, kindsOf_nil, kindsOf_lf, kindsOf_agg, kindsOf_box, boxKinds_nil, boxKinds_lf, boxKinds_agg, boxKinds_box, List.append_nil, List.cons_append, List.nil_append, den_cmp_le, den_cmp_lt, den_cmp_eq, den_cmp_ne, den_cmp_le', den_cmp_lt', den_cmp_eq', den_cmp_ne', den_and, den_and', den_or, den_or', den_not, den_not', den_blit, den_of, ev_var, at_0, at_1, at_2, at_3, at_4, at_5, at_6, at_7, at_skip, c_int, c_bool, c_arr, c_cnt, c_vec, ev_nil, ev_join, ev_sub3, loc_s, int_i, bool_b, rows_s, cs_nil, cs_cons, E.den_lit, E.den_var, E.den_add, E.den_sub, E.den_mul, E.den_quo, E.den_rem, E.den_max, E.den_min, E.den_len, E.den_wr, E.den_cell, ctShut, ctF, shutSh]
    intro pl _ _ ph _ _ cl _ _ ch _ _ gl _ _ gh _ _ we _ _ de _ _ ar _ _
    refine ⟨bds_nil _, fun v => ⟨fun xs => match xs with | [.i r, .i k] => r = 0 ∧ 0 ≤ k ∧ k ≤ 2 ∧ (0 < k → 0 ≤ pl ∧ pl ≤ ph ∧ ph ≤ 68719476736) ∧ (1 < k → 0 ≤ cl ∧ cl ≤ ch ∧ ch ≤ 68719476736) | _ => False,
      fun xs => match xs with | [_, .i k] => (2 - k).toNat | _ => 0, ⟨rfl, by omega, by omega, by omega, by omega⟩, ?_⟩⟩
    rintro r _ _ k _ _ ⟨rfl, k0, k2, p1, p2⟩
    have no : ¬ ShutOK pl ph cl ch gl gh we de ar → 2 = shutE pl ph cl ch gl gh we de ar := fun h => by simp [shutE, h]
    unfold ShutOK at no
    refine ⟨fun hk => ?_, fun hk => ?_⟩
    · rcases (by omega : k = 0 ∨ k = 1) with rfl | rfl <;> simp [cell_at, int_i] <;> exact ⟨fun h => no (by omega), fun h1 => ⟨fun h => no (by omega), fun h2 => ⟨fun h => no (by omega), by omega⟩⟩⟩
    · have hp1 := p1 (by omega)
      have hp2 := p2 (by omega)
      refine ⟨fun h => no (by omega), fun h1 => ⟨fun h => no (by omega), fun h2 => ⟨fun h => no (by omega), fun h3 => ⟨fun h => no (by omega), fun h4 => ⟨fun h => no (by omega), fun h5 => ⟨fun h => no (by omega), fun h6 => ?_⟩⟩⟩⟩⟩⟩
      have yes : ShutOK pl ph cl ch gl gh we de ar := by unfold ShutOK; omega
      refine ⟨fun h => ?_, fun h => ?_⟩
      · simp [shutE, yes, h]
      · simp [shutE, yes]; omega
end Go.Proofs.Ytlbgcjpkegpmlaa
/- Identify, of the program and of the reference. -/
namespace Go.Proofs.Ytlbgcjpkegpmlaa
open Go.RowKit
set_option linter.unusedSimpArgs false
set_option linter.unusedVariables false

theorem div_ge {a b : Int} (hb : 0 < b) (h : b ≤ a) : 1 ≤ a / b := Int.le_ediv_of_mul_le hb (by omega)
theorem neg_floor {g a : Int} (ha : 0 < a) : -(-g / a) = (g + a - 1) / a := by
  have h1 := Int.mul_ediv_add_emod (-g) a
  have h2 := Int.emod_nonneg (-g) (by omega : a ≠ 0)
  have h3 := Int.emod_lt_of_pos (-g) ha
  have h4 : g + a - 1 = a * (-(-g / a)) + (a - 1 - (-g) % a) := by rw [Int.mul_neg]; omega
  have h5 : (a - 1 - (-g) % a + a * (-(-g / a))) / a = (a - 1 - (-g) % a) / a + -(-g / a) := Int.add_mul_ediv_left _ _ (by omega : a ≠ 0)
  have h6 : (a - 1 - (-g) % a) / a = 0 := Int.ediv_eq_zero_of_lt (by omega) (by omega)
  rw [h4, Int.add_comm, h5, h6]
  omega
theorem identL_no {pl ph cl ch gl gh we de ar e : Int} (h : shutE pl ph cl ch gl gh we de ar = e) (he : e ≠ 0) : [C.i 0, C.i 0, C.i 0, C.i 0, C.i 0, C.i 0, C.i 0, C.i e] = identL pl ph cl ch gl gh we de ar := by
  unfold identL
  rw [if_neg (by omega), h]
theorem identL_yes {pl ph cl ch gl gh we de ar a b c d e f k : Int} (h : shutE pl ph cl ch gl gh we de ar = 0) (ha : a = pl + we * de) (hb : b = ph + we * de) (hc : c = gl / ar) (hd : d = (gh + ar - 1) / ar)
    (he : e = we + (pl - ch) / (gl / ar)) (hf : f = we - (cl - ph) / ((gh + ar - 1) / ar)) (hk : k = kindW e f) : [C.i a, C.i b, C.i c, C.i d, C.i e, C.i f, C.i k, C.i 0] = identL pl ph cl ch gl gh we de ar := by
  unfold identL
  rw [if_pos h]
  subst ha hb hc hd he hf hk
  rfl
theorem shutE_2 {pl ph cl ch gl gh we de ar : Int} (h : ¬ ShutOK pl ph cl ch gl gh we de ar) : shutE pl ph cl ch gl gh we de ar = 2 := by unfold shutE; rw [if_neg h]
theorem shutE_11 {pl ph cl ch gl gh we de ar : Int} (h : ShutOK pl ph cl ch gl gh we de ar) (h' : cl < ph) : shutE pl ph cl ch gl gh we de ar = 11 := by unfold shutE; rw [if_pos h, if_pos h']
theorem shutE_0 {pl ph cl ch gl gh we de ar : Int} (h : ShutOK pl ph cl ch gl gh we de ar) (h' : ph ≤ cl) : shutE pl ph cl ch gl gh we de ar = 0 := by unfold shutE; rw [if_pos h, if_neg (by omega)]
theorem ident_ok : tab.ok 31 := by
  refine Tab.of_ct rfl rfl ⟨_, Try.func31, by decide, rfl⟩ ?_ ctF_det
  refine ct_ok (cx := cident) (Tab.cx_ok (all_cons fair_ok (all_cons within_ok (all_cons floor_ok all_nil)))) Try.func31 (bds := []) (T := tident) (by kernel_rfl) ?_
  unfold tident
  simp only [VC, allC, List.map_cons, List.map_nil, List.length_cons, List.length_nil, List.getElem?_cons_zero, List.getElem?_cons_succ, List.cons.injEq, C.i.injEq, C.b.injEq, and_true, true_and, forall_const, kindsOf_nil, kindsOf_lf, kindsOf_agg, kindsOf_box, boxKinds_nil, boxKinds_lf, boxKinds_agg, boxKinds_box, List.append_nil, List.cons_append, List.nil_append, den_cmp_le, den_cmp_lt, den_cmp_eq, den_cmp_ne, den_cmp_le', den_cmp_lt', den_cmp_eq', den_cmp_ne', den_and, den_and', den_or, den_or', den_not, den_not', den_blit, den_of, ev_var, at_0, at_1, at_2, at_3, at_4, at_5, at_6, at_7, at_skip, c_int, c_bool, c_arr, c_cnt, c_vec, ev_nil, ev_join, ev_sub3, loc_s, int_i, bool_b, rows_s, cs_nil, cs_cons, E.den_lit, E.den_var, E.den_add, E.den_sub, E.den_mul, E.den_quo, E.den_rem, E.den_max, E.den_min, E.den_len, E.den_wr, E.den_cell, ctIdent, ctF, shutSh, ingSh, show cident.ct 72 = some ctFloor from rfl, ctFloor]
  intro pl _ _ ph _ _ cl _ _ ch _ _ gl _ _ gh _ _ we _ _ de _ _ ar _ _
  have no : ¬ ShutOK pl ph cl ch gl gh we de ar → [C.i 0, C.i 0, C.i 0, C.i 0, C.i 0, C.i 0, C.i 0, C.i 2] = identL pl ph cl ch gl gh we de ar := fun h => identL_no (shutE_2 h) (by omega)
  unfold ShutOK at no
  refine ⟨bds_nil _, fun h => no (by omega), fun h1 => ⟨fun h => no (by omega), fun h2 => ⟨fun h => no (by omega), fun h3 => ⟨fun h => no (by omega), fun h4 => ⟨fun h => no (by omega), fun h5 => ⟨fun h => no (by omega), fun h6 => ?_⟩⟩⟩⟩⟩⟩
  have yes : ShutOK pl ph cl ch gl gh we de ar := by unfold ShutOK; omega
  clear no
  refine ⟨fun h => identL_no (shutE_11 yes h) (by omega), fun h7 => ?_⟩
  have m := mul_bd (a := we) (b := de) (A := 40000) (B := 1048576) (by omega) (by omega) (by omega) (by omega)
  have t1 : gl.tdiv ar = gl / ar := Int.tdiv_eq_ediv_of_nonneg (by omega)
  have t2 : (gh + ar - 1).tdiv ar = (gh + ar - 1) / ar := Int.tdiv_eq_ediv_of_nonneg (by omega)
  rw [t1, t2]
  have d1 := div_ge (a := gl) (b := ar) (by omega) (by omega)
  have d2 := div_ge (a := gh + ar - 1) (b := ar) (by omega) (by omega)
  have q1 := ediv_bd (a := pl - ch) (b := gl / ar) (by omega)
  have q2 := ediv_bd (a := cl - ph) (b := (gh + ar - 1) / ar) (by omega)
  have res := fun a b c d e f k => @identL_yes pl ph cl ch gl gh we de ar a b c d e f k (shutE_0 yes h7)
  refine ⟨by omega, by omega, ?_⟩
  rintro n _ _ rfl
  refine ⟨by omega, by omega, ?_⟩
  rintro n _ _ rfl
  refine ⟨by omega, fun k1 => ⟨by omega, by omega, by omega, res _ _ _ _ _ _ _ rfl rfl rfl rfl rfl rfl ?_⟩, fun k1 => ⟨fun k2 => ⟨by omega, by omega, by omega, res _ _ _ _ _ _ _ rfl rfl rfl rfl rfl rfl ?_⟩,
    fun k2 => ⟨fun k3 => ⟨fun k4 => ⟨by omega, by omega, by omega, res _ _ _ _ _ _ _ rfl rfl rfl rfl rfl rfl ?_⟩, fun k4 => ⟨by omega, by omega, by omega, res _ _ _ _ _ _ _ rfl rfl rfl rfl rfl rfl ?_⟩⟩, fun k3 => ⟨by omega, by omega, by omega, res _ _ _ _ _ _ _ rfl rfl rfl rfl rfl rfl ?_⟩⟩⟩⟩
  all_goals (unfold kindW; repeat' split)
  all_goals omega
theorem rident_ok : tab.ok 32 := by
  refine Tab.of_ct rfl rfl ⟨_, Try.func32, by decide, rfl⟩ ?_ ctF_det
  refine ct_ok (cx := crident) (Tab.cx_ok (all_cons shut_ok (all_cons rfloor_ok all_nil))) Try.func32 (bds := []) (T := trident) (by kernel_rfl) ?_
  unfold trident
  simp only [VC, allC, List.map_cons, List.map_nil, List.length_cons, List.length_nil, List.getElem?_cons_zero, List.getElem?_cons_succ, List.cons.injEq, C.i.injEq, C.b.injEq, and_true, true_and, forall_const, kindsOf_nil, kindsOf_lf, kindsOf_agg, kindsOf_box, boxKinds_nil, boxKinds_lf, boxKinds_agg, boxKinds_box, List.append_nil, List.cons_append, List.nil_append, den_cmp_le, den_cmp_lt, den_cmp_eq, den_cmp_ne, den_cmp_le', den_cmp_lt', den_cmp_eq', den_cmp_ne', den_and, den_and', den_or, den_or', den_not, den_not', den_blit, den_of, ev_var, at_0, at_1, at_2, at_3, at_4, at_5, at_6, at_7, at_skip, c_int, c_bool, c_arr, c_cnt, c_vec, ev_nil, ev_join, ev_sub3, loc_s, int_i, bool_b, rows_s, cs_nil, cs_cons, E.den_lit, E.den_var, E.den_add, E.den_sub, E.den_mul, E.den_quo, E.den_rem, E.den_max, E.den_min, E.den_len, E.den_wr, E.den_cell, ctIdent, ctF, shutSh, ingSh, show crident.ct 74 = some ctFloor from rfl, ctFloor, show crident.ct 73 = some ctShut from rfl, ctShut]
  intro pl _ _ ph _ _ cl _ _ ch _ _ gl _ _ gh _ _ we _ _ de _ _ ar _ _
  refine ⟨bds_nil _, ?_⟩
  rintro e _ _ rfl
  refine ⟨fun h => identL_no rfl h, fun h0 => ?_⟩
  have yes : ShutOK pl ph cl ch gl gh we de ar ∧ ph ≤ cl := by
    unfold shutE at h0
    split at h0
    · split at h0
      · omega
      · exact ⟨by assumption, by omega⟩
    · omega
  obtain ⟨yes', h7⟩ := yes
  have res := fun a b c d e f k => @identL_yes pl ph cl ch gl gh we de ar a b c d e f k (shutE_0 yes' h7)
  unfold ShutOK at yes'
  have m := mul_bd (a := we) (b := de) (A := 40000) (B := 1048576) (by omega) (by omega) (by omega) (by omega)
  have nf := neg_floor (g := gh) (a := ar) (by omega)
  rw [← Int.zero_sub gh] at nf
  have d1 := div_ge (a := gl) (b := ar) (by omega) (by omega)
  have d2 := div_ge (a := gh + ar - 1) (b := ar) (by omega) (by omega)
  have q1 := ediv_bd (a := pl - ch) (b := gl / ar) (by omega)
  have q2 := ediv_bd (a := cl - ph) (b := (gh + ar - 1) / ar) (by omega)
  have q3 := (ediv_bd (a := gh + ar - 1) (b := ar) (by omega)).1 (by omega)
  refine ⟨by omega, by omega, by omega, by omega, ?_⟩
  rintro n _ _ rfl
  refine ⟨by omega, by omega, by omega, ?_⟩
  intro n1 _ _ e1
  have e2 : 0 - n1 = (gh + ar - 1) / ar := by rw [e1]; omega
  rw [e2]
  refine ⟨by omega, by omega, by omega, by omega, ?_⟩
  rintro n2 _ _ rfl
  refine ⟨by omega, by omega, by omega, by omega, by omega, ?_⟩
  rintro n3 _ _ rfl
  refine ⟨by omega, fun k1 => ⟨by omega, by omega, by omega, by omega, by omega, res _ _ _ _ _ _ _ rfl rfl rfl rfl rfl rfl ?_⟩, fun k1 => ⟨fun k2 => ⟨by omega, by omega, by omega, by omega, by omega, res _ _ _ _ _ _ _ rfl rfl rfl rfl rfl rfl ?_⟩,
    fun k2 => ⟨fun k3 => ⟨fun k4 => ⟨by omega, by omega, by omega, by omega, by omega, res _ _ _ _ _ _ _ rfl rfl rfl rfl rfl rfl ?_⟩, fun k4 => ⟨by omega, by omega, by omega, by omega, by omega, res _ _ _ _ _ _ _ rfl rfl rfl rfl rfl rfl ?_⟩⟩, fun k3 => ⟨by omega, by omega, by omega, by omega, by omega, res _ _ _ _ _ _ _ rfl rfl rfl rfl rfl rfl ?_⟩⟩⟩⟩
  all_goals (unfold kindW; repeat' split)
  all_goals omega
theorem finds_ok (awake_ok : tab.ok 19) : CtOK Try.prog 6 (ctLaw [shutSh]) := by
  refine ct_ok (cx := cfinds) (Tab.cx_ok (all_cons ident_ok (all_cons rident_ok (all_cons awake_ok all_nil)))) Try.func6 (bds := []) (T := tfinds) (by kernel_rfl) ?_
  unfold tfinds
  simp only [VC, allC, List.map_cons, List.map_nil, List.length_cons, List.length_nil, List.getElem?_cons_zero, List.getElem?_cons_succ, List.cons.injEq, C.i.injEq, C.b.injEq, and_true, true_and, forall_const, kindsOf_nil, kindsOf_lf, kindsOf_agg, kindsOf_box, boxKinds_nil, boxKinds_lf, boxKinds_agg, boxKinds_box, List.append_nil, List.cons_append, List.nil_append, den_cmp_le, den_cmp_lt, den_cmp_eq, den_cmp_ne, den_cmp_le', den_cmp_lt', den_cmp_eq', den_cmp_ne', den_and, den_and', den_or, den_or', den_not, den_not', den_blit, den_of, ev_var, at_0, at_1, at_2, at_3, at_4, at_5, at_6, at_7, at_skip, c_int, c_bool, c_arr, c_cnt, c_vec, ev_nil, ev_join, ev_sub3, loc_s, int_i, bool_b, rows_s, cs_nil, cs_cons, E.den_lit, E.den_var, E.den_add, E.den_sub, E.den_mul, E.den_quo, E.den_rem, E.den_max, E.den_min, E.den_len, E.den_wr, E.den_cell, ctLaw, ctF, shutSh, ingSh, show cfinds.ct 31 = some ctIdent from rfl, show cfinds.ct 32 = some ctIdent from rfl, ctIdent, show cfinds.ct 19 = some ctAwake from rfl, ctAwake]
  intro pl _ _ ph _ _ cl _ _ ch _ _ gl _ _ gh _ _ we _ _ de _ _ ar _ _
  refine ⟨bds_nil _, ?_⟩
  intro a0 _ _ a1 _ _ a2 _ _ a3 _ _ a4 _ _ a5 _ _ a6 _ _ a7 _ _ e1 b0 _ _ b1 _ _ b2 _ _ b3 _ _ b4 _ _ b5 _ _ b6 _ _ b7 _ _ e2
  have e := e1.trans e2.symm
  simp only [List.cons.injEq, C.i.injEq, and_true] at e
  obtain ⟨rfl, rfl, rfl, rfl, rfl, rfl, rfl, rfl⟩ := e
  simp
end Go.Proofs.Ytlbgcjpkegpmlaa
/- The ring of numbers, by the engine. -/
namespace Go.Proofs.Ytlbgcjpkegpmlaa
open Go.RowKit
set_option linter.unusedSimpArgs false
set_option linter.unusedVariables false

theorem emod_tmod {n m : Int} (hm : 0 < m) : (n.tmod m < 0 → n % m = n.tmod m + m) ∧ (0 ≤ n.tmod m → n % m = n.tmod m) ∧ 0 ≤ n % m ∧ n % m < m ∧ -m < n.tmod m ∧ n.tmod m < m := by
  have h1 := Int.emod_nonneg n (show m ≠ 0 by omega)
  have h2 := Int.emod_lt_of_pos n hm
  rw [Int.tmod_eq_emod]
  by_cases h : 0 ≤ n ∨ m ∣ n
  · rw [if_pos h]
    omega
  · rw [if_neg h]
    have h3 : ((m.natAbs : Nat) : Int) = m := by omega
    rw [h3]
    have h0 : n % m ≠ 0 := fun e => h (.inr (Int.dvd_of_emod_eq_zero e))
    omega
theorem mod_ok : tab.ok 28 := by
  refine Tab.of_ct rfl rfl ⟨_, Try.func28, by decide, rfl⟩ ?_ ctF_det
  refine ct_ok (cx := cmod) (Tab.cx_ok all_nil) Try.func28 (bds := []) (T := tmod) (by kernel_rfl) ?_
  unfold tmod
  simp only [VC, allC, List.map_cons, List.map_nil, List.length_cons, List.length_nil, List.getElem?_cons_zero, List.getElem?_cons_succ, List.cons.injEq, C.i.injEq, C.b.injEq, and_true, true_and, forall_const, kindsOf_nil, kindsOf_lf, kindsOf_agg, kindsOf_box, boxKinds_nil, boxKinds_lf, boxKinds_agg, boxKinds_box, List.append_nil, List.cons_append, List.nil_append, den_cmp_le, den_cmp_lt, den_cmp_eq, den_cmp_ne, den_cmp_le', den_cmp_lt', den_cmp_eq', den_cmp_ne', den_and, den_and', den_or, den_or', den_not, den_not', den_blit, den_of, ev_var, at_0, at_1, at_2, at_3, at_4, at_5, at_6, at_7, at_skip, c_int, c_bool, c_arr, c_cnt, c_vec, ev_nil, ev_join, ev_sub3, loc_s, int_i, bool_b, rows_s, cs_nil, cs_cons, E.den_lit, E.den_var, E.den_add, E.den_sub, E.den_mul, E.den_quo, E.den_rem, E.den_max, E.den_min, E.den_len, E.den_wr, E.den_cell, ctMod, ctF]; rintro n n1 n2 m m1 m2 ⟨p1, p2⟩; obtain ⟨e1, e2, e3, e4, e5, e6⟩ := emod_tmod (n := n) (m := m) (by omega); refine ⟨bds_nil _, by omega, fun h => ⟨by omega, by omega, ?_⟩, fun h => ⟨by omega, ?_⟩⟩; all_goals omega
theorem mod64_ok : tab.ok 22 := by
  refine Tab.of_ct rfl rfl ⟨_, Try.func22, by decide, rfl⟩ ?_ ctF_det
  refine ct_ok (cx := cmod64) (Tab.cx_ok all_nil) Try.func22 (bds := []) (T := tmod64) (by kernel_rfl) ?_
  unfold tmod64
  simp only [VC, allC, List.map_cons, List.map_nil, List.length_cons, List.length_nil, List.getElem?_cons_zero, List.getElem?_cons_succ, List.cons.injEq, C.i.injEq, C.b.injEq, and_true, true_and, forall_const, kindsOf_nil, kindsOf_lf, kindsOf_agg, kindsOf_box, boxKinds_nil, boxKinds_lf, boxKinds_agg, boxKinds_box, List.append_nil, List.cons_append, List.nil_append, den_cmp_le, den_cmp_lt, den_cmp_eq, den_cmp_ne, den_cmp_le', den_cmp_lt', den_cmp_eq', den_cmp_ne', den_and, den_and', den_or, den_or', den_not, den_not', den_blit, den_of, ev_var, at_0, at_1, at_2, at_3, at_4, at_5, at_6, at_7, at_skip, c_int, c_bool, c_arr, c_cnt, c_vec, ev_nil, ev_join, ev_sub3, loc_s, int_i, bool_b, rows_s, cs_nil, cs_cons, E.den_lit, E.den_var, E.den_add, E.den_sub, E.den_mul, E.den_quo, E.den_rem, E.den_max, E.den_min, E.den_len, E.den_wr, E.den_cell, ctMod, ctF]; rintro n n1 n2 m m1 m2 ⟨p1, p2⟩; obtain ⟨e1, e2, e3, e4, e5, e6⟩ := emod_tmod (n := n) (m := m) (by omega); refine ⟨bds_nil _, by omega, fun h => ⟨by omega, by omega, ?_⟩, fun h => ⟨by omega, ?_⟩⟩; all_goals omega
theorem newring_ok : tab.ok 21 := by
  refine Tab.of_ct rfl rfl ⟨_, Try.func21, by decide, rfl⟩ ?_ ctF_det
  refine ct_ok (cx := cnewring) (Tab.cx_ok all_nil) Try.func21 (bds := []) (T := tnewring) (by kernel_rfl) ?_
  unfold tnewring
  simp only [VC, allC, List.map_cons, List.map_nil, List.length_cons, List.length_nil, List.getElem?_cons_zero, List.getElem?_cons_succ, List.cons.injEq, C.i.injEq, C.b.injEq, and_true, true_and, forall_const, kindsOf_nil, kindsOf_lf, kindsOf_agg, kindsOf_box, boxKinds_nil, boxKinds_lf, boxKinds_agg, boxKinds_box, List.append_nil, List.cons_append, List.nil_append, den_cmp_le, den_cmp_lt, den_cmp_eq, den_cmp_ne, den_cmp_le', den_cmp_lt', den_cmp_eq', den_cmp_ne', den_and, den_and', den_or, den_or', den_not, den_not', den_blit, den_of, ev_var, at_0, at_1, at_2, at_3, at_4, at_5, at_6, at_7, at_skip, c_int, c_bool, c_arr, c_cnt, c_vec, ev_nil, ev_join, ev_sub3, loc_s, int_i, bool_b, rows_s, cs_nil, cs_cons, E.den_lit, E.den_var, E.den_add, E.den_sub, E.den_mul, E.den_quo, E.den_rem, E.den_max, E.den_min, E.den_len, E.den_wr, E.den_cell, ctNewRing, ctF, ringSh]
  intro v rows d _ _
  exact bds_nil _
theorem next_ok : tab.ok 26 := by
  refine Tab.of_ct rfl rfl ⟨_, Try.func26, by decide, rfl⟩ ?_ (fun h => by cases h)
  refine ct_ok (cx := cnext) (Tab.cx_ok (all_cons mod_ok all_nil)) Try.func26 (bds := [(1, 0, 1000000)]) (T := tnext) (by kernel_rfl) ?_
  unfold tnext
  simp only [VC, allC, List.map_cons, List.map_nil, List.length_cons, List.length_nil, List.getElem?_cons_zero, List.getElem?_cons_succ, List.cons.injEq, C.i.injEq, C.b.injEq, and_true, true_and, forall_const, kindsOf_nil, kindsOf_lf, kindsOf_agg, kindsOf_box, boxKinds_nil, boxKinds_lf, boxKinds_agg, boxKinds_box, List.append_nil, List.cons_append, List.nil_append, den_cmp_le, den_cmp_lt, den_cmp_eq, den_cmp_ne, den_cmp_le', den_cmp_lt', den_cmp_eq', den_cmp_ne', den_and, den_and', den_or, den_or', den_not, den_not', den_blit, den_of, ev_var, at_0, at_1, at_2, at_3, at_4, at_5, at_6, at_7, at_skip, c_int, c_bool, c_arr, c_cnt, c_vec, ev_nil, ev_join, ev_sub3, loc_s, int_i, bool_b, rows_s, cs_nil, cs_cons, E.den_lit, E.den_var, E.den_add, E.den_sub, E.den_mul, E.den_quo, E.den_rem, E.den_max, E.den_min, E.den_len, E.den_wr, E.den_cell, ctNext, ctF, ringSh, show cnext.ct 28 = some ctMod from rfl, ctMod]
  rintro v rows d hty hsm at_ a1 a2 n n1 n2 ⟨p1, p2, p3⟩
  have hb : Bds.ok [(1, 0, 1000000)] [C.s v rows, C.i at_, C.i n] := by
    intro x lo hi hx
    simp only [List.mem_cons, Prod.mk.injEq, List.not_mem_nil, or_false] at hx
    obtain ⟨rfl, rfl, rfl⟩ := hx
    exact ⟨by simp, p1, p2⟩
  have r1 : 0 ≤ ((at_ + 1) * 7919).tmod 10007 := Int.tmod_nonneg _ (by omega)
  have r2 : ((at_ + 1) * 7919).tmod 10007 < 10007 := Int.tmod_lt_of_pos _ (by omega)
  refine ⟨hb, fun hL => ?_, fun hL => ⟨by omega, Int.tmod_nonneg _ r1, Int.tmod_lt_of_pos _ (by omega)⟩⟩
  generalize (rows.length : Int) = L at *
  have e1 : (at_ + 1).tmod L < L := Int.tmod_lt_of_pos _ hL
  have e2 : 0 ≤ (at_ + 1).tdiv L := Int.tdiv_nonneg (by omega) (by omega)
  refine ⟨by omega, e1, by omega, by omega, ?_⟩
  rintro m _ _ hm
  have m1 : 0 ≤ m := by rw [hm]; exact Int.emod_nonneg _ (by omega)
  have m2 : m < 1048576 := by rw [hm]; exact Int.emod_lt_of_pos _ (by omega)
  have q : m.tdiv (1 + (at_ + 1).tdiv L) = m / (1 + (at_ + 1).tdiv L) := Int.tdiv_eq_ediv_of_nonneg m1
  obtain ⟨q1, q2⟩ := (ediv_bd (a := m) (b := 1 + (at_ + 1).tdiv L) (by omega)).1 m1
  rw [q]
  generalize m / (1 + (at_ + 1).tdiv L) = k at *
  have t1 : 0 ≤ (((at_ + 1) * 7919).tmod 10007 + k).tmod n := Int.tmod_nonneg _ (by omega)
  have t2 : (((at_ + 1) * 7919).tmod 10007 + k).tmod n < n := Int.tmod_lt_of_pos _ (by omega)
  refine ⟨by omega, by omega, by omega, by omega, t1, t2⟩
theorem kickof_ok : tab.ok 20 := by
  refine Tab.of_ct rfl rfl ⟨_, Try.func20, by decide, rfl⟩ ?_ (fun h => by cases h)
  refine ct_ok (cx := ckickof) (Tab.cx_ok (all_cons next_ok all_nil)) Try.func20 (bds := []) (T := tkickof) (by kernel_rfl) ?_
  unfold tkickof
  simp only [VC, allC, List.map_cons, List.map_nil, List.length_cons, List.length_nil, List.getElem?_cons_zero, List.getElem?_cons_succ, List.cons.injEq, C.i.injEq, C.b.injEq, and_true, true_and, forall_const, kindsOf_nil, kindsOf_lf, kindsOf_agg, kindsOf_box, boxKinds_nil, boxKinds_lf, boxKinds_agg, boxKinds_box, List.append_nil, List.cons_append, List.nil_append, den_cmp_le, den_cmp_lt, den_cmp_eq, den_cmp_ne, den_cmp_le', den_cmp_lt', den_cmp_eq', den_cmp_ne', den_and, den_and', den_or, den_or', den_not, den_not', den_blit, den_of, ev_var, at_0, at_1, at_2, at_3, at_4, at_5, at_6, at_7, at_skip, c_int, c_bool, c_arr, c_cnt, c_vec, ev_nil, ev_join, ev_sub3, loc_s, int_i, bool_b, rows_s, cs_nil, cs_cons, E.den_lit, E.den_var, E.den_add, E.den_sub, E.den_mul, E.den_quo, E.den_rem, E.den_max, E.den_min, E.den_len, E.den_wr, E.den_cell, ctKickOf, atPre, ringSh, show ckickof.ct 26 = some ctNext from rfl, ctNext]
  rintro v rows d hty hsm at_ a1 a2 ⟨p1, p2⟩
  refine ⟨bds_nil _, by omega, ?_⟩
  rintro x0 _ _ v0 rows0 d0 _ _ at0 _ _ ⟨x1, x2, rfl, rfl, rfl⟩
  refine ⟨by omega, ?_⟩
  rintro y0 _ _ v1 rows1 d1 _ _ at1 _ _ ⟨y1, y2, rfl, rfl, rfl⟩
  have m := mul_bd (a := x0) (b := y0) (A := 2) (B := 4999) (by omega) (by omega) (by omega) (by omega)
  refine ⟨by omega, by omega, ?_⟩
  rintro z0 _ _ v2 rows2 d2 _ _ at2 _ _ ⟨z1, z2, rfl, rfl, rfl⟩
  refine ⟨by omega, ?_⟩
  rintro u0 _ _ v3 rows3 d3 _ _ at3 _ _ ⟨u1, u2, rfl, rfl, rfl⟩
  have m' := mul_bd (a := z0) (b := u0) (A := 1) (B := 299) (by omega) (by omega) (by omega) (by omega)
  refine ⟨by omega, by omega, by omega, by omega, by omega, by omega, by omega, rfl, rfl, by omega⟩
theorem lwithin_ok : tab.ok 34 := by
  refine Tab.of_ct rfl rfl ⟨_, Try.func34, by decide, rfl⟩ ?_ ctF_det
  refine ct_ok (cx := clwithin) (Tab.cx_ok (all_cons mod64_ok all_nil)) Try.func34 (bds := []) (T := tlwithin) (by kernel_rfl) ?_
  unfold tlwithin
  simp only [VC, allC, List.map_cons, List.map_nil, List.length_cons, List.length_nil, List.getElem?_cons_zero, List.getElem?_cons_succ, List.cons.injEq, C.i.injEq, C.b.injEq, and_true, true_and, forall_const, kindsOf_nil, kindsOf_lf, kindsOf_agg, kindsOf_box, boxKinds_nil, boxKinds_lf, boxKinds_agg, boxKinds_box, List.append_nil, List.cons_append, List.nil_append, den_cmp_le, den_cmp_lt, den_cmp_eq, den_cmp_ne, den_cmp_le', den_cmp_lt', den_cmp_eq', den_cmp_ne', den_and, den_and', den_or, den_or', den_not, den_not', den_blit, den_of, ev_var, at_0, at_1, at_2, at_3, at_4, at_5, at_6, at_7, at_skip, c_int, c_bool, c_arr, c_cnt, c_vec, ev_nil, ev_join, ev_sub3, loc_s, int_i, bool_b, rows_s, cs_nil, cs_cons, E.den_lit, E.den_var, E.den_add, E.den_sub, E.den_mul, E.den_quo, E.den_rem, E.den_max, E.den_min, E.den_len, E.den_wr, E.den_cell, ctLWithin, ctF, show clwithin.ct 22 = some ctMod from rfl, ctMod]
  rintro lo l1 l2 hi h1 h2 n n1 n2 ⟨p1, p2, p3⟩
  obtain ⟨e1, e2, e3, e4, e5, e6⟩ := emod_tmod (n := n) (m := hi - lo + 1) (by omega)
  refine ⟨bds_nil _, ?_⟩
  repeat (refine And.intro (by omega) ?_)
  rintro m _ _ rfl
  repeat (refine And.intro (by omega) ?_)
  rfl
theorem lin_ct : CtOK Try.prog 35 ctIn := by
  refine ct_ok (cx := clin) (Tab.cx_ok all_nil) Try.func35 (bds := []) (T := tlin) (by kernel_rfl) ?_
  unfold tlin
  simp only [VC, allC, List.map_cons, List.map_nil, List.length_cons, List.length_nil, List.getElem?_cons_zero, List.getElem?_cons_succ, List.cons.injEq, C.i.injEq, C.b.injEq, and_true, true_and, forall_const, kindsOf_nil, kindsOf_lf, kindsOf_agg, kindsOf_box, boxKinds_nil, boxKinds_lf, boxKinds_agg, boxKinds_box, List.append_nil, List.cons_append, List.nil_append, den_cmp_le, den_cmp_lt, den_cmp_eq, den_cmp_ne, den_cmp_le', den_cmp_lt', den_cmp_eq', den_cmp_ne', den_and, den_and', den_or, den_or', den_not, den_not', den_blit, den_of, ev_var, at_0, at_1, at_2, at_3, at_4, at_5, at_6, at_7, at_skip, c_int, c_bool, c_arr, c_cnt, c_vec, ev_nil, ev_join, ev_sub3, loc_s, int_i, bool_b, rows_s, cs_nil, cs_cons, E.den_lit, E.den_var, E.den_add, E.den_sub, E.den_mul, E.den_quo, E.den_rem, E.den_max, E.den_min, E.den_len, E.den_wr, E.den_cell, ctIn, ctF]
  intro a a1 a2 b b1 b2 c c1 c2 d d1 d2
  refine ⟨bds_nil _, fun h => ?_, fun h => ?_⟩
  · simp [B.den, Cmp.den, E.den_var, at_zero, at_succ, int_i, h] <;> rfl
  · have h' := Int.not_le.2 h; simp [B.den, h']
theorem lin_ok : tab.ok 35 := Tab.of_inl rfl rfl ⟨_, Try.func35, by decide, rfl⟩ (by
  refine Inl.of_ct lin_ct fun bd ρ l obs s h hn ho => ?_
  unfold inI at h
  split at h
  · cases h
    refine ⟨rfl, rfl, ho, trivial, rfl, rfl, ?_⟩
    simp [cs_, cellsOf, S0.cellsM, S0.cells, Lf.c, B.den, B.den_mkCmp hn, Cmp.den]
  · cases h)
theorem shutof_ok : tab.ok 33 := by
  refine Tab.of_ct rfl rfl ⟨_, Try.func33, by decide, rfl⟩ ?_ (fun h => by cases h)
  refine ct_ok (cx := cshutof) (Tab.cx_ok (all_cons next_ok all_nil)) Try.func33 (bds := []) (T := tshutof) (by kernel_rfl) ?_
  have hct : cshutof.ct 26 = some ctNext := rfl
  unfold tshutof
  simp only [VC, allC, List.map_cons, List.map_nil, List.length_cons, List.length_nil, List.getElem?_cons_zero, List.getElem?_cons_succ, List.cons.injEq, C.i.injEq, C.b.injEq, and_true, true_and, forall_const, kindsOf_nil, kindsOf_lf, kindsOf_agg, kindsOf_box, boxKinds_nil, boxKinds_lf, boxKinds_agg, boxKinds_box, List.append_nil, List.cons_append, List.nil_append, den_cmp_le, den_cmp_lt, den_cmp_eq, den_cmp_ne, den_cmp_le', den_cmp_lt', den_cmp_eq', den_cmp_ne', den_and, den_and', den_or, den_or', den_not, den_not', den_blit, den_of, ev_var, at_0, at_1, at_2, at_3, at_4, at_5, at_6, at_7, at_skip, c_int, c_bool, c_arr, c_cnt, c_vec, ev_nil, ev_join, ev_sub3, loc_s, int_i, bool_b, rows_s, cs_nil, cs_cons, E.den_lit, E.den_var, E.den_add, E.den_sub, E.den_mul, E.den_quo, E.den_rem, E.den_max, E.den_min, E.den_len, E.den_wr, E.den_cell, ctShutOf, shutSh, atPre, ringSh, hct, ctNext]
  rintro v rows d hty hsm at_ a1 a2 ⟨p1, p2⟩
  refine ⟨bds_nil _, by omega, ?_⟩
  rintro r1 _ _ v1 w1 d1 _ _ k1 _ _ ⟨l1, u1, rfl, rfl, rfl⟩
  unfold tshutof_8
  simp only [VC, allC, List.map_cons, List.map_nil, List.length_cons, List.length_nil, List.getElem?_cons_zero, List.getElem?_cons_succ, List.cons.injEq, C.i.injEq, C.b.injEq, and_true, true_and, forall_const, kindsOf_nil, kindsOf_lf, kindsOf_agg, kindsOf_box, boxKinds_nil, boxKinds_lf, boxKinds_agg, boxKinds_box, List.append_nil, List.cons_append, List.nil_append, den_cmp_le, den_cmp_lt, den_cmp_eq, den_cmp_ne, den_cmp_le', den_cmp_lt', den_cmp_eq', den_cmp_ne', den_and, den_and', den_or, den_or', den_not, den_not', den_blit, den_of, ev_var, at_0, at_1, at_2, at_3, at_4, at_5, at_6, at_7, at_skip, c_int, c_bool, c_arr, c_cnt, c_vec, ev_nil, ev_join, ev_sub3, loc_s, int_i, bool_b, rows_s, cs_nil, cs_cons, E.den_lit, E.den_var, E.den_add, E.den_sub, E.den_mul, E.den_quo, E.den_rem, E.den_max, E.den_min, E.den_len, E.den_wr, E.den_cell, hct, ctNext, ringSh]
  repeat (refine And.intro (by omega) ?_)
  rintro r2 _ _ v2 w2 d2 _ _ k2 _ _ ⟨l2, u2, rfl, rfl, rfl⟩
  unfold tshutof_7
  simp only [VC, allC, List.map_cons, List.map_nil, List.length_cons, List.length_nil, List.getElem?_cons_zero, List.getElem?_cons_succ, List.cons.injEq, C.i.injEq, C.b.injEq, and_true, true_and, forall_const, kindsOf_nil, kindsOf_lf, kindsOf_agg, kindsOf_box, boxKinds_nil, boxKinds_lf, boxKinds_agg, boxKinds_box, List.append_nil, List.cons_append, List.nil_append, den_cmp_le, den_cmp_lt, den_cmp_eq, den_cmp_ne, den_cmp_le', den_cmp_lt', den_cmp_eq', den_cmp_ne', den_and, den_and', den_or, den_or', den_not, den_not', den_blit, den_of, ev_var, at_0, at_1, at_2, at_3, at_4, at_5, at_6, at_7, at_skip, c_int, c_bool, c_arr, c_cnt, c_vec, ev_nil, ev_join, ev_sub3, loc_s, int_i, bool_b, rows_s, cs_nil, cs_cons, E.den_lit, E.den_var, E.den_add, E.den_sub, E.den_mul, E.den_quo, E.den_rem, E.den_max, E.den_min, E.den_len, E.den_wr, E.den_cell, hct, ctNext, ringSh]
  repeat (refine And.intro (by omega) ?_)
  rintro r3 _ _ v3 w3 d3 _ _ k3 _ _ ⟨l3, u3, rfl, rfl, rfl⟩
  unfold tshutof_6
  simp only [VC, allC, List.map_cons, List.map_nil, List.length_cons, List.length_nil, List.getElem?_cons_zero, List.getElem?_cons_succ, List.cons.injEq, C.i.injEq, C.b.injEq, and_true, true_and, forall_const, kindsOf_nil, kindsOf_lf, kindsOf_agg, kindsOf_box, boxKinds_nil, boxKinds_lf, boxKinds_agg, boxKinds_box, List.append_nil, List.cons_append, List.nil_append, den_cmp_le, den_cmp_lt, den_cmp_eq, den_cmp_ne, den_cmp_le', den_cmp_lt', den_cmp_eq', den_cmp_ne', den_and, den_and', den_or, den_or', den_not, den_not', den_blit, den_of, ev_var, at_0, at_1, at_2, at_3, at_4, at_5, at_6, at_7, at_skip, c_int, c_bool, c_arr, c_cnt, c_vec, ev_nil, ev_join, ev_sub3, loc_s, int_i, bool_b, rows_s, cs_nil, cs_cons, E.den_lit, E.den_var, E.den_add, E.den_sub, E.den_mul, E.den_quo, E.den_rem, E.den_max, E.den_min, E.den_len, E.den_wr, E.den_cell, hct, ctNext, ringSh]
  repeat (refine And.intro (by omega) ?_)
  rintro r4 _ _ v4 w4 d4 _ _ k4 _ _ ⟨l4, u4, rfl, rfl, rfl⟩
  repeat (refine And.intro (by omega) ?_)
  rintro r5 _ _ v5 w5 d5 _ _ k5 _ _ ⟨l5, u5, rfl, rfl, rfl⟩
  repeat (refine And.intro (by omega) ?_)
  rintro r6 _ _ v6 w6 d6 _ _ k6 _ _ ⟨l6, u6, rfl, rfl, rfl⟩
  have m1 := mul_bd (a := r5) (b := r6) (A := 2) (B := 262143) (by omega) (by omega) (by omega) (by omega)
  unfold tshutof_5
  simp only [VC, allC, List.map_cons, List.map_nil, List.length_cons, List.length_nil, List.getElem?_cons_zero, List.getElem?_cons_succ, List.cons.injEq, C.i.injEq, C.b.injEq, and_true, true_and, forall_const, kindsOf_nil, kindsOf_lf, kindsOf_agg, kindsOf_box, boxKinds_nil, boxKinds_lf, boxKinds_agg, boxKinds_box, List.append_nil, List.cons_append, List.nil_append, den_cmp_le, den_cmp_lt, den_cmp_eq, den_cmp_ne, den_cmp_le', den_cmp_lt', den_cmp_eq', den_cmp_ne', den_and, den_and', den_or, den_or', den_not, den_not', den_blit, den_of, ev_var, at_0, at_1, at_2, at_3, at_4, at_5, at_6, at_7, at_skip, c_int, c_bool, c_arr, c_cnt, c_vec, ev_nil, ev_join, ev_sub3, loc_s, int_i, bool_b, rows_s, cs_nil, cs_cons, E.den_lit, E.den_var, E.den_add, E.den_sub, E.den_mul, E.den_quo, E.den_rem, E.den_max, E.den_min, E.den_len, E.den_wr, E.den_cell, hct, ctNext, ringSh]
  repeat (refine And.intro (by omega) ?_)
  rintro r7 _ _ v7 w7 d7 _ _ k7 _ _ ⟨l7, u7, rfl, rfl, rfl⟩
  repeat (refine And.intro (by omega) ?_)
  rintro r8 _ _ v8 w8 d8 _ _ k8 _ _ ⟨l8, u8, rfl, rfl, rfl⟩
  have m2 := mul_bd (a := r7) (b := 1 + r8) (A := 1048575) (B := 200) (by omega) (by omega) (by omega) (by omega)
  unfold tshutof_4
  simp only [VC, allC, List.map_cons, List.map_nil, List.length_cons, List.length_nil, List.getElem?_cons_zero, List.getElem?_cons_succ, List.cons.injEq, C.i.injEq, C.b.injEq, and_true, true_and, forall_const, kindsOf_nil, kindsOf_lf, kindsOf_agg, kindsOf_box, boxKinds_nil, boxKinds_lf, boxKinds_agg, boxKinds_box, List.append_nil, List.cons_append, List.nil_append, den_cmp_le, den_cmp_lt, den_cmp_eq, den_cmp_ne, den_cmp_le', den_cmp_lt', den_cmp_eq', den_cmp_ne', den_and, den_and', den_or, den_or', den_not, den_not', den_blit, den_of, ev_var, at_0, at_1, at_2, at_3, at_4, at_5, at_6, at_7, at_skip, c_int, c_bool, c_arr, c_cnt, c_vec, ev_nil, ev_join, ev_sub3, loc_s, int_i, bool_b, rows_s, cs_nil, cs_cons, E.den_lit, E.den_var, E.den_add, E.den_sub, E.den_mul, E.den_quo, E.den_rem, E.den_max, E.den_min, E.den_len, E.den_wr, E.den_cell, hct, ctNext, ringSh]
  repeat (refine And.intro (by omega) ?_)
  rintro r9 _ _ v9 w9 d9 _ _ k9 _ _ ⟨l9, u9, rfl, rfl, rfl⟩
  repeat (refine And.intro (by omega) ?_)
  rintro r10 _ _ v10 w10 d10 _ _ k10 _ _ ⟨l10, u10, rfl, rfl, rfl⟩
  have m3 := mul_bd (a := r9) (b := r10) (A := 2) (B := 262143) (by omega) (by omega) (by omega) (by omega)
  unfold tshutof_3
  simp only [VC, allC, List.map_cons, List.map_nil, List.length_cons, List.length_nil, List.getElem?_cons_zero, List.getElem?_cons_succ, List.cons.injEq, C.i.injEq, C.b.injEq, and_true, true_and, forall_const, kindsOf_nil, kindsOf_lf, kindsOf_agg, kindsOf_box, boxKinds_nil, boxKinds_lf, boxKinds_agg, boxKinds_box, List.append_nil, List.cons_append, List.nil_append, den_cmp_le, den_cmp_lt, den_cmp_eq, den_cmp_ne, den_cmp_le', den_cmp_lt', den_cmp_eq', den_cmp_ne', den_and, den_and', den_or, den_or', den_not, den_not', den_blit, den_of, ev_var, at_0, at_1, at_2, at_3, at_4, at_5, at_6, at_7, at_skip, c_int, c_bool, c_arr, c_cnt, c_vec, ev_nil, ev_join, ev_sub3, loc_s, int_i, bool_b, rows_s, cs_nil, cs_cons, E.den_lit, E.den_var, E.den_add, E.den_sub, E.den_mul, E.den_quo, E.den_rem, E.den_max, E.den_min, E.den_len, E.den_wr, E.den_cell, hct, ctNext, ringSh]
  repeat (refine And.intro (by omega) ?_)
  rintro r11 _ _ v11 w11 d11 _ _ k11 _ _ ⟨l11, u11, rfl, rfl, rfl⟩
  unfold tshutof_2
  simp only [VC, allC, List.map_cons, List.map_nil, List.length_cons, List.length_nil, List.getElem?_cons_zero, List.getElem?_cons_succ, List.cons.injEq, C.i.injEq, C.b.injEq, and_true, true_and, forall_const, kindsOf_nil, kindsOf_lf, kindsOf_agg, kindsOf_box, boxKinds_nil, boxKinds_lf, boxKinds_agg, boxKinds_box, List.append_nil, List.cons_append, List.nil_append, den_cmp_le, den_cmp_lt, den_cmp_eq, den_cmp_ne, den_cmp_le', den_cmp_lt', den_cmp_eq', den_cmp_ne', den_and, den_and', den_or, den_or', den_not, den_not', den_blit, den_of, ev_var, at_0, at_1, at_2, at_3, at_4, at_5, at_6, at_7, at_skip, c_int, c_bool, c_arr, c_cnt, c_vec, ev_nil, ev_join, ev_sub3, loc_s, int_i, bool_b, rows_s, cs_nil, cs_cons, E.den_lit, E.den_var, E.den_add, E.den_sub, E.den_mul, E.den_quo, E.den_rem, E.den_max, E.den_min, E.den_len, E.den_wr, E.den_cell, hct, ctNext, ringSh]
  repeat (refine And.intro (by omega) ?_)
  rintro r12 _ _ v12 w12 d12 _ _ k12 _ _ ⟨l12, u12, rfl, rfl, rfl⟩
  repeat (refine And.intro (by omega) ?_)
  rintro r13 _ _ v13 w13 d13 _ _ k13 _ _ ⟨l13, u13, rfl, rfl, rfl⟩
  have m4 := mul_bd (a := r12) (b := r13) (A := 2) (B := 16383) (by omega) (by omega) (by omega) (by omega)
  unfold tshutof_1
  simp only [VC, allC, List.map_cons, List.map_nil, List.length_cons, List.length_nil, List.getElem?_cons_zero, List.getElem?_cons_succ, List.cons.injEq, C.i.injEq, C.b.injEq, and_true, true_and, forall_const, kindsOf_nil, kindsOf_lf, kindsOf_agg, kindsOf_box, boxKinds_nil, boxKinds_lf, boxKinds_agg, boxKinds_box, List.append_nil, List.cons_append, List.nil_append, den_cmp_le, den_cmp_lt, den_cmp_eq, den_cmp_ne, den_cmp_le', den_cmp_lt', den_cmp_eq', den_cmp_ne', den_and, den_and', den_or, den_or', den_not, den_not', den_blit, den_of, ev_var, at_0, at_1, at_2, at_3, at_4, at_5, at_6, at_7, at_skip, c_int, c_bool, c_arr, c_cnt, c_vec, ev_nil, ev_join, ev_sub3, loc_s, int_i, bool_b, rows_s, cs_nil, cs_cons, E.den_lit, E.den_var, E.den_add, E.den_sub, E.den_mul, E.den_quo, E.den_rem, E.den_max, E.den_min, E.den_len, E.den_wr, E.den_cell, hct, ctNext, ringSh]
  repeat (refine And.intro (by omega) ?_)
  omega
end Go.Proofs.Ytlbgcjpkegpmlaa
/- What is to be shown of each function, as the executor has it. Printed by trees.py. -/
namespace Go.Proofs.Ytlbgcjpkegpmlaa
noncomputable def ckick : Cx := tab.only [68] (fun _ => []) [] 0 []
def tkick : Tree :=
  (.split (.and (.cmp .le (.lit 0) (.var 0)) (.cmp .le (.var 0) (.lit 16777216))) (.split (.and (.cmp .le (.lit 0) (.var 1)) (.cmp .le (.var 1) (.lit 4096))) (.ret [(.int (.lit 0))]) (.ret [(.int (.lit 2))])) (.ret [(.int (.lit 2))]))
noncomputable def crkick : Cx := tab.only [69] (fun _ => []) [] 0 []
def trkick : Tree :=
  (.split (.not (.and (.cmp .le (.lit 0) (.var 0)) (.cmp .le (.var 0) (.lit 16777216)))) (.ret [(.int (.lit 2))]) (.split (.not (.and (.cmp .le (.lit 0) (.var 1)) (.cmp .le (.var 1) (.lit 4096)))) (.ret [(.int (.lit 2))]) (.ret [(.int (.lit 0))])))
noncomputable def cleast : Cx := tab.only [] (fun _ => []) [] 0 []
def tleast : Tree :=
  (.ret [(.int (.var 0)), (.int (.var 2))])
noncomputable def crleast : Cx := tab.only [] (fun _ => []) [] 0 []
def trleast : Tree :=
  (.ret [(.int (.var 0)), (.int (.var 2))])
noncomputable def ckicks : Cx := tab.only [75, 36] (fun _ => []) [] 0 []
def tkicks : Tree :=
  (.split (.cmp .lt (.var 1) (.var 0)) (.ret [(.int (.lit 2))]) (.split (.cmp .lt (.var 3) (.var 2)) (.ret [(.int (.lit 2))]) (.call 75 [(.int (.var 0)), (.int (.var 1)), (.int (.var 2)), (.int (.var 3))] (.call 36 [(.int (.var 4)), (.int (.var 5))] (.split (.cmp .ne (.var 6) (.lit 0)) (.ret [(.int (.lit 2))]) (.call 36 [(.int (.var 1)), (.int (.var 3))] (.split (.cmp .ne (.var 7) (.lit 0)) (.ret [(.int (.lit 2))]) (.ret [(.int (.lit 0))]))))))))
noncomputable def crkicks : Cx := tab.only [76, 37] (fun _ => []) [] 0 []
def trkicks : Tree :=
  (.split (.cmp .lt (.var 1) (.var 0)) (.ret [(.int (.lit 2))]) (.split (.cmp .lt (.var 3) (.var 2)) (.ret [(.int (.lit 2))]) (.call 76 [(.int (.var 0)), (.int (.var 1)), (.int (.var 2)), (.int (.var 3))] (.call 37 [(.int (.var 4)), (.int (.var 5))] (.split (.cmp .ne (.var 6) (.lit 0)) (.ret [(.int (.lit 2))]) (.call 37 [(.int (.var 1)), (.int (.var 3))] (.split (.cmp .ne (.var 7) (.lit 0)) (.ret [(.int (.lit 2))]) (.ret [(.int (.lit 0))]))))))))
noncomputable def csens : Cx := tab.only [68] (fun _ => []) [] 0 []
def tsens : Tree :=
  (.split (.cmp .ne (.var 0) (.lit 1)) (.split (.cmp .ne (.var 0) (.lit 2)) (.ret [(.int (.lit 4))]) (.split (.and (.cmp .le (.lit 1) (.var 1)) (.cmp .le (.var 1) (.lit 60))) (.split (.and (.cmp .le (.lit 0) (.var 2)) (.cmp .le (.var 2) (.lit 600))) (.split (.and (.cmp .le (.lit 0) (.var 3)) (.cmp .le (.var 3) (.lit 15))) (.split (.and (.cmp .le (.lit 1) (.var 4)) (.cmp .le (.var 4) (.lit 1048576))) (.split (.and (.cmp .le (.lit 0) (.var 5)) (.cmp .le (.var 5) (.lit 5))) (.split (.and (.cmp .le (.lit 1) (.var 6)) (.cmp .le (.var 6) (.lit 1099511627776))) (.split (.and (.cmp .le (.lit 1) (.var 7)) (.cmp .le (.var 7) (.lit 8))) (.ret [(.int (.lit 0))]) (.ret [(.int (.lit 2))])) (.ret [(.int (.lit 2))])) (.ret [(.int (.lit 2))])) (.ret [(.int (.lit 2))])) (.ret [(.int (.lit 2))])) (.ret [(.int (.lit 2))])) (.ret [(.int (.lit 2))]))) (.split (.and (.cmp .le (.lit 1) (.var 1)) (.cmp .le (.var 1) (.lit 60))) (.split (.and (.cmp .le (.lit 0) (.var 2)) (.cmp .le (.var 2) (.lit 600))) (.split (.and (.cmp .le (.lit 0) (.var 3)) (.cmp .le (.var 3) (.lit 15))) (.split (.and (.cmp .le (.lit 1) (.var 4)) (.cmp .le (.var 4) (.lit 1048576))) (.split (.and (.cmp .le (.lit 0) (.var 5)) (.cmp .le (.var 5) (.lit 5))) (.split (.and (.cmp .le (.lit 1) (.var 6)) (.cmp .le (.var 6) (.lit 1099511627776))) (.split (.and (.cmp .le (.lit 1) (.var 7)) (.cmp .le (.var 7) (.lit 8))) (.ret [(.int (.lit 0))]) (.ret [(.int (.lit 2))])) (.ret [(.int (.lit 2))])) (.ret [(.int (.lit 2))])) (.ret [(.int (.lit 2))])) (.ret [(.int (.lit 2))])) (.ret [(.int (.lit 2))])) (.ret [(.int (.lit 2))])))
noncomputable def crsens : Cx := tab.only [69] (fun _ => []) [] 0 []
def trsens : Tree :=
  (.split (.cmp .ne (.var 0) (.lit 1)) (.split (.cmp .ne (.var 0) (.lit 2)) (.ret [(.int (.lit 4))]) (.split (.not (.and (.cmp .le (.lit 1) (.var 1)) (.cmp .le (.var 1) (.lit 60)))) (.ret [(.int (.lit 2))]) (.split (.not (.and (.cmp .le (.lit 0) (.var 2)) (.cmp .le (.var 2) (.lit 600)))) (.ret [(.int (.lit 2))]) (.split (.not (.and (.cmp .le (.lit 0) (.var 3)) (.cmp .le (.var 3) (.lit 15)))) (.ret [(.int (.lit 2))]) (.split (.not (.and (.cmp .le (.lit 1) (.var 4)) (.cmp .le (.var 4) (.lit 1048576)))) (.ret [(.int (.lit 2))]) (.split (.not (.and (.cmp .le (.lit 0) (.var 5)) (.cmp .le (.var 5) (.lit 5)))) (.ret [(.int (.lit 2))]) (.split (.not (.and (.cmp .le (.lit 1) (.var 6)) (.cmp .le (.var 6) (.lit 1099511627776)))) (.ret [(.int (.lit 2))]) (.split (.not (.and (.cmp .le (.lit 1) (.var 7)) (.cmp .le (.var 7) (.lit 8)))) (.ret [(.int (.lit 2))]) (.ret [(.int (.lit 0))]))))))))) (.split (.not (.and (.cmp .le (.lit 1) (.var 1)) (.cmp .le (.var 1) (.lit 60)))) (.ret [(.int (.lit 2))]) (.split (.not (.and (.cmp .le (.lit 0) (.var 2)) (.cmp .le (.var 2) (.lit 600)))) (.ret [(.int (.lit 2))]) (.split (.not (.and (.cmp .le (.lit 0) (.var 3)) (.cmp .le (.var 3) (.lit 15)))) (.ret [(.int (.lit 2))]) (.split (.not (.and (.cmp .le (.lit 1) (.var 4)) (.cmp .le (.var 4) (.lit 1048576)))) (.ret [(.int (.lit 2))]) (.split (.not (.and (.cmp .le (.lit 0) (.var 5)) (.cmp .le (.var 5) (.lit 5)))) (.ret [(.int (.lit 2))]) (.split (.not (.and (.cmp .le (.lit 1) (.var 6)) (.cmp .le (.var 6) (.lit 1099511627776)))) (.ret [(.int (.lit 2))]) (.split (.not (.and (.cmp .le (.lit 1) (.var 7)) (.cmp .le (.var 7) (.lit 8)))) (.ret [(.int (.lit 2))]) (.ret [(.int (.lit 0))])))))))))
noncomputable def csensors : Cx := tab.only [40] (fun _ => []) [] 0 []
def tsensors : Tree :=
  (.split (.cmp .eq (.len (.var 0)) (.lit 0)) (.ret [(.int (.lit 6))]) (.split (.cmp .lt (.lit 4) (.len (.var 0))) (.ret [(.int (.lit 8))]) (.loop [.int, .int] [(.int (.lit 0)), (.int (.lit 0))] (.split (.cmp .lt (.var 2) (.len (.var 0))) (.ob (.cmp .le (.lit 0) (.var 2)) (.ob (.cmp .lt (.var 2) (.len (.var 0))) (.call 40 [(.int (.cell (.var 0) (.var 2) 0)), (.int (.cell (.var 0) (.var 2) 1)), (.int (.cell (.var 0) (.var 2) 2)), (.int (.cell (.var 0) (.var 2) 3)), (.int (.cell (.var 0) (.var 2) 4)), (.int (.cell (.var 0) (.var 2) 5)), (.int (.cell (.var 0) (.var 2) 6)), (.int (.cell (.var 0) (.var 2) 7))] (.split (.cmp .ne (.var 3) (.lit 0)) (.ret [(.int (.var 3))]) (.back 0 [(.int (.var 1)), (.int (.add (.var 2) (.lit 1)))]))))) (.ret [(.int (.lit 0))])))))
noncomputable def crsensors : Cx := tab.only [41] (fun _ => []) [] 0 []
def trsensors : Tree :=
  (.split (.cmp .eq (.len (.var 0)) (.lit 0)) (.ret [(.int (.lit 6))]) (.split (.cmp .lt (.lit 4) (.len (.var 0))) (.ret [(.int (.lit 8))]) (.loop [.int, .int] [(.int (.lit 0)), (.int (.lit 0))] (.split (.cmp .lt (.var 2) (.len (.var 0))) (.ob (.cmp .le (.lit 0) (.var 2)) (.ob (.cmp .lt (.var 2) (.len (.var 0))) (.call 41 [(.int (.cell (.var 0) (.var 2) 0)), (.int (.cell (.var 0) (.var 2) 1)), (.int (.cell (.var 0) (.var 2) 2)), (.int (.cell (.var 0) (.var 2) 3)), (.int (.cell (.var 0) (.var 2) 4)), (.int (.cell (.var 0) (.var 2) 5)), (.int (.cell (.var 0) (.var 2) 6)), (.int (.cell (.var 0) (.var 2) 7))] (.split (.cmp .ne (.var 3) (.lit 0)) (.ret [(.int (.var 3))]) (.back 0 [(.int (.var 1)), (.int (.add (.var 2) (.lit 1)))]))))) (.ret [(.int (.lit 0))])))))
noncomputable def cflow1 : Cx := tab.only [] (fun _ => []) [] 0 []
def tflow1 : Tree :=
  (.split (.cmp .lt (.var 2) (.lit 0)) (.ret [(.int (.lit 0))]) (.ob (.and (.cmp .le (.lit (-9223372036854775808)) (.mul (.var 2) (.var 1))) (.cmp .le (.mul (.var 2) (.var 1)) (.lit 9223372036854775807))) (.ob (.and (.cmp .le (.lit (-9223372036854775808)) (.add (.var 0) (.mul (.var 2) (.var 1)))) (.cmp .le (.add (.var 0) (.mul (.var 2) (.var 1))) (.lit 9223372036854775807))) (.ob (.and (.cmp .le (.lit (-9223372036854775808)) (.add (.var 0) (.mul (.var 2) (.var 1)))) (.cmp .le (.add (.var 0) (.mul (.var 2) (.var 1))) (.lit 9223372036854775807))) (.ret [(.int (.add (.var 0) (.mul (.var 2) (.var 1))))])))))
noncomputable def cgain1 : Cx := tab.only [] (fun _ => []) [] 0 []
def tgain1 : Tree :=
  (.split (.cmp .lt (.var 2) (.lit 0)) (.ret [(.int (.lit 0))]) (.ob (.and (.cmp .le (.lit (-9223372036854775808)) (.mul (.var 2) (.var 0))) (.cmp .le (.mul (.var 2) (.var 0)) (.lit 9223372036854775807))) (.ob (.and (.cmp .le (.lit (-9223372036854775808)) (.mul (.var 2) (.sub (.var 2) (.lit 1)))) (.cmp .le (.mul (.var 2) (.sub (.var 2) (.lit 1))) (.lit 9223372036854775807))) (.ob (.and (.cmp .le (.lit (-9223372036854775808)) (.quo (.mul (.var 2) (.sub (.var 2) (.lit 1))) (.lit 2))) (.cmp .le (.quo (.mul (.var 2) (.sub (.var 2) (.lit 1))) (.lit 2)) (.lit 9223372036854775807))) (.ob (.and (.cmp .le (.lit (-9223372036854775808)) (.mul (.var 1) (.quo (.mul (.var 2) (.sub (.var 2) (.lit 1))) (.lit 2)))) (.cmp .le (.mul (.var 1) (.quo (.mul (.var 2) (.sub (.var 2) (.lit 1))) (.lit 2))) (.lit 9223372036854775807))) (.ob (.and (.cmp .le (.lit (-9223372036854775808)) (.add (.mul (.var 2) (.var 0)) (.mul (.var 1) (.quo (.mul (.var 2) (.sub (.var 2) (.lit 1))) (.lit 2))))) (.cmp .le (.add (.mul (.var 2) (.var 0)) (.mul (.var 1) (.quo (.mul (.var 2) (.sub (.var 2) (.lit 1))) (.lit 2)))) (.lit 9223372036854775807))) (.ob (.and (.cmp .le (.lit (-9223372036854775808)) (.add (.mul (.var 2) (.var 0)) (.mul (.var 1) (.quo (.mul (.var 2) (.sub (.var 2) (.lit 1))) (.lit 2))))) (.cmp .le (.add (.mul (.var 2) (.var 0)) (.mul (.var 1) (.quo (.mul (.var 2) (.sub (.var 2) (.lit 1))) (.lit 2)))) (.lit 9223372036854775807))) (.ret [(.int (.add (.mul (.var 2) (.var 0)) (.mul (.var 1) (.quo (.mul (.var 2) (.sub (.var 2) (.lit 1))) (.lit 2)))))]))))))))
noncomputable def cflow : Cx := tab.only [36, 67] (fun _ => []) [] 0 []
def tflow : Tree :=
  (.call 36 [(.int (.var 0)), (.int (.var 1))] (.split (.cmp .ne (.var 3) (.lit 0)) (.ret [(.int (.lit 0))]) (.split (.cmp .lt (.lit 20000) (.var 2)) (.ret [(.int (.lit 0))]) (.call 67 [(.int (.var 0)), (.int (.var 1)), (.int (.var 2))] (.ret [(.int (.var 4))])))))
noncomputable def cgain : Cx := tab.only [36, 66] (fun _ => []) [] 0 []
def tgain : Tree :=
  (.call 36 [(.int (.var 0)), (.int (.var 1))] (.split (.cmp .ne (.var 3) (.lit 0)) (.ret [(.int (.lit 0))]) (.split (.cmp .lt (.lit 20000) (.var 2)) (.ret [(.int (.lit 0))]) (.call 66 [(.int (.var 0)), (.int (.var 1)), (.int (.var 2))] (.ret [(.int (.var 4))])))))
noncomputable def crflow : Cx := tab.only [37, 69] (fun _ => []) [] 0 []
def trflow : Tree :=
  (.call 37 [(.int (.var 0)), (.int (.var 1))] (.split (.cmp .ne (.var 3) (.lit 0)) (.ret [(.int (.lit 0))]) (.split (.not (.and (.cmp .le (.lit 0) (.var 2)) (.cmp .le (.var 2) (.lit 20000)))) (.ret [(.int (.lit 0))]) (.ob (.and (.cmp .le (.lit (-9223372036854775808)) (.mul (.var 2) (.var 1))) (.cmp .le (.mul (.var 2) (.var 1)) (.lit 9223372036854775807))) (.ob (.and (.cmp .le (.lit (-9223372036854775808)) (.add (.var 0) (.mul (.var 2) (.var 1)))) (.cmp .le (.add (.var 0) (.mul (.var 2) (.var 1))) (.lit 9223372036854775807))) (.ob (.and (.cmp .le (.lit (-9223372036854775808)) (.add (.var 0) (.mul (.var 2) (.var 1)))) (.cmp .le (.add (.var 0) (.mul (.var 2) (.var 1))) (.lit 9223372036854775807))) (.ret [(.int (.add (.var 0) (.mul (.var 2) (.var 1))))])))))))
noncomputable def crgain : Cx := tab.only [37, 69] (fun _ => []) [] 0 []
def trgain : Tree :=
  (.call 37 [(.int (.var 0)), (.int (.var 1))] (.split (.cmp .ne (.var 3) (.lit 0)) (.ret [(.int (.lit 0))]) (.split (.not (.and (.cmp .le (.lit 0) (.var 2)) (.cmp .le (.var 2) (.lit 20000)))) (.ret [(.int (.lit 0))]) (.ob (.and (.cmp .le (.lit (-9223372036854775808)) (.mul (.var 2) (.var 0))) (.cmp .le (.mul (.var 2) (.var 0)) (.lit 9223372036854775807))) (.ob (.and (.cmp .le (.lit (-9223372036854775808)) (.mul (.var 1) (.quo (.mul (.var 2) (.sub (.var 2) (.lit 1))) (.lit 2)))) (.cmp .le (.mul (.var 1) (.quo (.mul (.var 2) (.sub (.var 2) (.lit 1))) (.lit 2))) (.lit 9223372036854775807))) (.ob (.and (.cmp .le (.lit (-9223372036854775808)) (.add (.mul (.var 2) (.var 0)) (.mul (.var 1) (.quo (.mul (.var 2) (.sub (.var 2) (.lit 1))) (.lit 2))))) (.cmp .le (.add (.mul (.var 2) (.var 0)) (.mul (.var 1) (.quo (.mul (.var 2) (.sub (.var 2) (.lit 1))) (.lit 2)))) (.lit 9223372036854775807))) (.ob (.and (.cmp .le (.lit (-9223372036854775808)) (.add (.mul (.var 2) (.var 0)) (.mul (.var 1) (.quo (.mul (.var 2) (.sub (.var 2) (.lit 1))) (.lit 2))))) (.cmp .le (.add (.mul (.var 2) (.var 0)) (.mul (.var 1) (.quo (.mul (.var 2) (.sub (.var 2) (.lit 1))) (.lit 2)))) (.lit 9223372036854775807))) (.ret [(.int (.add (.mul (.var 2) (.var 0)) (.mul (.var 1) (.quo (.mul (.var 2) (.sub (.var 2) (.lit 1))) (.lit 2)))))]))))))))
noncomputable def crsays : Cx := tab.only [44, 45] (fun _ => []) [] 0 []
def trsays : Tree :=
  (.split (.cmp .eq (.var 0) (.lit 1)) (.call 45 [(.int (.var 8)), (.int (.var 9)), (.int (.var 10))] (.ret [(.int (.var 11))])) (.call 44 [(.int (.var 8)), (.int (.var 9)), (.int (.var 10))] (.ret [(.int (.var 11))])))
noncomputable def crvalue : Cx := tab.only [41, 37, 69, 78] (fun _ => []) [] 0 []
def trvalue : Tree :=
  (.call 41 [(.int (.var 0)), (.int (.var 1)), (.int (.var 2)), (.int (.var 3)), (.int (.var 4)), (.int (.var 5)), (.int (.var 6)), (.int (.var 7))] (.split (.cmp .ne (.var 12) (.lit 0)) (.ret [(.int (.lit 0))]) (.call 37 [(.int (.var 8)), (.int (.var 9))] (.split (.cmp .ne (.var 13) (.lit 0)) (.ret [(.int (.lit 0))]) (.ob (.and (.cmp .le (.lit (-9223372036854775808)) (.sub (.lit 0) (.var 3))) (.cmp .le (.sub (.lit 0) (.var 3)) (.lit 9223372036854775807))) (.ob (.and (.cmp .le (.lit (-9223372036854775808)) (.sub (.lit 0) (.var 3))) (.cmp .le (.sub (.lit 0) (.var 3)) (.lit 9223372036854775807))) (.split (.not (.and (.cmp .le (.sub (.lit 0) (.var 3)) (.var 11)) (.cmp .le (.var 11) (.var 3)))) (.ret [(.int (.lit 0))]) (.split (.cmp .lt (.lit 20000) (.var 10)) (.ret [(.int (.lit 0))]) (.call 78 [(.int (.var 0)), (.int (.var 1)), (.int (.var 2)), (.int (.var 3)), (.int (.var 4)), (.int (.var 5)), (.int (.var 6)), (.int (.var 7)), (.int (.var 8)), (.int (.var 9)), (.int (.var 10))] (.ob (.and (.cmp .le (.lit (-9223372036854775808)) (.mul (.var 11) (.var 4))) (.cmp .le (.mul (.var 11) (.var 4)) (.lit 9223372036854775807))) (.ob (.and (.cmp .le (.lit (-9223372036854775808)) (.add (.var 14) (.mul (.var 11) (.var 4)))) (.cmp .le (.add (.var 14) (.mul (.var 11) (.var 4))) (.lit 9223372036854775807))) (.ob (.and (.cmp .le (.lit (-9223372036854775808)) (.add (.var 14) (.mul (.var 11) (.var 4)))) (.cmp .le (.add (.var 14) (.mul (.var 11) (.var 4))) (.lit 9223372036854775807))) (.ret [(.int (.add (.var 14) (.mul (.var 11) (.var 4))))])))))))))))))
noncomputable def cvalue : Cx := tab.only [40, 36, 68, 77, 67, 66] (fun _ => []) [] 0 []
def tvalue : Tree :=
  (.call 40 [(.int (.var 0)), (.int (.var 1)), (.int (.var 2)), (.int (.var 3)), (.int (.var 4)), (.int (.var 5)), (.int (.var 6)), (.int (.var 7))] (.split (.cmp .ne (.var 12) (.lit 0)) (.ret [(.int (.lit 0))]) (.call 36 [(.int (.var 8)), (.int (.var 9))] (.split (.cmp .ne (.var 13) (.lit 0)) (.ret [(.int (.lit 0))]) (.ob (.and (.cmp .le (.lit (-9223372036854775808)) (.sub (.lit 0) (.var 3))) (.cmp .le (.sub (.lit 0) (.var 3)) (.lit 9223372036854775807))) (.ob (.and (.cmp .le (.lit (-9223372036854775808)) (.sub (.lit 0) (.var 3))) (.cmp .le (.sub (.lit 0) (.var 3)) (.lit 9223372036854775807))) (.split (.not (.and (.cmp .le (.sub (.lit 0) (.var 3)) (.var 11)) (.cmp .le (.var 11) (.var 3)))) (.ret [(.int (.lit 0))]) (.split (.cmp .lt (.lit 20000) (.var 10)) (.ret [(.int (.lit 0))]) (.ob (.and (.cmp .le (.lit (-9223372036854775808)) (.mul (.var 11) (.var 4))) (.cmp .le (.mul (.var 11) (.var 4)) (.lit 9223372036854775807))) (.split (.cmp .eq (.var 0) (.lit 2)) (.call 67 [(.int (.var 8)), (.int (.var 9)), (.int (.var 10))] (.ob (.and (.cmp .le (.lit (-9223372036854775808)) (.add (.var 14) (.mul (.var 11) (.var 4)))) (.cmp .le (.add (.var 14) (.mul (.var 11) (.var 4))) (.lit 9223372036854775807))) (.ob (.and (.cmp .le (.lit (-9223372036854775808)) (.add (.var 14) (.mul (.var 11) (.var 4)))) (.cmp .le (.add (.var 14) (.mul (.var 11) (.var 4))) (.lit 9223372036854775807))) (.ret [(.int (.add (.var 14) (.mul (.var 11) (.var 4))))])))) (.call 66 [(.int (.var 8)), (.int (.var 9)), (.int (.var 10))] (.ob (.and (.cmp .le (.lit (-9223372036854775808)) (.add (.var 14) (.mul (.var 11) (.var 4)))) (.cmp .le (.add (.var 14) (.mul (.var 11) (.var 4))) (.lit 9223372036854775807))) (.ob (.and (.cmp .le (.lit (-9223372036854775808)) (.add (.var 14) (.mul (.var 11) (.var 4)))) (.cmp .le (.add (.var 14) (.mul (.var 11) (.var 4))) (.lit 9223372036854775807))) (.ret [(.int (.add (.var 14) (.mul (.var 11) (.var 4))))]))))))))))))))
noncomputable def cchecks : Cx := tab.only [36, 37, 38, 39, 40, 41, 42, 43, 24, 44, 23, 45, 46, 47, 19] (fun _ => []) [] 0 []
def tchecks_1 : Tree :=
  (.call 47 [(.int (.var 6)), (.int (.var 7)), (.int (.var 8)), (.int (.var 9)), (.int (.var 10)), (.int (.var 11)), (.int (.var 12)), (.int (.var 13)), (.int (.var 0)), (.int (.var 1)), (.int (.var 15)), (.int (.var 16))] (.split (.cmp .eq (.var 29) (.var 30)) (.call 19 [] (.ret [(.bool (.of (.var 31)))])) (.ret [(.bool (.lit false))])))
def tchecks_2 : Tree :=
  (.split (.cmp .eq (.var 27) (.var 28)) (.call 46 [(.int (.var 6)), (.int (.var 7)), (.int (.var 8)), (.int (.var 9)), (.int (.var 10)), (.int (.var 11)), (.int (.var 12)), (.int (.var 13)), (.int (.var 0)), (.int (.var 1)), (.int (.var 15)), (.int (.var 16))] tchecks_1) (.ret [(.bool (.lit false))]))
def tchecks_3 : Tree :=
  (.split (.cmp .eq (.var 25) (.var 26)) (.call 23 [(.int (.var 0)), (.int (.var 1)), (.int (.var 15))] (.call 45 [(.int (.var 0)), (.int (.var 1)), (.int (.var 15))] tchecks_2)) (.ret [(.bool (.lit false))]))
def tchecks_4 : Tree :=
  (.split (.cmp .ne (.var 23) (.var 24)) (.ret [(.bool (.lit false))]) (.call 24 [(.int (.var 0)), (.int (.var 1)), (.int (.var 15))] (.call 44 [(.int (.var 0)), (.int (.var 1)), (.int (.var 15))] tchecks_3)))
def tchecks_5 : Tree :=
  (.call 41 [(.int (.var 6)), (.int (.var 7)), (.int (.var 8)), (.int (.var 9)), (.int (.var 10)), (.int (.var 11)), (.int (.var 12)), (.int (.var 13))] (.split (.cmp .ne (.var 21) (.var 22)) (.ret [(.bool (.lit false))]) (.call 42 [(.arr 23 (.var 14))] (.call 43 [(.arr 23 (.var 14))] tchecks_4))))
def tchecks_6 : Tree :=
  (.split (.cmp .ne (.var 19) (.var 20)) (.ret [(.bool (.lit false))]) (.call 40 [(.int (.var 6)), (.int (.var 7)), (.int (.var 8)), (.int (.var 9)), (.int (.var 10)), (.int (.var 11)), (.int (.var 12)), (.int (.var 13))] tchecks_5))
def tchecks_7 : Tree :=
  (.split (.cmp .ne (.var 17) (.var 18)) (.ret [(.bool (.lit false))]) (.call 38 [(.int (.var 2)), (.int (.var 3)), (.int (.var 4)), (.int (.var 5))] (.call 39 [(.int (.var 2)), (.int (.var 3)), (.int (.var 4)), (.int (.var 5))] tchecks_6)))
def tchecks : Tree :=
  (.split (.cmp .lt (.lit 6) (.len (.var 14))) (.call 19 [] (.ret [(.bool (.of (.var 17)))])) (.call 36 [(.int (.var 0)), (.int (.var 1))] (.call 37 [(.int (.var 0)), (.int (.var 1))] tchecks_7)))
end Go.Proofs.Ytlbgcjpkegpmlaa
/- Kicks and sensors: what is valid, flows, gains, values. -/
namespace Go.Proofs.Ytlbgcjpkegpmlaa
open Go.RowKit
set_option linter.unusedSimpArgs false
set_option linter.unusedVariables false

theorem kickE_yes {r g : Int} (h : KOk r g) : kickE r g = 0 := by unfold kickE; rw [if_pos h]
theorem kickE_no {r g : Int} (h : ¬ KOk r g) : kickE r g = 2 := by unfold kickE; rw [if_neg h]
theorem kick_ok : tab.ok 36 := by
  refine Tab.of_ct rfl rfl ⟨_, Try.func36, by decide, rfl⟩ ?_ ctF_det
  refine ct_ok (cx := ckick) (Tab.cx_ok (all_cons within_ok all_nil)) Try.func36 (bds := []) (T := tkick) (by kernel_rfl) ?_
  unfold tkick
  simp only [VC, allC, List.map_cons, List.map_nil, List.length_cons, List.length_nil, List.getElem?_cons_zero, List.getElem?_cons_succ, List.cons.injEq, C.i.injEq, C.b.injEq, and_true, true_and, forall_const, kindsOf_nil, kindsOf_lf, kindsOf_agg, kindsOf_box, boxKinds_nil, boxKinds_lf, boxKinds_agg, boxKinds_box, List.append_nil, List.cons_append, List.nil_append, den_cmp_le, den_cmp_lt, den_cmp_eq, den_cmp_ne, den_cmp_le', den_cmp_lt', den_cmp_eq', den_cmp_ne', den_and, den_and', den_or, den_or', den_not, den_not', den_blit, den_of, ev_var, at_0, at_1, at_2, at_3, at_4, at_5, at_6, at_7, at_skip, c_int, c_bool, c_arr, c_cnt, c_vec, ev_nil, ev_join, ev_sub3, loc_s, int_i, bool_b, rows_s, cs_nil, cs_cons, E.den_lit, E.den_var, E.den_add, E.den_sub, E.den_mul, E.den_quo, E.den_rem, E.den_max, E.den_min, E.den_len, E.den_wr, E.den_cell, ctKick, ctF, kickSh]; intro r r1 r2 g g1 g2; have k0 := @kickE_yes r g; have k2 := @kickE_no r g; unfold KOk at k0 k2; refine ⟨bds_nil _, ?_⟩; omega
theorem rkick_ok : tab.ok 37 := by
  refine Tab.of_ct rfl rfl ⟨_, Try.func37, by decide, rfl⟩ ?_ ctF_det
  refine ct_ok (cx := crkick) (Tab.cx_ok (all_cons between_ok all_nil)) Try.func37 (bds := []) (T := trkick) (by kernel_rfl) ?_
  unfold trkick
  simp only [VC, allC, List.map_cons, List.map_nil, List.length_cons, List.length_nil, List.getElem?_cons_zero, List.getElem?_cons_succ, List.cons.injEq, C.i.injEq, C.b.injEq, and_true, true_and, forall_const, kindsOf_nil, kindsOf_lf, kindsOf_agg, kindsOf_box, boxKinds_nil, boxKinds_lf, boxKinds_agg, boxKinds_box, List.append_nil, List.cons_append, List.nil_append, den_cmp_le, den_cmp_lt, den_cmp_eq, den_cmp_ne, den_cmp_le', den_cmp_lt', den_cmp_eq', den_cmp_ne', den_and, den_and', den_or, den_or', den_not, den_not', den_blit, den_of, ev_var, at_0, at_1, at_2, at_3, at_4, at_5, at_6, at_7, at_skip, c_int, c_bool, c_arr, c_cnt, c_vec, ev_nil, ev_join, ev_sub3, loc_s, int_i, bool_b, rows_s, cs_nil, cs_cons, E.den_lit, E.den_var, E.den_add, E.den_sub, E.den_mul, E.den_quo, E.den_rem, E.den_max, E.den_min, E.den_len, E.den_wr, E.den_cell, ctKick, ctF, kickSh]; intro r r1 r2 g g1 g2; have k0 := @kickE_yes r g; have k2 := @kickE_no r g; unfold KOk at k0 k2; refine ⟨bds_nil _, ?_⟩; omega
theorem least_ok : tab.ok 75 := by
  refine Tab.of_ct rfl rfl ⟨_, Try.func75, by decide, rfl⟩ ?_ ctF_det
  refine ct_ok (cx := cleast) (Tab.cx_ok all_nil) Try.func75 (bds := []) (T := tleast) (by kernel_rfl) ?_
  unfold tleast
  simp only [VC, allC, List.map_cons, List.map_nil, List.length_cons, List.length_nil, List.getElem?_cons_zero, List.getElem?_cons_succ, List.cons.injEq, C.i.injEq, C.b.injEq, and_true, true_and, forall_const, kindsOf_nil, kindsOf_lf, kindsOf_agg, kindsOf_box, boxKinds_nil, boxKinds_lf, boxKinds_agg, boxKinds_box, List.append_nil, List.cons_append, List.nil_append, den_cmp_le, den_cmp_lt, den_cmp_eq, den_cmp_ne, den_cmp_le', den_cmp_lt', den_cmp_eq', den_cmp_ne', den_and, den_and', den_or, den_or', den_not, den_not', den_blit, den_of, ev_var, at_0, at_1, at_2, at_3, at_4, at_5, at_6, at_7, at_skip, c_int, c_bool, c_arr, c_cnt, c_vec, ev_nil, ev_join, ev_sub3, loc_s, int_i, bool_b, rows_s, cs_nil, cs_cons, E.den_lit, E.den_var, E.den_add, E.den_sub, E.den_mul, E.den_quo, E.den_rem, E.den_max, E.den_min, E.den_len, E.den_wr, E.den_cell, ctLeast, ctF, kicksSh, kickSh]
  repeat' (first | exact bds_nil _ | apply And.intro | intro _)
theorem rleast_ok : tab.ok 76 := by
  refine Tab.of_ct rfl rfl ⟨_, Try.func76, by decide, rfl⟩ ?_ ctF_det
  refine ct_ok (cx := crleast) (Tab.cx_ok all_nil) Try.func76 (bds := []) (T := trleast) (by kernel_rfl) ?_
  unfold trleast
  simp only [VC, allC, List.map_cons, List.map_nil, List.length_cons, List.length_nil, List.getElem?_cons_zero, List.getElem?_cons_succ, List.cons.injEq, C.i.injEq, C.b.injEq, and_true, true_and, forall_const, kindsOf_nil, kindsOf_lf, kindsOf_agg, kindsOf_box, boxKinds_nil, boxKinds_lf, boxKinds_agg, boxKinds_box, List.append_nil, List.cons_append, List.nil_append, den_cmp_le, den_cmp_lt, den_cmp_eq, den_cmp_ne, den_cmp_le', den_cmp_lt', den_cmp_eq', den_cmp_ne', den_and, den_and', den_or, den_or', den_not, den_not', den_blit, den_of, ev_var, at_0, at_1, at_2, at_3, at_4, at_5, at_6, at_7, at_skip, c_int, c_bool, c_arr, c_cnt, c_vec, ev_nil, ev_join, ev_sub3, loc_s, int_i, bool_b, rows_s, cs_nil, cs_cons, E.den_lit, E.den_var, E.den_add, E.den_sub, E.den_mul, E.den_quo, E.den_rem, E.den_max, E.den_min, E.den_len, E.den_wr, E.den_cell, ctLeast, ctF, kicksSh, kickSh]
  repeat' (first | exact bds_nil _ | apply And.intro | intro _)
theorem kickE_iff {r g : Int} : kickE r g = 0 ↔ KOk r g := by unfold kickE; split <;> simp_all
theorem kicks_ok : tab.ok 38 := by
  refine Tab.of_ct rfl rfl ⟨_, Try.func38, by decide, rfl⟩ ?_ ctF_det
  refine ct_ok (cx := ckicks) (Tab.cx_ok (all_cons least_ok (all_cons kick_ok all_nil))) Try.func38 (bds := []) (T := tkicks) (by kernel_rfl) ?_
  have h1 : ckicks.ct 75 = some ctLeast := rfl
  have h2 : ckicks.ct 36 = some ctKick := rfl
  unfold tkicks
  simp only [VC, allC, List.map_cons, List.map_nil, List.length_cons, List.length_nil, List.getElem?_cons_zero, List.getElem?_cons_succ, List.cons.injEq, C.i.injEq, C.b.injEq, and_true, true_and, forall_const, kindsOf_nil, kindsOf_lf, kindsOf_agg, kindsOf_box, boxKinds_nil, boxKinds_lf, boxKinds_agg, boxKinds_box, List.append_nil, List.cons_append, List.nil_append, den_cmp_le, den_cmp_lt, den_cmp_eq, den_cmp_ne, den_cmp_le', den_cmp_lt', den_cmp_eq', den_cmp_ne', den_and, den_and', den_or, den_or', den_not, den_not', den_blit, den_of, ev_var, at_0, at_1, at_2, at_3, at_4, at_5, at_6, at_7, at_skip, c_int, c_bool, c_arr, c_cnt, c_vec, ev_nil, ev_join, ev_sub3, loc_s, int_i, bool_b, rows_s, cs_nil, cs_cons, E.den_lit, E.den_var, E.den_add, E.den_sub, E.den_mul, E.den_quo, E.den_rem, E.den_max, E.den_min, E.den_len, E.den_wr, E.den_cell, h1, h2, ctKicks, ctLeast, ctKick, ctF, kicksSh, kickSh]
  intro a _ _ b _ _ c _ _ d _ _
  have no : ¬ (a ≤ b ∧ c ≤ d ∧ KOk a c ∧ KOk b d) → 2 = kicksE a b c d := fun h => by unfold kicksE; rw [if_neg h]
  have yes : (a ≤ b ∧ c ≤ d ∧ KOk a c ∧ KOk b d) → 0 = kicksE a b c d := fun h => by unfold kicksE; rw [if_pos h]
  have f1 := @kickE_iff a c
  have f2 := @kickE_iff b d
  refine ⟨bds_nil _, fun h => no (by omega), fun h1 => ⟨fun h => no (by omega), fun h2 => ?_⟩⟩
  rintro x _ _ y _ _ ⟨rfl, rfl⟩ e _ _ rfl
  refine ⟨fun h => no fun h' => h (f1.2 h'.2.2.1), fun h3 => ?_⟩
  rintro e _ _ rfl
  exact ⟨fun h => no fun h' => h (f2.2 h'.2.2.2), fun h4 => yes ⟨h1, h2, f1.1 h3, f2.1 h4⟩⟩
theorem sensE_kind {ch pe de no st lo li ho : Int} (h : ch ≠ 1 ∧ ch ≠ 2) : sensE ch pe de no st lo li ho = 4 := by unfold sensE; rw [if_neg (by omega)]
theorem sensE_yes {ch pe de no st lo li ho : Int} (h : ch = 1 ∨ ch = 2) (h' : SOk pe de no st lo li ho) : sensE ch pe de no st lo li ho = 0 := by unfold sensE; rw [if_pos h, if_pos h']
theorem sensE_no {ch pe de no st lo li ho : Int} (h : ch = 1 ∨ ch = 2) (h' : ¬ SOk pe de no st lo li ho) : sensE ch pe de no st lo li ho = 2 := by unfold sensE; rw [if_pos h, if_neg h']
theorem sens_ok : tab.ok 40 := by
  refine Tab.of_ct rfl rfl ⟨_, Try.func40, by decide, rfl⟩ ?_ ctF_det
  refine ct_ok (cx := csens) (Tab.cx_ok (all_cons within_ok all_nil)) Try.func40 (bds := []) (T := tsens) (by kernel_rfl) ?_
  unfold tsens
  simp only [VC, allC, List.map_cons, List.map_nil, List.length_cons, List.length_nil, List.getElem?_cons_zero, List.getElem?_cons_succ, List.cons.injEq, C.i.injEq, C.b.injEq, and_true, true_and, forall_const, kindsOf_nil, kindsOf_lf, kindsOf_agg, kindsOf_box, boxKinds_nil, boxKinds_lf, boxKinds_agg, boxKinds_box, List.append_nil, List.cons_append, List.nil_append, den_cmp_le, den_cmp_lt, den_cmp_eq, den_cmp_ne, den_cmp_le', den_cmp_lt', den_cmp_eq', den_cmp_ne', den_and, den_and', den_or, den_or', den_not, den_not', den_blit, den_of, ev_var, at_0, at_1, at_2, at_3, at_4, at_5, at_6, at_7, at_skip, c_int, c_bool, c_arr, c_cnt, c_vec, ev_nil, ev_join, ev_sub3, loc_s, int_i, bool_b, rows_s, cs_nil, cs_cons, E.den_lit, E.den_var, E.den_add, E.den_sub, E.den_mul, E.den_quo, E.den_rem, E.den_max, E.den_min, E.den_len, E.den_wr, E.den_cell, ctSens, ctF, sensSh]; intro ch _ _ pe _ _ de _ _ no _ _ st _ _ lo _ _ li _ _ ho _ _; have k4 := @sensE_kind ch pe de no st lo li ho; have k0 := @sensE_yes ch pe de no st lo li ho; have k2 := @sensE_no ch pe de no st lo li ho; unfold SOk at k0 k2; refine ⟨bds_nil _, ?_⟩
  generalize sensE ch pe de no st lo li ho = E at *
  omega
theorem rsens_ok : tab.ok 41 := by
  refine Tab.of_ct rfl rfl ⟨_, Try.func41, by decide, rfl⟩ ?_ ctF_det
  refine ct_ok (cx := crsens) (Tab.cx_ok (all_cons between_ok all_nil)) Try.func41 (bds := []) (T := trsens) (by kernel_rfl) ?_
  unfold trsens
  simp only [VC, allC, List.map_cons, List.map_nil, List.length_cons, List.length_nil, List.getElem?_cons_zero, List.getElem?_cons_succ, List.cons.injEq, C.i.injEq, C.b.injEq, and_true, true_and, forall_const, kindsOf_nil, kindsOf_lf, kindsOf_agg, kindsOf_box, boxKinds_nil, boxKinds_lf, boxKinds_agg, boxKinds_box, List.append_nil, List.cons_append, List.nil_append, den_cmp_le, den_cmp_lt, den_cmp_eq, den_cmp_ne, den_cmp_le', den_cmp_lt', den_cmp_eq', den_cmp_ne', den_and, den_and', den_or, den_or', den_not, den_not', den_blit, den_of, ev_var, at_0, at_1, at_2, at_3, at_4, at_5, at_6, at_7, at_skip, c_int, c_bool, c_arr, c_cnt, c_vec, ev_nil, ev_join, ev_sub3, loc_s, int_i, bool_b, rows_s, cs_nil, cs_cons, E.den_lit, E.den_var, E.den_add, E.den_sub, E.den_mul, E.den_quo, E.den_rem, E.den_max, E.den_min, E.den_len, E.den_wr, E.den_cell, ctSens, ctF, sensSh]; intro ch _ _ pe _ _ de _ _ no _ _ st _ _ lo _ _ li _ _ ho _ _; have k4 := @sensE_kind ch pe de no st lo li ho; have k0 := @sensE_yes ch pe de no st lo li ho; have k2 := @sensE_no ch pe de no st lo li ho; unfold SOk at k0 k2; refine ⟨bds_nil _, ?_⟩
  generalize sensE ch pe de no st lo li ho = E at *
  omega
theorem firstE_drop {rows : List (List C)} {k : Nat} (h : k < rows.length) : firstE (rows.drop k) = if sensRow (rows.getD k []) = 0 then firstE (rows.drop (k + 1)) else sensRow (rows.getD k []) := by
  rw [List.drop_eq_getElem_cons h, firstE, List.getD_eq_getElem?_getD, List.getElem?_eq_getElem h]
  rfl
theorem sensorsE_short {rows : List (List C)} (h : (rows.length : Int) = 0) : 6 = sensorsE rows := by unfold sensorsE; rw [if_pos (by omega)]
theorem sensorsE_full {rows : List (List C)} (h : 4 < (rows.length : Int)) : 8 = sensorsE rows := by unfold sensorsE; rw [if_neg (by omega), if_pos (by omega)]
theorem sensorsE_first {rows : List (List C)} (h : (rows.length : Int) ≠ 0) (h' : (rows.length : Int) ≤ 4) : sensorsE rows = firstE rows := by unfold sensorsE; rw [if_neg (by omega), if_neg (by omega)]
theorem sensors_ok : tab.ok 42 := by
  refine Tab.of_ct rfl rfl ⟨_, Try.func42, by decide, rfl⟩ ?_ ctF_det
  refine ct_ok (cx := csensors) (Tab.cx_ok (all_cons sens_ok all_nil)) Try.func42 (bds := []) (T := tsensors) (by kernel_rfl) ?_
  have h1 : csensors.ct 40 = some ctSens := rfl
  unfold tsensors
  simp only [VC, allC, List.map_cons, List.map_nil, List.length_cons, List.length_nil, List.getElem?_cons_zero, List.getElem?_cons_succ, List.cons.injEq, C.i.injEq, C.b.injEq, and_true, true_and, forall_const, kindsOf_nil, kindsOf_lf, kindsOf_agg, kindsOf_box, boxKinds_nil, boxKinds_lf, boxKinds_agg, boxKinds_box, List.append_nil, List.cons_append, List.nil_append, den_cmp_le, den_cmp_lt, den_cmp_eq, den_cmp_ne, den_cmp_le', den_cmp_lt', den_cmp_eq', den_cmp_ne', den_and, den_and', den_or, den_or', den_not, den_not', den_blit, den_of, ev_var, at_0, at_1, at_2, at_3, at_4, at_5, at_6, at_7, at_skip, c_int, c_bool, c_arr, c_cnt, c_vec, ev_nil, ev_join, ev_sub3, loc_s, int_i, bool_b, rows_s, cs_nil, cs_cons, E.den_lit, E.den_var, E.den_add, E.den_sub, E.den_mul, E.den_quo, E.den_rem, E.den_max, E.den_min, E.den_len, E.den_wr, E.den_cell, h1, ctSensors, ctSens, ctF, sensSh]
  intro v rows d _ _
  refine ⟨bds_nil _, sensorsE_short, fun z1 => ⟨sensorsE_full, fun z2 => ?_⟩⟩; rw [sensorsE_first z1 z2]; refine ⟨fun xs => match xs with | [_, .i i] => 0 ≤ i ∧ i ≤ rows.length ∧ firstE rows = firstE (rows.drop i.toNat) | _ => False, fun xs => match xs with | [_, .i i] => ((rows.length : Int) - i).toNat | _ => 0, ⟨by omega, by omega, rfl⟩, ?_⟩; rintro x _ _ i _ _ ⟨i0, i1, hi⟩; refine ⟨fun hl => ⟨i0, hl, ?_⟩, fun hl => ?_⟩
  · rintro e _ _ he; have he' : e = sensRow (rows.getD i.toNat []) := he; have hd := firstE_drop (rows := rows) (k := i.toNat) (by omega); rw [← he'] at hd; refine ⟨fun h => (by rw [hi, hd, if_neg h]), fun h => ⟨⟨by omega, by omega, ?_⟩, (show ((rows.length : Int) - (i + 1)).toNat < ((rows.length : Int) - i).toNat from (by omega))⟩⟩; rw [hi, hd, if_pos h, show (i + 1).toNat = i.toNat + 1 by omega]
  · have e : i.toNat = rows.length := (by omega); rw [hi, e, List.drop_length]; rfl
theorem rsensors_ok : tab.ok 43 := by
  refine Tab.of_ct rfl rfl ⟨_, Try.func43, by decide, rfl⟩ ?_ ctF_det
  refine ct_ok (cx := crsensors) (Tab.cx_ok (all_cons rsens_ok all_nil)) Try.func43 (bds := []) (T := trsensors) (by kernel_rfl) ?_
  have h1 : crsensors.ct 41 = some ctSens := rfl
  unfold trsensors
  simp only [VC, allC, List.map_cons, List.map_nil, List.length_cons, List.length_nil, List.getElem?_cons_zero, List.getElem?_cons_succ, List.cons.injEq, C.i.injEq, C.b.injEq, and_true, true_and, forall_const, kindsOf_nil, kindsOf_lf, kindsOf_agg, kindsOf_box, boxKinds_nil, boxKinds_lf, boxKinds_agg, boxKinds_box, List.append_nil, List.cons_append, List.nil_append, den_cmp_le, den_cmp_lt, den_cmp_eq, den_cmp_ne, den_cmp_le', den_cmp_lt', den_cmp_eq', den_cmp_ne', den_and, den_and', den_or, den_or', den_not, den_not', den_blit, den_of, ev_var, at_0, at_1, at_2, at_3, at_4, at_5, at_6, at_7, at_skip, c_int, c_bool, c_arr, c_cnt, c_vec, ev_nil, ev_join, ev_sub3, loc_s, int_i, bool_b, rows_s, cs_nil, cs_cons, E.den_lit, E.den_var, E.den_add, E.den_sub, E.den_mul, E.den_quo, E.den_rem, E.den_max, E.den_min, E.den_len, E.den_wr, E.den_cell, h1, ctSensors, ctSens, ctF, sensSh]
  intro v rows d _ _
  refine ⟨bds_nil _, sensorsE_short, fun z1 => ⟨sensorsE_full, fun z2 => ?_⟩⟩; rw [sensorsE_first z1 z2]; refine ⟨fun xs => match xs with | [_, .i i] => 0 ≤ i ∧ i ≤ rows.length ∧ firstE rows = firstE (rows.drop i.toNat) | _ => False, fun xs => match xs with | [_, .i i] => ((rows.length : Int) - i).toNat | _ => 0, ⟨by omega, by omega, rfl⟩, ?_⟩; rintro x _ _ i _ _ ⟨i0, i1, hi⟩; refine ⟨fun hl => ⟨i0, hl, ?_⟩, fun hl => ?_⟩
  · rintro e _ _ he; have he' : e = sensRow (rows.getD i.toNat []) := he; have hd := firstE_drop (rows := rows) (k := i.toNat) (by omega); rw [← he'] at hd; refine ⟨fun h => (by rw [hi, hd, if_neg h]), fun h => ⟨⟨by omega, by omega, ?_⟩, (show ((rows.length : Int) - (i + 1)).toNat < ((rows.length : Int) - i).toNat from (by omega))⟩⟩; rw [hi, hd, if_pos h, show (i + 1).toNat = i.toNat + 1 by omega]
  · have e : i.toNat = rows.length := (by omega); rw [hi, e, List.drop_length]; rfl
theorem rkicks_ok : tab.ok 39 := by
  refine Tab.of_ct rfl rfl ⟨_, Try.func39, by decide, rfl⟩ ?_ ctF_det
  refine ct_ok (cx := crkicks) (Tab.cx_ok (all_cons rleast_ok (all_cons rkick_ok all_nil))) Try.func39 (bds := []) (T := trkicks) (by kernel_rfl) ?_
  have h1 : crkicks.ct 76 = some ctLeast := rfl
  have h2 : crkicks.ct 37 = some ctKick := rfl
  unfold trkicks
  simp only [VC, allC, List.map_cons, List.map_nil, List.length_cons, List.length_nil, List.getElem?_cons_zero, List.getElem?_cons_succ, List.cons.injEq, C.i.injEq, C.b.injEq, and_true, true_and, forall_const, kindsOf_nil, kindsOf_lf, kindsOf_agg, kindsOf_box, boxKinds_nil, boxKinds_lf, boxKinds_agg, boxKinds_box, List.append_nil, List.cons_append, List.nil_append, den_cmp_le, den_cmp_lt, den_cmp_eq, den_cmp_ne, den_cmp_le', den_cmp_lt', den_cmp_eq', den_cmp_ne', den_and, den_and', den_or, den_or', den_not, den_not', den_blit, den_of, ev_var, at_0, at_1, at_2, at_3, at_4, at_5, at_6, at_7, at_skip, c_int, c_bool, c_arr, c_cnt, c_vec, ev_nil, ev_join, ev_sub3, loc_s, int_i, bool_b, rows_s, cs_nil, cs_cons, E.den_lit, E.den_var, E.den_add, E.den_sub, E.den_mul, E.den_quo, E.den_rem, E.den_max, E.den_min, E.den_len, E.den_wr, E.den_cell, h1, h2, ctKicks, ctLeast, ctKick, ctF, kicksSh, kickSh]
  intro a _ _ b _ _ c _ _ d _ _
  have no : ¬ (a ≤ b ∧ c ≤ d ∧ KOk a c ∧ KOk b d) → 2 = kicksE a b c d := fun h => by unfold kicksE; rw [if_neg h]
  have yes : (a ≤ b ∧ c ≤ d ∧ KOk a c ∧ KOk b d) → 0 = kicksE a b c d := fun h => by unfold kicksE; rw [if_pos h]
  have f1 := @kickE_iff a c
  have f2 := @kickE_iff b d
  refine ⟨bds_nil _, fun h => no (by omega), fun h1 => ⟨fun h => no (by omega), fun h2 => ?_⟩⟩
  rintro x _ _ y _ _ ⟨rfl, rfl⟩ e _ _ rfl
  refine ⟨fun h => no fun h' => h (f1.2 h'.2.2.1), fun h3 => ?_⟩
  rintro e _ _ rfl
  exact ⟨fun h => no fun h' => h (f2.2 h'.2.2.2), fun h4 => yes ⟨h1, h2, f1.1 h3, f2.1 h4⟩⟩
theorem gain_facts {r g n : Int} (hk : KOk r g) (h0 : 0 ≤ n) (h1 : n ≤ 20000) : (0 ≤ n * r ∧ n * r ≤ 20000 * 16777216) ∧ (0 ≤ n * (n - 1) ∧ n * (n - 1) ≤ 400000000) ∧ (n * (n - 1)).tdiv 2 = n * (n - 1) / 2 ∧ (0 ≤ n * (n - 1) / 2 ∧ n * (n - 1) / 2 ≤ 200000000) ∧ (0 ≤ g * (n * (n - 1) / 2) ∧ g * (n * (n - 1) / 2) ≤ 4096 * 200000000) := by
  unfold KOk at hk
  have m1 := mul_bd (a := n) (b := r) (A := 20000) (B := 16777216) (by omega) (by omega) (by omega) (by omega)
  have m2 : 0 ≤ n * (n - 1) ∧ n * (n - 1) ≤ 400000000 := by
    rcases Int.lt_or_le n 1 with h | h
    · have e : n = 0 := by omega
      subst e; omega
    · have := mul_bd (a := n) (b := n - 1) (A := 20000) (B := 20000) (by omega) (by omega) (by omega) (by omega)
      omega
  have m3 : (n * (n - 1)).tdiv 2 = n * (n - 1) / 2 := Int.tdiv_eq_ediv_of_nonneg m2.1
  have m4 : 0 ≤ n * (n - 1) / 2 ∧ n * (n - 1) / 2 ≤ 200000000 := by omega
  have m5 := mul_bd (a := g) (b := n * (n - 1) / 2) (A := 4096) (B := 200000000) (by omega) (by omega) (by omega) (by omega)
  exact ⟨m1, m2, m3, m4, m5⟩
theorem flow1_ok : tab.ok 67 := by
  refine Tab.of_ct rfl rfl ⟨_, Try.func67, by decide, rfl⟩ ?_ ctF_det
  refine ct_ok (cx := cflow1) (Tab.cx_ok all_nil) Try.func67 (bds := []) (T := tflow1) (by kernel_rfl) ?_
  unfold tflow1
  simp only [VC, allC, List.map_cons, List.map_nil, List.length_cons, List.length_nil, List.getElem?_cons_zero, List.getElem?_cons_succ, List.cons.injEq, C.i.injEq, C.b.injEq, and_true, true_and, forall_const, kindsOf_nil, kindsOf_lf, kindsOf_agg, kindsOf_box, boxKinds_nil, boxKinds_lf, boxKinds_agg, boxKinds_box, List.append_nil, List.cons_append, List.nil_append, den_cmp_le, den_cmp_lt, den_cmp_eq, den_cmp_ne, den_cmp_le', den_cmp_lt', den_cmp_eq', den_cmp_ne', den_and, den_and', den_or, den_or', den_not, den_not', den_blit, den_of, ev_var, at_0, at_1, at_2, at_3, at_4, at_5, at_6, at_7, at_skip, c_int, c_bool, c_arr, c_cnt, c_vec, ev_nil, ev_join, ev_sub3, loc_s, int_i, bool_b, rows_s, cs_nil, cs_cons, E.den_lit, E.den_var, E.den_add, E.den_sub, E.den_mul, E.den_quo, E.den_rem, E.den_max, E.den_min, E.den_len, E.den_wr, E.den_cell, ctFlow1, ctF, kickSh]
  rintro r _ _ g _ _ n _ _ ⟨hk, hn⟩
  have hk' := hk
  unfold KOk at hk'
  refine ⟨bds_nil _, fun h => ?_, fun h => ?_⟩
  · unfold flowV; rw [if_neg (by omega)]
  · have m := mul_bd (a := n) (b := g) (A := 20000) (B := 4096) (by omega) (by omega) (by omega) (by omega)
    repeat (refine And.intro (by omega) ?_)
    unfold flowV; rw [if_pos ⟨hk, by omega, by omega⟩]
theorem gain1_ok : tab.ok 66 := by
  refine Tab.of_ct rfl rfl ⟨_, Try.func66, by decide, rfl⟩ ?_ ctF_det
  refine ct_ok (cx := cgain1) (Tab.cx_ok all_nil) Try.func66 (bds := []) (T := tgain1) (by kernel_rfl) ?_
  unfold tgain1
  simp only [VC, allC, List.map_cons, List.map_nil, List.length_cons, List.length_nil, List.getElem?_cons_zero, List.getElem?_cons_succ, List.cons.injEq, C.i.injEq, C.b.injEq, and_true, true_and, forall_const, kindsOf_nil, kindsOf_lf, kindsOf_agg, kindsOf_box, boxKinds_nil, boxKinds_lf, boxKinds_agg, boxKinds_box, List.append_nil, List.cons_append, List.nil_append, den_cmp_le, den_cmp_lt, den_cmp_eq, den_cmp_ne, den_cmp_le', den_cmp_lt', den_cmp_eq', den_cmp_ne', den_and, den_and', den_or, den_or', den_not, den_not', den_blit, den_of, ev_var, at_0, at_1, at_2, at_3, at_4, at_5, at_6, at_7, at_skip, c_int, c_bool, c_arr, c_cnt, c_vec, ev_nil, ev_join, ev_sub3, loc_s, int_i, bool_b, rows_s, cs_nil, cs_cons, E.den_lit, E.den_var, E.den_add, E.den_sub, E.den_mul, E.den_quo, E.den_rem, E.den_max, E.den_min, E.den_len, E.den_wr, E.den_cell, ctGain1, ctF, kickSh]
  rintro r _ _ g _ _ n _ _ ⟨hk, hn⟩
  have hk' := hk
  unfold KOk at hk'
  refine ⟨bds_nil _, fun h => ?_, fun h => ?_⟩
  · unfold gainV; rw [if_neg (by omega)]
  · obtain ⟨m1, m2, m3, m4, m5⟩ := gain_facts hk (n := n) (by omega) (by omega)
    rw [m3]
    repeat (refine And.intro (by omega) ?_)
    unfold gainV; rw [if_pos ⟨hk, by omega, by omega⟩]
theorem flow_ok : tab.ok 24 := by
  refine Tab.of_ct rfl rfl ⟨_, Try.func24, by decide, rfl⟩ ?_ ctF_det
  refine ct_ok (cx := cflow) (Tab.cx_ok (all_cons kick_ok (all_cons flow1_ok all_nil))) Try.func24 (bds := []) (T := tflow) (by kernel_rfl) ?_
  have h1 : cflow.ct 36 = some ctKick := rfl
  have h2 : cflow.ct 67 = some ctFlow1 := rfl
  unfold tflow
  simp only [VC, allC, List.map_cons, List.map_nil, List.length_cons, List.length_nil, List.getElem?_cons_zero, List.getElem?_cons_succ, List.cons.injEq, C.i.injEq, C.b.injEq, and_true, true_and, forall_const, kindsOf_nil, kindsOf_lf, kindsOf_agg, kindsOf_box, boxKinds_nil, boxKinds_lf, boxKinds_agg, boxKinds_box, List.append_nil, List.cons_append, List.nil_append, den_cmp_le, den_cmp_lt, den_cmp_eq, den_cmp_ne, den_cmp_le', den_cmp_lt', den_cmp_eq', den_cmp_ne', den_and, den_and', den_or, den_or', den_not, den_not', den_blit, den_of, ev_var, at_0, at_1, at_2, at_3, at_4, at_5, at_6, at_7, at_skip, c_int, c_bool, c_arr, c_cnt, c_vec, ev_nil, ev_join, ev_sub3, loc_s, int_i, bool_b, rows_s, cs_nil, cs_cons, E.den_lit, E.den_var, E.den_add, E.den_sub, E.den_mul, E.den_quo, E.den_rem, E.den_max, E.den_min, E.den_len, E.den_wr, E.den_cell, h1, h2, ctFlow, ctFlow1, ctKick, ctF, kickSh]
  intro r _ _ g _ _ n _ _
  refine ⟨bds_nil _, ?_⟩
  rintro e _ _ rfl
  refine ⟨fun h => (by unfold flowV; rw [if_neg fun h' => h (kickE_iff.2 h'.1)]), fun h => ⟨fun h' => (by unfold flowV; rw [if_neg (by omega)]), fun h' => ⟨⟨kickE_iff.1 h, by omega⟩, ?_⟩⟩⟩
  rintro x _ _ rfl
  rfl
theorem gain_ok : tab.ok 23 := by
  refine Tab.of_ct rfl rfl ⟨_, Try.func23, by decide, rfl⟩ ?_ ctF_det
  refine ct_ok (cx := cgain) (Tab.cx_ok (all_cons kick_ok (all_cons gain1_ok all_nil))) Try.func23 (bds := []) (T := tgain) (by kernel_rfl) ?_
  have h1 : cgain.ct 36 = some ctKick := rfl
  have h2 : cgain.ct 66 = some ctGain1 := rfl
  unfold tgain
  simp only [VC, allC, List.map_cons, List.map_nil, List.length_cons, List.length_nil, List.getElem?_cons_zero, List.getElem?_cons_succ, List.cons.injEq, C.i.injEq, C.b.injEq, and_true, true_and, forall_const, kindsOf_nil, kindsOf_lf, kindsOf_agg, kindsOf_box, boxKinds_nil, boxKinds_lf, boxKinds_agg, boxKinds_box, List.append_nil, List.cons_append, List.nil_append, den_cmp_le, den_cmp_lt, den_cmp_eq, den_cmp_ne, den_cmp_le', den_cmp_lt', den_cmp_eq', den_cmp_ne', den_and, den_and', den_or, den_or', den_not, den_not', den_blit, den_of, ev_var, at_0, at_1, at_2, at_3, at_4, at_5, at_6, at_7, at_skip, c_int, c_bool, c_arr, c_cnt, c_vec, ev_nil, ev_join, ev_sub3, loc_s, int_i, bool_b, rows_s, cs_nil, cs_cons, E.den_lit, E.den_var, E.den_add, E.den_sub, E.den_mul, E.den_quo, E.den_rem, E.den_max, E.den_min, E.den_len, E.den_wr, E.den_cell, h1, h2, ctGain, ctGain1, ctKick, ctF, kickSh]
  intro r _ _ g _ _ n _ _
  refine ⟨bds_nil _, ?_⟩
  rintro e _ _ rfl
  refine ⟨fun h => (by unfold gainV; rw [if_neg fun h' => h (kickE_iff.2 h'.1)]), fun h => ⟨fun h' => (by unfold gainV; rw [if_neg (by omega)]), fun h' => ⟨⟨kickE_iff.1 h, by omega⟩, ?_⟩⟩⟩
  rintro x _ _ rfl
  rfl
theorem rflow_ok : tab.ok 44 := by
  refine Tab.of_ct rfl rfl ⟨_, Try.func44, by decide, rfl⟩ ?_ ctF_det
  refine ct_ok (cx := crflow) (Tab.cx_ok (all_cons rkick_ok (all_cons between_ok all_nil))) Try.func44 (bds := []) (T := trflow) (by kernel_rfl) ?_
  have h1 : crflow.ct 37 = some ctKick := rfl
  unfold trflow
  simp only [VC, allC, List.map_cons, List.map_nil, List.length_cons, List.length_nil, List.getElem?_cons_zero, List.getElem?_cons_succ, List.cons.injEq, C.i.injEq, C.b.injEq, and_true, true_and, forall_const, kindsOf_nil, kindsOf_lf, kindsOf_agg, kindsOf_box, boxKinds_nil, boxKinds_lf, boxKinds_agg, boxKinds_box, List.append_nil, List.cons_append, List.nil_append, den_cmp_le, den_cmp_lt, den_cmp_eq, den_cmp_ne, den_cmp_le', den_cmp_lt', den_cmp_eq', den_cmp_ne', den_and, den_and', den_or, den_or', den_not, den_not', den_blit, den_of, ev_var, at_0, at_1, at_2, at_3, at_4, at_5, at_6, at_7, at_skip, c_int, c_bool, c_arr, c_cnt, c_vec, ev_nil, ev_join, ev_sub3, loc_s, int_i, bool_b, rows_s, cs_nil, cs_cons, E.den_lit, E.den_var, E.den_add, E.den_sub, E.den_mul, E.den_quo, E.den_rem, E.den_max, E.den_min, E.den_len, E.den_wr, E.den_cell, h1, ctFlow, ctKick, ctF, kickSh]
  intro r _ _ g _ _ n _ _
  refine ⟨bds_nil _, ?_⟩
  rintro e _ _ rfl
  refine ⟨fun h => (by unfold flowV; rw [if_neg fun h' => h (kickE_iff.2 h'.1)]), fun h => ⟨fun h' => (by unfold flowV; rw [if_neg (by omega)]), fun h' => ?_⟩⟩
  have hk := kickE_iff.1 h
  have hk' := hk
  unfold KOk at hk'
  have m := mul_bd (a := n) (b := g) (A := 20000) (B := 4096) (by omega) (by omega) (by omega) (by omega)
  repeat (refine And.intro (by omega) ?_)
  unfold flowV; rw [if_pos ⟨hk, by omega, by omega⟩]
theorem rgain_ok : tab.ok 45 := by
  refine Tab.of_ct rfl rfl ⟨_, Try.func45, by decide, rfl⟩ ?_ ctF_det
  refine ct_ok (cx := crgain) (Tab.cx_ok (all_cons rkick_ok (all_cons between_ok all_nil))) Try.func45 (bds := []) (T := trgain) (by kernel_rfl) ?_
  have h1 : crgain.ct 37 = some ctKick := rfl
  unfold trgain
  simp only [VC, allC, List.map_cons, List.map_nil, List.length_cons, List.length_nil, List.getElem?_cons_zero, List.getElem?_cons_succ, List.cons.injEq, C.i.injEq, C.b.injEq, and_true, true_and, forall_const, kindsOf_nil, kindsOf_lf, kindsOf_agg, kindsOf_box, boxKinds_nil, boxKinds_lf, boxKinds_agg, boxKinds_box, List.append_nil, List.cons_append, List.nil_append, den_cmp_le, den_cmp_lt, den_cmp_eq, den_cmp_ne, den_cmp_le', den_cmp_lt', den_cmp_eq', den_cmp_ne', den_and, den_and', den_or, den_or', den_not, den_not', den_blit, den_of, ev_var, at_0, at_1, at_2, at_3, at_4, at_5, at_6, at_7, at_skip, c_int, c_bool, c_arr, c_cnt, c_vec, ev_nil, ev_join, ev_sub3, loc_s, int_i, bool_b, rows_s, cs_nil, cs_cons, E.den_lit, E.den_var, E.den_add, E.den_sub, E.den_mul, E.den_quo, E.den_rem, E.den_max, E.den_min, E.den_len, E.den_wr, E.den_cell, h1, ctGain, ctKick, ctF, kickSh]
  intro r _ _ g _ _ n _ _
  refine ⟨bds_nil _, ?_⟩
  rintro e _ _ rfl
  refine ⟨fun h => (by unfold gainV; rw [if_neg fun h' => h (kickE_iff.2 h'.1)]), fun h => ⟨fun h' => (by unfold gainV; rw [if_neg (by omega)]), fun h' => ?_⟩⟩
  have hk := kickE_iff.1 h
  obtain ⟨m1, m2, m3, m4, m5⟩ := gain_facts hk (n := n) (by omega) (by omega)
  rw [m3]
  repeat (refine And.intro (by omega) ?_)
  unfold gainV; rw [if_pos ⟨hk, by omega, by omega⟩]
theorem rsays_ok : tab.ok 78 := by
  refine Tab.of_ct rfl rfl ⟨_, Try.func78, by decide, rfl⟩ ?_ ctF_det
  refine ct_ok (cx := crsays) (Tab.cx_ok (all_cons rflow_ok (all_cons rgain_ok all_nil))) Try.func78 (bds := []) (T := trsays) (by kernel_rfl) ?_
  have h1 : crsays.ct 44 = some ctFlow := rfl
  have h2 : crsays.ct 45 = some ctGain := rfl
  unfold trsays
  simp only [VC, allC, List.map_cons, List.map_nil, List.length_cons, List.length_nil, List.getElem?_cons_zero, List.getElem?_cons_succ, List.cons.injEq, C.i.injEq, C.b.injEq, and_true, true_and, forall_const, kindsOf_nil, kindsOf_lf, kindsOf_agg, kindsOf_box, boxKinds_nil, boxKinds_lf, boxKinds_agg, boxKinds_box, List.append_nil, List.cons_append, List.nil_append, den_cmp_le, den_cmp_lt, den_cmp_eq, den_cmp_ne, den_cmp_le', den_cmp_lt', den_cmp_eq', den_cmp_ne', den_and, den_and', den_or, den_or', den_not, den_not', den_blit, den_of, ev_var, at_0, at_1, at_2, at_3, at_4, at_5, at_6, at_7, at_skip, c_int, c_bool, c_arr, c_cnt, c_vec, ev_nil, ev_join, ev_sub3, loc_s, int_i, bool_b, rows_s, cs_nil, cs_cons, E.den_lit, E.den_var, E.den_add, E.den_sub, E.den_mul, E.den_quo, E.den_rem, E.den_max, E.den_min, E.den_len, E.den_wr, E.den_cell, h1, h2, ctSays, ctFlow, ctGain, ctF, kickSh, sensSh]
  intro ch _ _ pe _ _ de _ _ no _ _ st _ _ lo _ _ li _ _ ho _ _ r _ _ g _ _ n _ _
  refine ⟨bds_nil _, fun h => ?_, fun h => ?_⟩
  · rintro x _ _ rfl; unfold saysV; rw [if_pos h]
  · rintro x _ _ rfl; unfold saysV; rw [if_neg h]
theorem mul_abs {a b A B : Int} (h1 : -A ≤ a) (h2 : a ≤ A) (h3 : 0 ≤ b) (h4 : b ≤ B) : -(A * B) ≤ a * b ∧ a * b ≤ A * B := by
  have h5 : A * b ≤ A * B := Int.mul_le_mul_of_nonneg_left h4 (by omega)
  have h6 : a * b ≤ A * b := Int.mul_le_mul_of_nonneg_right h2 h3
  have h7 : -A * b ≤ a * b := Int.mul_le_mul_of_nonneg_right h1 h3
  rw [Int.neg_mul] at h7
  omega
theorem sensE_iff {ch pe de no st lo li ho : Int} : sensE ch pe de no st lo li ho = 0 ↔ (ch = 1 ∨ ch = 2) ∧ SOk pe de no st lo li ho := by
  unfold sensE
  split
  · split <;> simp_all
  · simp_all
theorem saysV_bd {ch r g n : Int} : 0 ≤ saysV ch r g n ∧ saysV ch r g n ≤ 1154744320000 := by
  unfold saysV
  split
  · unfold gainV
    split
    · rename_i h
      obtain ⟨m1, m2, m3, m4, m5⟩ := gain_facts h.1 h.2.1 h.2.2
      omega
    · omega
  · unfold flowV
    split
    · rename_i h
      obtain ⟨hk, h0, h1⟩ := h
      unfold KOk at hk
      have m := mul_bd (a := n) (b := g) (A := 20000) (B := 4096) (by omega) (by omega) (by omega) (by omega)
      omega
    · omega
theorem valueV_no {ch pe de no st lo li ho r g n e : Int} (h : ¬ (sensE ch pe de no st lo li ho = 0 ∧ KOk r g ∧ -no ≤ e ∧ e ≤ no ∧ n ≤ 20000)) : 0 = valueV ch pe de no st lo li ho r g n e := by unfold valueV; rw [if_neg h]
theorem valueV_yes {ch pe de no st lo li ho r g n e : Int} (h1 : sensE ch pe de no st lo li ho = 0) (h2 : KOk r g) (h3 : -no ≤ e) (h4 : e ≤ no) (h5 : n ≤ 20000) : saysV ch r g n + e * st = valueV ch pe de no st lo li ho r g n e := by unfold valueV; rw [if_pos ⟨h1, h2, h3, h4, h5⟩]
theorem rvalue_ok : tab.ok 47 := by
  refine Tab.of_ct rfl rfl ⟨_, Try.func47, by decide, rfl⟩ ?_ ctF_det
  refine ct_ok (cx := crvalue) (Tab.cx_ok (all_cons rsens_ok (all_cons rkick_ok (all_cons between_ok (all_cons rsays_ok all_nil))))) Try.func47 (bds := []) (T := trvalue) (by kernel_rfl) ?_
  have h1 : crvalue.ct 41 = some ctSens := rfl
  have h2 : crvalue.ct 37 = some ctKick := rfl
  have h3 : crvalue.ct 78 = some ctSays := rfl
  unfold trvalue
  simp only [VC, allC, List.map_cons, List.map_nil, List.length_cons, List.length_nil, List.getElem?_cons_zero, List.getElem?_cons_succ, List.cons.injEq, C.i.injEq, C.b.injEq, and_true, true_and, forall_const, kindsOf_nil, kindsOf_lf, kindsOf_agg, kindsOf_box, boxKinds_nil, boxKinds_lf, boxKinds_agg, boxKinds_box, List.append_nil, List.cons_append, List.nil_append, den_cmp_le, den_cmp_lt, den_cmp_eq, den_cmp_ne, den_cmp_le', den_cmp_lt', den_cmp_eq', den_cmp_ne', den_and, den_and', den_or, den_or', den_not, den_not', den_blit, den_of, ev_var, at_0, at_1, at_2, at_3, at_4, at_5, at_6, at_7, at_skip, c_int, c_bool, c_arr, c_cnt, c_vec, ev_nil, ev_join, ev_sub3, loc_s, int_i, bool_b, rows_s, cs_nil, cs_cons, E.den_lit, E.den_var, E.den_add, E.den_sub, E.den_mul, E.den_quo, E.den_rem, E.den_max, E.den_min, E.den_len, E.den_wr, E.den_cell, h1, h2, h3, ctValue, ctSens, ctKick, ctSays, ctF, kickSh, sensSh]
  intro ch _ _ pe _ _ de _ _ no _ _ st _ _ lo _ _ li _ _ ho _ _ r _ _ g _ _ n _ _ e _ _
  refine ⟨bds_nil _, ?_⟩
  rintro x _ _ hx
  subst hx
  refine ⟨fun h => valueV_no fun h' => h h'.1, fun hs => ?_⟩
  obtain ⟨-, hso⟩ := sensE_iff.1 hs
  unfold SOk at hso
  rintro x _ _ rfl
  refine ⟨fun h => valueV_no fun h' => h (kickE_iff.2 h'.2.1), fun hk => ?_⟩
  refine ⟨by omega, by omega, fun h => valueV_no (by omega), fun h => ⟨fun h' => valueV_no (by omega), fun h' => ?_⟩⟩
  rintro x _ _ rfl
  have b := @saysV_bd ch r g n
  have m := mul_abs (a := e) (b := st) (A := 15) (B := 1048576) (by omega) (by omega) (by omega) (by omega)
  exact ⟨by omega, by omega, by omega, valueV_yes hs (kickE_iff.1 hk) (by omega) (by omega) h'⟩
end Go.Proofs.Ytlbgcjpkegpmlaa
/- What a sensor's channel says: a function, flow or gain with the kick bound. By the kit's walk; then the value of a sample, by the engine. -/
namespace Go.Proofs.Ytlbgcjpkegpmlaa
open Go.RowKit
set_option linter.unusedSimpArgs false
set_option linter.unusedVariables false

theorem says_two (ch pe de no st lo li ho r g : Int) (w : World) (h : ch = 2) :
    Calls Try.prog 77 #[.agg #[.int .i64 ch, .int .i64 pe, .int .i64 de, .int .i64 no, .int .i64 st, .int .i64 lo, .int .i64 li, .int .i64 ho], .agg #[.int .i64 r, .int .i64 g]] w
      fun e w' => e = .returned (.func (Fn.func 67) #[.agg #[.int .i64 r, .int .i64 g]] #[]) ∧ Below w.heap.size w w' := by
  subst h
  go_enter Try.func77, Try.ntmps77
  go_wp2
  go_returns
  refine ⟨rfl, ?_⟩
  repeat' (first | with_reducible exact Below.refl _ _ | with_reducible refine bstep ?_ (by with_reducible assumption) | with_reducible refine balloc ?_ | with_reducible refine bdrew ?_ | with_reducible refine bdrewN ?_ _ | with_reducible refine bset ?_ (by go_size))
theorem says_else (ch pe de no st lo li ho r g : Int) (w : World) (h : ¬ ch = 2) :
    Calls Try.prog 77 #[.agg #[.int .i64 ch, .int .i64 pe, .int .i64 de, .int .i64 no, .int .i64 st, .int .i64 lo, .int .i64 li, .int .i64 ho], .agg #[.int .i64 r, .int .i64 g]] w
      fun e w' => e = .returned (.func (Fn.func 66) #[.agg #[.int .i64 r, .int .i64 g]] #[]) ∧ Below w.heap.size w w' := by
  go_enter Try.func77, Try.ntmps77
  go_wp2
  go_returns
  refine ⟨rfl, ?_⟩
  repeat' (first | with_reducible exact Below.refl _ _ | with_reducible refine bstep ?_ (by with_reducible assumption) | with_reducible refine balloc ?_ | with_reducible refine bdrew ?_ | with_reducible refine bdrewN ?_ _ | with_reducible refine bset ?_ (by go_size))
theorem says_ok : tab.ok 77 := by
  refine Tab.of_sel rfl rfl ⟨_, Try.func77, by decide, rfl⟩ rfl ?_
  intro Γ bd args obs b s1 s2 hn hg ho
  unfold saysS at hg
  split at hg
  · cases hg
    refine ⟨rfl, rfl, fun w => ?_⟩
    rename_i ch pe de no st lo li ho r g
    have hd := B.den_mkCmp hn .eq ch (.lit 2)
    by_cases h : ch.den Γ.ρ = 2
    · have e : (B.mkCmp bd .eq ch (.lit 2)).den Γ.ρ = true := by rw [hd]; simp [Cmp.den, h, E.den_lit]
      rw [if_pos e]
      exact says_two _ _ _ _ _ _ _ _ _ _ w h
    · have e : ¬ (B.mkCmp bd .eq ch (.lit 2)).den Γ.ρ = true := by rw [hd]; simp [Cmp.den, h, E.den_lit]
      rw [if_neg e]
      exact says_else _ _ _ _ _ _ _ _ _ _ w h
  · cases hg
theorem value_ok : tab.ok 46 := by
  refine Tab.of_ct rfl rfl ⟨_, Try.func46, by decide, rfl⟩ ?_ ctF_det
  refine ct_ok (cx := cvalue) (Tab.cx_ok (all_cons sens_ok (all_cons kick_ok (all_cons within_ok (all_cons says_ok (all_cons flow1_ok (all_cons gain1_ok all_nil))))))) Try.func46 (bds := []) (T := tvalue) (by kernel_rfl) ?_
  have h1 : cvalue.ct 40 = some ctSens := rfl
  have h2 : cvalue.ct 36 = some ctKick := rfl
  have h3 : cvalue.ct 67 = some ctFlow1 := rfl
  have h4 : cvalue.ct 66 = some ctGain1 := rfl
  unfold tvalue
  simp only [VC, allC, List.map_cons, List.map_nil, List.length_cons, List.length_nil, List.getElem?_cons_zero, List.getElem?_cons_succ, List.cons.injEq, C.i.injEq, C.b.injEq, and_true, true_and, forall_const, kindsOf_nil, kindsOf_lf, kindsOf_agg, kindsOf_box, boxKinds_nil, boxKinds_lf, boxKinds_agg, boxKinds_box, List.append_nil, List.cons_append, List.nil_append, den_cmp_le, den_cmp_lt, den_cmp_eq, den_cmp_ne, den_cmp_le', den_cmp_lt', den_cmp_eq', den_cmp_ne', den_and, den_and', den_or, den_or', den_not, den_not', den_blit, den_of, ev_var, at_0, at_1, at_2, at_3, at_4, at_5, at_6, at_7, at_skip, c_int, c_bool, c_arr, c_cnt, c_vec, ev_nil, ev_join, ev_sub3, loc_s, int_i, bool_b, rows_s, cs_nil, cs_cons, E.den_lit, E.den_var, E.den_add, E.den_sub, E.den_mul, E.den_quo, E.den_rem, E.den_max, E.den_min, E.den_len, E.den_wr, E.den_cell, h1, h2, h3, h4, ctValue, ctSens, ctKick, ctFlow1, ctGain1, ctF, kickSh, sensSh]
  intro ch _ _ pe _ _ de _ _ no _ _ st _ _ lo _ _ li _ _ ho _ _ r _ _ g _ _ n _ _ e _ _
  refine ⟨bds_nil _, ?_⟩
  rintro x _ _ hx
  subst hx
  refine ⟨fun h => valueV_no fun h' => h h'.1, fun hs => ?_⟩
  obtain ⟨hch, hso⟩ := sensE_iff.1 hs
  unfold SOk at hso
  rintro x _ _ rfl
  refine ⟨fun h => valueV_no fun h' => h (kickE_iff.2 h'.2.1), fun hk => ?_⟩
  have hk' := kickE_iff.1 hk
  have b := @saysV_bd ch r g n
  refine ⟨by omega, by omega, fun h => valueV_no (by omega), fun h => ⟨fun h' => valueV_no (by omega), fun h' => ?_⟩⟩
  have m := mul_abs (a := e) (b := st) (A := 15) (B := 1048576) (by omega) (by omega) (by omega) (by omega)
  have hv := valueV_yes (e := e) hs hk' (by omega) (by omega) h'
  refine ⟨by omega, fun hc => ⟨⟨hk', h'⟩, ?_⟩, fun hc => ⟨⟨hk', h'⟩, ?_⟩⟩
  · have he : saysV ch r g n = flowV r g n := by unfold saysV; rw [if_neg (by omega)]
    rw [he] at b hv
    rintro x _ _ rfl
    exact ⟨by omega, by omega, hv⟩
  · have he : saysV ch r g n = gainV r g n := by unfold saysV; rw [if_pos (by omega)]
    rw [he] at b hv
    rintro x _ _ rfl
    exact ⟨by omega, by omega, hv⟩
theorem checks_ok (awake_ok : tab.ok 19) : CtOK Try.prog 8 (ctLaw [kickSh, kicksSh, sensSh, .lf (.arr 23), .lf .int, .lf .int]) := by
  refine ct_ok (cx := cchecks) (Tab.cx_ok (all_cons kick_ok (all_cons rkick_ok (all_cons kicks_ok (all_cons rkicks_ok (all_cons sens_ok (all_cons rsens_ok (all_cons sensors_ok (all_cons rsensors_ok (all_cons flow_ok (all_cons rflow_ok (all_cons gain_ok (all_cons rgain_ok (all_cons value_ok (all_cons rvalue_ok (all_cons awake_ok all_nil)))))))))))))))) Try.func8 (bds := []) (T := tchecks) (by kernel_rfl) ?_
  have h1 : cchecks.ct 36 = some ctKick := rfl
  have h2 : cchecks.ct 37 = some ctKick := rfl
  have h3 : cchecks.ct 38 = some ctKicks := rfl
  have h4 : cchecks.ct 39 = some ctKicks := rfl
  have h5 : cchecks.ct 40 = some ctSens := rfl
  have h6 : cchecks.ct 41 = some ctSens := rfl
  have h7 : cchecks.ct 42 = some ctSensors := rfl
  have h8 : cchecks.ct 43 = some ctSensors := rfl
  have h9 : cchecks.ct 24 = some ctFlow := rfl
  have h10 : cchecks.ct 44 = some ctFlow := rfl
  have h11 : cchecks.ct 23 = some ctGain := rfl
  have h12 : cchecks.ct 45 = some ctGain := rfl
  have h13 : cchecks.ct 46 = some ctValue := rfl
  have h14 : cchecks.ct 47 = some ctValue := rfl
  have h15 : cchecks.ct 19 = some ctAwake := rfl
  unfold tchecks
  simp only [VC, allC, List.map_cons, List.map_nil, List.length_cons, List.length_nil, List.getElem?_cons_zero, List.getElem?_cons_succ, List.cons.injEq, C.i.injEq, C.b.injEq, and_true, true_and, forall_const, kindsOf_nil, kindsOf_lf, kindsOf_agg, kindsOf_box, boxKinds_nil, boxKinds_lf, boxKinds_agg, boxKinds_box, List.append_nil, List.cons_append, List.nil_append, den_cmp_le, den_cmp_lt, den_cmp_eq, den_cmp_ne, den_cmp_le', den_cmp_lt', den_cmp_eq', den_cmp_ne', den_and, den_and', den_or, den_or', den_not, den_not', den_blit, den_of, ev_var, at_0, at_1, at_2, at_3, at_4, at_5, at_6, at_7, at_skip, c_int, c_bool, c_arr, c_cnt, c_vec, ev_nil, ev_join, ev_sub3, loc_s, int_i, bool_b, rows_s, cs_nil, cs_cons, E.den_lit, E.den_var, E.den_add, E.den_sub, E.den_mul, E.den_quo, E.den_rem, E.den_max, E.den_min, E.den_len, E.den_wr, E.den_cell, ctLaw, h1, h2, h3, h4, h5, h6, h7, h8, h9, h10, h11, h12, h13, h14, h15, ctKick, ctKicks, ctSens, ctSensors, ctFlow, ctGain, ctValue, ctAwake, ctF, kickSh, kicksSh, sensSh]
  intro r _ _ g _ _ xa _ _ xb _ _ xc _ _ xd _ _ s0 _ _ s1 _ _ s2 _ _ s3 _ _ s4 _ _ s5 _ _ s6 _ _ s7 _ _ v rows d _ _ n _ _ e0 _ _
  refine ⟨bds_nil _, fun h => fun t ht => ht, fun h => ?_⟩
  rintro x _ _ hx y _ _ hy
  have e := hx.trans hy.symm
  clear hx hy
  unfold tchecks_7
  simp only [VC, allC, List.map_cons, List.map_nil, List.length_cons, List.length_nil, List.getElem?_cons_zero, List.getElem?_cons_succ, List.cons.injEq, C.i.injEq, C.b.injEq, and_true, true_and, forall_const, kindsOf_nil, kindsOf_lf, kindsOf_agg, kindsOf_box, boxKinds_nil, boxKinds_lf, boxKinds_agg, boxKinds_box, List.append_nil, List.cons_append, List.nil_append, den_cmp_le, den_cmp_lt, den_cmp_eq, den_cmp_ne, den_cmp_le', den_cmp_lt', den_cmp_eq', den_cmp_ne', den_and, den_and', den_or, den_or', den_not, den_not', den_blit, den_of, ev_var, at_0, at_1, at_2, at_3, at_4, at_5, at_6, at_7, at_skip, c_int, c_bool, c_arr, c_cnt, c_vec, ev_nil, ev_join, ev_sub3, loc_s, int_i, bool_b, rows_s, cs_nil, cs_cons, E.den_lit, E.den_var, E.den_add, E.den_sub, E.den_mul, E.den_quo, E.den_rem, E.den_max, E.den_min, E.den_len, E.den_wr, E.den_cell, h1, h2, h3, h4, h5, h6, h7, h8, h9, h10, h11, h12, h13, h14, h15, ctKick, ctKicks, ctSens, ctSensors, ctFlow, ctGain, ctValue, ctAwake, ctF, kickSh, kicksSh, sensSh]
  refine ⟨fun h => absurd e h, fun _ => ?_⟩
  rintro x _ _ hx y _ _ hy
  have e := hx.trans hy.symm
  clear hx hy
  unfold tchecks_6
  simp only [VC, allC, List.map_cons, List.map_nil, List.length_cons, List.length_nil, List.getElem?_cons_zero, List.getElem?_cons_succ, List.cons.injEq, C.i.injEq, C.b.injEq, and_true, true_and, forall_const, kindsOf_nil, kindsOf_lf, kindsOf_agg, kindsOf_box, boxKinds_nil, boxKinds_lf, boxKinds_agg, boxKinds_box, List.append_nil, List.cons_append, List.nil_append, den_cmp_le, den_cmp_lt, den_cmp_eq, den_cmp_ne, den_cmp_le', den_cmp_lt', den_cmp_eq', den_cmp_ne', den_and, den_and', den_or, den_or', den_not, den_not', den_blit, den_of, ev_var, at_0, at_1, at_2, at_3, at_4, at_5, at_6, at_7, at_skip, c_int, c_bool, c_arr, c_cnt, c_vec, ev_nil, ev_join, ev_sub3, loc_s, int_i, bool_b, rows_s, cs_nil, cs_cons, E.den_lit, E.den_var, E.den_add, E.den_sub, E.den_mul, E.den_quo, E.den_rem, E.den_max, E.den_min, E.den_len, E.den_wr, E.den_cell, h1, h2, h3, h4, h5, h6, h7, h8, h9, h10, h11, h12, h13, h14, h15, ctKick, ctKicks, ctSens, ctSensors, ctFlow, ctGain, ctValue, ctAwake, ctF, kickSh, kicksSh, sensSh]
  refine ⟨fun h => absurd e h, fun _ => ?_⟩
  rintro x _ _ hx
  unfold tchecks_5
  simp only [VC, allC, List.map_cons, List.map_nil, List.length_cons, List.length_nil, List.getElem?_cons_zero, List.getElem?_cons_succ, List.cons.injEq, C.i.injEq, C.b.injEq, and_true, true_and, forall_const, kindsOf_nil, kindsOf_lf, kindsOf_agg, kindsOf_box, boxKinds_nil, boxKinds_lf, boxKinds_agg, boxKinds_box, List.append_nil, List.cons_append, List.nil_append, den_cmp_le, den_cmp_lt, den_cmp_eq, den_cmp_ne, den_cmp_le', den_cmp_lt', den_cmp_eq', den_cmp_ne', den_and, den_and', den_or, den_or', den_not, den_not', den_blit, den_of, ev_var, at_0, at_1, at_2, at_3, at_4, at_5, at_6, at_7, at_skip, c_int, c_bool, c_arr, c_cnt, c_vec, ev_nil, ev_join, ev_sub3, loc_s, int_i, bool_b, rows_s, cs_nil, cs_cons, E.den_lit, E.den_var, E.den_add, E.den_sub, E.den_mul, E.den_quo, E.den_rem, E.den_max, E.den_min, E.den_len, E.den_wr, E.den_cell, h1, h2, h3, h4, h5, h6, h7, h8, h9, h10, h11, h12, h13, h14, h15, ctKick, ctKicks, ctSens, ctSensors, ctFlow, ctGain, ctValue, ctAwake, ctF, kickSh, kicksSh, sensSh]
  rintro y _ _ hy
  have e := hx.trans hy.symm
  clear hx hy
  refine ⟨fun h => absurd e h, fun _ => ?_⟩
  rintro x _ _ hx y _ _ hy
  have e := hx.trans hy.symm
  clear hx hy
  unfold tchecks_4
  simp only [VC, allC, List.map_cons, List.map_nil, List.length_cons, List.length_nil, List.getElem?_cons_zero, List.getElem?_cons_succ, List.cons.injEq, C.i.injEq, C.b.injEq, and_true, true_and, forall_const, kindsOf_nil, kindsOf_lf, kindsOf_agg, kindsOf_box, boxKinds_nil, boxKinds_lf, boxKinds_agg, boxKinds_box, List.append_nil, List.cons_append, List.nil_append, den_cmp_le, den_cmp_lt, den_cmp_eq, den_cmp_ne, den_cmp_le', den_cmp_lt', den_cmp_eq', den_cmp_ne', den_and, den_and', den_or, den_or', den_not, den_not', den_blit, den_of, ev_var, at_0, at_1, at_2, at_3, at_4, at_5, at_6, at_7, at_skip, c_int, c_bool, c_arr, c_cnt, c_vec, ev_nil, ev_join, ev_sub3, loc_s, int_i, bool_b, rows_s, cs_nil, cs_cons, E.den_lit, E.den_var, E.den_add, E.den_sub, E.den_mul, E.den_quo, E.den_rem, E.den_max, E.den_min, E.den_len, E.den_wr, E.den_cell, h1, h2, h3, h4, h5, h6, h7, h8, h9, h10, h11, h12, h13, h14, h15, ctKick, ctKicks, ctSens, ctSensors, ctFlow, ctGain, ctValue, ctAwake, ctF, kickSh, kicksSh, sensSh]
  refine ⟨fun h => absurd e h, fun _ => ?_⟩
  rintro x _ _ hx y _ _ hy
  have e := hx.trans hy.symm
  clear hx hy
  unfold tchecks_3
  simp only [VC, allC, List.map_cons, List.map_nil, List.length_cons, List.length_nil, List.getElem?_cons_zero, List.getElem?_cons_succ, List.cons.injEq, C.i.injEq, C.b.injEq, and_true, true_and, forall_const, kindsOf_nil, kindsOf_lf, kindsOf_agg, kindsOf_box, boxKinds_nil, boxKinds_lf, boxKinds_agg, boxKinds_box, List.append_nil, List.cons_append, List.nil_append, den_cmp_le, den_cmp_lt, den_cmp_eq, den_cmp_ne, den_cmp_le', den_cmp_lt', den_cmp_eq', den_cmp_ne', den_and, den_and', den_or, den_or', den_not, den_not', den_blit, den_of, ev_var, at_0, at_1, at_2, at_3, at_4, at_5, at_6, at_7, at_skip, c_int, c_bool, c_arr, c_cnt, c_vec, ev_nil, ev_join, ev_sub3, loc_s, int_i, bool_b, rows_s, cs_nil, cs_cons, E.den_lit, E.den_var, E.den_add, E.den_sub, E.den_mul, E.den_quo, E.den_rem, E.den_max, E.den_min, E.den_len, E.den_wr, E.den_cell, h1, h2, h3, h4, h5, h6, h7, h8, h9, h10, h11, h12, h13, h14, h15, ctKick, ctKicks, ctSens, ctSensors, ctFlow, ctGain, ctValue, ctAwake, ctF, kickSh, kicksSh, sensSh]
  refine ⟨fun _ => ?_, fun h => absurd e h⟩
  rintro x _ _ hx y _ _ hy
  have e := hx.trans hy.symm
  clear hx hy
  unfold tchecks_2
  simp only [VC, allC, List.map_cons, List.map_nil, List.length_cons, List.length_nil, List.getElem?_cons_zero, List.getElem?_cons_succ, List.cons.injEq, C.i.injEq, C.b.injEq, and_true, true_and, forall_const, kindsOf_nil, kindsOf_lf, kindsOf_agg, kindsOf_box, boxKinds_nil, boxKinds_lf, boxKinds_agg, boxKinds_box, List.append_nil, List.cons_append, List.nil_append, den_cmp_le, den_cmp_lt, den_cmp_eq, den_cmp_ne, den_cmp_le', den_cmp_lt', den_cmp_eq', den_cmp_ne', den_and, den_and', den_or, den_or', den_not, den_not', den_blit, den_of, ev_var, at_0, at_1, at_2, at_3, at_4, at_5, at_6, at_7, at_skip, c_int, c_bool, c_arr, c_cnt, c_vec, ev_nil, ev_join, ev_sub3, loc_s, int_i, bool_b, rows_s, cs_nil, cs_cons, E.den_lit, E.den_var, E.den_add, E.den_sub, E.den_mul, E.den_quo, E.den_rem, E.den_max, E.den_min, E.den_len, E.den_wr, E.den_cell, h1, h2, h3, h4, h5, h6, h7, h8, h9, h10, h11, h12, h13, h14, h15, ctKick, ctKicks, ctSens, ctSensors, ctFlow, ctGain, ctValue, ctAwake, ctF, kickSh, kicksSh, sensSh]
  refine ⟨fun _ => ?_, fun h => absurd e h⟩
  rintro x _ _ hx
  unfold tchecks_1
  simp only [VC, allC, List.map_cons, List.map_nil, List.length_cons, List.length_nil, List.getElem?_cons_zero, List.getElem?_cons_succ, List.cons.injEq, C.i.injEq, C.b.injEq, and_true, true_and, forall_const, kindsOf_nil, kindsOf_lf, kindsOf_agg, kindsOf_box, boxKinds_nil, boxKinds_lf, boxKinds_agg, boxKinds_box, List.append_nil, List.cons_append, List.nil_append, den_cmp_le, den_cmp_lt, den_cmp_eq, den_cmp_ne, den_cmp_le', den_cmp_lt', den_cmp_eq', den_cmp_ne', den_and, den_and', den_or, den_or', den_not, den_not', den_blit, den_of, ev_var, at_0, at_1, at_2, at_3, at_4, at_5, at_6, at_7, at_skip, c_int, c_bool, c_arr, c_cnt, c_vec, ev_nil, ev_join, ev_sub3, loc_s, int_i, bool_b, rows_s, cs_nil, cs_cons, E.den_lit, E.den_var, E.den_add, E.den_sub, E.den_mul, E.den_quo, E.den_rem, E.den_max, E.den_min, E.den_len, E.den_wr, E.den_cell, h1, h2, h3, h4, h5, h6, h7, h8, h9, h10, h11, h12, h13, h14, h15, ctKick, ctKicks, ctSens, ctSensors, ctFlow, ctGain, ctValue, ctAwake, ctF, kickSh, kicksSh, sensSh]
  rintro y _ _ hy
  have e := hx.trans hy.symm
  clear hx hy
  refine ⟨fun _ => ?_, fun h => absurd e h⟩
  exact fun t ht => ht
end Go.Proofs.Ytlbgcjpkegpmlaa
/- Sensors and sets of kicks made of numbers; the latest alarm. -/
namespace Go.Proofs.Ytlbgcjpkegpmlaa
open Go.RowKit
set_option linter.unusedSimpArgs false
set_option linter.unusedVariables false

theorem kicksof_ok : tab.ok 48 := by
  refine Tab.of_ct rfl rfl ⟨_, Try.func48, by decide, rfl⟩ ?_ (fun h => by cases h)
  refine ct_ok (cx := ckicksof) (Tab.cx_ok (all_cons next_ok (all_cons kickof_ok all_nil))) Try.func48 (bds := []) (T := tkicksof) (by kernel_rfl) ?_
  have hn : ckicksof.ct 26 = some ctNext := rfl
  have hk : ckicksof.ct 20 = some ctKickOf := rfl
  unfold tkicksof tkicksof_2 tkicksof_1
  simp only [VC, allC, List.map_cons, List.map_nil, List.length_cons, List.length_nil, List.getElem?_cons_zero, List.getElem?_cons_succ, List.cons.injEq, C.i.injEq, C.b.injEq, and_true, true_and, forall_const, kindsOf_nil, kindsOf_lf, kindsOf_agg, kindsOf_box, boxKinds_nil, boxKinds_lf, boxKinds_agg, boxKinds_box, List.append_nil, List.cons_append, List.nil_append, den_cmp_le, den_cmp_lt, den_cmp_eq, den_cmp_ne, den_cmp_le', den_cmp_lt', den_cmp_eq', den_cmp_ne', den_and, den_and', den_or, den_or', den_not, den_not', den_blit, den_of, ev_var, at_0, at_1, at_2, at_3, at_4, at_5, at_6, at_7, at_skip, c_int, c_bool, c_arr, c_cnt, c_vec, ev_nil, ev_join, ev_sub3, loc_s, int_i, bool_b, rows_s, cs_nil, cs_cons, E.den_lit, E.den_var, E.den_add, E.den_sub, E.den_mul, E.den_quo, E.den_rem, E.den_max, E.den_min, E.den_len, E.den_wr, E.den_cell, hn, hk, ctKicksOf, ctKickOf, ctNext, atPre, ringSh, kicksSh]
  rintro v rows d hty hsm at_ a1 a2 ⟨p1, p2⟩
  refine ⟨bds_nil _, by omega, ?_⟩
  rintro x0 _ _ y0 _ _ v0 rows0 d0 _ _ at0 _ _ ⟨x1, x2, y1, y2, rfl, rfl, rfl⟩
  refine ⟨by omega, ?_⟩
  rintro z0 _ _ v1 rows1 d1 _ _ at1 _ _ ⟨z1, z2, rfl, rfl, rfl⟩
  refine ⟨by omega, by omega, ?_⟩
  rintro u0 _ _ v2 rows2 d2 _ _ at2 _ _ ⟨u1, u2, rfl, rfl, rfl⟩
  repeat (refine And.intro (by omega) ?_)
  exact ⟨rfl, rfl, by omega⟩
theorem sensorof_ok : tab.ok 25 := by
  refine Tab.of_ct rfl rfl ⟨_, Try.func25, by decide, rfl⟩ ?_ (fun h => by cases h)
  refine ct_ok (cx := csensorof) (Tab.cx_ok (all_cons next_ok all_nil)) Try.func25 (bds := []) (T := tsensorof) (by kernel_rfl) ?_
  have hn : csensorof.ct 26 = some ctNext := rfl
  unfold tsensorof
  simp only [VC, allC, List.map_cons, List.map_nil, List.length_cons, List.length_nil, List.getElem?_cons_zero, List.getElem?_cons_succ, List.cons.injEq, C.i.injEq, C.b.injEq, and_true, true_and, forall_const, kindsOf_nil, kindsOf_lf, kindsOf_agg, kindsOf_box, boxKinds_nil, boxKinds_lf, boxKinds_agg, boxKinds_box, List.append_nil, List.cons_append, List.nil_append, den_cmp_le, den_cmp_lt, den_cmp_eq, den_cmp_ne, den_cmp_le', den_cmp_lt', den_cmp_eq', den_cmp_ne', den_and, den_and', den_or, den_or', den_not, den_not', den_blit, den_of, ev_var, at_0, at_1, at_2, at_3, at_4, at_5, at_6, at_7, at_skip, c_int, c_bool, c_arr, c_cnt, c_vec, ev_nil, ev_join, ev_sub3, loc_s, int_i, bool_b, rows_s, cs_nil, cs_cons, E.den_lit, E.den_var, E.den_add, E.den_sub, E.den_mul, E.den_quo, E.den_rem, E.den_max, E.den_min, E.den_len, E.den_wr, E.den_cell, hn, ctSensorOf, ctNext, atPre, ringSh, sensSh, SensGood]
  rintro v rows d hty hsm at_ a1 a2 ⟨p1, p2⟩
  refine ⟨bds_nil _, by omega, ?_⟩
  rintro x1 _ _ v0 rows0 d0 _ _ at0 _ _ ⟨l1, u1, rfl, rfl, rfl⟩
  unfold tsensorof_6
  simp only [VC, allC, List.map_cons, List.map_nil, List.length_cons, List.length_nil, List.getElem?_cons_zero, List.getElem?_cons_succ, List.cons.injEq, C.i.injEq, C.b.injEq, and_true, true_and, forall_const, kindsOf_nil, kindsOf_lf, kindsOf_agg, kindsOf_box, boxKinds_nil, boxKinds_lf, boxKinds_agg, boxKinds_box, List.append_nil, List.cons_append, List.nil_append, den_cmp_le, den_cmp_lt, den_cmp_eq, den_cmp_ne, den_cmp_le', den_cmp_lt', den_cmp_eq', den_cmp_ne', den_and, den_and', den_or, den_or', den_not, den_not', den_blit, den_of, ev_var, at_0, at_1, at_2, at_3, at_4, at_5, at_6, at_7, at_skip, c_int, c_bool, c_arr, c_cnt, c_vec, ev_nil, ev_join, ev_sub3, loc_s, int_i, bool_b, rows_s, cs_nil, cs_cons, E.den_lit, E.den_var, E.den_add, E.den_sub, E.den_mul, E.den_quo, E.den_rem, E.den_max, E.den_min, E.den_len, E.den_wr, E.den_cell, hn, ctNext, ringSh]
  repeat (refine And.intro (by omega) ?_)
  rintro x2 _ _ v0 rows0 d0 _ _ at0 _ _ ⟨l2, u2, rfl, rfl, rfl⟩
  unfold tsensorof_5
  simp only [VC, allC, List.map_cons, List.map_nil, List.length_cons, List.length_nil, List.getElem?_cons_zero, List.getElem?_cons_succ, List.cons.injEq, C.i.injEq, C.b.injEq, and_true, true_and, forall_const, kindsOf_nil, kindsOf_lf, kindsOf_agg, kindsOf_box, boxKinds_nil, boxKinds_lf, boxKinds_agg, boxKinds_box, List.append_nil, List.cons_append, List.nil_append, den_cmp_le, den_cmp_lt, den_cmp_eq, den_cmp_ne, den_cmp_le', den_cmp_lt', den_cmp_eq', den_cmp_ne', den_and, den_and', den_or, den_or', den_not, den_not', den_blit, den_of, ev_var, at_0, at_1, at_2, at_3, at_4, at_5, at_6, at_7, at_skip, c_int, c_bool, c_arr, c_cnt, c_vec, ev_nil, ev_join, ev_sub3, loc_s, int_i, bool_b, rows_s, cs_nil, cs_cons, E.den_lit, E.den_var, E.den_add, E.den_sub, E.den_mul, E.den_quo, E.den_rem, E.den_max, E.den_min, E.den_len, E.den_wr, E.den_cell, hn, ctNext, ringSh]
  repeat (refine And.intro (by omega) ?_)
  rintro x3 _ _ v0 rows0 d0 _ _ at0 _ _ ⟨l3, u3, rfl, rfl, rfl⟩
  repeat (refine And.intro (by omega) ?_)
  rintro x4 _ _ v0 rows0 d0 _ _ at0 _ _ ⟨l4, u4, rfl, rfl, rfl⟩
  have m := mul_bd (a := x3) (b := x4) (A := 2) (B := 19) (by omega) (by omega) (by omega) (by omega)
  unfold tsensorof_4
  simp only [VC, allC, List.map_cons, List.map_nil, List.length_cons, List.length_nil, List.getElem?_cons_zero, List.getElem?_cons_succ, List.cons.injEq, C.i.injEq, C.b.injEq, and_true, true_and, forall_const, kindsOf_nil, kindsOf_lf, kindsOf_agg, kindsOf_box, boxKinds_nil, boxKinds_lf, boxKinds_agg, boxKinds_box, List.append_nil, List.cons_append, List.nil_append, den_cmp_le, den_cmp_lt, den_cmp_eq, den_cmp_ne, den_cmp_le', den_cmp_lt', den_cmp_eq', den_cmp_ne', den_and, den_and', den_or, den_or', den_not, den_not', den_blit, den_of, ev_var, at_0, at_1, at_2, at_3, at_4, at_5, at_6, at_7, at_skip, c_int, c_bool, c_arr, c_cnt, c_vec, ev_nil, ev_join, ev_sub3, loc_s, int_i, bool_b, rows_s, cs_nil, cs_cons, E.den_lit, E.den_var, E.den_add, E.den_sub, E.den_mul, E.den_quo, E.den_rem, E.den_max, E.den_min, E.den_len, E.den_wr, E.den_cell, hn, ctNext, ringSh]
  repeat (refine And.intro (by omega) ?_)
  rintro x5 _ _ v0 rows0 d0 _ _ at0 _ _ ⟨l5, u5, rfl, rfl, rfl⟩
  repeat (refine And.intro (by omega) ?_)
  rintro x6 _ _ v0 rows0 d0 _ _ at0 _ _ ⟨l6, u6, rfl, rfl, rfl⟩
  unfold tsensorof_3
  simp only [VC, allC, List.map_cons, List.map_nil, List.length_cons, List.length_nil, List.getElem?_cons_zero, List.getElem?_cons_succ, List.cons.injEq, C.i.injEq, C.b.injEq, and_true, true_and, forall_const, kindsOf_nil, kindsOf_lf, kindsOf_agg, kindsOf_box, boxKinds_nil, boxKinds_lf, boxKinds_agg, boxKinds_box, List.append_nil, List.cons_append, List.nil_append, den_cmp_le, den_cmp_lt, den_cmp_eq, den_cmp_ne, den_cmp_le', den_cmp_lt', den_cmp_eq', den_cmp_ne', den_and, den_and', den_or, den_or', den_not, den_not', den_blit, den_of, ev_var, at_0, at_1, at_2, at_3, at_4, at_5, at_6, at_7, at_skip, c_int, c_bool, c_arr, c_cnt, c_vec, ev_nil, ev_join, ev_sub3, loc_s, int_i, bool_b, rows_s, cs_nil, cs_cons, E.den_lit, E.den_var, E.den_add, E.den_sub, E.den_mul, E.den_quo, E.den_rem, E.den_max, E.den_min, E.den_len, E.den_wr, E.den_cell, hn, ctNext, ringSh]
  repeat (refine And.intro (by omega) ?_)
  rintro x7 _ _ v0 rows0 d0 _ _ at0 _ _ ⟨l7, u7, rfl, rfl, rfl⟩
  repeat (refine And.intro (by omega) ?_)
  rintro x8 _ _ v0 rows0 d0 _ _ at0 _ _ ⟨l8, u8, rfl, rfl, rfl⟩
  unfold tsensorof_2
  simp only [VC, allC, List.map_cons, List.map_nil, List.length_cons, List.length_nil, List.getElem?_cons_zero, List.getElem?_cons_succ, List.cons.injEq, C.i.injEq, C.b.injEq, and_true, true_and, forall_const, kindsOf_nil, kindsOf_lf, kindsOf_agg, kindsOf_box, boxKinds_nil, boxKinds_lf, boxKinds_agg, boxKinds_box, List.append_nil, List.cons_append, List.nil_append, den_cmp_le, den_cmp_lt, den_cmp_eq, den_cmp_ne, den_cmp_le', den_cmp_lt', den_cmp_eq', den_cmp_ne', den_and, den_and', den_or, den_or', den_not, den_not', den_blit, den_of, ev_var, at_0, at_1, at_2, at_3, at_4, at_5, at_6, at_7, at_skip, c_int, c_bool, c_arr, c_cnt, c_vec, ev_nil, ev_join, ev_sub3, loc_s, int_i, bool_b, rows_s, cs_nil, cs_cons, E.den_lit, E.den_var, E.den_add, E.den_sub, E.den_mul, E.den_quo, E.den_rem, E.den_max, E.den_min, E.den_len, E.den_wr, E.den_cell, hn, ctNext, ringSh]
  repeat (refine And.intro (by omega) ?_)
  rintro x9 _ _ v0 rows0 d0 _ _ at0 _ _ ⟨l9, u9, rfl, rfl, rfl⟩
  unfold tsensorof_1
  simp only [VC, allC, List.map_cons, List.map_nil, List.length_cons, List.length_nil, List.getElem?_cons_zero, List.getElem?_cons_succ, List.cons.injEq, C.i.injEq, C.b.injEq, and_true, true_and, forall_const, kindsOf_nil, kindsOf_lf, kindsOf_agg, kindsOf_box, boxKinds_nil, boxKinds_lf, boxKinds_agg, boxKinds_box, List.append_nil, List.cons_append, List.nil_append, den_cmp_le, den_cmp_lt, den_cmp_eq, den_cmp_ne, den_cmp_le', den_cmp_lt', den_cmp_eq', den_cmp_ne', den_and, den_and', den_or, den_or', den_not, den_not', den_blit, den_of, ev_var, at_0, at_1, at_2, at_3, at_4, at_5, at_6, at_7, at_skip, c_int, c_bool, c_arr, c_cnt, c_vec, ev_nil, ev_join, ev_sub3, loc_s, int_i, bool_b, rows_s, cs_nil, cs_cons, E.den_lit, E.den_var, E.den_add, E.den_sub, E.den_mul, E.den_quo, E.den_rem, E.den_max, E.den_min, E.den_len, E.den_wr, E.den_cell, hn, ctNext, ringSh]
  repeat (refine And.intro (by omega) ?_)
  first | omega | (intro hc; repeat (refine And.intro (by omega) ?_); omega)
theorem skOf_mk {a b c d e f g h r q : Int} {l : List C} : skOf (.i a :: .i b :: .i c :: .i d :: .i e :: .i f :: .i g :: .i h :: .i r :: .i q :: l) = ⟨a, b, c, d, e, f, g, h, r, q⟩ := rfl
theorem cell10 {a b c d e f g h r q : C} {n : Int} {l : List C} : cell_ (a :: b :: c :: d :: e :: f :: g :: h :: r :: q :: .i n :: l) 10 = n := rfl
theorem firA_go {ch pe de no st lo li ho r g f a : Int} (h : a ≤ 10000) : firA ⟨ch, pe, de, no, st, lo, li, ho, r, g⟩ f (10001 - a).toNat a =
    if f + a * pe ≤ 10000 then (if li ≤ saysV ch r g (f + a * pe) - no * st then some a else firA ⟨ch, pe, de, no, st, lo, li, ho, r, g⟩ f (10001 - (a + 1)).toNat (a + 1)) else none := by
  rw [show (10001 - a).toNat = (10001 - (a + 1)).toNat + 1 by omega, firA]
theorem firA_end {ch pe de no st lo li ho r g f a : Int} {n : Nat} (h : 10000 < f + a * pe) : firA ⟨ch, pe, de, no, st, lo, li, ho, r, g⟩ f n a = none := by
  cases n with
  | zero => rfl
  | succ n => rw [firA]; exact if_neg (by simp only []; omega)
theorem latL_go {x : SK} {f o p q : Int} (h : f < x.pe) : latL x (x.pe - f).toNat f o p q = match firA x f 10001 0 with
    | none => none
    | some a => if 10000 < tickV x f a then none else if o < tickV x f a then latL x (x.pe - (f + 1)).toNat (f + 1) (tickV x f a) f a else latL x (x.pe - (f + 1)).toNat (f + 1) o p q := by
  rw [show (x.pe - f).toNat = (x.pe - (f + 1)).toNat + 1 by omega, latL]
  cases firA x f 10001 0 <;> rfl
theorem latek_ok : tab.ok 79 := by
  refine Tab.of_ct rfl rfl ⟨_, Try.func79, by decide, rfl⟩ ?_ ctF_det
  refine ct_ok (cx := clatek) (Tab.cx_ok (all_cons says_ok (all_cons flow1_ok (all_cons gain1_ok all_nil)))) Try.func79 (bds := []) (T := tlatek) (by kernel_rfl) ?_
  have h3 : clatek.ct 67 = some ctFlow1 := rfl
  have h4 : clatek.ct 66 = some ctGain1 := rfl
  unfold tlatek
  simp only [VC, allC, List.map_cons, List.map_nil, List.length_cons, List.length_nil, List.getElem?_cons_zero, List.getElem?_cons_succ, List.cons.injEq, C.i.injEq, C.b.injEq, and_true, true_and, forall_const, kindsOf_nil, kindsOf_lf, kindsOf_agg, kindsOf_box, boxKinds_nil, boxKinds_lf, boxKinds_agg, boxKinds_box, List.append_nil, List.cons_append, List.nil_append, den_cmp_le, den_cmp_lt, den_cmp_eq, den_cmp_ne, den_cmp_le', den_cmp_lt', den_cmp_eq', den_cmp_ne', den_and, den_and', den_or, den_or', den_not, den_not', den_blit, den_of, ev_var, at_0, at_1, at_2, at_3, at_4, at_5, at_6, at_7, at_skip, c_int, c_bool, c_arr, c_cnt, c_vec, ev_nil, ev_join, ev_sub3, loc_s, int_i, bool_b, rows_s, cs_nil, cs_cons, E.den_lit, E.den_var, E.den_add, E.den_sub, E.den_mul, E.den_quo, E.den_rem, E.den_max, E.den_min, E.den_len, E.den_wr, E.den_cell, h3, h4, ctLatek, ctFlow1, ctGain1, ctF, kickSh, sensSh, skOf_mk]
  intro ch _ _ pe _ _ de _ _ no _ _ st _ _ lo _ _ li _ _ ho _ _ r _ _ g _ _ hp
  obtain ⟨hs, hk⟩ := hp
  obtain ⟨hch, hso⟩ := sensE_iff.1 hs
  simp only [] at hch hso hk
  unfold SOk at hso
  have mn := mul_bd (a := no) (b := st) (A := 15) (B := 1048576) (by omega) (by omega) (by omega) (by omega)
  have mh := mul_bd (a := ho) (b := lo + 1) (A := 8) (B := 6) (by omega) (by omega) (by omega) (by omega)
  have mh1 : 0 < ho * (lo + 1) := Int.mul_pos (by omega) (by omega)
  have hgo := fun f a (h : a ≤ 10000) => firA_go (ch := ch) (pe := pe) (de := de) (no := no) (st := st) (lo := lo) (li := li) (ho := ho) (r := r) (g := g) (f := f) h
  have hend := fun f a n (h : 10000 < f + a * pe) => firA_end (ch := ch) (pe := pe) (de := de) (no := no) (st := st) (lo := lo) (li := li) (ho := ho) (r := r) (g := g) (n := n) h
  generalize hX : SK.mk ch pe de no st lo li ho r g = X at *
  have epe : X.pe = pe := by rw [← hX]
  have eV : latV X = latL X pe.toNat 0 (-1) 0 0 := by unfold latV; rw [epe]
  have eT : ∀ f a, tickV X f a = f + (a + ho * (lo + 1) - 1) * pe + de := fun f a => by rw [← hX]; rfl
  have lgo := fun f o p q (h : f < pe) => latL_go (x := X) (f := f) (o := o) (p := p) (q := q) (by omega)
  rw [epe] at lgo
  have bd := fun n => @saysV_bd ch r g n
  refine ⟨bds_nil _, fun h2 => ?_, fun h2 => ?_⟩
  · have he : ∀ n, saysV ch r g n = flowV r g n := fun n => by unfold saysV; rw [if_neg (by omega)]
    simp only [he] at hgo bd
    refine ⟨fun xs => match xs with | [_, .i f, .i o, .i p, .i q] => 0 ≤ f ∧ f ≤ pe ∧ latV X = latL X (pe - f).toNat f o p q ∧ -1 ≤ o ∧ o ≤ 10000 | _ => False, fun xs => match xs with | [_, .i f, _, _, _] => (pe - f).toNat | _ => 0, ⟨by omega, by omega, by rw [eV, Int.sub_zero], by omega, by omega⟩, ?_⟩; rintro b f _ _ o _ _ p _ _ q _ _ ⟨f0, f1, hI, o1, o2⟩; refine ⟨fun hf => ?_, fun hf => ?_⟩; rotate_left; (rw [hI, show (pe - f).toNat = 0 by omega]; rfl); refine ⟨fun xs => match xs with | [_, .i a] => 0 ≤ a ∧ a ≤ 10001 ∧ firA X f (10001 - a).toNat a = firA X f 10001 0 | _ => False, fun xs => match xs with | [_, .i a] => (10001 - a).toNat | _ => 0, ⟨by omega, by omega, rfl⟩, ?_⟩; rintro b' a _ _ ⟨a0, a1, hA⟩; have pm := mul_bd (a := a) (b := pe) (A := 10001) (B := 60) (by omega) (by omega) (by omega) (by omega); have pg : a ≤ a * pe := by { have := Int.mul_le_mul_of_nonneg_left (show 1 ≤ pe by omega) a0; omega }; have pt0 := mul_bd (a := a + ho * (lo + 1) - 1) (b := pe) (A := 10100) (B := 60) (by omega) (by omega) (by omega) (by omega); have pt := mul_abs (a := a + ho * (lo + 1) - 1) (b := pe) (A := 10100) (B := 60) (by omega) (by omega) (by omega) (by omega); refine ⟨by omega, by omega, fun hle => ?_, fun hgt => ?_⟩; rotate_left; (rw [hI, lgo f o p q (by omega), ← hA, hend f a _ (by omega)]; rfl); have hg := hgo f a (by omega); rw [if_pos (by omega), hA] at hg; refine ⟨by omega, by omega, by omega, by omega, ⟨hk, by omega⟩, ?_⟩; rintro v _ _ hv; have hb := bd (f + a * pe); rw [← hv] at hb hg; refine ⟨by omega, fun hlt => ?_, fun hge => ?_⟩; (rw [if_neg (by omega)] at hg; exact ⟨by omega, by omega, ⟨by omega, by omega, hg.symm⟩, show (10001 - (a + 1)).toNat < (10001 - a).toNat by omega⟩); rw [if_pos (by omega)] at hg; have et := eT f a; have hl := lgo f o p q (by omega); rw [hg] at hl; simp only [] at hl; rw [et] at hl; refine ⟨by omega, by omega, by omega, by omega, by omega, by omega, by omega, fun hlt => ?_, fun hge => ⟨fun hlt => ?_, fun hge' => ?_⟩⟩; (rw [hI, hl, if_pos hlt]; rfl); (exact ⟨by omega, ⟨by omega, by omega, by rw [hI, hl, if_neg (by omega), if_pos hlt], by omega, by omega⟩, show (pe - (f + 1)).toNat < (pe - f).toNat by omega⟩); (exact ⟨⟨by omega, by omega, by rw [hI, hl, if_neg (by omega), if_neg (by omega)], by omega, by omega⟩, show (pe - (f + 1)).toNat < (pe - f).toNat by omega⟩)
  · have he : ∀ n, saysV ch r g n = gainV r g n := fun n => by unfold saysV; rw [if_pos (by omega)]
    simp only [he] at hgo bd
    refine ⟨fun xs => match xs with | [_, .i f, .i o, .i p, .i q] => 0 ≤ f ∧ f ≤ pe ∧ latV X = latL X (pe - f).toNat f o p q ∧ -1 ≤ o ∧ o ≤ 10000 | _ => False, fun xs => match xs with | [_, .i f, _, _, _] => (pe - f).toNat | _ => 0, ⟨by omega, by omega, by rw [eV, Int.sub_zero], by omega, by omega⟩, ?_⟩; rintro b f _ _ o _ _ p _ _ q _ _ ⟨f0, f1, hI, o1, o2⟩; refine ⟨fun hf => ?_, fun hf => ?_⟩; rotate_left; (rw [hI, show (pe - f).toNat = 0 by omega]; rfl); refine ⟨fun xs => match xs with | [_, .i a] => 0 ≤ a ∧ a ≤ 10001 ∧ firA X f (10001 - a).toNat a = firA X f 10001 0 | _ => False, fun xs => match xs with | [_, .i a] => (10001 - a).toNat | _ => 0, ⟨by omega, by omega, rfl⟩, ?_⟩; rintro b' a _ _ ⟨a0, a1, hA⟩; have pm := mul_bd (a := a) (b := pe) (A := 10001) (B := 60) (by omega) (by omega) (by omega) (by omega); have pg : a ≤ a * pe := by { have := Int.mul_le_mul_of_nonneg_left (show 1 ≤ pe by omega) a0; omega }; have pt0 := mul_bd (a := a + ho * (lo + 1) - 1) (b := pe) (A := 10100) (B := 60) (by omega) (by omega) (by omega) (by omega); have pt := mul_abs (a := a + ho * (lo + 1) - 1) (b := pe) (A := 10100) (B := 60) (by omega) (by omega) (by omega) (by omega); refine ⟨by omega, by omega, fun hle => ?_, fun hgt => ?_⟩; rotate_left; (rw [hI, lgo f o p q (by omega), ← hA, hend f a _ (by omega)]; rfl); have hg := hgo f a (by omega); rw [if_pos (by omega), hA] at hg; refine ⟨by omega, by omega, by omega, by omega, ⟨hk, by omega⟩, ?_⟩; rintro v _ _ hv; have hb := bd (f + a * pe); rw [← hv] at hb hg; refine ⟨by omega, fun hlt => ?_, fun hge => ?_⟩; (rw [if_neg (by omega)] at hg; exact ⟨by omega, by omega, ⟨by omega, by omega, hg.symm⟩, show (10001 - (a + 1)).toNat < (10001 - a).toNat by omega⟩); rw [if_pos (by omega)] at hg; have et := eT f a; have hl := lgo f o p q (by omega); rw [hg] at hl; simp only [] at hl; rw [et] at hl; refine ⟨by omega, by omega, by omega, by omega, by omega, by omega, by omega, fun hlt => ?_, fun hge => ⟨fun hlt => ?_, fun hge' => ?_⟩⟩; (rw [hI, hl, if_pos hlt]; rfl); (exact ⟨by omega, ⟨by omega, by omega, by rw [hI, hl, if_neg (by omega), if_pos hlt], by omega, by omega⟩, show (pe - (f + 1)).toNat < (pe - f).toNat by omega⟩); (exact ⟨⟨by omega, by omega, by rw [hI, hl, if_neg (by omega), if_neg (by omega)], by omega, by omega⟩, show (pe - (f + 1)).toNat < (pe - f).toNat by omega⟩)
end Go.Proofs.Ytlbgcjpkegpmlaa
/- Late, earliest, Latest, Caught. -/
namespace Go.Proofs.Ytlbgcjpkegpmlaa
open Go.RowKit
set_option linter.unusedSimpArgs false
set_option linter.unusedVariables false

theorem latC_some {o p q : Int} {t : Bool} {v : Option (Int × Int × Int)} (h : [C.i o, .i p, .i q, .b t] = latC v) : (t = true → v = some (o, p, q)) ∧ (t = false → v = none ∧ o = 0) := by
  cases v with
  | none => cases h; exact ⟨fun h => (by cases h), fun _ => ⟨rfl, rfl⟩⟩
  | some v => obtain ⟨a, b, c⟩ := v; cases h; exact ⟨fun _ => rfl, fun h => (by cases h)⟩
theorem late_ok : tab.ok 49 := by
  refine Tab.of_ct rfl rfl ⟨_, Try.func49, by decide, rfl⟩ ?_ ctF_det
  refine ct_ok (cx := clate) (Tab.cx_ok (all_cons sens_ok (all_cons kick_ok (all_cons latek_ok all_nil)))) Try.func49 (bds := []) (T := tlate) (by kernel_rfl) ?_
  have h1 : clate.ct 40 = some ctSens := rfl
  have h2 : clate.ct 36 = some ctKick := rfl
  have h3 : clate.ct 79 = some ctLatek := rfl
  unfold tlate
  simp only [VC, allC, List.map_cons, List.map_nil, List.length_cons, List.length_nil, List.getElem?_cons_zero, List.getElem?_cons_succ, List.cons.injEq, C.i.injEq, C.b.injEq, and_true, true_and, forall_const, kindsOf_nil, kindsOf_lf, kindsOf_agg, kindsOf_box, boxKinds_nil, boxKinds_lf, boxKinds_agg, boxKinds_box, List.append_nil, List.cons_append, List.nil_append, den_cmp_le, den_cmp_lt, den_cmp_eq, den_cmp_ne, den_cmp_le', den_cmp_lt', den_cmp_eq', den_cmp_ne', den_and, den_and', den_or, den_or', den_not, den_not', den_blit, den_of, ev_var, at_0, at_1, at_2, at_3, at_4, at_5, at_6, at_7, at_skip, c_int, c_bool, c_arr, c_cnt, c_vec, ev_nil, ev_join, ev_sub3, loc_s, int_i, bool_b, rows_s, cs_nil, cs_cons, E.den_lit, E.den_var, E.den_add, E.den_sub, E.den_mul, E.den_quo, E.den_rem, E.den_max, E.den_min, E.den_len, E.den_wr, E.den_cell, h1, h2, h3, ctLate, ctSens, ctKick, ctLatek, ctWorst, ctF, kickSh, sensSh, skOf_mk]; intro ch _ _ pe _ _ de _ _ no _ _ st _ _ lo _ _ li _ _ ho _ _ r _ _ g _ _; generalize hX : SK.mk ch pe de no st lo li ho r g = X; have hok : SKOk X ↔ sensE ch pe de no st lo li ho = 0 ∧ KOk r g := by { rw [← hX]; exact Iff.rfl }; have no : ¬ SKOk X → latE X = [.i 0, .b false] := fun h => if_neg h; have yes : SKOk X → latE X = (match atO (latV X) with | some o => [.i o, .b true] | none => [.i 0, .b false]) := fun h => if_pos h; refine ⟨bds_nil _, ?_⟩; rintro e _ _ rfl; refine ⟨fun h => (by rw [no fun h' => h (hok.1 h').1]), fun hs => ?_⟩; rintro e _ _ rfl; refine ⟨fun h => (by rw [no fun h' => h (kickE_iff.2 (hok.1 h').2)]), fun hk => ?_⟩; have ok := hok.2 ⟨hs, kickE_iff.1 hk⟩; refine ⟨ok, ?_⟩; rintro o _ _ p _ _ q _ _ t h; obtain ⟨t1, t2⟩ := latC_some h; rw [yes ok]; cases t; (obtain ⟨t3, t4⟩ := t2 rfl; rw [t3, t4]; rfl); (rw [t1 rfl]; rfl)
theorem drop_getD {rows : List (List C)} {k : Nat} (h : k < rows.length) : rows.drop k = rows.getD k [] :: rows.drop (k + 1) := by
  rw [List.drop_eq_getElem_cons h, List.getD_eq_getElem?_getD, List.getElem?_eq_getElem h]
  rfl
theorem min_ok : tab.ok 91 := by
  refine Tab.of_ct rfl rfl ⟨_, Try.func91, by decide, rfl⟩ ?_ ctF_det
  refine ct_ok (cx := cmin) (Tab.cx_ok all_nil) Try.func91 (bds := []) (T := tmin) (by kernel_rfl) ?_
  unfold tmin
  simp only [VC, allC, List.map_cons, List.map_nil, List.length_cons, List.length_nil, List.getElem?_cons_zero, List.getElem?_cons_succ, List.cons.injEq, C.i.injEq, C.b.injEq, and_true, true_and, forall_const, kindsOf_nil, kindsOf_lf, kindsOf_agg, kindsOf_box, boxKinds_nil, boxKinds_lf, boxKinds_agg, boxKinds_box, List.append_nil, List.cons_append, List.nil_append, den_cmp_le, den_cmp_lt, den_cmp_eq, den_cmp_ne, den_cmp_le', den_cmp_lt', den_cmp_eq', den_cmp_ne', den_and, den_and', den_or, den_or', den_not, den_not', den_blit, den_of, ev_var, at_0, at_1, at_2, at_3, at_4, at_5, at_6, at_7, at_skip, c_int, c_bool, c_arr, c_cnt, c_vec, ev_nil, ev_join, ev_sub3, loc_s, int_i, bool_b, rows_s, cs_nil, cs_cons, E.den_lit, E.den_var, E.den_add, E.den_sub, E.den_mul, E.den_quo, E.den_rem, E.den_max, E.den_min, E.den_len, E.den_wr, E.den_cell, ctMin, ctF]
  intro v rows d _ _ hne
  have hpos : 0 < rows.length := List.length_pos_iff.2 hne
  refine ⟨bds_nil _, fun h => by omega, fun h => ⟨by omega, fun xs => match xs with | [.i m, .i i] => 1 ≤ i ∧ i ≤ rows.length ∧ minR rows = minL m (rows.drop i.toNat) | _ => False, fun xs => match xs with | [_, .i i] => ((rows.length : Int) - i).toNat | _ => 0, ⟨by omega, by omega, rfl⟩, ?_⟩⟩
  rintro m _ _ i _ _ ⟨i1, i2, hI⟩
  refine ⟨fun hlt => ⟨by omega, hlt, ⟨by omega, by omega, ?_⟩, show ((rows.length : Int) - (i + 1)).toNat < ((rows.length : Int) - i).toNat by omega⟩, fun hge => ?_⟩
  · rw [hI, drop_getD (by omega), minL, show (i + 1).toNat = i.toNat + 1 by omega]
    rfl
  · rw [hI, show i.toNat = rows.length by omega, List.drop_length]
    rfl
theorem atsL_snoc {r g : Int} {row : List C} : ∀ {l : List (List C)}, atsL r g (l ++ [row]) = atsL r g l ++ (match atO (latV (skR r g row)) with | some o => [[.i o]] | none => [])
  | [] => by
    show atsL r g [row] = [] ++ _
    rw [List.nil_append, atsL]
    cases atO (latV (skR r g row)) <;> rfl
  | x :: l => by
    show atsL r g (x :: (l ++ [row])) = _
    rw [atsL, atsL]
    rw [atsL_snoc (l := l)]
    cases atO (latV (skR r g x)) <;> rfl
theorem atsL_len {r g : Int} : ∀ {l : List (List C)}, (atsL r g l).length ≤ l.length
  | [] => Nat.le_refl _
  | x :: l => by
    rw [atsL]
    have := atsL_len (r := r) (g := g) (l := l)
    cases atO (latV (skR r g x)) <;> simp only [List.length_cons] <;> omega
theorem firstE_all {k : Nat} : ∀ {rows : List (List C)}, firstE rows = 0 → k < rows.length → sensRow (rows.getD k []) = 0 := by
  induction k with
  | zero =>
    intro rows h hl
    cases rows with
    | nil => cases hl
    | cons x l =>
      rw [firstE] at h
      split at h
      · rename_i h0; exact h0
      · exact h
  | succ k ih =>
    intro rows h hl
    cases rows with
    | nil => cases hl
    | cons x l =>
      rw [firstE] at h
      split at h
      · simpa using ih h (by simpa using hl)
      · rename_i h0; exact absurd h h0
theorem take_getD {rows : List (List C)} {k : Nat} (h : k < rows.length) : rows.take (k + 1) = rows.take k ++ [rows.getD k []] := by
  rw [List.take_add_one, List.getD_eq_getElem?_getD, List.getElem?_eq_getElem h]
  rfl
theorem earl_ok : tab.ok 80 := by
  refine Tab.of_ct rfl rfl ⟨_, Try.func80, by decide, rfl⟩ ?_ ctF_det
  refine ct_ok (cx := cearl) (Tab.cx_ok (all_cons latek_ok (all_cons min_ok all_nil))) Try.func80 (bds := []) (T := tearl) (by kernel_rfl) ?_
  have h1 : cearl.ct 79 = some ctLatek := rfl
  have h2 : cearl.ct 91 = some ctMin := rfl
  unfold tearl
  simp only [VC, allC, List.map_cons, List.map_nil, List.length_cons, List.length_nil, List.getElem?_cons_zero, List.getElem?_cons_succ, List.cons.injEq, C.i.injEq, C.b.injEq, and_true, true_and, forall_const, kindsOf_nil, kindsOf_lf, kindsOf_agg, kindsOf_box, boxKinds_nil, boxKinds_lf, boxKinds_agg, boxKinds_box, List.append_nil, List.cons_append, List.nil_append, den_cmp_le, den_cmp_lt, den_cmp_eq, den_cmp_ne, den_cmp_le', den_cmp_lt', den_cmp_eq', den_cmp_ne', den_and, den_and', den_or, den_or', den_not, den_not', den_blit, den_of, ev_var, at_0, at_1, at_2, at_3, at_4, at_5, at_6, at_7, at_skip, c_int, c_bool, c_arr, c_cnt, c_vec, ev_nil, ev_join, ev_sub3, loc_s, int_i, bool_b, rows_s, cs_nil, cs_cons, E.den_lit, E.den_var, E.den_add, E.den_sub, E.den_mul, E.den_quo, E.den_rem, E.den_max, E.den_min, E.den_len, E.den_wr, E.den_cell, h1, h2, ctEarl, ctLatek, ctMin, ctF, kickSh, sensSh, skOf_mk]
  intro v rows d _ _ r _ _ g _ _ hp
  obtain ⟨hl, hs, hk⟩ := hp
  refine ⟨bds_nil _, fun xs => match xs with | [.s _ all, .i i] => 0 ≤ i ∧ i ≤ rows.length ∧ all = atsL r g (rows.take i.toNat) | _ => False, fun xs => match xs with | [_, .i i] => ((rows.length : Int) - i).toNat | _ => 0, ⟨by omega, by omega, rfl⟩, ?_⟩
  rintro u all _ _ _ i _ _ ⟨i0, i1, hI⟩
  refine ⟨fun hlt => ⟨i0, hlt, ⟨?_, hk⟩, ?_⟩, fun hge => ?_⟩
  · have hz : i.toNat < rows.length := by omega
    exact firstE_all hs hz
  · have ht := take_getD (rows := rows) (k := i.toNat) (by omega)
    have hsn := atsL_snoc (r := r) (g := g) (row := rows.getD i.toNat []) (l := rows.take i.toNat)
    have hln := atsL_len (r := r) (g := g) (l := rows.take i.toNat)
    rw [← ht, show i.toNat + 1 = (i + 1).toNat by omega] at hsn
    rw [List.length_take] at hln
    rintro o _ _ p _ _ q _ _ t h
    obtain ⟨t1, t2⟩ := latC_some (v := latV (skR r g (rows.getD i.toNat []))) h
    refine ⟨fun ht => ⟨?_, fun _ => ⟨⟨by omega, by omega, ?_⟩, show ((rows.length : Int) - (i + 1)).toNat < ((rows.length : Int) - i).toNat by omega⟩⟩, fun ht => ⟨⟨by omega, by omega, ?_⟩, show ((rows.length : Int) - (i + 1)).toNat < ((rows.length : Int) - i).toNat by omega⟩⟩
    · rw [hI]; omega
    · rw [hsn, t1 ht, ← hI]; rfl
    · rw [hsn, (t2 ht).1, ← hI]; exact (List.append_nil _).symm
  · rw [show i.toNat = rows.length by omega, List.take_length] at hI
    rw [hI]
    refine ⟨fun h => ?_, fun h => ⟨fun h' => h (by rw [h']; rfl), ?_⟩⟩
    · unfold earlC
      rw [if_pos (List.eq_nil_of_length_eq_zero (by omega))]
    · rintro m _ _ rfl
      unfold earlC
      rw [if_neg (fun h' => h (by rw [h']; rfl))]
theorem sensorsE_zero {rows : List (List C)} (h : sensorsE rows = 0) : rows.length ≠ 0 ∧ rows.length ≤ 4 ∧ firstE rows = 0 := by
  unfold sensorsE at h
  split at h
  · cases h
  · split at h
    · cases h
    · rename_i h1 h2; exact ⟨h1, by omega, h⟩
theorem kicksE_zero {a b c d : Int} (h : kicksE a b c d = 0) : KOk a c ∧ a ≤ b ∧ c ≤ d ∧ KOk b d := by
  unfold kicksE at h
  split at h
  · rename_i h1; exact ⟨h1.2.2.1, h1.1, h1.2.1, h1.2.2.2⟩
  · cases h
theorem latest_ok : tab.ok 50 := by
  refine Tab.of_ct rfl rfl ⟨_, Try.func50, by decide, rfl⟩ ?_ ctF_det
  refine ct_ok (cx := clatest) (Tab.cx_ok (all_cons sensors_ok (all_cons kicks_ok (all_cons least_ok (all_cons earl_ok all_nil))))) Try.func50 (bds := []) (T := tlatest) (by kernel_rfl) ?_
  have h1 : clatest.ct 42 = some ctSensors := rfl
  have h2 : clatest.ct 38 = some ctKicks := rfl
  have h3 : clatest.ct 75 = some ctLeast := rfl
  have h4 : clatest.ct 80 = some ctEarl := rfl
  unfold tlatest
  simp only [VC, allC, List.map_cons, List.map_nil, List.length_cons, List.length_nil, List.getElem?_cons_zero, List.getElem?_cons_succ, List.cons.injEq, C.i.injEq, C.b.injEq, and_true, true_and, forall_const, kindsOf_nil, kindsOf_lf, kindsOf_agg, kindsOf_box, boxKinds_nil, boxKinds_lf, boxKinds_agg, boxKinds_box, List.append_nil, List.cons_append, List.nil_append, den_cmp_le, den_cmp_lt, den_cmp_eq, den_cmp_ne, den_cmp_le', den_cmp_lt', den_cmp_eq', den_cmp_ne', den_and, den_and', den_or, den_or', den_not, den_not', den_blit, den_of, ev_var, at_0, at_1, at_2, at_3, at_4, at_5, at_6, at_7, at_skip, c_int, c_bool, c_arr, c_cnt, c_vec, ev_nil, ev_join, ev_sub3, loc_s, int_i, bool_b, rows_s, cs_nil, cs_cons, E.den_lit, E.den_var, E.den_add, E.den_sub, E.den_mul, E.den_quo, E.den_rem, E.den_max, E.den_min, E.den_len, E.den_wr, E.den_cell, h1, h2, h3, h4, ctLatest, ctSensors, ctKicks, ctLeast, ctEarl, ctF, kickSh, kicksSh]; intro v rows d _ hsm a _ _ b _ _ c _ _ e _ _; refine ⟨bds_nil _, ?_⟩; rintro x _ _ rfl; refine ⟨fun h => (by unfold latestC; rw [if_neg h]), fun hs => ?_⟩; rintro x _ _ rfl; refine ⟨fun h => (by unfold latestC; rw [if_pos hs, if_neg h]), fun hk => ?_⟩; rintro x _ _ y _ _ ⟨rfl, rfl⟩; obtain ⟨s1, s2, s3⟩ := sensorsE_zero hs; refine ⟨⟨by omega, s3, (kicksE_zero hk).1⟩, ?_⟩; rintro m _ _ f _ _ h; rw [h]; unfold latestC; rw [if_pos hs, if_pos hk]
theorem caught_ok : tab.ok 51 := by
  refine Tab.of_ct rfl rfl ⟨_, Try.func51, by decide, rfl⟩ ?_ ctF_det
  refine ct_ok (cx := ccaught) (Tab.cx_ok (all_cons sensors_ok (all_cons kick_ok (all_cons gain_ok (all_cons earl_ok all_nil))))) Try.func51 (bds := []) (T := tcaught) (by kernel_rfl) ?_
  have h1 : ccaught.ct 42 = some ctSensors := rfl
  have h2 : ccaught.ct 36 = some ctKick := rfl
  have h3 : ccaught.ct 23 = some ctGain := rfl
  have h4 : ccaught.ct 80 = some ctEarl := rfl
  unfold tcaught
  simp only [VC, allC, List.map_cons, List.map_nil, List.length_cons, List.length_nil, List.getElem?_cons_zero, List.getElem?_cons_succ, List.cons.injEq, C.i.injEq, C.b.injEq, and_true, true_and, forall_const, kindsOf_nil, kindsOf_lf, kindsOf_agg, kindsOf_box, boxKinds_nil, boxKinds_lf, boxKinds_agg, boxKinds_box, List.append_nil, List.cons_append, List.nil_append, den_cmp_le, den_cmp_lt, den_cmp_eq, den_cmp_ne, den_cmp_le', den_cmp_lt', den_cmp_eq', den_cmp_ne', den_and, den_and', den_or, den_or', den_not, den_not', den_blit, den_of, ev_var, at_0, at_1, at_2, at_3, at_4, at_5, at_6, at_7, at_skip, c_int, c_bool, c_arr, c_cnt, c_vec, ev_nil, ev_join, ev_sub3, loc_s, int_i, bool_b, rows_s, cs_nil, cs_cons, E.den_lit, E.den_var, E.den_add, E.den_sub, E.den_mul, E.den_quo, E.den_rem, E.den_max, E.den_min, E.den_len, E.den_wr, E.den_cell, h1, h2, h3, h4, ctCaught, ctSensors, ctKick, ctGain, ctEarl, ctF, kickSh]; intro v rows d _ hsm r _ _ g _ _; refine ⟨bds_nil _, ?_⟩; rintro x _ _ rfl; refine ⟨fun h => (by unfold caughtC; rw [if_neg h]), fun hs => ?_⟩; rintro x _ _ rfl; refine ⟨fun h => (by unfold caughtC; rw [if_pos hs, if_neg h]), fun hk => ?_⟩; obtain ⟨s1, s2, s3⟩ := sensorsE_zero hs; refine ⟨⟨by omega, s3, kickE_iff.1 hk⟩, ?_⟩; rintro m _ _ f _ _ h; unfold earlC at h; unfold caughtC; rw [if_pos hs, if_pos hk]; by_cases hn : atsL r g rows = []; (rw [if_pos hn] at h ⊢; cases h; exact ⟨fun _ => rfl, fun h => absurd h (by decide)⟩); (rw [if_neg hn] at h ⊢; cases h; exact ⟨fun h => absurd rfl h, fun _ n _ _ hn => (by rw [hn])⟩)
end Go.Proofs.Ytlbgcjpkegpmlaa
