/- Texts laid into one: XT5 XM1 XB7 XB8 Fz XS6 Sh XG1 XS7 XT9 XTA XN1 XM2 XM3 XM4 XM5 XM6 XM7. -/
import Derived.Test.YtcglpbchejkolaaChecks9
import Derived.Shelf.SortG.Plain
import Derived.Shelf.SlicesG.CompactI
import Derived.Shelf.SlGeneric
import Derived.Test.YtcglpbchejkolaaProg
import Derived.Sort.OwnSortedInts
/- What is to be shown of each function, as the executor has it. Printed by trees.py. -/
namespace Go.Proofs.Ytcglpbchejkolaa
noncomputable def cpick : Cx := tab5.only [22] (fun _ => []) [] 0 [] (fun _ => none)
def tpick : Tree :=
  (.split (.cmp .eq (.len (.var 0)) (.lit 0)) (.ret [(.int (.lit 0))]) (.ob (.cmp .ne (.len (.var 0)) (.lit 0)) (.ob (.cmp .le (.lit 0) (.rem (.var 1) (.len (.var 0)))) (.ob (.cmp .lt (.rem (.var 1) (.len (.var 0))) (.len (.var 0))) (.call 22 [(.int (.cell (.var 0) (.rem (.var 1) (.len (.var 0))) 0)), (.int (.lit 1099511627776))] (.ret [(.int (.var 2))]))))))
noncomputable def ctruth : Cx := tab5.only [22, 61] (fun r => match r with
  | 6 => [.blk 2]
  | 50008 => [.vec 17, .vec 18]
  | _ => []) [] 0 [] (fun r => match r with
  | 50008 => some ([], [.blk 2])
  | 50011 => some ([(69, true, [.bool])], [])
  | 90012 => some ([(9, true, [.int])], [])
  | _ => none)
def ttruth : Tree :=
  (.dfn .nil (.dfn .nil (.call 22 [(.int (.var 0)), (.int (.lit 499001))] (.ob (.and (.cmp .le (.lit (-9223372036854775808)) (.add (.lit 1000) (.var 6))) (.cmp .le (.add (.lit 1000) (.var 6)) (.lit 9223372036854775807))) (.dfn .nil (.dfn .nil (.call 61 [(.arr 2 (.var 1)), (.int (.lit 0))] (.call 22 [(.int (.var 9)), (.int (.lit 1000000))] (.call 61 [(.arr 2 (.var 1)), (.int (.lit 1))] (.call 22 [(.int (.var 11)), (.int (.lit 20000000))] (.ob (.and (.cmp .le (.lit (-9223372036854775808)) (.add (.var 10) (.var 12))) (.cmp .le (.add (.var 10) (.var 12)) (.lit 9223372036854775807))) (.ob (.and (.cmp .le (.lit (-9223372036854775808)) (.add (.var 10) (.var 12))) (.cmp .le (.add (.var 10) (.var 12)) (.lit 9223372036854775807))) (.loop [.int, .int, .int, .int, (.vec 44), (.vec 44)] [(.int (.lit 0)), (.int (.var 10)), (.int (.add (.var 10) (.var 12))), (.int (.lit 0)), (.cnt 44 (.var 7)), (.cnt 44 (.var 8))] (.split (.cmp .lt (.var 16) (.lit 6)) (.join [(.vec 44), (.vec 44)] (.both (.arr [[(.int (.var 13)), (.int (.var 14))]] (.both (.ob (.cmp .le (.mul (.add (.len (.var 17)) (.len (.var 19))) (.lit 16)) (.lit 140737488355328)) (.cat (.var 17) (.var 19) (.arr [[(.int (.var 13)), (.int (.var 15))]] (.ob (.cmp .le (.mul (.add (.len (.var 18)) (.len (.var 21))) (.lit 16)) (.lit 140737488355328)) (.cat (.var 18) (.var 21) (.back 1 [(.cnt 44 (.var 20)), (.cnt 44 (.var 22))])))))) (.arr [[(.int (.var 13)), (.int (.var 15))]] (.ob (.cmp .le (.mul (.add (.len (.var 17)) (.len (.var 19))) (.lit 16)) (.lit 140737488355328)) (.cat (.var 17) (.var 19) (.ob (.cmp .le (.mul (.add (.len (.var 18)) (.len (.var 20))) (.lit 16)) (.lit 140737488355328)) (.cat (.var 18) (.var 20) (.back 1 [(.cnt 44 (.var 21)), (.cnt 44 (.var 22))])))))))) (.arr [[(.int (.var 13)), (.int (.var 15))]] (.arr [[(.int (.var 13)), (.int (.var 14))]] (.ob (.cmp .le (.mul (.add (.len (.var 17)) (.len (.var 20))) (.lit 16)) (.lit 140737488355328)) (.cat (.var 17) (.var 20) (.ob (.cmp .le (.mul (.add (.len (.var 18)) (.len (.var 19))) (.lit 16)) (.lit 140737488355328)) (.cat (.var 18) (.var 19) (.back 1 [(.cnt 44 (.var 21)), (.cnt 44 (.var 22))])))))))) (.split (.cmp .eq (.var 13) (.add (.lit 1000) (.var 6))) (.ret [(.cnt 44 (.var 19)), (.cnt 44 (.var 20))]) (.call 61 [(.arr 2 (.var 1)), (.int (.add (.var 16) (.lit 2)))] (.ob (.and (.cmp .le (.lit (-9223372036854775808)) (.add (.lit 1000) (.var 6))) (.cmp .le (.add (.lit 1000) (.var 6)) (.lit 9223372036854775807))) (.call 22 [(.int (.var 21)), (.int (.add (.lit 1000) (.var 6)))] (.ob (.and (.cmp .le (.lit (-9223372036854775808)) (.add (.lit 1) (.var 22))) (.cmp .le (.add (.lit 1) (.var 22)) (.lit 9223372036854775807))) (.join [.bool] (.split (.cmp .eq (.var 16) (.lit 4)) (.back 2 [(.bool (.lit true))]) (.ob (.and (.cmp .le (.lit (-9223372036854775808)) (.add (.var 13) (.add (.lit 1) (.var 22)))) (.cmp .le (.add (.var 13) (.add (.lit 1) (.var 22))) (.lit 9223372036854775807))) (.back 2 [(.bool (.cmp .lt (.add (.lit 1000) (.var 6)) (.add (.var 13) (.add (.lit 1) (.var 22)))))]))) (.join [.int] (.split (.of (.var 23)) (.ob (.and (.cmp .le (.lit (-9223372036854775808)) (.sub (.add (.lit 1000) (.var 6)) (.var 13))) (.cmp .le (.sub (.add (.lit 1000) (.var 6)) (.var 13)) (.lit 9223372036854775807))) (.ob (.and (.cmp .le (.lit (-9223372036854775808)) (.sub (.add (.lit 1000) (.var 6)) (.var 13))) (.cmp .le (.sub (.add (.lit 1000) (.var 6)) (.var 13)) (.lit 9223372036854775807))) (.back 3 [(.int (.sub (.add (.lit 1000) (.var 6)) (.var 13)))]))) (.ob (.and (.cmp .le (.lit (-9223372036854775808)) (.add (.lit 1) (.var 22))) (.cmp .le (.add (.lit 1) (.var 22)) (.lit 9223372036854775807))) (.back 3 [(.int (.add (.lit 1) (.var 22)))]))) (.call 61 [(.arr 2 (.var 1)), (.int (.add (.var 16) (.lit 3)))] (.ob (.and (.cmp .le (.lit (-9223372036854775808)) (.quo (.var 25) (.lit 7))) (.cmp .le (.quo (.var 25) (.lit 7)) (.lit 9223372036854775807))) (.ob (.and (.cmp .le (.lit (-9223372036854775808)) (.quo (.var 25) (.lit 7))) (.cmp .le (.quo (.var 25) (.lit 7)) (.lit 9223372036854775807))) (.call 22 [(.int (.quo (.var 25) (.lit 7))), (.int (.lit 20001))] (.ob (.and (.cmp .le (.lit (-9223372036854775808)) (.add (.lit 2000) (.var 26))) (.cmp .le (.add (.lit 2000) (.var 26)) (.lit 9223372036854775807))) (.call 61 [(.arr 2 (.var 1)), (.int (.add (.var 16) (.lit 4)))] (.ob (.and (.cmp .le (.lit (-9223372036854775808)) (.quo (.var 27) (.lit 11))) (.cmp .le (.quo (.var 27) (.lit 11)) (.lit 9223372036854775807))) (.ob (.and (.cmp .le (.lit (-9223372036854775808)) (.sub (.lit 30001) (.add (.lit 2000) (.var 26)))) (.cmp .le (.sub (.lit 30001) (.add (.lit 2000) (.var 26))) (.lit 9223372036854775807))) (.ob (.and (.cmp .le (.lit (-9223372036854775808)) (.quo (.var 27) (.lit 11))) (.cmp .le (.quo (.var 27) (.lit 11)) (.lit 9223372036854775807))) (.ob (.and (.cmp .le (.lit (-9223372036854775808)) (.sub (.lit 30001) (.add (.lit 2000) (.var 26)))) (.cmp .le (.sub (.lit 30001) (.add (.lit 2000) (.var 26))) (.lit 9223372036854775807))) (.call 22 [(.int (.quo (.var 27) (.lit 11))), (.int (.sub (.lit 30001) (.add (.lit 2000) (.var 26))))] (.ob (.and (.cmp .le (.lit (-9223372036854775808)) (.add (.add (.lit 2000) (.var 26)) (.var 28))) (.cmp .le (.add (.add (.lit 2000) (.var 26)) (.var 28)) (.lit 9223372036854775807))) (.ob (.and (.cmp .le (.lit (-9223372036854775808)) (.add (.var 13) (.var 24))) (.cmp .le (.add (.var 13) (.var 24)) (.lit 9223372036854775807))) (.ob (.and (.cmp .le (.lit (-9223372036854775808)) (.mul (.add (.lit 2000) (.var 26)) (.var 24))) (.cmp .le (.mul (.add (.lit 2000) (.var 26)) (.var 24)) (.lit 9223372036854775807))) (.ob (.and (.cmp .le (.lit (-9223372036854775808)) (.add (.var 14) (.mul (.add (.lit 2000) (.var 26)) (.var 24)))) (.cmp .le (.add (.var 14) (.mul (.add (.lit 2000) (.var 26)) (.var 24))) (.lit 9223372036854775807))) (.ob (.and (.cmp .le (.lit (-9223372036854775808)) (.mul (.add (.add (.lit 2000) (.var 26)) (.var 28)) (.var 24))) (.cmp .le (.mul (.add (.add (.lit 2000) (.var 26)) (.var 28)) (.var 24)) (.lit 9223372036854775807))) (.ob (.and (.cmp .le (.lit (-9223372036854775808)) (.add (.var 15) (.mul (.add (.add (.lit 2000) (.var 26)) (.var 28)) (.var 24)))) (.cmp .le (.add (.var 15) (.mul (.add (.add (.lit 2000) (.var 26)) (.var 28)) (.var 24))) (.lit 9223372036854775807))) (.ob (.and (.cmp .le (.lit (-9223372036854775808)) (.add (.var 13) (.var 24))) (.cmp .le (.add (.var 13) (.var 24)) (.lit 9223372036854775807))) (.ob (.and (.cmp .le (.lit (-9223372036854775808)) (.add (.var 14) (.mul (.add (.lit 2000) (.var 26)) (.var 24)))) (.cmp .le (.add (.var 14) (.mul (.add (.lit 2000) (.var 26)) (.var 24))) (.lit 9223372036854775807))) (.ob (.and (.cmp .le (.lit (-9223372036854775808)) (.add (.var 15) (.mul (.add (.add (.lit 2000) (.var 26)) (.var 28)) (.var 24)))) (.cmp .le (.add (.var 15) (.mul (.add (.add (.lit 2000) (.var 26)) (.var 28)) (.var 24))) (.lit 9223372036854775807))) (.back 0 [(.int (.add (.var 13) (.var 24))), (.int (.add (.var 14) (.mul (.add (.lit 2000) (.var 26)) (.var 24)))), (.int (.add (.var 15) (.mul (.add (.add (.lit 2000) (.var 26)) (.var 28)) (.var 24)))), (.int (.add (.var 16) (.lit 1))), (.cnt 44 (.var 19)), (.cnt 44 (.var 20))]))))))))))))))))))))))))))))) (.ret [(.cnt 44 (.var 17)), (.cnt 44 (.var 18))])))))))))))))))
noncomputable def cshifted : Cx := tab5.only [22, 61] (fun r => match r with
  | 3 => [.blk 2]
  | _ => []) [] 0 [] (fun _ => none)
def tshifted : Tree :=
  (.dfn .nil (.dfn .nil (.loop [.int, (.vec 44)] [(.int (.lit 0)), (.cnt 44 (.var 5))] (.split (.cmp .lt (.var 6) (.len (.var 0))) (.ob (.and (.cmp .le (.lit (-9223372036854775808)) (.add (.var 2) (.var 6))) (.cmp .le (.add (.var 2) (.var 6)) (.lit 9223372036854775807))) (.ob (.and (.cmp .le (.lit (-9223372036854775808)) (.add (.var 2) (.var 6))) (.cmp .le (.add (.var 2) (.var 6)) (.lit 9223372036854775807))) (.call 61 [(.arr 2 (.var 1)), (.int (.add (.var 2) (.var 6)))] (.call 22 [(.int (.var 8)), (.int (.lit 40000000))] (.ob (.cmp .le (.lit 0) (.var 6)) (.ob (.cmp .lt (.var 6) (.len (.var 0))) (.split (.of (.var 3)) (.ob (.and (.cmp .le (.lit (-9223372036854775808)) (.add (.cell (.var 0) (.var 6) 1) (.var 9))) (.cmp .le (.add (.cell (.var 0) (.var 6) 1) (.var 9)) (.lit 9223372036854775807))) (.ob (.and (.cmp .le (.lit (-9223372036854775808)) (.add (.cell (.var 0) (.var 6) 1) (.var 9))) (.cmp .le (.add (.cell (.var 0) (.var 6) 1) (.var 9)) (.lit 9223372036854775807))) (.arr [[(.int (.cell (.var 0) (.var 6) 0)), (.int (.add (.cell (.var 0) (.var 6) 1) (.var 9)))]] (.ob (.cmp .le (.mul (.add (.len (.var 7)) (.len (.var 10))) (.lit 16)) (.lit 140737488355328)) (.cat (.var 7) (.var 10) (.back 0 [(.int (.add (.var 6) (.lit 1))), (.cnt 44 (.var 11))])))))) (.ob (.and (.cmp .le (.lit (-9223372036854775808)) (.sub (.cell (.var 0) (.var 6) 1) (.var 9))) (.cmp .le (.sub (.cell (.var 0) (.var 6) 1) (.var 9)) (.lit 9223372036854775807))) (.ob (.and (.cmp .le (.lit (-9223372036854775808)) (.max (.lit 0) (.sub (.cell (.var 0) (.var 6) 1) (.var 9)))) (.cmp .le (.max (.lit 0) (.sub (.cell (.var 0) (.var 6) 1) (.var 9))) (.lit 9223372036854775807))) (.arr [[(.int (.cell (.var 0) (.var 6) 0)), (.int (.max (.lit 0) (.sub (.cell (.var 0) (.var 6) 1) (.var 9))))]] (.ob (.cmp .le (.mul (.add (.len (.var 7)) (.len (.var 10))) (.lit 16)) (.lit 140737488355328)) (.cat (.var 7) (.var 10) (.back 0 [(.int (.add (.var 6) (.lit 1))), (.cnt 44 (.var 11))]))))))))))))) (.ret [(.cnt 44 (.var 7))])))))
noncomputable def creport : Cx := tab5.only [22, 38] (fun _ => []) [] 0 [] (fun _ => none)
def treport : Tree :=
  (.call 22 [(.int (.var 2)), (.int (.lit 1099511627776))] (.ob (.cmp .le (.lit 0) (.sub (.len (.var 0)) (.lit 1))) (.ob (.cmp .lt (.sub (.len (.var 0)) (.lit 1)) (.len (.var 0))) (.ob (.and (.cmp .le (.lit (-9223372036854775808)) (.add (.lit 1) (.rem (.var 3) (.lit 4)))) (.cmp .le (.add (.lit 1) (.rem (.var 3) (.lit 4))) (.lit 9223372036854775807))) (.ob (.and (.cmp .le (.lit (-9223372036854775808)) (.quo (.var 3) (.lit 4))) (.cmp .le (.quo (.var 3) (.lit 4)) (.lit 9223372036854775807))) (.ob (.and (.cmp .le (.lit (-9223372036854775808)) (.add (.cell (.var 0) (.sub (.len (.var 0)) (.lit 1)) 0) (.lit 1))) (.cmp .le (.add (.cell (.var 0) (.sub (.len (.var 0)) (.lit 1)) 0) (.lit 1)) (.lit 9223372036854775807))) (.ob (.cmp .ne (.add (.cell (.var 0) (.sub (.len (.var 0)) (.lit 1)) 0) (.lit 1)) (.lit 0)) (.ob (.and (.cmp .le (.lit (-9223372036854775808)) (.rem (.quo (.var 3) (.lit 4)) (.add (.cell (.var 0) (.sub (.len (.var 0)) (.lit 1)) 0) (.lit 1)))) (.cmp .le (.rem (.quo (.var 3) (.lit 4)) (.add (.cell (.var 0) (.sub (.len (.var 0)) (.lit 1)) 0) (.lit 1))) (.lit 9223372036854775807))) (.call 38 [(.arr 44 (.var 0)), (.int (.rem (.quo (.var 3) (.lit 4)) (.add (.cell (.var 0) (.sub (.len (.var 0)) (.lit 1)) 0) (.lit 1))))] (.ob (.and (.cmp .le (.lit (-9223372036854775808)) (.rem (.quo (.var 3) (.lit 4)) (.add (.cell (.var 0) (.sub (.len (.var 0)) (.lit 1)) 0) (.lit 1)))) (.cmp .le (.rem (.quo (.var 3) (.lit 4)) (.add (.cell (.var 0) (.sub (.len (.var 0)) (.lit 1)) 0) (.lit 1))) (.lit 9223372036854775807))) (.call 38 [(.arr 44 (.var 1)), (.int (.rem (.quo (.var 3) (.lit 4)) (.add (.cell (.var 0) (.sub (.len (.var 0)) (.lit 1)) 0) (.lit 1))))] (.ob (.and (.cmp .le (.lit (-9223372036854775808)) (.quo (.var 3) (.lit 4096))) (.cmp .le (.quo (.var 3) (.lit 4096)) (.lit 9223372036854775807))) (.split (.cmp .eq (.add (.lit 1) (.rem (.var 3) (.lit 4))) (.lit 1)) (.ob (.and (.cmp .le (.lit (-9223372036854775808)) (.sub (.var 4) (.rem (.quo (.var 3) (.lit 4096)) (.lit 1000000)))) (.cmp .le (.sub (.var 4) (.rem (.quo (.var 3) (.lit 4096)) (.lit 1000000))) (.lit 9223372036854775807))) (.ob (.and (.cmp .le (.lit (-9223372036854775808)) (.add (.lit 1) (.rem (.var 3) (.lit 4)))) (.cmp .le (.add (.lit 1) (.rem (.var 3) (.lit 4))) (.lit 9223372036854775807))) (.ob (.and (.cmp .le (.lit (-9223372036854775808)) (.rem (.quo (.var 3) (.lit 4)) (.add (.cell (.var 0) (.sub (.len (.var 0)) (.lit 1)) 0) (.lit 1)))) (.cmp .le (.rem (.quo (.var 3) (.lit 4)) (.add (.cell (.var 0) (.sub (.len (.var 0)) (.lit 1)) 0) (.lit 1))) (.lit 9223372036854775807))) (.ob (.and (.cmp .le (.lit (-9223372036854775808)) (.max (.lit 0) (.sub (.var 4) (.rem (.quo (.var 3) (.lit 4096)) (.lit 1000000))))) (.cmp .le (.max (.lit 0) (.sub (.var 4) (.rem (.quo (.var 3) (.lit 4096)) (.lit 1000000)))) (.lit 9223372036854775807))) (.ret [(.int (.add (.lit 1) (.rem (.var 3) (.lit 4)))), (.int (.rem (.quo (.var 3) (.lit 4)) (.add (.cell (.var 0) (.sub (.len (.var 0)) (.lit 1)) 0) (.lit 1)))), (.int (.max (.lit 0) (.sub (.var 4) (.rem (.quo (.var 3) (.lit 4096)) (.lit 1000000)))))]))))) (.split (.cmp .eq (.add (.lit 1) (.rem (.var 3) (.lit 4))) (.lit 2)) (.ob (.and (.cmp .le (.lit (-9223372036854775808)) (.add (.var 5) (.rem (.quo (.var 3) (.lit 4096)) (.lit 1000000)))) (.cmp .le (.add (.var 5) (.rem (.quo (.var 3) (.lit 4096)) (.lit 1000000))) (.lit 9223372036854775807))) (.ob (.and (.cmp .le (.lit (-9223372036854775808)) (.add (.lit 1) (.rem (.var 3) (.lit 4)))) (.cmp .le (.add (.lit 1) (.rem (.var 3) (.lit 4))) (.lit 9223372036854775807))) (.ob (.and (.cmp .le (.lit (-9223372036854775808)) (.rem (.quo (.var 3) (.lit 4)) (.add (.cell (.var 0) (.sub (.len (.var 0)) (.lit 1)) 0) (.lit 1)))) (.cmp .le (.rem (.quo (.var 3) (.lit 4)) (.add (.cell (.var 0) (.sub (.len (.var 0)) (.lit 1)) 0) (.lit 1))) (.lit 9223372036854775807))) (.ob (.and (.cmp .le (.lit (-9223372036854775808)) (.add (.var 5) (.rem (.quo (.var 3) (.lit 4096)) (.lit 1000000)))) (.cmp .le (.add (.var 5) (.rem (.quo (.var 3) (.lit 4096)) (.lit 1000000))) (.lit 9223372036854775807))) (.ret [(.int (.add (.lit 1) (.rem (.var 3) (.lit 4)))), (.int (.rem (.quo (.var 3) (.lit 4)) (.add (.cell (.var 0) (.sub (.len (.var 0)) (.lit 1)) 0) (.lit 1)))), (.int (.add (.var 5) (.rem (.quo (.var 3) (.lit 4096)) (.lit 1000000))))]))))) (.split (.cmp .eq (.add (.lit 1) (.rem (.var 3) (.lit 4))) (.lit 3)) (.ob (.and (.cmp .le (.lit (-9223372036854775808)) (.sub (.var 6) (.rem (.quo (.var 3) (.lit 4096)) (.lit 1000000)))) (.cmp .le (.sub (.var 6) (.rem (.quo (.var 3) (.lit 4096)) (.lit 1000000))) (.lit 9223372036854775807))) (.ob (.and (.cmp .le (.lit (-9223372036854775808)) (.add (.lit 1) (.rem (.var 3) (.lit 4)))) (.cmp .le (.add (.lit 1) (.rem (.var 3) (.lit 4))) (.lit 9223372036854775807))) (.ob (.and (.cmp .le (.lit (-9223372036854775808)) (.rem (.quo (.var 3) (.lit 4)) (.add (.cell (.var 0) (.sub (.len (.var 0)) (.lit 1)) 0) (.lit 1)))) (.cmp .le (.rem (.quo (.var 3) (.lit 4)) (.add (.cell (.var 0) (.sub (.len (.var 0)) (.lit 1)) 0) (.lit 1))) (.lit 9223372036854775807))) (.ob (.and (.cmp .le (.lit (-9223372036854775808)) (.max (.lit 0) (.sub (.var 6) (.rem (.quo (.var 3) (.lit 4096)) (.lit 1000000))))) (.cmp .le (.max (.lit 0) (.sub (.var 6) (.rem (.quo (.var 3) (.lit 4096)) (.lit 1000000)))) (.lit 9223372036854775807))) (.ret [(.int (.add (.lit 1) (.rem (.var 3) (.lit 4)))), (.int (.rem (.quo (.var 3) (.lit 4)) (.add (.cell (.var 0) (.sub (.len (.var 0)) (.lit 1)) 0) (.lit 1)))), (.int (.max (.lit 0) (.sub (.var 6) (.rem (.quo (.var 3) (.lit 4096)) (.lit 1000000)))))]))))) (.split (.cmp .eq (.add (.lit 1) (.rem (.var 3) (.lit 4))) (.lit 4)) (.ob (.and (.cmp .le (.lit (-9223372036854775808)) (.add (.var 7) (.rem (.quo (.var 3) (.lit 4096)) (.lit 1000000)))) (.cmp .le (.add (.var 7) (.rem (.quo (.var 3) (.lit 4096)) (.lit 1000000))) (.lit 9223372036854775807))) (.ob (.and (.cmp .le (.lit (-9223372036854775808)) (.add (.lit 1) (.rem (.var 3) (.lit 4)))) (.cmp .le (.add (.lit 1) (.rem (.var 3) (.lit 4))) (.lit 9223372036854775807))) (.ob (.and (.cmp .le (.lit (-9223372036854775808)) (.rem (.quo (.var 3) (.lit 4)) (.add (.cell (.var 0) (.sub (.len (.var 0)) (.lit 1)) 0) (.lit 1)))) (.cmp .le (.rem (.quo (.var 3) (.lit 4)) (.add (.cell (.var 0) (.sub (.len (.var 0)) (.lit 1)) 0) (.lit 1))) (.lit 9223372036854775807))) (.ob (.and (.cmp .le (.lit (-9223372036854775808)) (.add (.var 7) (.rem (.quo (.var 3) (.lit 4096)) (.lit 1000000)))) (.cmp .le (.add (.var 7) (.rem (.quo (.var 3) (.lit 4096)) (.lit 1000000))) (.lit 9223372036854775807))) (.ret [(.int (.add (.lit 1) (.rem (.var 3) (.lit 4)))), (.int (.rem (.quo (.var 3) (.lit 4)) (.add (.cell (.var 0) (.sub (.len (.var 0)) (.lit 1)) 0) (.lit 1)))), (.int (.add (.var 7) (.rem (.quo (.var 3) (.lit 4096)) (.lit 1000000))))]))))) (.ob (.and (.cmp .le (.lit (-9223372036854775808)) (.add (.lit 1) (.rem (.var 3) (.lit 4)))) (.cmp .le (.add (.lit 1) (.rem (.var 3) (.lit 4))) (.lit 9223372036854775807))) (.ob (.and (.cmp .le (.lit (-9223372036854775808)) (.rem (.quo (.var 3) (.lit 4)) (.add (.cell (.var 0) (.sub (.len (.var 0)) (.lit 1)) 0) (.lit 1)))) (.cmp .le (.rem (.quo (.var 3) (.lit 4)) (.add (.cell (.var 0) (.sub (.len (.var 0)) (.lit 1)) 0) (.lit 1))) (.lit 9223372036854775807))) (.ret [(.int (.add (.lit 1) (.rem (.var 3) (.lit 4)))), (.int (.rem (.quo (.var 3) (.lit 4)) (.add (.cell (.var 0) (.sub (.len (.var 0)) (.lit 1)) 0) (.lit 1)))), (.int (.lit 0))])))))))))))))))))))
noncomputable def cknown : Cx := tab5.only [22, 61, 34, 62, 59] (fun r => match r with
  | 6 => [.blk 3]
  | 50008 => [.vec 39]
  | _ => []) [] 0 [] (fun _ => none)
def tknown : Tree :=
  (.dfn .nil (.dfn .nil (.dfn .nil (.dfn .nil (.dfn .nil (.call 34 [(.int (.var 0)), (.arr 2 (.var 1)), (.arr 2 (.var 2)), (.arr 2 (.var 3))] (.dfn .nil (.dfn .nil (.ob (.cmp .le (.lit 0) (.sub (.len (.var 9)) (.lit 1))) (.ob (.cmp .lt (.sub (.len (.var 9)) (.lit 1)) (.len (.var 9))) (.call 61 [(.arr 2 (.var 2)), (.int (.lit 1))] (.call 22 [(.int (.var 13)), (.int (.lit 2001))] (.call 61 [(.arr 2 (.var 2)), (.int (.lit 2))] (.call 22 [(.int (.var 15)), (.int (.lit 10001))] (.ob (.and (.cmp .le (.lit (-9223372036854775808)) (.add (.lit 30000) (.var 16))) (.cmp .le (.add (.lit 30000) (.var 16)) (.lit 9223372036854775807))) (.dfn .nil (.dfn .nil (.dfn .nil (.dfn .nil (.dfn .nil (.dfn .nil (.dfn .nil (.dfn .nil (.dfn .nil (.dfn .nil (.call 62 [(.arr 44 (.var 9)), (.arr 2 (.var 2)), (.int (.lit 0)), (.bool (.lit false))] (.call 62 [(.arr 44 (.var 9)), (.arr 2 (.var 2)), (.int (.lit 3)), (.bool (.lit true))] (.call 62 [(.arr 44 (.var 10)), (.arr 2 (.var 2)), (.int (.lit 5)), (.bool (.lit false))] (.call 62 [(.arr 44 (.var 10)), (.arr 2 (.var 2)), (.int (.lit 7)), (.bool (.lit true))] (.ob (.and (.cmp .le (.lit (-9223372036854775808)) (.add (.lit 30000) (.var 16))) (.cmp .le (.add (.lit 30000) (.var 16)) (.lit 9223372036854775807))) (.loop [.int, .int, (.vec 44), (.vec 44), (.vec 44), (.vec 44), .int, .int, (.vec 57)] [(.int (.lit 0)), (.int (.cell (.var 9) (.sub (.len (.var 9)) (.lit 1)) 0)), (.cnt 44 (.var 27)), (.cnt 44 (.var 28)), (.cnt 44 (.var 29)), (.cnt 44 (.var 30)), (.int (.var 14)), (.int (.add (.lit 30000) (.var 16))), (.cnt 57 (.var 21))] (.split (.cmp .lt (.var 31) (.len (.var 3))) (.split (.cmp .lt (.var 31) (.lit 8)) (.ob (.cmp .le (.lit 0) (.var 31)) (.ob (.cmp .lt (.var 31) (.len (.var 3))) (.call 59 [(.arr 44 (.var 9)), (.arr 44 (.var 10)), (.int (.cell (.var 3) (.var 31) 0))] (.arr [[(.int (.var 40)), (.int (.var 41)), (.int (.var 42))]] (.ob (.cmp .le (.mul (.add (.len (.var 39)) (.len (.var 43))) (.lit 24)) (.lit 140737488355328)) (.cat (.var 39) (.var 43) (.back 0 [(.int (.add (.var 31) (.lit 1))), (.int (.var 32)), (.cnt 44 (.var 33)), (.cnt 44 (.var 34)), (.cnt 44 (.var 35)), (.cnt 44 (.var 36)), (.int (.var 37)), (.int (.var 38)), (.cnt 57 (.var 44))]))))))) (.ret [(.int (.var 32)), (.cnt 44 (.var 33)), (.cnt 44 (.var 34)), (.cnt 44 (.var 35)), (.cnt 44 (.var 36)), (.int (.var 37)), (.int (.var 38)), (.cnt 57 (.var 39))])) (.ret [(.int (.var 32)), (.cnt 44 (.var 33)), (.cnt 44 (.var 34)), (.cnt 44 (.var 35)), (.cnt 44 (.var 36)), (.int (.var 37)), (.int (.var 38)), (.cnt 57 (.var 39))])))))))))))))))))))))))))))))))))
end Go.Proofs.Ytcglpbchejkolaa
/- Earth: truths and earths made of numbers: plain laws. -/
namespace Go.Proofs.Ytcglpbchejkolaa
open Go.RowKit
set_option linter.unusedSimpArgs false
set_option linter.unusedVariables false

theorem pickV_bd (l : List Int) (i : Int) : 0 ≤ pickV l i ∧ pickV l i < 1099511627776 := by
  unfold pickV
  split
  · omega
  · exact ⟨Int.emod_nonneg _ (by decide), Int.emod_lt_of_pos _ (by decide)⟩
theorem gainA_bd (g : Gr) (i : Int) : 2000 ≤ gainA g i ∧ gainA g i ≤ 22000 := by
  unfold gainA
  have := pickV_bd g.steps (i + 3)
  omega
theorem gainB_bd (g : Gr) (i : Int) : gainA g i ≤ gainB g i ∧ gainB g i ≤ 30000 := by
  have h := gainA_bd g i
  unfold gainB
  have h1 := Int.emod_nonneg (pickV g.steps (i + 4) / 11) (b := 30001 - gainA g i) (by omega)
  have h2 := Int.emod_lt_of_pos (pickV g.steps (i + 4) / 11) (b := 30001 - gainA g i) (by omega)
  omega
theorem stepV_bd (g : Gr) {B i a : Int} (hB : 1 ≤ B) (h : a < B) : 1 ≤ stepV g B i a ∧ a + stepV g B i a ≤ B := by
  unfold stepV
  have h1 := Int.emod_nonneg (pickV g.steps (i + 2)) (b := B) (by omega)
  split <;> omega
theorem bottomV_bd (g : Gr) : 1000 ≤ bottomV g ∧ bottomV g ≤ 500000 := by
  unfold bottomV; omega
/-- A truth's knots: both lines. -/
inductive TR (B : Int) : List (Int × Int × Int) → Prop
  | one (p f : Int) : TR B [(B, p, f)]
  | cons {a p f a' p' f' x y : Int} {l : List (Int × Int × Int)} (ha : a < a') (hB : a' ≤ B) (hx : 2000 ≤ x) (hxy : x ≤ y) (hy : y ≤ 30000) (hp : p' = p + x * (a' - a)) (hf : f' = f + y * (a' - a)) (ht : TR B ((a', p', f') :: l)) : TR B ((a, p, f) :: (a', p', f') :: l)
theorem truthGo_TR (g : Gr) {B : Int} (hB : 1 ≤ B) : ∀ (n : Nat) (i a p f : Int), 0 ≤ i → i + (n + 1) = 6 → 0 ≤ a → a ≤ B → (5 ≤ i → a = B) → TR B (truthGo g B (n + 1) i a p f)
  | n, i, a, p, f, i0, hn, a0, a1, h5 => by
    rw [truthGo]
    by_cases ha : a = B
    · rw [if_pos ha, ha]; exact .one p f
    · rw [if_neg ha]
      have hs := stepV_bd g (i := i) hB (by omega : a < B)
      have hA := gainA_bd g i
      have hG := gainB_bd g i
      match n, hn with
      | 0, hn => exact absurd (h5 (by omega)) ha
      | n + 1, hn =>
        have ih := truthGo_TR g hB n (i + 1) (a + stepV g B i a) (p + gainA g i * stepV g B i a) (f + gainB g i * stepV g B i a) (by omega) (by omega) (by omega) (by omega) (fun h => by
          unfold stepV; rw [if_pos (Or.inl (by omega))]; omega)
        rw [truthGo] at ih ⊢
        exact .cons (x := gainA g i) (y := gainB g i) (by omega) (by omega) (by omega) (by omega) (by omega) (by rw [show a + stepV g B i a - a = stepV g B i a by omega]) (by rw [show a + stepV g B i a - a = stepV g B i a by omega]) ih
theorem truthGo_len (g : Gr) (B : Int) : ∀ (n : Nat) (i a p f : Int), (truthGo g B n i a p f).length ≤ n
  | 0, _, _, _, _ => Nat.le_refl _
  | n + 1, i, a, p, f => by
    rw [truthGo, List.length_cons]
    split
    · simp
    · have := truthGo_len g B n (i + 1) (a + stepV g B i a) (p + gainA g i * stepV g B i a) (f + gainB g i * stepV g B i a)
      omega
theorem TR.box {B : Int} : ∀ {l : List (Int × Int × Int)} {a p f : Int}, TR B ((a, p, f) :: l) → p ≤ f → ∀ k ∈ (a, p, f) :: l, a ≤ k.1 ∧ k.1 ≤ B ∧ p ≤ k.2.1 ∧ k.2.1 ≤ p + 30000 * (k.1 - a) ∧ f ≤ k.2.2 ∧ k.2.2 ≤ f + 30000 * (k.1 - a) ∧ k.2.1 ≤ k.2.2
  | [], a, p, f, h, hpf, k, hk => by
    cases h
    rw [List.mem_singleton] at hk
    subst hk
    exact ⟨Int.le_refl _, Int.le_refl _, Int.le_refl _, by simp, Int.le_refl _, by simp, hpf⟩
  | (a', p', f') :: l, a, p, f, h, hpf, k, hk => by
    cases h with
    | @cons _ _ _ _ _ _ x y _ ha hB hx hxy hy hp hf ht =>
      have m1 : x * (a' - a) ≤ 30000 * (a' - a) := Int.mul_le_mul_of_nonneg_right (by omega) (by omega)
      have m2 : y * (a' - a) ≤ 30000 * (a' - a) := Int.mul_le_mul_of_nonneg_right (by omega) (by omega)
      have m3 : x * (a' - a) ≤ y * (a' - a) := Int.mul_le_mul_of_nonneg_right (by omega) (by omega)
      have m4 : 0 ≤ x * (a' - a) := Int.mul_nonneg (by omega) (by omega)
      rcases List.mem_cons.1 hk with rfl | hk
      · exact ⟨Int.le_refl _, by show a ≤ B; omega, Int.le_refl _, by simp, Int.le_refl _, by simp, hpf⟩
      · have ih := ht.box (by omega) k hk
        refine ⟨by omega, by omega, by omega, by omega, by omega, by omega, by omega⟩
/-- A line that goes up from its first place to its last one, by so much a step at least and at most. -/
inductive Rise (gl gh B : Int) : List Kn → Prop
  | one (v : Int) : Rise gl gh B [(B, v)]
  | cons {a v a' v' : Int} {l : List Kn} (ha : a < a') (hB : a' ≤ B) (h1 : gl * (a' - a) ≤ v' - v) (h2 : v' - v ≤ gh * (a' - a)) (ht : Rise gl gh B ((a', v') :: l)) : Rise gl gh B ((a, v) :: (a', v') :: l)
theorem TR.pore {B : Int} : ∀ {l : List (Int × Int × Int)}, TR B l → Rise 2000 30000 B (l.map fun k => (k.1, k.2.1))
  | [], h => by cases h
  | [k], h => by cases h; exact .one _
  | (a, p, f) :: (a', p', f') :: l, h => by
    cases h with
    | @cons _ _ _ _ _ _ x y _ ha hB hx hxy hy hp hf ht =>
      have m1 : 2000 * (a' - a) ≤ x * (a' - a) := Int.mul_le_mul_of_nonneg_right hx (by omega)
      have m2 : x * (a' - a) ≤ 30000 * (a' - a) := Int.mul_le_mul_of_nonneg_right (by omega) (by omega)
      exact .cons ha hB (show 2000 * (a' - a) ≤ p' - p by omega) (show p' - p ≤ 30000 * (a' - a) by omega) ht.pore
theorem TR.frac {B : Int} : ∀ {l : List (Int × Int × Int)}, TR B l → Rise 2000 30000 B (l.map fun k => (k.1, k.2.2))
  | [], h => by cases h
  | [k], h => by cases h; exact .one _
  | (a, p, f) :: (a', p', f') :: l, h => by
    cases h with
    | @cons _ _ _ _ _ _ x y _ ha hB hx hxy hy hp hf ht =>
      have m1 : 2000 * (a' - a) ≤ y * (a' - a) := Int.mul_le_mul_of_nonneg_right (by omega) (by omega)
      have m2 : y * (a' - a) ≤ 30000 * (a' - a) := Int.mul_le_mul_of_nonneg_right (by omega) (by omega)
      exact .cons ha hB (show 2000 * (a' - a) ≤ f' - f by omega) (show f' - f ≤ 30000 * (a' - a) by omega) ht.frac
theorem Rise.asc {gl gh B : Int} : ∀ {l : List Kn}, Rise gl gh B l → Asc l
  | [], _ => .nil
  | [k], _ => .one k
  | _ :: _ :: _, .cons ha hB h1 h2 ht => .cons ha ht.asc
theorem Rise.end {gl gh B : Int} : ∀ {l : List Kn}, Rise gl gh B l → endV l = B
  | [], h => by cases h
  | [k], h => by cases h; rfl
  | k :: k' :: l, .cons ha hB h1 h2 ht => by
    have := ht.end
    unfold endV at this ⊢
    simpa using this
theorem Rise.wide {gl gh gl' gh' B : Int} (g1 : gl' ≤ gl) (g2 : gh ≤ gh') : ∀ {l : List Kn}, Rise gl gh B l → Rise gl' gh' B l
  | [], h => by cases h
  | [k], h => by cases h; exact .one _
  | _ :: _ :: _, .cons ha hB h1 h2 ht => .cons ha hB
    (by have := Int.mul_le_mul_of_nonneg_right g1 (show 0 ≤ _ from Int.sub_nonneg_of_le (Int.le_of_lt ha)); omega)
    (by have := Int.mul_le_mul_of_nonneg_right g2 (show 0 ≤ _ from Int.sub_nonneg_of_le (Int.le_of_lt ha)); omega) (ht.wide g1 g2)
theorem badKs_zero {a v : Int} : ∀ {ks : List Kn} {last : Int}, Asc ks → (∀ k ∈ ks, 0 ≤ k.1 ∧ k.1 ≤ a ∧ 0 ≤ k.2 ∧ k.2 ≤ v) → (∀ k l, ks = k :: l → last < k.1) → badKs a v last ks = 0
  | [], _, _, _, _ => rfl
  | k :: l, last, h, hb, hl => by
    rw [badKs_next (hb k (by simp)) (hl k l rfl)]
    refine badKs_zero h.tail (fun x hx => hb x (by simp [hx])) fun k' l' e => ?_
    subst e
    exact h.head_lt k' (by simp)
theorem lineE_of {ks : List Kn} (h0 : ks ≠ []) (h1 : ks.length ≤ 24) (ha : Asc ks) (hb : ∀ k ∈ ks, 0 ≤ k.1 ∧ k.1 ≤ 1048576 ∧ 0 ≤ k.2 ∧ k.2 ≤ 68719476736) : lineE ks = 0 := by
  unfold lineE
  rw [lineV_in (by omega), if_neg (by rw [List.length_eq_zero_iff]; exact h0), if_neg (by omega)]
  exact badKs_zero ha hb fun k l e => by have := hb k (by rw [e]; simp); omega
/-! The truth of some numbers -/
theorem truthL_TR (g : Gr) : TR (bottomV g) (truthL g) := truthGo_TR g (by have := bottomV_bd g; omega) 5 0 0 _ _ (by omega) (by omega) (by omega) (by have := bottomV_bd g; omega) (by omega)
theorem truthL_len (g : Gr) : (truthL g).length ≤ 6 := truthGo_len g _ 6 0 0 _ _
theorem truthL_box (g : Gr) : ∀ k ∈ truthL g, 0 ≤ k.1 ∧ k.1 ≤ bottomV g ∧ 0 ≤ k.2.1 ∧ k.2.1 ≤ 1000000 + 30000 * k.1 ∧ k.2.1 ≤ k.2.2 ∧ k.2.2 ≤ 21000000 + 30000 * k.1 := by
  have h := truthL_TR g
  unfold truthL at h ⊢
  rw [truthGo] at h ⊢
  intro k hk
  have h0 := pickV_bd g.steps 0
  have h1 := pickV_bd g.steps 1
  have := h.box (by omega) k hk
  omega
theorem tp_rise (g : Gr) : Rise 2000 30000 (bottomV g) (tpV g) := (truthL_TR g).pore
theorem tf_rise (g : Gr) : Rise 2000 30000 (bottomV g) (tfV g) := (truthL_TR g).frac
theorem tp_len (g : Gr) : (tpV g).length ≤ 6 := by unfold tpV; rw [List.length_map]; exact truthL_len g
theorem tf_len (g : Gr) : (tfV g).length ≤ 6 := by unfold tfV; rw [List.length_map]; exact truthL_len g
theorem tp_box (g : Gr) : ∀ k ∈ tpV g, 0 ≤ k.1 ∧ k.1 ≤ 500000 ∧ 0 ≤ k.2 ∧ k.2 ≤ 15001000000 := fun k hk => by
  obtain ⟨x, hx, rfl⟩ := List.mem_map.1 hk
  have := truthL_box g x hx
  have := bottomV_bd g
  exact ⟨this.1 |> fun _ => by show 0 ≤ x.1; omega, by show x.1 ≤ _; omega, by show 0 ≤ x.2.1; omega, by show x.2.1 ≤ _; omega⟩
theorem tf_box (g : Gr) : ∀ k ∈ tfV g, 0 ≤ k.1 ∧ k.1 ≤ 500000 ∧ 0 ≤ k.2 ∧ k.2 ≤ 15021000000 := fun k hk => by
  obtain ⟨x, hx, rfl⟩ := List.mem_map.1 hk
  have := truthL_box g x hx
  have := bottomV_bd g
  exact ⟨by show 0 ≤ x.1; omega, by show x.1 ≤ _; omega, by show 0 ≤ x.2.2; omega, by show x.2.2 ≤ _; omega⟩
theorem Rise.ne {gl gh B : Int} {l : List Kn} (h : Rise gl gh B l) : l ≠ [] := by intro e; subst e; cases h
theorem tp_line (g : Gr) : lineE (tpV g) = 0 := lineE_of (tp_rise g).ne (by have := tp_len g; omega) (tp_rise g).asc fun k hk => by have := tp_box g k hk; omega
theorem tf_line (g : Gr) : lineE (tfV g) = 0 := lineE_of (tf_rise g).ne (by have := tf_len g; omega) (tf_rise g).asc fun k hk => by have := tf_box g k hk; omega
theorem tp_end (g : Gr) : endV (tpV g) = bottomV g := (tp_rise g).end
end Go.Proofs.Ytcglpbchejkolaa
/- Earth: what makes earths and truths of numbers. -/
namespace Go.Proofs.Ytcglpbchejkolaa
open Go.RowKit
set_option linter.unusedSimpArgs false
set_option linter.unusedVariables false

theorem pick_ok : tab5.ok 61 := by
  refine Tab.of_ct rfl rfl ⟨_, Try.func61, by decide, rfl⟩ ?_ ctF_det
  refine ct_ok (cx := cpick) (Tab.cx_ok (all_cons (up5_ok (up4_ok mod64_ok)) all_nil)) Try.func61 (bds := []) (T := tpick) (by kernel_rfl) ?_
  have h1 : cpick.ct 22 = some ctMod := rfl
  unfold tpick
  simp only [VC, allC, List.map_cons, List.map_nil, List.length_cons, List.length_nil, List.getElem?_cons_zero, List.getElem?_cons_succ, List.cons.injEq, C.i.injEq, C.b.injEq, and_true, true_and, forall_const, kindsOf_nil, kindsOf_lf, kindsOf_agg, kindsOf_box, boxKinds_nil, boxKinds_lf, boxKinds_agg, boxKinds_box, List.append_nil, List.cons_append, List.nil_append, den_cmp_le, den_cmp_lt, den_cmp_eq, den_cmp_ne, den_cmp_le', den_cmp_lt', den_cmp_eq', den_cmp_ne', den_and, den_and', den_or, den_or', den_not, den_not', den_blit, den_of, ev_var, at_0, at_1, at_2, at_3, at_4, at_5, at_6, at_7, at_skip, c_int, c_bool, c_arr, c_cnt, c_vec, ev_nil, ev_join, ev_sub3, loc_s, int_i, bool_b, rows_s, cs_nil, cs_cons, E.den_lit, E.den_var, E.den_add, E.den_sub, E.den_mul, E.den_quo, E.den_rem, E.den_max, E.den_min, E.den_len, E.den_wr, E.den_cell, ev_cell, in1, h1, ctMod, ctPick, ctF, n_]
  intro u r _ _ _ i _ _ hi
  rw [← ints_len r]
  generalize ints r = l at *
  refine ⟨bds_nil _, fun h => ?_, fun h => ⟨h, ?_⟩⟩
  · unfold pickV; rw [if_pos (by omega)]
  · rw [Int.tmod_eq_emod_of_nonneg hi]
    have e1 := Int.emod_nonneg i h
    have e2 := Int.emod_lt_of_pos i (show 0 < (l.length : Int) by omega)
    refine ⟨e1, e2, by decide, ?_⟩
    rintro n _ _ rfl
    unfold pickV; rw [if_neg (by omega)]
theorem knots_snoc (rows : List (List C)) (a b : Int) : knots (rows ++ [[.i a, .i b]]) = knots rows ++ [(a, b)] := by rw [knots_app, knots_one]
theorem shifted_ok : tab5.ok 62 := by
  refine Tab.of_ct rfl rfl ⟨_, Try.func62, by decide, rfl⟩ ?_ (fun h => by cases h)
  refine ct_ok (cx := cshifted) (Tab.cx_ok (all_cons (up5_ok (up4_ok mod64_ok)) (all_cons pick_ok all_nil))) Try.func62 (bds := []) (T := tshifted) (by kernel_rfl) ?_
  have h1 : cshifted.ct 22 = some ctMod := rfl
  have h2 : cshifted.ct 61 = some ctPick := rfl
  unfold tshifted
  simp only [VC, allC, List.map_cons, List.map_nil, List.length_cons, List.length_nil, List.getElem?_cons_zero, List.getElem?_cons_succ, List.cons.injEq, C.i.injEq, C.b.injEq, and_true, true_and, forall_const, kindsOf_nil, kindsOf_lf, kindsOf_agg, kindsOf_box, boxKinds_nil, boxKinds_lf, boxKinds_agg, boxKinds_box, List.append_nil, List.cons_append, List.nil_append, den_cmp_le, den_cmp_lt, den_cmp_eq, den_cmp_ne, den_cmp_le', den_cmp_lt', den_cmp_eq', den_cmp_ne', den_and, den_and', den_or, den_or', den_not, den_not', den_blit, den_of, ev_var, at_0, at_1, at_2, at_3, at_4, at_5, at_6, at_7, at_skip, c_int, c_bool, c_arr, c_cnt, c_vec, ev_nil, ev_join, ev_sub3, loc_s, int_i, bool_b, rows_s, cs_nil, cs_cons, E.den_lit, E.den_var, E.den_add, E.den_sub, E.den_mul, E.den_quo, E.den_rem, E.den_max, E.den_min, E.den_len, E.den_wr, E.den_cell, ev_cell, kn1, kn2, h1, h2, ctMod, ctPick, ctShifted, ctF, lineSh, n_, k_]
  intro u1 r1 _ _ _ u2 r2 _ _ _ fr _ _ up hp
  rw [← knots_len r1]
  generalize knots r1 = ks at *
  generalize ints r2 = off at *
  obtain ⟨hl, hb, f0, f1⟩ := hp
  refine ⟨bds_nil _, fun xs => match xs with | [.i i, .s _ rows] => 0 ≤ i ∧ i ≤ ks.length ∧ rows.length = i.toNat ∧ knots rows ++ shiftGo off up (fr + i) (ks.drop i.toNat) = shiftGo off up fr ks | _ => False, fun xs => match xs with | [.i i, _] => ((ks.length : Int) - i).toNat | _ => 0, ⟨by omega, by omega, rfl, by simp [knots]⟩, ?_⟩
  rintro i _ _ v7 r7 _ _ _ ⟨i0, i1, hlen, hI⟩
  refine ⟨fun hlt => ?_, fun hge => ?_⟩
  · refine ⟨⟨by omega, by omega⟩, ⟨by omega, by omega⟩, by omega, ?_⟩
    rintro n _ _ hn
    refine ⟨by decide, ?_⟩
    rintro d _ _ hd
    have hk := hb _ (getD_mem (l := ks) (i := i.toNat) (by omega) (0, 0))
    have d0 := Int.emod_nonneg n (b := 40000000) (by decide)
    have d1 := Int.emod_lt_of_pos n (b := 40000000) (by decide)
    rw [← hd] at d0 d1
    rw [drop_cons (show i.toNat < ks.length by omega) (0, 0), shiftGo, ← hn, ← hd] at hI
    have hm : ((ks.length : Int) - (i + 1)).toNat < ((ks.length : Int) - i).toNat := by omega
    refine ⟨i0, hlt, fun hup => ?_, fun hup => ?_⟩
    · rw [if_pos hup] at hI
      refine ⟨⟨by omega, by omega⟩, ⟨by omega, by omega⟩, by omega, fun v2 => ⟨⟨by omega, by omega, by rw [List.length_append, hlen, List.length_singleton]; omega, ?_⟩, hm⟩⟩
      rw [knots_snoc, List.append_assoc, show fr + (i + 1) = fr + i + 1 by omega, show (i + 1).toNat = i.toNat + 1 by omega]
      exact hI
    · rw [if_neg (by rw [hup]; decide)] at hI
      refine ⟨⟨by omega, by omega⟩, ⟨by omega, by omega⟩, by omega, fun v2 => ⟨⟨by omega, by omega, by rw [List.length_append, hlen, List.length_singleton]; omega, ?_⟩, hm⟩⟩
      rw [knots_snoc, List.append_assoc, show fr + (i + 1) = fr + i + 1 by omega, show (i + 1).toNat = i.toNat + 1 by omega]
      exact hI
  · rw [List.drop_eq_nil_of_le (by omega), shiftGo, List.append_nil] at hI
    exact hI
theorem rangeP_bd {ks : List Kn} (h : lineE ks = 0) (x : Int) : 0 ≤ (rangeP ks x).1 ∧ (rangeP ks x).1 ≤ (rangeP ks x).2 ∧ (rangeP ks x).2 ≤ (rangeP ks x).1 + 1 ∧ (rangeP ks x).2 ≤ 68719476737 := by
  have := (good (rightB_of h)).val x
  unfold rangeP
  exact ⟨by show 0 ≤ _; omega, by show _ ≤ _ + _; omega, by show _ + _ ≤ _; omega, by show _ + _ ≤ _; omega⟩
theorem endV_bd {ks : List Kn} (h : lineE ks = 0) : 0 < ks.length ∧ 0 ≤ endV ks ∧ endV ks ≤ 1048576 := by
  have hne := (lineV_ok h).1
  have hp : 0 < ks.length := List.length_pos_iff.2 hne
  have := (lineE_box h).2 _ (getD_mem (l := ks) (i := ks.length - 1) (by omega) (0, 0))
  exact ⟨hp, this.1, this.2.1⟩
theorem report_ok : tab5.ok 59 := by
  refine Tab.of_ct rfl rfl ⟨_, Try.func59, by decide, rfl⟩ ?_ ctF_det
  refine ct_ok (cx := creport) (Tab.cx_ok (all_cons (up5_ok (up4_ok mod64_ok)) (all_cons (up5_ok (up4_ok (up3_ok (up_ok rat_ok)))) all_nil))) Try.func59 (bds := []) (T := treport) (by kernel_rfl) ?_
  have h1 : creport.ct 22 = some ctMod := rfl
  have h2 : creport.ct 38 = some ctAt := rfl
  unfold treport
  simp only [VC, allC, List.map_cons, List.map_nil, List.length_cons, List.length_nil, List.getElem?_cons_zero, List.getElem?_cons_succ, List.cons.injEq, C.i.injEq, C.b.injEq, and_true, true_and, forall_const, kindsOf_nil, kindsOf_lf, kindsOf_agg, kindsOf_box, boxKinds_nil, boxKinds_lf, boxKinds_agg, boxKinds_box, List.append_nil, List.cons_append, List.nil_append, den_cmp_le, den_cmp_lt, den_cmp_eq, den_cmp_ne, den_cmp_le', den_cmp_lt', den_cmp_eq', den_cmp_ne', den_and, den_and', den_or, den_or', den_not, den_not', den_blit, den_of, ev_var, at_0, at_1, at_2, at_3, at_4, at_5, at_6, at_7, at_skip, c_int, c_bool, c_arr, c_cnt, c_vec, ev_nil, ev_join, ev_sub3, loc_s, int_i, bool_b, rows_s, cs_nil, cs_cons, E.den_lit, E.den_var, E.den_add, E.den_sub, E.den_mul, E.den_quo, E.den_rem, E.den_max, E.den_min, E.den_len, E.den_wr, E.den_cell, ev_cell, kn1, kn2, h1, h2, ctMod, ctAt, ctReport, ctF, lineSh, rangeSh, n_, k_, ofKn]
  intro u1 r1 _ _ _ u2 r2 _ _ _ q _ _ hp
  rw [← knots_len r1]
  generalize knots r1 = tp at *
  generalize knots r2 = tf at *
  obtain ⟨hl, hl2⟩ := hp
  obtain ⟨hpos, e0, e1⟩ := endV_bd hl
  refine ⟨bds_nil _, by decide, ?_⟩
  rintro n _ _ hn
  have n0 := Int.emod_nonneg q (b := 1099511627776) (by decide)
  have n1 := Int.emod_lt_of_pos q (b := 1099511627776) (by decide)
  have hE : (tp.getD ((tp.length : Int) - 1).toNat (0, 0)).1 = endV tp := by unfold endV; rw [show ((tp.length : Int) - 1).toNat = tp.length - 1 by omega]
  unfold repV
  rw [← hn] at n0 n1 ⊢
  rw [hE]
  generalize endV tp = E at *
  have t1 : n.tmod 4 = n % 4 := Int.tmod_eq_emod_of_nonneg n0
  have t2 : n.tdiv 4 = n / 4 := Int.tdiv_eq_ediv_of_nonneg n0
  have t3 : n.tdiv 4096 = n / 4096 := Int.tdiv_eq_ediv_of_nonneg n0
  have t4 : (n / 4).tmod (E + 1) = n / 4 % (E + 1) := Int.tmod_eq_emod_of_nonneg (by omega)
  have t5 : (n / 4096).tmod 1000000 = n / 4096 % 1000000 := Int.tmod_eq_emod_of_nonneg (by omega)
  simp only [t1, t2, t3, t4, t5]
  have z0 := Int.emod_nonneg (n / 4) (b := E + 1) (by omega)
  have z1 := Int.emod_lt_of_pos (n / 4) (b := E + 1) (by omega)
  generalize n / 4 % (E + 1) = z at *
  refine ⟨by omega, by omega, ⟨by omega, by omega⟩, ⟨by omega, by omega⟩, ⟨by omega, by omega⟩, by omega, ⟨by omega, by omega⟩, ?_⟩
  rintro p1 _ _ p2 _ _ ⟨hp1, hp2⟩
  refine ⟨⟨by omega, by omega⟩, ?_⟩
  rintro f1 _ _ f2 _ _ ⟨hf1, hf2⟩
  unfold atV at hp1 hp2 hf1 hf2
  rw [if_pos (rightB_of hl)] at hp1 hp2
  rw [if_pos (rightB_of hl2)] at hf1 hf2
  have b1 := rangeP_bd hl z
  have b2 := rangeP_bd hl2 z
  rw [← hp1, ← hp2] at b1 ⊢
  rw [← hf1, ← hf2] at b2 ⊢
  refine ⟨⟨by omega, by omega⟩, fun k1 => ?_, fun k1 => ⟨fun k2 => ?_, fun k2 => ⟨fun k3 => ?_, fun k3 => ⟨fun k4 => ?_, fun k4 => by omega⟩⟩⟩⟩
  · rw [if_pos (show n % 4 = 0 by omega)]
    exact ⟨⟨by omega, by omega⟩, ⟨by omega, by omega⟩, ⟨by omega, by omega⟩, ⟨by omega, by omega⟩, trivial, trivial, rfl⟩
  · rw [if_neg (show ¬ n % 4 = 0 by omega), if_pos (show n % 4 = 1 by omega)]
    exact ⟨⟨by omega, by omega⟩, ⟨by omega, by omega⟩, ⟨by omega, by omega⟩, ⟨by omega, by omega⟩, trivial, trivial, rfl⟩
  · rw [if_neg (show ¬ n % 4 = 0 by omega), if_neg (show ¬ n % 4 = 1 by omega), if_pos (show n % 4 = 2 by omega)]
    exact ⟨⟨by omega, by omega⟩, ⟨by omega, by omega⟩, ⟨by omega, by omega⟩, ⟨by omega, by omega⟩, trivial, trivial, rfl⟩
  · rw [if_neg (show ¬ n % 4 = 0 by omega), if_neg (show ¬ n % 4 = 1 by omega), if_neg (show ¬ n % 4 = 2 by omega)]
    exact ⟨⟨by omega, by omega⟩, ⟨by omega, by omega⟩, ⟨by omega, by omega⟩, ⟨by omega, by omega⟩, trivial, trivial, rfl⟩
end Go.Proofs.Ytcglpbchejkolaa
/- Earth: True and Known of numbers. -/
namespace Go.Proofs.Ytcglpbchejkolaa
open Go.RowKit
set_option linter.unusedSimpArgs false
set_option linter.unusedVariables false

set_option maxRecDepth 100000 in
theorem truth_ok : tab5.ok 34 := by
  refine Tab.of_ct rfl rfl ⟨_, Try.func34, by decide, rfl⟩ ?_ (fun h => by cases h)
  refine ct_ok (cx := ctruth) (Tab.cx_ok (all_cons (up5_ok (up4_ok mod64_ok)) (all_cons pick_ok all_nil))) Try.func34 (bds := []) (T := ttruth) (by kernel_rfl) ?_
  have h1 : ctruth.ct 22 = some ctMod := rfl
  have h2 : ctruth.ct 61 = some ctPick := rfl
  unfold ttruth
  simp only [VC, allC, List.map_cons, List.map_nil, List.length_cons, List.length_nil, List.getElem?_cons_zero, List.getElem?_cons_succ, List.cons.injEq, C.i.injEq, C.b.injEq, and_true, true_and, forall_const, kindsOf_nil, kindsOf_lf, kindsOf_agg, kindsOf_box, boxKinds_nil, boxKinds_lf, boxKinds_agg, boxKinds_box, List.append_nil, List.cons_append, List.nil_append, den_cmp_le, den_cmp_lt, den_cmp_eq, den_cmp_ne, den_cmp_le', den_cmp_lt', den_cmp_eq', den_cmp_ne', den_and, den_and', den_or, den_or', den_not, den_not', den_blit, den_of, ev_var, at_0, at_1, at_2, at_3, at_4, at_5, at_6, at_7, at_skip, c_int, c_bool, c_arr, c_cnt, c_vec, ev_nil, ev_join, ev_sub3, loc_s, int_i, bool_b, rows_s, cs_nil, cs_cons, E.den_lit, E.den_var, E.den_add, E.den_sub, E.den_mul, E.den_quo, E.den_rem, E.den_max, E.den_min, E.den_len, E.den_wr, E.den_cell, ev_cell, h1, h2, ctMod, ctPick, ctTrue, ctF, groundSh, vecTruth, n_, k_, grOf]
  intro b _ _ u1 r1 _ _ _ u2 r2 _ _ _ u3 r3 _ _ _
  generalize hg : (⟨b, ints r1, ints r2, ints r3⟩ : Gr) = g at *
  have gb : g.bottom = b := by rw [← hg]
  have gs : ints r1 = g.steps := by rw [← hg]
  rw [gs]
  refine ⟨bds_nil _, by decide, ?_⟩
  rintro m _ _ hm
  have hB : 1000 + m = bottomV g := by unfold bottomV; rw [gb, hm]
  have bB := bottomV_bd g
  refine ⟨⟨by omega, by omega⟩, by decide, ?_⟩
  rintro n9 _ _ h9
  refine ⟨by decide, ?_⟩
  rintro n10 _ _ h10
  refine ⟨by decide, ?_⟩
  rintro n11 _ _ h11
  refine ⟨by decide, ?_⟩
  rintro n12 _ _ h12
  have b10 := Int.emod_nonneg n9 (b := 1000000) (by decide)
  have b10' := Int.emod_lt_of_pos n9 (b := 1000000) (by decide)
  have b12 := Int.emod_nonneg n11 (b := 20000000) (by decide)
  have b12' := Int.emod_lt_of_pos n11 (b := 20000000) (by decide)
  rw [← h10] at b10 b10'
  rw [← h12] at b12 b12'
  rw [hB]
  generalize hBB : bottomV g = B at *
  have hP : tpV g = (truthGo g B 6 0 0 n10 (n10 + n12)).map fun k => (k.1, k.2.1) := by unfold tpV truthL; rw [hBB, ← h9, ← h11, ← h10, ← h12]
  have hF : tfV g = (truthGo g B 6 0 0 n10 (n10 + n12)).map fun k => (k.1, k.2.2) := by unfold tfV truthL; rw [hBB, ← h9, ← h11, ← h10, ← h12]
  refine ⟨⟨by omega, by omega⟩, ⟨by omega, by omega⟩, fun xs => match xs with | [.i a, .i p, .i f, .i i, .s _ rp, .s _ rf] => 0 ≤ i ∧ i ≤ 6 ∧ 0 ≤ a ∧ a ≤ B ∧ 0 ≤ p ∧ p ≤ 1000000 + 30000 * a ∧ 0 ≤ f ∧ f ≤ 21000000 + 30000 * a ∧ rp.length = i.toNat ∧ rf.length = i.toNat ∧ knots rp ++ (truthGo g B (6 - i).toNat i a p f).map (fun k => (k.1, k.2.1)) = tpV g ∧ knots rf ++ (truthGo g B (6 - i).toNat i a p f).map (fun k => (k.1, k.2.2)) = tfV g | _ => False, fun xs => match xs with | [_, _, _, .i i, _, _] => (6 - i).toNat | _ => 0, ⟨by omega, by omega, by omega, by omega, by omega, by omega, by omega, by omega, rfl, rfl, hP.symm, hF.symm⟩, ?_⟩
  rintro a _ _ p _ _ f _ _ i _ _ v17 rp _ _ _ v18 rf _ _ _ ⟨i0, i1, a0, a1, p0, p1, f0, f1, lp, lf, hp, hf⟩
  refine ⟨fun hi => ?_, fun hi => ?_⟩
  rotate_left
  · rw [show (6 - i).toNat = 0 by omega, truthGo, List.map_nil, List.append_nil] at hp hf
    exact ⟨hp, hf⟩
  rw [show (6 - i).toNat = (5 - i).toNat + 1 by omega, truthGo, List.map_cons] at hp hf
  refine ⟨fun xs => match xs with | [.s _ rp', .s _ rf'] => rp' = rp ++ [[.i a, .i p]] ∧ rf' = rf ++ [[.i a, .i f]] | _ => False, ⟨⟨⟨by omega, fun _ => ⟨by omega, fun _ => ⟨rfl, rfl⟩⟩⟩, ⟨by omega, fun _ => ⟨by omega, fun _ => ⟨rfl, rfl⟩⟩⟩⟩, ⟨by omega, fun _ => ⟨by omega, fun _ => ⟨rfl, rfl⟩⟩⟩⟩, ?_⟩
  rintro v19 r19 _ _ _ v20 r20 _ _ _ ⟨rfl, rfl⟩
  refine ⟨fun ha => ?_, fun ha => ⟨by omega, ?_⟩⟩
  · rw [if_pos ha, List.map_nil] at hp hf
    exact ⟨by rw [knots_snoc]; exact hp, by rw [knots_snoc]; exact hf⟩
  rw [if_neg ha] at hp hf
  rintro n21 _ _ h21
  refine ⟨⟨by omega, by omega⟩, by omega, ?_⟩
  rintro n22 _ _ h22
  have b22 := Int.emod_nonneg n21 (b := B) (by omega)
  have b22' := Int.emod_lt_of_pos n21 (b := B) (by omega)
  rw [← h22] at b22 b22'
  have hst : stepV g B i a = if i = 4 ∨ B < a + (1 + n22) then B - a else 1 + n22 := by unfold stepV; rw [← h21, ← h22]
  have bst := stepV_bd g (i := i) (show 1 ≤ B by omega) (show a < B by omega)
  refine ⟨⟨by omega, by omega⟩, fun xs => match xs with | [.b t] => t = decide (i = 4 ∨ B < a + (1 + n22)) | _ => False, ⟨fun h4 => (decide_eq_true (.inl h4)).symm, fun h4 => ⟨⟨by omega, by omega⟩, ?_⟩⟩, ?_⟩
  · have e : (decide (B < a + (1 + n22))) = decide (i = 4 ∨ B < a + (1 + n22)) := by
      rw [decide_eq_decide]; exact ⟨.inr, fun h => h.resolve_left h4⟩
    rw [← e, ← hB]; rfl
  rintro t ht
  refine ⟨fun xs => match xs with | [.i s] => s = stepV g B i a | _ => False, ⟨fun h => ⟨⟨by omega, by omega⟩, ⟨by omega, by omega⟩, ?_⟩, fun h => ⟨⟨by omega, by omega⟩, ?_⟩⟩, ?_⟩
  · show B - a = _
    rw [hst, if_pos (of_decide_eq_true (ht.symm.trans h))]
  · show 1 + n22 = _
    rw [hst, if_neg (of_decide_eq_false (ht.symm.trans h))]
  rintro s _ _ rfl
  generalize stepV g B i a = s at *
  refine ⟨by omega, ?_⟩
  rintro n25 _ _ h25
  have b25 := pickV_bd g.steps (i + 3)
  rw [← h25] at b25
  rw [Int.tdiv_eq_ediv_of_nonneg b25.1]
  refine ⟨⟨by omega, by omega⟩, ⟨by omega, by omega⟩, by decide, ?_⟩
  rintro n26 _ _ h26
  have hA : 2000 + n26 = gainA g i := by unfold gainA; rw [← h25, h26]
  have bA := gainA_bd g i
  rw [hA]
  refine ⟨⟨by omega, by omega⟩, by omega, ?_⟩
  rintro n27 _ _ h27
  have b27 := pickV_bd g.steps (i + 4)
  rw [← h27] at b27
  rw [Int.tdiv_eq_ediv_of_nonneg b27.1]
  refine ⟨⟨by omega, by omega⟩, ⟨by omega, by omega⟩, ⟨by omega, by omega⟩, ⟨by omega, by omega⟩, by omega, ?_⟩
  rintro n28 _ _ h28
  have hG : gainA g i + n28 = gainB g i := by unfold gainB; rw [← h27, h28]
  have bG := gainB_bd g i
  rw [hG]
  generalize gainA g i = A at *
  generalize gainB g i = G at *
  have m1 : A * s ≤ 30000 * s := Int.mul_le_mul_of_nonneg_right (by omega) (by omega)
  have m2 : G * s ≤ 30000 * s := Int.mul_le_mul_of_nonneg_right (by omega) (by omega)
  have m3 : 0 ≤ A * s := Int.mul_nonneg (by omega) (by omega)
  have m4 : 0 ≤ G * s := Int.mul_nonneg (by omega) (by omega)
  refine ⟨⟨by omega, by omega⟩, ⟨by omega, by omega⟩, ⟨by omega, by omega⟩, ⟨by omega, by omega⟩, ⟨by omega, by omega⟩, ⟨by omega, by omega⟩, ⟨by omega, by omega⟩, ⟨by omega, by omega⟩, ⟨by omega, by omega⟩, ⟨by omega, by omega, by omega, by omega, by omega, by omega, by omega, by omega, by rw [List.length_append, lp, List.length_singleton]; omega, by rw [List.length_append, lf, List.length_singleton]; omega, ?_, ?_⟩, (show (6 - (i + 1)).toNat < (6 - i).toNat by omega)⟩
  · rw [knots_snoc, List.append_assoc, show (6 - (i + 1)).toNat = (5 - i).toNat by omega]; exact hp
  · rw [knots_snoc, List.append_assoc, show (6 - (i + 1)).toNat = (5 - i).toNat by omega]; exact hf
theorem reps_snoc (rows : List (List C)) (a b c : Int) : repsOf (rows ++ [[.i a, .i b, .i c]]) = repsOf rows ++ [⟨a, b, c⟩] := by rw [reps_app, reps_one]
set_option maxRecDepth 100000 in
theorem known_ok : tab5.ok 20 := by
  refine Tab.of_ct rfl rfl ⟨_, Try.func20, by decide, rfl⟩ ?_ (fun h => by cases h)
  refine ct_ok (cx := cknown) (Tab.cx_ok (all_cons (up5_ok (up4_ok mod64_ok)) (all_cons pick_ok (all_cons truth_ok (all_cons shifted_ok (all_cons report_ok all_nil)))))) Try.func20 (bds := []) (T := tknown) (by kernel_rfl) ?_
  have h1 : cknown.ct 22 = some ctMod := rfl
  have h2 : cknown.ct 61 = some ctPick := rfl
  have h3 : cknown.ct 34 = some ctTrue := rfl
  have h4 : cknown.ct 62 = some ctShifted := rfl
  have h5 : cknown.ct 59 = some ctReport := rfl
  unfold tknown
  simp only [VC, allC, List.map_cons, List.map_nil, List.length_cons, List.length_nil, List.getElem?_cons_zero, List.getElem?_cons_succ, List.cons.injEq, C.i.injEq, C.b.injEq, and_true, true_and, forall_const, kindsOf_nil, kindsOf_lf, kindsOf_agg, kindsOf_box, boxKinds_nil, boxKinds_lf, boxKinds_agg, boxKinds_box, List.append_nil, List.cons_append, List.nil_append, den_cmp_le, den_cmp_lt, den_cmp_eq, den_cmp_ne, den_cmp_le', den_cmp_lt', den_cmp_eq', den_cmp_ne', den_and, den_and', den_or, den_or', den_not, den_not', den_blit, den_of, ev_var, at_0, at_1, at_2, at_3, at_4, at_5, at_6, at_7, at_skip, c_int, c_bool, c_arr, c_cnt, c_vec, ev_nil, ev_join, ev_sub3, loc_s, int_i, bool_b, rows_s, cs_nil, cs_cons, E.den_lit, E.den_var, E.den_add, E.den_sub, E.den_mul, E.den_quo, E.den_rem, E.den_max, E.den_min, E.den_len, E.den_wr, E.den_cell, ev_cell, h1, h2, h3, h4, h5, ctMod, ctPick, ctTrue, ctShifted, ctReport, ctKnown, ctF, groundSh, vecTruth, vecEarth, lineSh, n_, k_, grOf, earOf]
  intro b _ _ u1 r1 _ _ _ u2 r2 _ _ _ u3 r3 _ _ _
  simp only [in1 u3 r3]
  rw [← ints_len r3]
  generalize hg : (⟨b, ints r1, ints r2, ints r3⟩ : Gr) = g at *
  have go : ints r2 = g.off := by rw [← hg]
  have gm : ints r3 = g.marks := by rw [← hg]
  rw [go, gm]
  refine ⟨bds_nil _, ?_⟩
  rintro v9 r9 _ _ _ v10 r10 _ _ _ ⟨h9, h10⟩
  rw [← knots_len r9]
  simp only [kn1 v9 r9, h9, h10]
  obtain ⟨lpos, e0, e1⟩ := endV_bd (tp_line g)
  have hE : ((tpV g).getD (((tpV g).length : Int) - 1).toNat (0, 0)).1 = endV (tpV g) := by unfold endV; rw [show (((tpV g).length : Int) - 1).toNat = (tpV g).length - 1 by omega]
  rw [hE]
  refine ⟨by omega, by omega, by decide, ?_⟩
  rintro n13 _ _ h13
  refine ⟨by decide, ?_⟩
  rintro n14 _ _ h14
  refine ⟨by decide, ?_⟩
  rintro n15 _ _ h15
  refine ⟨by decide, ?_⟩
  rintro n16 _ _ h16
  have b16 := Int.emod_nonneg n15 (b := 10001) (by decide)
  have b16' := Int.emod_lt_of_pos n15 (b := 10001) (by decide)
  rw [← h16] at b16 b16'
  have tl : (tpV g).length ≤ 100 ∧ ∀ k ∈ tpV g, -1152921504606846976 ≤ k.2 ∧ k.2 ≤ 1152921504606846976 := ⟨by have := tp_len g; omega, fun k hk => by have := tp_box g k hk; omega⟩
  have fl : (tfV g).length ≤ 100 ∧ ∀ k ∈ tfV g, -1152921504606846976 ≤ k.2 ∧ k.2 ≤ 1152921504606846976 := ⟨by have := tf_len g; omega, fun k hk => by have := tf_box g k hk; omega⟩
  refine ⟨⟨by omega, by omega⟩, ⟨tl.1, tl.2, by decide, by decide⟩, ?_⟩
  rintro v27 r27 _ _ _ h27
  refine ⟨⟨tl.1, tl.2, by decide, by decide⟩, ?_⟩
  rintro v28 r28 _ _ _ h28
  refine ⟨⟨fl.1, fl.2, by decide, by decide⟩, ?_⟩
  rintro v29 r29 _ _ _ h29
  refine ⟨⟨fl.1, fl.2, by decide, by decide⟩, ?_⟩
  rintro v30 r30 _ _ _ h30
  refine ⟨⟨by omega, by omega⟩, fun xs => match xs with | [.i i, .i b, .s _ a1, .s _ a2, .s _ a3, .s _ a4, .i gl, .i gh, .s _ rr] => 0 ≤ i ∧ i ≤ 8 ∧ i ≤ g.marks.length ∧ b = endV (tpV g) ∧ knots a1 = shiftGo g.off false 0 (tpV g) ∧ knots a2 = shiftGo g.off true 3 (tpV g) ∧ knots a3 = shiftGo g.off false 5 (tfV g) ∧ knots a4 = shiftGo g.off true 7 (tfV g) ∧ gl = n14 ∧ gh = 30000 + n16 ∧ rr.length = i.toNat ∧ repsOf rr = (g.marks.take i.toNat).map (repV (tpV g) (tfV g)) | _ => False, fun xs => match xs with | .i i :: _ => (8 - i).toNat | _ => 0, ⟨by omega, by omega, by omega, rfl, h27, h28, h29, h30, rfl, rfl, rfl, rfl⟩, ?_⟩
  rintro i _ _ b' _ _ v33 r33 _ _ _ v34 r34 _ _ _ v35 r35 _ _ _ v36 r36 _ _ _ gl _ _ gh _ _ v39 r39 _ _ _ ⟨i0, i8, im, eb, k1, k2, k3, k4, egl, egh, rl, hr⟩
  subst eb egl egh
  have fin : ((g.marks.length : Int) ≤ i ∨ 8 ≤ i) → (⟨endV (tpV g), knots r33, knots r34, knots r35, knots r36, gl, 30000 + n16, repsOf r39⟩ : Ear) = knownV g := fun h => by
    unfold knownV
    rw [k1, k2, k3, k4, hr, h14, h13, h16, h15]
    congr 2
    rcases h with h | h
    · rw [List.take_of_length_le (by omega), List.take_of_length_le (by omega)]
    · rw [show i.toNat = 8 by omega]
  refine ⟨fun hlt => ⟨fun h8 => ?_, fun h8 => fin (.inr (by omega))⟩, fun hge => fin (.inl (by omega))⟩
  refine ⟨i0, hlt, ⟨tp_line g, tf_line g⟩, ?_⟩
  rintro x _ _ y _ _ z _ _ ⟨rfl, rfl, rfl⟩
  refine ⟨by omega, fun v44 => ⟨⟨by omega, by omega, by omega, rfl, k1, k2, k3, k4, rfl, rfl, by rw [List.length_append, rl, List.length_singleton]; omega, ?_⟩, (show (8 - (i + 1)).toNat < (8 - i).toNat by omega)⟩⟩
  rw [reps_snoc, hr, show (i + 1).toNat = i.toNat + 1 by omega, take_snoc (by omega) 0, List.map_append]
  rfl
end Go.Proofs.Ytcglpbchejkolaa
/- A result that is a slice of one's own may be taken as any slice. -/
namespace Go.Proofs.Ytcglpbchejkolaa
open Go.RowKit
set_option linter.unusedVariables false
section
variable {P : Program}
theorem outs_any {w : World} {B B' : Nat → Nat → Prop} : ∀ {ss : List Sh0} {vs : List Value} {cs : List C}, ss.all (fun s => !s.isBox) = true → Outs P w B ss vs cs → Outs P w B' ss vs cs
  | [], [], _, _, h => h
  | [], _ :: _, _, _, h => h
  | .lf _ :: ss, [], _, _, h => h
  | .agg _ :: ss, [], _, _, h => h
  | .box .. :: ss, [], _, _, h => h
  | .lf _ :: ss, v :: vs, cs, hno, h => outs_any (ss := ss) (vs := vs) (cs := cs) (by simp only [List.all_cons, Bool.and_eq_true] at hno; exact hno.2) h
  | .agg _ :: ss, v :: vs, cs, hno, h => outs_any (ss := ss) (vs := vs) (cs := cs) (by simp only [List.all_cons, Bool.and_eq_true] at hno; exact hno.2) h
  | .box .. :: ss, v :: vs, cs, hno, h => by simp [Sh0.isBox] at hno
theorem ct_arr {f : FuncId} {args : List Sh0} {t : TypeId} {pre : List C → Prop} {post : List C → List C → Prop} {det : Bool} (hno : args.all (fun s => !s.isBox) = true)
    (h : CtOK P f ⟨args, [.lf (.vec t)], pre, post, det⟩) : CtOK P f ⟨args, [.lf (.arr t)], pre, post, det⟩ := by
  intro Base w vs cs hB hr hp
  refine (h Base w vs cs hB hr hp).mono ?_
  rintro e w' ⟨v, rs, outs, rfl, ⟨us, hv, hres, hnd, hnew⟩, hout, hpost, hk⟩
  refine ⟨v, rs, outs, rfl, ⟨us, hv, ?_, ?_, ?_⟩, outs_any hno hout, hpost, hk⟩
  · match us, hres with
    | [u], hres =>
      obtain ⟨c1, c2, rfl, ⟨c, rfl, hs, hu, hvec⟩, h2⟩ := hres
      cases h2
      refine ⟨[c], [], rfl, ⟨c, rfl, hs, hu, ?_⟩, rfl⟩
      obtain ⟨v', hc⟩ : ∃ v', c = .s v' c.rows := by obtain ⟨ks, us', -, hc, -⟩ := hvec; exact hc
      have key := VecOK.arr (O' := fun b o => Base b o ∨ b ∈ vecB (kindsOf [Sh0.lf (.arr t)]) [c]) hvec (fun b o hb => by
        rcases hb with hb | hb
        · exact .inl hb
        · exact absurd hb (by simp [kindsOf, Sh0.kinds, vecB])) (fun b hb o hx => by
        rcases hx with hx | hx
        · have h1 := hB b o hx
          have h2 := hnew b (by
            show b ∈ vecB [.vec t] ([c] ++ [])
            simp only [List.append_nil, vecB]
            rw [← hu, hb]
            simp)
          exact absurd h1 (by omega)
        · exact absurd hx (by simp [kindsOf, Sh0.kinds, vecB]))
      have he : C.s u c.rows = c := by rw [hu]; rw [hc]; rfl
      rw [he] at key
      exact key
    | [], hres => exact hres.elim
    | _ :: _ :: _, hres => obtain ⟨c1, c2, rfl, -, h2⟩ := hres; exact h2.elim
  · show (vecB [.arr t] rs).Nodup
    cases rs <;> simp [vecB]
  · show ∀ b ∈ vecB [.arr t] rs, _
    cases rs <;> simp [vecB]
def toArr : Lk → Lk
  | .vec t => .arr t
  | k => k
theorem vecB_toArr : ∀ (ks : List Lk) (cs : List C), vecB (ks.map toArr) cs = []
  | [], cs => by cases cs <;> rfl
  | k :: ks, [] => by cases k <;> rfl
  | k :: ks, c :: cs => by cases k <;> exact vecB_toArr ks cs
theorem lreps_arr {w : World} {O O' : Nat → Nat → Prop} (hO : ∀ b o, O' b o → O b o) : ∀ {ks : List Lk} {us : List Value} {cs : List C}, LReps P w O ks us cs → (∀ b ∈ vecB ks cs, ∀ o, ¬ O' b o) → LReps P w O' (ks.map toArr) us cs
  | [], [], [], _, _ => trivial
  | k :: ks, u :: us, c :: cs, ⟨h1, h2⟩, hb => by
    have hb2 : ∀ b ∈ vecB ks cs, ∀ o, ¬ O' b o := fun b hb' => hb b (by
      cases k with
      | vec t => simp only [vecB]; exact List.mem_append_right _ hb'
      | _ => exact hb')
    refine ⟨?_, lreps_arr hO h2 hb2⟩
    cases k with
    | int => exact h1
    | bool => exact h1
    | arr t => exact ⟨h1.1, h1.2.1, ArrOK.anti h1.2.2 hO⟩
    | vec t =>
      obtain ⟨hs, hu, hvec⟩ := h1
      obtain ⟨v', hc⟩ : ∃ v', c = .s v' c.rows := by obtain ⟨ks, us', -, hc, -⟩ := hvec; exact hc
      have key := VecOK.arr hvec hO (fun b hb' => hb b (by simp only [vecB]; rw [← hu, hb']; simp))
      have he : C.s u c.rows = c := by rw [hu]; rw [hc]; rfl
      rw [he] at key
      exact ⟨hs, hu, key⟩
  | [], _ :: _, _, h, _ => h.elim
  | [], [], _ :: _, h, _ => h.elim
  | _ :: _, [], _, h, _ => h.elim
  | _ :: _, _ :: _, [], h, _ => h.elim
/-- .. and one with a struct of such. -/
theorem ct_arrs {f : FuncId} {args : List Sh0} {ks : List Lk} {pre : List C → Prop} {post : List C → List C → Prop} {det : Bool} (hno : args.all (fun s => !s.isBox) = true)
    (h : CtOK P f ⟨args, [.agg ks], pre, post, det⟩) : CtOK P f ⟨args, [.agg (ks.map toArr)], pre, post, det⟩ := by
  intro Base w vs cs hB hr hp
  refine (h Base w vs cs hB hr hp).mono ?_
  rintro e w' ⟨v, rs, outs, rfl, ⟨us, hv, hres, hnd, hnew⟩, hout, hpost, hk⟩
  have hz : vecB (kindsOf [Sh0.agg (ks.map toArr)]) rs = [] := by
    rw [show kindsOf [Sh0.agg (ks.map toArr)] = ks.map toArr by simp [kindsOf, Sh0.kinds]]
    exact vecB_toArr _ _
  have hy : vecB (kindsOf [Sh0.agg ks]) rs = vecB ks rs := by
    rw [show kindsOf [Sh0.agg ks] = ks by simp [kindsOf, Sh0.kinds]]
  refine ⟨v, rs, outs, rfl, ⟨us, hv, ?_, by rw [hz]; simp, by rw [hz]; simp⟩, outs_any hno hout, hpost, hk⟩
  rw [hz]
  rw [hy] at hres hnew
  match us, hres with
  | [u], hres =>
    obtain ⟨c1, c2, rfl, ⟨us', rfl, hl⟩, h2⟩ := hres
    cases h2
    refine ⟨c1, [], rfl, ⟨us', rfl, lreps_arr (fun b o hb => ?_) hl fun b hb o hx => ?_⟩, rfl⟩
    · rcases hb with hb | hb
      · exact .inl hb
      · cases hb
    · rcases hx with hx | hx
      · have h1 := hB b o hx
        have h2 := hnew b (by rw [List.append_nil]; exact hb)
        omega
      · cases hx
  | [], hres => exact hres.elim
  | _ :: _ :: _, hres => obtain ⟨c1, c2, rfl, -, h2⟩ := hres; exact h2.elim
end
end Go.Proofs.Ytcglpbchejkolaa
/- Earth: contracts, more of them: earths and truths made of numbers whose lists are not turned. -/
namespace Go.Proofs.Ytcglpbchejkolaa
set_option linter.unusedVariables false

def ctTrueA : Ct := ⟨[groundSh], [truthSh], fun _ => True, fun cs rs => k_ rs 0 = tpV (grOf cs) ∧ k_ rs 1 = tfV (grOf cs), false⟩
def ctKnownA : Ct := ⟨[groundSh], [earthSh], fun _ => True, fun cs rs => earOf rs = knownV (grOf cs), false⟩
def tab6 : Tab where
  ct := fun f => match f with
    | 34 => some ctTrueA
    | 20 => some ctKnownA
    | f => tab5.ct f
  inl := tab5.inl
  sel := tab5.sel
theorem up6_ok {f : Nat} (h : tab5.ok f) (he : tab6.ct f = tab5.ct f := by rfl) : tab6.ok f :=
  ⟨h.1, fun ct hc => h.2.1 ct (he ▸ hc), h.2.2.1, h.2.2.2⟩
theorem trueA_ok : tab6.ok 34 :=
  ⟨truth_ok.1, fun ct hc => by cases hc; exact ⟨ct_arrs rfl (truth_ok.2.1 ctTrue rfl).1, fun h => by cases h⟩, truth_ok.2.2.1, truth_ok.2.2.2⟩
theorem knownA_ok : tab6.ok 20 :=
  ⟨known_ok.1, fun ct hc => by cases hc; exact ⟨ct_arrs rfl (known_ok.2.1 ctKnown rfl).1, fun h => by cases h⟩, known_ok.2.2.1, known_ok.2.2.2⟩
end Go.Proofs.Ytcglpbchejkolaa
/- Earth: the library's slices.Sort and slices.Compact at []int64: what the shelf asks of this program (laid by the shelf's own plain mode). -/
namespace Go.Proofs.Ytcglpbchejkolaa
open Go.Shelf
def sort64_ren : Go.Shelf.Ren := ⟨fun | 53 => 107 | 64 => 121 | 63 => 120 | 78 => 138 | 79 => 139 | 70 => 129 | 71 => 130 | 72 => 131 | 73 => 132 | 74 => 133 | 75 => 134 | 59 => 135 | 76 => 136 | 77 => 137 | 88 => 141 | 89 => 142 | 90 => 143 | 91 => 144 | 92 => 145 | 68 => 123 | 96 => 146 | n => n, fun | 22 => 30 | 23 => 2 | 3 => 3 | 51 => 129 | 0 => 0 | 67 => 144 | 69 => 146 | 4 => 4 | 61 => 137 | 60 => 136 | 44 => 121 | 5 => 5 | 9 => 9 | 75 => 148 | 79 => 152 | 83 => 154 | 84 => 155 | n => n, fun | n => n⟩
theorem sort64 : Go.Proofs.SlLaysN.n53 Try.prog sort64_ren := {
  mixed := by kernel_rfl
  f53 := ⟨Try.f107.name, by decide, Try.func107.trans (congrArg some (by kernel_rfl))⟩
  f59 := ⟨Try.f135.name, by decide, Try.func135.trans (congrArg some (by kernel_rfl))⟩
  f63 := ⟨Try.f120.name, by decide, Try.func120.trans (congrArg some (by kernel_rfl))⟩
  f64 := Try.func121.trans (congrArg some (by kernel_rfl))
  f68 := ⟨Try.f123.name, by decide, Try.func123.trans (congrArg some (by kernel_rfl))⟩
  f70 := ⟨Try.f129.name, by decide, Try.func129.trans (congrArg some (by kernel_rfl))⟩
  f71 := ⟨Try.f130.name, by decide, Try.func130.trans (congrArg some (by kernel_rfl))⟩
  f72 := ⟨Try.f131.name, by decide, Try.func131.trans (congrArg some (by kernel_rfl))⟩
  f73 := ⟨Try.f132.name, by decide, Try.func132.trans (congrArg some (by kernel_rfl))⟩
  f74 := ⟨Try.f133.name, by decide, Try.func133.trans (congrArg some (by kernel_rfl))⟩
  f75 := ⟨Try.f134.name, by decide, Try.func134.trans (congrArg some (by kernel_rfl))⟩
  f76 := ⟨Try.f136.name, by decide, Try.func136.trans (congrArg some (by kernel_rfl))⟩
  f77 := ⟨Try.f137.name, by decide, Try.func137.trans (congrArg some (by kernel_rfl))⟩
  f78 := Try.func138.trans (congrArg some (by kernel_rfl))
  f79 := Try.func139.trans (congrArg some (by kernel_rfl))
  f88 := ⟨Try.f141.name, by decide, Try.func141.trans (congrArg some (by kernel_rfl))⟩
  f89 := Try.func142.trans (congrArg some (by kernel_rfl))
  f90 := Try.func143.trans (congrArg some (by kernel_rfl))
  f91 := ⟨Try.f144.name, by decide, Try.func144.trans (congrArg some (by kernel_rfl))⟩
  f92 := ⟨Try.f145.name, by decide, Try.func145.trans (congrArg some (by kernel_rfl))⟩
  f96 := ⟨Try.f146.name, by decide, Try.func146.trans (congrArg some (by kernel_rfl))⟩
  t0 := Try.underlying0
  a0 := Try.isAgg0
  z0 := Try.sizeOf0
  v0 := Try.zeroValue0
  t3 := Try.underlying3
  a3 := Try.isAgg3
  z3 := Try.sizeOf3
  v3 := Try.zeroValue3
  t4 := Try.underlying4
  a4 := Try.isAgg4
  z4 := Try.sizeOf4
  v4 := Try.zeroValue4
  t5 := Try.underlying5
  a5 := Try.isAgg5
  z5 := Try.sizeOf5
  v5 := Try.zeroValue5
  t9 := Try.underlying9
  a9 := Try.isAgg9
  z9 := Try.sizeOf9
  v9 := Try.zeroValue9
  t22 := Try.underlying30
  a22 := Try.isAgg30
  z22 := Try.sizeOf30
  v22 := Try.zeroValue30
  t23 := Try.underlying2
  a23 := Try.isAgg2
  z23 := Try.sizeOf2
  v23 := Try.zeroValue2
  t44 := Try.underlying121
  a44 := Try.isAgg121
  z44 := Try.sizeOf121
  v44 := Try.zeroValue121
  t51 := Try.underlying129
  a51 := Try.isAgg129
  z51 := Try.sizeOf129
  v51 := Try.zeroValue129
  t60 := Try.underlying136
  a60 := Try.isAgg136
  z60 := Try.sizeOf136
  v60 := Try.zeroValue136
  t61 := Try.underlying137
  a61 := Try.isAgg137
  z61 := Try.sizeOf137
  v61 := Try.zeroValue137
  t67 := Try.underlying144
  a67 := Try.isAgg144
  z67 := Try.sizeOf144
  v67 := Try.zeroValue144
  t69 := Try.underlying146
  a69 := Try.isAgg146
  z69 := Try.sizeOf146
  v69 := Try.zeroValue146
  t75 := Try.underlying148
  a75 := Try.isAgg148
  z75 := Try.sizeOf148
  v75 := Try.zeroValue148
  t79 := Try.underlying152
  a79 := Try.isAgg152
  z79 := Try.sizeOf152
  v79 := Try.zeroValue152
  t83 := Try.underlying154
  a83 := Try.isAgg154
  z83 := Try.sizeOf154
  v83 := Try.zeroValue154
  t84 := Try.underlying155
  a84 := Try.isAgg155
  z84 := Try.sizeOf155
  v84 := Try.zeroValue155 }
def comp64_ren : Go.Shelf.Ren := ⟨fun | 43 => 108 | n => n, fun | 22 => 30 | 23 => 2 | 3 => 3 | 4 => 4 | 0 => 0 | n => n, fun | n => n⟩
theorem comp64 : Go.Proofs.SlLaysN.n43 Try.prog comp64_ren := {
  mixed := by kernel_rfl
  f43 := ⟨Try.f108.name, by decide, Try.func108.trans (congrArg some (by kernel_rfl))⟩
  t0 := Try.underlying0
  a0 := Try.isAgg0
  z0 := Try.sizeOf0
  v0 := Try.zeroValue0
  t3 := Try.underlying3
  a3 := Try.isAgg3
  z3 := Try.sizeOf3
  v3 := Try.zeroValue3
  t4 := Try.underlying4
  a4 := Try.isAgg4
  z4 := Try.sizeOf4
  v4 := Try.zeroValue4
  t22 := Try.underlying30
  a22 := Try.isAgg30
  z22 := Try.sizeOf30
  v22 := Try.zeroValue30
  t23 := Try.underlying2
  a23 := Try.isAgg2
  z23 := Try.sizeOf2
  v23 := Try.zeroValue2
  i23 := by kernel_rfl }
end Go.Proofs.Ytcglpbchejkolaa
/- Earth: slices.Sort and slices.Compact of a slice of one's own. -/
namespace Go.Proofs.Ytcglpbchejkolaa
open Go.RowKit Go.Sort
set_option linter.unusedSimpArgs false
set_option linter.unusedVariables false

def intRows (l : List Int) : List (List C) := l.map fun n => [C.i n]
theorem intRows_len (l : List Int) : (intRows l).length = l.length := by simp [intRows]
theorem intRows_flat : ∀ l : List Int, (intRows l).flatten = l.map C.i
  | [] => rfl
  | n :: l => by
    have := intRows_flat l
    simp only [intRows, List.map_cons, List.flatten_cons] at this ⊢
    rw [this]; rfl
theorem rowsK_int : ∀ n, rowsK n [.int] = List.replicate n Lk.int
  | 0 => rfl
  | n + 1 => by
    have := rowsK_int n
    unfold rowsK at this ⊢
    rw [List.replicate_succ, List.flatten_cons, this, List.replicate_succ]; rfl
theorem creps_ints {P : Program} {w : World} {O : Nat → Nat → Prop} : ∀ (l : List Int), (∀ n ∈ l, ∀ m, C.small m (.i n)) → CReps P w O (List.replicate l.length Lk.int) (l.map (Value.int .i64)) (l.map C.i)
  | [], _ => trivial
  | n :: l, h => ⟨⟨h n (by simp), n, rfl, rfl⟩, creps_ints l fun x hx => h x (by simp [hx])⟩
theorem ints_ofG {P : Program} {w : World} {O : Nat → Nat → Prop} : ∀ {rows : List (List C)} {us : List Value}, (∀ r ∈ rows, r.length = 1) → CReps P w O (List.replicate rows.length Lk.int) us rows.flatten → ∃ zs : List Int, rows = intRows zs ∧ us = zs.map (Value.int .i64) ∧ ∀ n ∈ zs, ∀ m, C.small m (.i n)
  | [], us, _, h => by
    cases us with
    | nil => exact ⟨[], rfl, rfl, fun n hn => nomatch hn⟩
    | cons u us => exact h.elim
  | r :: rows, us, hl, h => by
    have h1 := hl r (by simp)
    match r, h1 with
    | [c], _ =>
      rw [List.flatten_cons, List.length_cons, List.replicate_succ] at h
      cases us with
      | nil => exact h.elim
      | cons u us =>
        obtain ⟨⟨hs, n, rfl, rfl⟩, h2⟩ := h
        obtain ⟨zs, rfl, rfl, h3⟩ := ints_ofG (fun x hx => hl x (by simp [hx])) h2
        refine ⟨n :: zs, rfl, rfl, fun x hx => ?_⟩
        rcases List.mem_cons.1 hx with rfl | hx
        · exact hs
        · exact h3 x hx
theorem ints_vec {P : Program} {w : World} {O : Nat → Nat → Prop} {te : TypeId} {v : Value} {c : C} (h : VecOK P w O te v c) (hk : kinds P te = some [.int]) : ∃ zs : List Int, c.rows = intRows zs ∧ w.ownsRow 0 te 1 v zs.length (zs.map (Value.int .i64)) ∧ ∀ n ∈ zs, ∀ m, C.small m (.i n) := by
  obtain ⟨ks, us, hk', -, hl, hr, ho⟩ := h
  rw [hk] at hk'
  cases hk'
  rw [rowsK_int] at hr
  obtain ⟨zs, h1, rfl, h3⟩ := ints_ofG hl hr
  rw [h1, intRows_len] at ho
  exact ⟨zs, h1, ho, h3⟩
theorem vec_ints {P : Program} {w : World} {O : Nat → Nat → Prop} {te : TypeId} {v u : Value} {zs : List Int} (hk : kinds P te = some [.int]) (ho : w.ownsRow 0 te 1 v zs.length (zs.map (Value.int .i64))) (hs : ∀ n ∈ zs, ∀ m, C.small m (.i n)) : VecOK P w O te v (.s u (intRows zs)) := by
  refine ⟨[.int], zs.map (Value.int .i64), hk, ⟨_, rfl⟩, fun r hr => ?_, ?_, ?_⟩
  · obtain ⟨n, -, rfl⟩ := List.mem_map.1 hr; rfl
  · show CReps P w O (rowsK (intRows zs).length [.int]) _ (intRows zs).flatten
    rw [intRows_len, rowsK_int, intRows_flat]
    exact creps_ints zs hs
  · show w.ownsRow 0 te 1 v (intRows zs).length _
    rw [intRows_len]; exact ho
section
variable {F : Nat → Prop} {w0 : World} {Γ : Env} {st : St} {a : Act} {w : World}
theorem sort_vec (h : Sat Try.prog F w0 Γ st a w) (hw : st.wf = true) {i : Nat} {e : E} (hi : look st.vec i = some (2, e)) {zs : List Int} (hz : (e.ev Γ.ρ).rows = intRows zs) (hne : zs ≠ []) (hlen : zs.length < 4611686018427387904) :
    Calls Try.prog 107 #[(at_ Γ.ρ i).loc] w fun x w' => x = .returned (.tuple #[]) ∧
      Sat Try.prog F w0 { Γ with ρ := Γ.ρ ++ [.s (at_ Γ.ρ i).loc (intRows (zs.mergeSort fun x y => decide (x ≤ y)))] } { st with nx := st.nx + 1, vec := (i, some (2, .var st.nx)) :: st.vec } a w' := by
  have hk : kinds Try.prog 2 = some [.int] := by kernel_rfl
  have hvec := (h.vec i _ hi).1
  obtain ⟨zs', h1, ho, hs⟩ := ints_vec hvec hk
  have hzz : zs' = zs := by
    have e2 : intRows zs' = intRows zs := h1.symm.trans hz
    have := congrArg (fun l : List (List C) => l.flatten.map C.int) e2
    simp only [intRows_flat, List.map_map] at this
    have hid : (C.int ∘ C.i) = id := funext fun n => rfl
    rw [hid, List.map_id, List.map_id] at this
    exact this
  subst hzz
  have hlt : ∀ b o, Own Γ st b o → b < w.heap.size := h.own_lt
  generalize hloc : (at_ Γ.ρ i).loc = loc at *
  rcases ho.2 with ⟨-, e2⟩ | ⟨g, cap, cur, e1, hB, hg, hnc, hcm, hcs, hct⟩
  · exact absurd (List.length_eq_zero_iff.1 e2) hne
  have hgl : g < w.heap.size := (Array.getElem?_eq_some_iff.1 hg).1
  have hct' : cur.toList.take zs'.length = zs'.map (Value.int .i64) := by rw [Nat.mul_one] at hct; exact hct
  have hH := holds_of_blockI hg hct'
  subst e1
  refine (AnyG.slices_Sort_int sort64 g 0 cap zs' w hH hgl hlen).mono ?_
  rintro x w' ⟨rfl, n, os, rfl⟩
  refine ⟨rfl, ?_⟩
  have hl : (zs'.mergeSort fun x y => decide (x ≤ y)).length = zs'.length := List.length_mergeSort _
  have hgb := grownBy_sortedI (w := w) (g := g) (n := n) (os := os) (zs'.mergeSort fun x y => decide (x ≤ y)).toArray
  have hown := ownsRow_sortedI (w := w) (base := 0) (n := n) (os := os) (ss := zs') (ts := zs'.mergeSort fun x y => decide (x ≤ y)) hl hB hg hnc hcm (by rw [hcs])
  have hv : VecOK Try.prog (grow (putRow (Value.int .i64) (Go.Sort.ahead w n) g 0 (zs'.mergeSort fun x y => decide (x ≤ y)).toArray) os) (fun b o => Own Γ st b o ∨ w.heap.size ≤ b) 2 (at_ Γ.ρ i).loc (.s (.slice (some ⟨g, 0, none⟩) zs'.length cap) (intRows (zs'.mergeSort fun x y => decide (x ≤ y)))) := by
    rw [hloc]
    refine vec_ints hk ?_ fun m hm => hs m ((List.mergeSort_perm zs' _).mem_iff.1 hm)
    rw [hl]; exact hown
  exact h.vupd hw hi (by rw [hloc]; exact hgb) hv
theorem compact_le (zs : List Int) : (Lib.compact zs).length ≤ zs.length := by
  unfold Lib.compact Lib.compactUpTo
  rw [List.length_map]
  have := List.length_filter_le (Lib.keeps zs.toArray) (List.range zs.length)
  simpa using this
theorem compact_mem {zs : List Int} {n : Int} (h : n ∈ Lib.compact zs) : n ∈ zs := by
  unfold Lib.compact Lib.compactUpTo at h
  obtain ⟨j, hj, rfl⟩ := List.mem_map.1 h
  have hj2 := List.mem_range.1 (List.mem_filter.1 hj).1
  have : zs.toArray[j]! = zs[j] := by simp [getElem!_pos, hj2]
  rw [this]; exact List.getElem_mem _
theorem compact_vec (h : Sat Try.prog F w0 Γ st a w) (hw : st.wf = true) {i : Nat} {e : E} (hi : look st.vec i = some (2, e)) {zs : List Int} (hz : (e.ev Γ.ρ).rows = intRows zs) (hne : zs ≠ []) (hlen : zs.length < 4611686018427387904) :
    Calls Try.prog 108 #[(at_ Γ.ρ i).loc] w fun x w' => ∃ v', x = .returned v' ∧
      Sat Try.prog F w0 { Γ with ρ := Γ.ρ ++ [.s v' (intRows (Lib.compact zs))] } { st with nx := st.nx + 1, vec := (st.nx, some (2, .var st.nx)) :: dropV (some i) st.vec } a w' := by
  have hk : kinds Try.prog 2 = some [.int] := by kernel_rfl
  have hvec := (h.vec i _ hi).1
  obtain ⟨zs', h1, ho, hs⟩ := ints_vec hvec hk
  have hzz : zs' = zs := by
    have e2 : intRows zs' = intRows zs := h1.symm.trans hz
    have := congrArg (fun l : List (List C) => l.flatten.map C.int) e2
    simp only [intRows_flat, List.map_map] at this
    have hid : (C.int ∘ C.i) = id := funext fun n => rfl
    rw [hid, List.map_id, List.map_id] at this
    exact this
  subst hzz
  generalize hloc : (at_ Γ.ρ i).loc = loc at *
  rcases ho.2 with ⟨-, e2⟩ | ⟨g, cap, cur, e1, hB, hg, hnc, hcm, hcs, hct⟩
  · exact absurd (List.length_eq_zero_iff.1 e2) hne
  have hgl : g < w.heap.size := (Array.getElem?_eq_some_iff.1 hg).1
  have hct' : cur.toList.take zs'.length = zs'.map (Value.int .i64) := by rw [Nat.mul_one] at hct; exact hct
  have hH := holds_of_blockI hg hct'
  subst e1
  refine (AnyG.slices_Compact_int comp64 g 0 cap zs' w hH (by omega) hnc).mono ?_
  rintro x w' ⟨rfl, q, rfl⟩
  refine ⟨_, rfl, ?_⟩
  have hle := compact_le zs'
  generalize hts : Lib.compact zs' ++ List.replicate (zs'.length - (Lib.compact zs').length) 0 = ts at *
  have hl : ts.length = zs'.length := by rw [← hts, List.length_append, List.length_replicate]; omega
  have hgb := grownBy_sortedI (w := w) (g := g) (n := q) (os := #[]) ts.toArray
  have hown := ownsRow_sortedI (w := w) (base := 0) (n := q) (os := #[]) (ss := zs') (ts := ts) hl hB hg hnc hcm (by rw [hcs])
  rw [grow_empty] at hgb hown
  have hown2 : (putRow (Value.int .i64) (Go.Sort.ahead w q) g 0 ts.toArray).ownsRow 0 2 1 (.slice (some ⟨g, 0, none⟩) (Lib.compact zs').length cap) (Lib.compact zs').length ((Lib.compact zs').map (Value.int .i64)) := by
    refine ⟨by simp, .inr ?_⟩
    rcases hown.2 with ⟨h0, -⟩ | ⟨g', cap', cur', hv, hB', hg', hnc', hcm', hcs', hct2⟩
    · cases h0
    cases hv
    refine ⟨g, cap, cur', rfl, hB', hg', by omega, hcm', hcs', ?_⟩
    rw [Nat.mul_one] at hct2 ⊢
    have : cur'.toList.take (Lib.compact zs').length = (cur'.toList.take zs'.length).take (Lib.compact zs').length := by rw [List.take_take, Nat.min_eq_left hle]
    rw [this, hct2, ← List.map_take, ← hts, List.take_left']
    rfl
  have hv : VecOK Try.prog (putRow (Value.int .i64) (Go.Sort.ahead w q) g 0 ts.toArray) (fun b o => Own Γ st b o ∨ w.heap.size ≤ b) 2 (C.s (.slice (some ⟨g, 0, none⟩) (Lib.compact zs').length cap) (intRows (Lib.compact zs'))).loc (.s (.slice (some ⟨g, 0, none⟩) (Lib.compact zs').length cap) (intRows (Lib.compact zs'))) :=
    vec_ints hk hown2 fun m hm => hs m (compact_mem hm)
  exact h.vnew hw (ci := some i) (row := some g) ⟨_, hi, by rw [hloc]; rfl⟩ hgb hv fun b hb => .inl hb
end
end Go.Proofs.Ytcglpbchejkolaa
/- Earth: contracts, more of them: depths, contradictions, conflicts. -/
namespace Go.Proofs.Ytcglpbchejkolaa
set_option linter.unusedVariables false

def insD (x : Int) : List Int → List Int
  | [] => [x]
  | y :: l => if x < y then x :: y :: l else if x = y then y :: l else y :: insD x l
def sortD (l : List Int) : List Int := l.foldl (fun a x => insD x a) []
def lowAt (b : Int) (l : List Kn) : List Int := (l.filter fun k => decide (k.1 ≤ b)).map (·.1)
def minAt (b : Int) (l : List Kn) : List Int := l.map fun k => min k.1 b
def lowAll (b : Int) (ls : List (List Kn)) : List Int := ls.flatMap (lowAt b)
def minAll (b : Int) (ls : List (List Kn)) : List Int := ls.flatMap (minAt b)
def Ear.lines (e : Ear) : List (List Kn) := [e.pl, e.ph, e.fl, e.fh]
def rawR (e : Ear) : List Int := [0, e.bottom] ++ lowAll e.bottom e.lines ++ e.reps.map (·.z)
def rawP (e : Ear) : List Int := [0, e.bottom] ++ minAll e.bottom e.lines ++ e.reps.map (·.z)
def depthsV (e : Ear) : List Int := sortD (rawR e)
/-- The depths of any earth. -/
def depthsE (e : Ear) : List Int := if checkV e = 0 then depthsV e else []
def Ear.only (e : Ear) (l : List Rep) : Ear := { e with reps := l }
def badAt (e : Ear) (z : Int) : Bool := decide (phV e z < plV e z) || decide (fhV e z < flV e z)
def crossV (e : Ear) : Bool := (depthsV e).any (badAt e)
def rep0 : Rep := ⟨0, 0, 0⟩
def alone (e : Ear) (i : Nat) : Bool := crossV (e.only [e.reps.getD i rep0])
def pairX (e : Ear) (i k : Nat) : Bool := crossV (e.only [e.reps.getD i rep0, e.reps.getD k rep0])
def singles (e : Ear) (n : Nat) : List (List Int) := ((List.range n).filter (alone e)).map fun (i : Nat) => [(i : Int)]
def pairsAt (e : Ear) (i n : Nat) : List (List Int) := ((List.range n).filter fun k => decide (i < k) && !alone e k && pairX e i k).map fun (k : Nat) => [(i : Int), (k : Int)]
def pairsOf (e : Ear) (n : Nat) : List (List Int) := (List.range n).flatMap fun i => if alone e i = true then [] else pairsAt e i e.reps.length
def conflictsV (e : Ear) : List (List Int) := if checkV e = 0 then (if crossV (e.only []) = true then [[]] else singles e e.reps.length ++ pairsOf e e.reps.length) else []
def lists (rows : List (List C)) : List (List Int) := rows.map fun r => ints (r.getD 0 (.i 0)).rows

def ctDepthsI : Ct := ⟨[earthSh], [.lf (.vec 2)], fun cs => checkV (earOf cs) = 0, fun cs rs => ∃ v rows, rs = [.s v rows] ∧ ints rows = depthsV (earOf cs), false⟩
def ctDepths : Ct := ⟨[earthSh], [.lf (.vec 2)], fun _ => True, fun cs rs => ∃ v rows, rs = [.s v rows] ∧ ints rows = depthsE (earOf cs), false⟩
def ctCrosses : Ct := ctF [earthSh, .lf (.arr 57)] [.lf .bool] (fun cs => checkV ((earOf cs).only (repsOf (at_ cs 8).rows)) = 0) (fun cs => [.b (crossV ((earOf cs).only (repsOf (at_ cs 8).rows)))])
def ctConflicts : Ct := ⟨[earthSh], [.lf (.vec 74)], fun _ => True, fun cs rs => ∃ v rows, rs = [.s v rows] ∧ lists rows = conflictsV (earOf cs), false⟩
def ctLongs : Ct := ctF [.lf (.arr 2), .lf (.arr 2)] [.lf .bool] (fun _ => True) (fun cs => [.b (ints (at_ cs 0).rows == ints (at_ cs 1).rows)])
def tab7 : Tab where
  ct := fun f => match f with
    | 86 | 87 => some ctDepthsI
    | 51 | 52 => some ctDepths
    | 88 => some ctCrosses
    | 54 => some ctConflicts
    | 50 => some ctLongs
    | f => tab6.ct f
  inl := tab6.inl
  sel := tab6.sel
theorem up7_ok {f : Nat} (h : tab6.ok f) (he : tab7.ct f = tab6.ct f := by rfl) : tab7.ok f :=
  ⟨h.1, fun ct hc => h.2.1 ct (he ▸ hc), h.2.2.1, h.2.2.2⟩
/-! Pieces of earth.depths -/
def endK (cx : Cx) (fn : Func) (ct : Ct) : Ex → St → Option Tree := fun x st => match x with
  | .ext _ => none
  | _ => endOf cx fn ct st
def depSt1 : St := { sl := [(3, some (.one (.lf (.vec 2 8))))], vec := [(8, some (2, .var 8))], mem := [], nt := 52, nb := 0, nx := 9, lvl := 1, bds := [] }
end Go.Proofs.Ytcglpbchejkolaa
/- What is to be shown of each function, as the executor has it. Printed by trees.py. -/
namespace Go.Proofs.Ytcglpbchejkolaa
noncomputable def crdepths : Cx := tab7.only [] (fun _ => []) [] 0 [] (fun r => match r with
  | 50023 => some ([(8, true, [.vec 2])], [.slot 4000008])
  | 50020 => some ([(100, true, [.bool])], [])
  | 50022 => some ([(116, true, [.bool])], [])
  | _ => none)
def trdepths : Tree :=
  (.dfn .nil (.arr [[(.int (.lit 0))], [(.int (.var 0))]] (.arr [[(.arr 44 (.var 1))], [(.arr 44 (.var 2))], [(.arr 44 (.var 3))], [(.arr 44 (.var 4))]] (.loop [(.vec 2), .int] [(.cnt 2 (.var 9)), (.int (.lit 0))] (.split (.cmp .lt (.var 12) (.len (.var 10))) (.loop [(.vec 2), .int] [(.cnt 2 (.var 11)), (.int (.lit 0))] (.ob (.cmp .le (.lit 0) (.var 12)) (.ob (.cmp .lt (.var 12) (.len (.var 10))) (.split (.cmp .lt (.var 14) (.len (.cell (.var 10) (.var 12) 0))) (.ob (.cmp .lt (.var 12) (.len (.var 10))) (.ob (.cmp .le (.lit 0) (.var 14)) (.ob (.cmp .lt (.var 14) (.len (.cell (.var 10) (.var 12) 0))) (.split (.cmp .le (.cell (.cell (.var 10) (.var 12) 0) (.var 14) 0) (.var 0)) (.ob (.cmp .lt (.var 12) (.len (.var 10))) (.ob (.cmp .lt (.var 14) (.len (.cell (.var 10) (.var 12) 0))) (.arr [[(.int (.cell (.cell (.var 10) (.var 12) 0) (.var 14) 0))]] (.ob (.cmp .le (.mul (.add (.len (.var 13)) (.len (.var 15))) (.lit 8)) (.lit 140737488355328)) (.cat (.var 13) (.var 15) (.back 1 [(.cnt 2 (.var 16)), (.int (.add (.var 14) (.lit 1)))])))))) (.back 1 [(.cnt 2 (.var 13)), (.int (.add (.var 14) (.lit 1)))]))))) (.back 0 [(.cnt 2 (.var 13)), (.int (.add (.var 12) (.lit 1)))]))))) (.loop [(.vec 2), .int] [(.cnt 2 (.var 11)), (.int (.lit 0))] (.split (.cmp .lt (.var 14) (.len (.var 7))) (.ob (.cmp .le (.lit 0) (.var 14)) (.ob (.cmp .lt (.var 14) (.len (.var 7))) (.arr [[(.int (.cell (.var 7) (.var 14) 1))]] (.ob (.cmp .le (.mul (.add (.len (.var 13)) (.len (.var 15))) (.lit 8)) (.lit 140737488355328)) (.cat (.var 13) (.var 15) (.back 1 [(.cnt 2 (.var 16)), (.int (.add (.var 14) (.lit 1)))])))))) (.dfn .nil (.loop [(.vec 2), .int] [(.cnt 2 (.var 15)), (.int (.lit 0))] (.split (.cmp .lt (.var 17) (.len (.var 13))) (.loop [.int] [(.int (.len (.var 16)))] (.join [.bool] (.split (.cmp .lt (.lit 0) (.var 18)) (.ob (.cmp .le (.lit 0) (.var 17)) (.ob (.cmp .lt (.var 17) (.len (.var 13))) (.ob (.cmp .lt (.sub (.var 18) (.lit 1)) (.len (.var 16))) (.back 4 [(.bool (.cmp .lt (.cell (.var 13) (.var 17) 0) (.cell (.var 16) (.sub (.var 18) (.lit 1)) 0)))])))) (.back 4 [(.bool (.lit false))])) (.split (.of (.var 19)) (.ob (.and (.cmp .le (.lit (-9223372036854775808)) (.sub (.var 18) (.lit 1))) (.cmp .le (.sub (.var 18) (.lit 1)) (.lit 9223372036854775807))) (.ob (.and (.cmp .le (.lit (-9223372036854775808)) (.sub (.var 18) (.lit 1))) (.cmp .le (.sub (.var 18) (.lit 1)) (.lit 9223372036854775807))) (.back 3 [(.int (.sub (.var 18) (.lit 1)))]))) (.join [.bool] (.split (.cmp .eq (.var 18) (.lit 0)) (.back 5 [(.bool (.lit true))]) (.ob (.and (.cmp .le (.lit (-9223372036854775808)) (.sub (.var 18) (.lit 1))) (.cmp .le (.sub (.var 18) (.lit 1)) (.lit 9223372036854775807))) (.ob (.cmp .le (.lit 0) (.sub (.var 18) (.lit 1))) (.ob (.cmp .lt (.sub (.var 18) (.lit 1)) (.len (.var 16))) (.ob (.cmp .le (.lit 0) (.var 17)) (.ob (.cmp .lt (.var 17) (.len (.var 13))) (.back 5 [(.bool (.cmp .ne (.cell (.var 16) (.sub (.var 18) (.lit 1)) 0) (.cell (.var 13) (.var 17) 0)))]))))))) (.split (.of (.var 20)) (.dfn (.var 16) (.join [(.vec 2)] (.ob (.cmp .le (.lit 0) (.var 18)) (.ob (.cmp .le (.var 18) (.len (.var 21))) (.ob (.cmp .le (.lit 0) (.var 17)) (.ob (.cmp .lt (.var 17) (.len (.var 13))) (.ob (.cmp .le (.var 18) (.len (.var 21))) (.ob (.cmp .le (.len (.var 21)) (.len (.var 21))) (.both (.arr [] (.both (.ob (.cmp .le (.mul (.add (.len (.var 22)) (.len (.sub3 (.var 21) (.lit 0) (.var 18) 1))) (.lit 8)) (.lit 140737488355328)) (.cat (.var 22) (.sub3 (.var 21) (.lit 0) (.var 18) 1) (.arr [[(.int (.cell (.var 13) (.var 17) 0))]] (.ob (.cmp .le (.mul (.add (.len (.var 23)) (.len (.var 24))) (.lit 8)) (.lit 140737488355328)) (.cat (.var 23) (.var 24) (.ob (.cmp .le (.mul (.add (.len (.var 25)) (.len (.sub3 (.var 21) (.var 18) (.len (.var 21)) 1))) (.lit 8)) (.lit 140737488355328)) (.cat (.var 25) (.sub3 (.var 21) (.var 18) (.len (.var 21)) 1) (.back 6 [(.cnt 2 (.var 26))])))))))) (.arr [[(.int (.cell (.var 13) (.var 17) 0))]] (.ob (.cmp .le (.mul (.add (.len (.var 22)) (.len (.sub3 (.var 21) (.lit 0) (.var 18) 1))) (.lit 8)) (.lit 140737488355328)) (.cat (.var 22) (.sub3 (.var 21) (.lit 0) (.var 18) 1) (.ob (.cmp .le (.mul (.add (.len (.var 24)) (.len (.var 23))) (.lit 8)) (.lit 140737488355328)) (.cat (.var 24) (.var 23) (.ob (.cmp .le (.mul (.add (.len (.var 25)) (.len (.sub3 (.var 21) (.var 18) (.len (.var 21)) 1))) (.lit 8)) (.lit 140737488355328)) (.cat (.var 25) (.sub3 (.var 21) (.var 18) (.len (.var 21)) 1) (.back 6 [(.cnt 2 (.var 26))])))))))))) (.arr [[(.int (.cell (.var 13) (.var 17) 0))]] (.arr [] (.ob (.cmp .le (.mul (.add (.len (.var 23)) (.len (.sub3 (.var 21) (.lit 0) (.var 18) 1))) (.lit 8)) (.lit 140737488355328)) (.cat (.var 23) (.sub3 (.var 21) (.lit 0) (.var 18) 1) (.ob (.cmp .le (.mul (.add (.len (.var 24)) (.len (.var 22))) (.lit 8)) (.lit 140737488355328)) (.cat (.var 24) (.var 22) (.ob (.cmp .le (.mul (.add (.len (.var 25)) (.len (.sub3 (.var 21) (.var 18) (.len (.var 21)) 1))) (.lit 8)) (.lit 140737488355328)) (.cat (.var 25) (.sub3 (.var 21) (.var 18) (.len (.var 21)) 1) (.back 6 [(.cnt 2 (.var 26))])))))))))))))))) (.back 2 [(.cnt 2 (.var 22)), (.int (.add (.var 17) (.lit 1)))]))) (.back 2 [(.cnt 2 (.var 16)), (.int (.add (.var 17) (.lit 1)))])))))) (.ret [(.cnt 2 (.var 16))])))))))))))
noncomputable def cdepths2 : Cx := tab7.only [35, 86] (fun _ => []) [] 0 [] (fun _ => none)
def tdepths2 : Tree :=
  (.dfn .nil (.call 35 [(.int (.var 0)), (.arr 44 (.var 1)), (.arr 44 (.var 2)), (.arr 44 (.var 3)), (.arr 44 (.var 4)), (.int (.var 5)), (.int (.var 6)), (.arr 57 (.var 7))] (.split (.cmp .ne (.var 9) (.lit 0)) (.dfn .nil (.ret [(.cnt 2 (.var 10))])) (.call 86 [(.int (.var 0)), (.arr 44 (.var 1)), (.arr 44 (.var 2)), (.arr 44 (.var 3)), (.arr 44 (.var 4)), (.int (.var 5)), (.int (.var 6)), (.arr 57 (.var 7))] (.ret [(.cnt 2 (.var 10))])))))
noncomputable def crdepths2 : Cx := tab7.only [47, 87] (fun _ => []) [] 0 [] (fun _ => none)
def trdepths2 : Tree :=
  (.dfn .nil (.call 47 [(.int (.var 0)), (.arr 44 (.var 1)), (.arr 44 (.var 2)), (.arr 44 (.var 3)), (.arr 44 (.var 4)), (.int (.var 5)), (.int (.var 6)), (.arr 57 (.var 7))] (.split (.cmp .ne (.var 9) (.lit 0)) (.dfn .nil (.ret [(.cnt 2 (.var 10))])) (.call 87 [(.int (.var 0)), (.arr 44 (.var 1)), (.arr 44 (.var 2)), (.arr 44 (.var 3)), (.arr 44 (.var 4)), (.int (.var 5)), (.int (.var 6)), (.arr 57 (.var 7))] (.ret [(.cnt 2 (.var 10))])))))
noncomputable def flcrosses : List (Nat × Func) := [(109, Try.f109), (122, Try.f122), (110, Try.f110)]
theorem fxcrosses : ∀ p ∈ flcrosses, FnOK p := fns_cons ⟨Try.func109, ⟨_, Try.func109, by decide, rfl⟩⟩ (fns_cons ⟨Try.func122, ⟨_, Try.func122, by decide, rfl⟩⟩ (fns_cons ⟨Try.func110, ⟨_, Try.func110, by decide, rfl⟩⟩ (fns_nil)))
noncomputable def ccrosses : Cx := tab7.only [86, 95] (fun _ => []) flcrosses 3 [] (fun _ => none)
def tcrosses : Tree :=
  (.call 86 [(.int (.var 0)), (.arr 44 (.var 1)), (.arr 44 (.var 2)), (.arr 44 (.var 3)), (.arr 44 (.var 4)), (.int (.var 5)), (.int (.var 6)), (.arr 57 (.var 8))] (.arr [] (.loop [.int, .int] [(.int (.lit 0)), (.int (.lit 0))] (.split (.cmp .lt (.var 12) (.len (.var 9))) (.ob (.cmp .le (.lit 0) (.var 12)) (.ob (.cmp .lt (.var 12) (.len (.var 9))) (.call 95 [(.int (.var 0)), (.arr 44 (.var 1)), (.arr 44 (.var 2)), (.arr 44 (.var 3)), (.arr 44 (.var 4)), (.int (.var 5)), (.int (.var 6)), (.arr 57 (.var 8)), (.int (.cell (.var 9) (.var 12) 0))] (.split (.cmp .lt (.var 14) (.var 13)) (.ret [(.bool (.lit true))]) (.split (.cmp .lt (.var 16) (.var 15)) (.ret [(.bool (.lit true))]) (.back 0 [(.int (.var 11)), (.int (.add (.var 12) (.lit 1)))])))))) (.ret [(.bool (.lit false))])))))
noncomputable def cconflicts : Cx := tab7.only [35, 88] (fun r => match r with
  | 8 => [.vec 12]
  | _ => []) [] 0 [] (fun _ => none)
def tconflicts : Tree :=
  (.dfn .nil (.call 35 [(.int (.var 0)), (.arr 44 (.var 1)), (.arr 44 (.var 2)), (.arr 44 (.var 3)), (.arr 44 (.var 4)), (.int (.var 5)), (.int (.var 6)), (.arr 57 (.var 7))] (.split (.cmp .ne (.var 9) (.lit 0)) (.dfn .nil (.ret [(.cnt 74 (.var 10))])) (.call 88 [(.int (.var 0)), (.arr 44 (.var 1)), (.arr 44 (.var 2)), (.arr 44 (.var 3)), (.arr 44 (.var 4)), (.int (.var 5)), (.int (.var 6)), (.arr 57 (.var 7)), (.arr 57 .nil)] (.split (.of (.var 10)) (.arr [] (.dfn (.var 11) (.arr [[(.arr 3 (.var 12))]] (.ret [(.cnt 74 (.var 13))])))) (.dfn .nil (.ob (.cmp .le (.mul (.lit 1) (.len (.var 7))) (.lit 281474976710656)) (.mk (.len (.var 7)) [(.bool (.lit false))] (.loop [(.vec 74), .int, (.vec 4)] [(.cnt 74 (.var 11)), (.int (.lit 0)), (.cnt 4 (.var 12))] (.split (.cmp .lt (.var 14) (.len (.var 7))) (.ob (.cmp .le (.lit 0) (.var 14)) (.ob (.cmp .lt (.var 14) (.len (.var 7))) (.arr [[(.int (.cell (.var 7) (.var 14) 0)), (.int (.cell (.var 7) (.var 14) 1)), (.int (.cell (.var 7) (.var 14) 2))]] (.call 88 [(.int (.var 0)), (.arr 44 (.var 1)), (.arr 44 (.var 2)), (.arr 44 (.var 3)), (.arr 44 (.var 4)), (.int (.var 5)), (.int (.var 6)), (.arr 57 (.var 7)), (.arr 57 (.var 16))] (.ob (.cmp .lt (.var 14) (.len (.var 15))) (.upd (.var 15) (.var 14) 0 [(.bool (.of (.var 17)))] (.ob (.cmp .lt (.var 14) (.len (.var 18))) (.split (.of (.cell (.var 18) (.var 14) 0)) (.arr [[(.int (.var 14))]] (.dfn (.var 19) (.arr [[(.arr 3 (.var 20))]] (.ob (.cmp .le (.mul (.add (.len (.var 13)) (.len (.var 21))) (.lit 24)) (.lit 140737488355328)) (.cat (.var 13) (.var 21) (.back 0 [(.cnt 74 (.var 22)), (.int (.add (.var 14) (.lit 1))), (.cnt 4 (.var 18))])))))) (.back 0 [(.cnt 74 (.var 13)), (.int (.add (.var 14) (.lit 1))), (.cnt 4 (.var 18))]))))))))) (.loop [(.vec 74), .int] [(.cnt 74 (.var 13)), (.int (.lit 0))] (.split (.cmp .lt (.var 17) (.len (.var 7))) (.ob (.cmp .le (.lit 0) (.var 17)) (.ob (.cmp .lt (.var 17) (.len (.var 7))) (.ob (.cmp .lt (.var 17) (.len (.var 15))) (.split (.of (.cell (.var 15) (.var 17) 0)) (.back 1 [(.cnt 74 (.var 16)), (.int (.add (.var 17) (.lit 1)))]) (.loop [(.vec 74), .int] [(.cnt 74 (.var 16)), (.int (.add (.var 17) (.lit 1)))] (.split (.cmp .lt (.var 19) (.len (.var 7))) (.ob (.cmp .le (.lit 0) (.var 19)) (.ob (.cmp .lt (.var 19) (.len (.var 15))) (.split (.not (.of (.cell (.var 15) (.var 19) 0))) (.ob (.cmp .lt (.var 19) (.len (.var 7))) (.arr [[(.int (.cell (.var 7) (.var 17) 0)), (.int (.cell (.var 7) (.var 17) 1)), (.int (.cell (.var 7) (.var 17) 2))], [(.int (.cell (.var 7) (.var 19) 0)), (.int (.cell (.var 7) (.var 19) 1)), (.int (.cell (.var 7) (.var 19) 2))]] (.call 88 [(.int (.var 0)), (.arr 44 (.var 1)), (.arr 44 (.var 2)), (.arr 44 (.var 3)), (.arr 44 (.var 4)), (.int (.var 5)), (.int (.var 6)), (.arr 57 (.var 7)), (.arr 57 (.var 20))] (.split (.of (.var 21)) (.arr [[(.int (.var 17))], [(.int (.var 19))]] (.dfn (.var 22) (.arr [[(.arr 3 (.var 23))]] (.ob (.cmp .le (.mul (.add (.len (.var 18)) (.len (.var 24))) (.lit 24)) (.lit 140737488355328)) (.cat (.var 18) (.var 24) (.back 2 [(.cnt 74 (.var 25)), (.int (.add (.var 19) (.lit 1)))])))))) (.back 2 [(.cnt 74 (.var 18)), (.int (.add (.var 19) (.lit 1)))]))))) (.back 2 [(.cnt 74 (.var 18)), (.int (.add (.var 19) (.lit 1)))])))) (.back 1 [(.cnt 74 (.var 18)), (.int (.add (.var 17) (.lit 1)))]))))))) (.ret [(.cnt 74 (.var 16))])))))))))))))
noncomputable def clongs : Cx := tab7.only [] (fun _ => []) [] 0 [] (fun _ => none)
def tlongs : Tree :=
  (.loop [.bool, .int] [(.bool (.lit false)), (.int (.lit 0))] (.split (.cmp .lt (.var 3) (.len (.var 0))) (.split (.cmp .lt (.var 3) (.len (.var 1))) (.ob (.cmp .le (.lit 0) (.var 3)) (.ob (.cmp .lt (.var 3) (.len (.var 0))) (.ob (.cmp .lt (.var 3) (.len (.var 1))) (.split (.cmp .ne (.cell (.var 0) (.var 3) 0) (.cell (.var 1) (.var 3) 0)) (.ret [(.bool (.lit false))]) (.back 0 [(.bool (.of (.var 2))), (.int (.add (.var 3) (.lit 1)))]))))) (.ret [(.bool (.cmp .eq (.len (.var 0)) (.len (.var 1))))])) (.ret [(.bool (.cmp .eq (.len (.var 0)) (.len (.var 1))))])))
noncomputable def fldep1 : List (Nat × Func) := [(69, Try.f69)]
theorem fxdep1 : ∀ p ∈ fldep1, FnOK p := fns_cons ⟨Try.func69, ⟨_, Try.func69, by decide, rfl⟩⟩ (fns_nil)
noncomputable def cdep1 : Cx := tab7.only [] (fun r => match r with
  | 3 => [.blk 2000005]
  | _ => []) fldep1 1 [] (fun _ => none)
def tdep1 : Tree :=
  (.dfn .nil (.arr [[(.int (.lit 0))], [(.int (.var 0))]] (.dfn .nil (.dfn .nil (.dfn .nil (.dfn .nil (.dfn .nil (.loop [(.vec 2), .int] [(.cnt 2 (.var 9)), (.int (.lit 0))] (.split (.cmp .lt (.var 16) (.len (.var 1))) (.ob (.cmp .le (.lit 0) (.var 16)) (.ob (.cmp .lt (.var 16) (.len (.var 1))) (.arr [[(.int (.min (.cell (.var 1) (.var 16) 0) (.var 0)))]] (.ob (.cmp .le (.mul (.add (.len (.var 15)) (.len (.var 17))) (.lit 8)) (.lit 140737488355328)) (.cat (.var 15) (.var 17) (.back 1 [(.cnt 2 (.var 18)), (.int (.add (.var 16) (.lit 1)))])))))) (.dfn .nil (.loop [(.vec 2), .int, .bool] [(.cnt 2 (.var 15)), (.int (.lit 0)), (.bool (.cmp .lt (.var 16) (.len (.var 1))))] (.split (.cmp .lt (.var 19) (.len (.var 2))) (.ob (.cmp .le (.lit 0) (.var 19)) (.ob (.cmp .lt (.var 19) (.len (.var 2))) (.arr [[(.int (.min (.cell (.var 2) (.var 19) 0) (.var 0)))]] (.ob (.cmp .le (.mul (.add (.len (.var 18)) (.len (.var 21))) (.lit 8)) (.lit 140737488355328)) (.cat (.var 18) (.var 21) (.back 2 [(.cnt 2 (.var 22)), (.int (.add (.var 19) (.lit 1))), (.bool (.cmp .lt (.var 19) (.len (.var 2))))])))))) (.dfn .nil (.loop [(.vec 2), .int, .bool] [(.cnt 2 (.var 18)), (.int (.lit 0)), (.bool (.cmp .lt (.var 19) (.len (.var 2))))] (.split (.cmp .lt (.var 23) (.len (.var 3))) (.ob (.cmp .le (.lit 0) (.var 23)) (.ob (.cmp .lt (.var 23) (.len (.var 3))) (.arr [[(.int (.min (.cell (.var 3) (.var 23) 0) (.var 0)))]] (.ob (.cmp .le (.mul (.add (.len (.var 22)) (.len (.var 25))) (.lit 8)) (.lit 140737488355328)) (.cat (.var 22) (.var 25) (.back 3 [(.cnt 2 (.var 26)), (.int (.add (.var 23) (.lit 1))), (.bool (.cmp .lt (.var 23) (.len (.var 3))))])))))) (.dfn .nil (.loop [(.vec 2), .int, .bool] [(.cnt 2 (.var 22)), (.int (.lit 0)), (.bool (.cmp .lt (.var 23) (.len (.var 3))))] (.split (.cmp .lt (.var 27) (.len (.var 4))) (.ob (.cmp .le (.lit 0) (.var 27)) (.ob (.cmp .lt (.var 27) (.len (.var 4))) (.arr [[(.int (.min (.cell (.var 4) (.var 27) 0) (.var 0)))]] (.ob (.cmp .le (.mul (.add (.len (.var 26)) (.len (.var 29))) (.lit 8)) (.lit 140737488355328)) (.cat (.var 26) (.var 29) (.back 4 [(.cnt 2 (.var 30)), (.int (.add (.var 27) (.lit 1))), (.bool (.cmp .lt (.var 27) (.len (.var 4))))])))))) (.loop [(.vec 2), .int] [(.cnt 2 (.var 26)), (.int (.lit 0))] (.split (.cmp .lt (.var 30) (.len (.var 7))) (.ob (.cmp .le (.lit 0) (.var 30)) (.ob (.cmp .lt (.var 30) (.len (.var 7))) (.arr [[(.int (.cell (.var 7) (.var 30) 1))]] (.ob (.cmp .le (.mul (.add (.len (.var 29)) (.len (.var 31))) (.lit 8)) (.lit 140737488355328)) (.cat (.var 29) (.var 31) (.back 5 [(.cnt 2 (.var 32)), (.int (.add (.var 30) (.lit 1)))])))))) (.back 0 [(.cnt 2 (.var 29))])))))))))))))))))))))
end Go.Proofs.Ytcglpbchejkolaa
/- What is to be shown of each function, as the executor has it. Printed by trees.py. -/
namespace Go.Proofs.Ytcglpbchejkolaa
noncomputable def clchecks : Cx := tab7.only [25, 16, 35, 47, 48, 49, 51, 52, 50, 17] (fun r => match r with
  | 50003 => [.blk 4000022]
  | _ => []) [] 0 [] (fun _ => none)
def tlchecks : Tree :=
  (.call 25 [(.int (.var 0)), (.arr 44 (.var 1)), (.arr 44 (.var 2)), (.arr 44 (.var 3)), (.arr 44 (.var 4)), (.int (.var 5)), (.int (.var 6)), (.arr 57 (.var 7))] (.split (.not (.of (.var 11))) (.call 17 [] (.ret [(.bool (.of (.var 12)))])) (.call 16 [(.arr 44 (.var 8))] (.split (.not (.of (.var 12))) (.call 17 [] (.ret [(.bool (.of (.var 13)))])) (.call 16 [(.arr 44 (.var 9))] (.split (.not (.of (.var 13))) (.call 17 [] (.ret [(.bool (.of (.var 14)))])) (.call 35 [(.int (.var 0)), (.arr 44 (.var 1)), (.arr 44 (.var 2)), (.arr 44 (.var 3)), (.arr 44 (.var 4)), (.int (.var 5)), (.int (.var 6)), (.arr 57 (.var 7))] (.call 47 [(.int (.var 0)), (.arr 44 (.var 1)), (.arr 44 (.var 2)), (.arr 44 (.var 3)), (.arr 44 (.var 4)), (.int (.var 5)), (.int (.var 6)), (.arr 57 (.var 7))] (.split (.cmp .eq (.var 14) (.var 15)) (.call 48 [(.arr 44 (.var 8)), (.arr 44 (.var 9)), (.int (.var 10))] (.call 49 [(.arr 44 (.var 8)), (.arr 44 (.var 9)), (.int (.var 10))] (.split (.cmp .eq (.var 16) (.var 17)) (.call 51 [(.int (.var 0)), (.arr 44 (.var 1)), (.arr 44 (.var 2)), (.arr 44 (.var 3)), (.arr 44 (.var 4)), (.int (.var 5)), (.int (.var 6)), (.arr 57 (.var 7))] (.call 52 [(.int (.var 0)), (.arr 44 (.var 1)), (.arr 44 (.var 2)), (.arr 44 (.var 3)), (.arr 44 (.var 4)), (.int (.var 5)), (.int (.var 6)), (.arr 57 (.var 7))] (.call 50 [(.arr 2 (.var 18)), (.arr 2 (.var 19))] (.split (.of (.var 20)) (.call 17 [] (.ret [(.bool (.of (.var 21)))])) (.ret [(.bool (.lit false))]))))) (.ret [(.bool (.lit false))])))) (.ret [(.bool (.lit false))]))))))))))
end Go.Proofs.Ytcglpbchejkolaa
/- Earth: the depths: plain laws of lists. -/
namespace Go.Proofs.Ytcglpbchejkolaa
open Go.RowKit
set_option linter.unusedSimpArgs false
set_option linter.unusedVariables false

/-- Strictly ascending. -/
def SA (l : List Int) : Prop := l.Pairwise (· < ·)
theorem insD_mem {x y : Int} : ∀ {l : List Int}, y ∈ insD x l ↔ y = x ∨ y ∈ l
  | [] => by simp [insD]
  | z :: l => by
    unfold insD
    split
    · simp
    · split
      · rename_i h; subst h; simp
      · have := insD_mem (x := x) (y := y) (l := l)
        simp only [List.mem_cons, this]
        constructor
        · rintro (h | h | h) <;> simp [h]
        · rintro (h | h | h) <;> simp [h]
theorem insD_asc {x : Int} : ∀ {l : List Int}, SA l → SA (insD x l)
  | [], _ => by simp [insD, SA]
  | z :: l, h => by
    unfold SA at h ⊢
    rw [List.pairwise_cons] at h
    unfold insD
    split
    · rename_i hx
      rw [List.pairwise_cons, List.pairwise_cons]
      exact ⟨fun y hy => by rcases List.mem_cons.1 hy with rfl | hy; exact hx; exact Int.lt_trans hx (h.1 y hy), h⟩
    · split
      · rw [List.pairwise_cons]; exact h
      · rename_i h1 h2
        rw [List.pairwise_cons]
        refine ⟨fun y hy => ?_, insD_asc h.2⟩
        rcases insD_mem.1 hy with rfl | hy
        · omega
        · exact h.1 y hy
theorem foldD_spec : ∀ (l a : List Int), SA a → SA (l.foldl (fun a x => insD x a) a) ∧ ∀ y, y ∈ l.foldl (fun a x => insD x a) a ↔ y ∈ a ∨ y ∈ l
  | [], a, h => ⟨h, fun y => by simp⟩
  | x :: l, a, h => by
    obtain ⟨h1, h2⟩ := foldD_spec l (insD x a) (insD_asc h)
    refine ⟨h1, fun y => ?_⟩
    rw [List.foldl_cons, h2, insD_mem, List.mem_cons]
    constructor
    · rintro ((h | h) | h) <;> simp [h]
    · rintro (h | h | h) <;> simp [h]
theorem sortD_asc (l : List Int) : SA (sortD l) := (foldD_spec l [] List.Pairwise.nil).1
theorem sortD_mem {l : List Int} {y : Int} : y ∈ sortD l ↔ y ∈ l := by
  have := (foldD_spec l [] List.Pairwise.nil).2 y
  unfold sortD
  rw [this]; simp
theorem asc_unique : ∀ {a b : List Int}, SA a → SA b → (∀ y, y ∈ a ↔ y ∈ b) → a = b
  | [], [], _, _, _ => rfl
  | [], y :: b, _, _, h => by have := (h y).2 (by simp); cases this
  | x :: a, [], _, _, h => by have := (h x).1 (by simp); cases this
  | x :: a, y :: b, ha, hb, h => by
    have ha' := List.pairwise_cons.1 ha
    have hb' := List.pairwise_cons.1 hb
    have e : x = y := by
      have h1 := (h x).1 (by simp)
      have h2 := (h y).2 (by simp)
      rcases List.mem_cons.1 h1 with h1 | h1
      · exact h1
      · rcases List.mem_cons.1 h2 with h2 | h2
        · exact h2.symm
        · have := hb'.1 x h1; have := ha'.1 y h2; omega
    subst e
    rw [asc_unique ha'.2 hb'.2 fun z => ?_]
    constructor
    · intro hz
      rcases List.mem_cons.1 ((h z).1 (by simp [hz])) with e | hz'
      · subst e; have := ha'.1 z hz; omega
      · exact hz'
    · intro hz
      rcases List.mem_cons.1 ((h z).2 (by simp [hz])) with e | hz'
      · subst e; have := hb'.1 z hz; omega
      · exact hz'
/-! slices.Compact of a sorted list -/
theorem compUp_spec {d : Array Int} (hd : ∀ i j, i < j → j < d.size → d[i]! ≤ d[j]!) : ∀ m, m ≤ d.size → SA (Lib.compactUpTo d m) ∧ (∀ y, y ∈ Lib.compactUpTo d m ↔ ∃ j, j < m ∧ d[j]! = y)
  | 0, _ => ⟨List.Pairwise.nil, fun y => by simp [Lib.compactUpTo]⟩
  | m + 1, hm => by
    obtain ⟨h1, h2⟩ := compUp_spec hd m (by omega)
    rw [Lib.compactUpTo_succ]
    by_cases hk : Lib.keeps d m = true
    · rw [if_pos hk]
      have hk' := of_decide_eq_true hk
      refine ⟨?_, fun y => ?_⟩
      · unfold SA at h1 ⊢
        rw [List.pairwise_append]
        refine ⟨h1, by simp, fun x hx y hy => ?_⟩
        rw [List.mem_singleton] at hy
        subst hy
        obtain ⟨j, hj, rfl⟩ := (h2 x).1 hx
        have hne : d[m]! ≠ d[m - 1]! := by
          rcases hk' with h | h
          · omega
          · exact h
        have a1 : d[j]! ≤ d[m - 1]! := by
          rcases Nat.lt_or_ge j (m - 1) with h | h
          · exact hd _ _ h (by omega)
          · rw [show j = m - 1 by omega]; exact Int.le_refl _
        have a2 := hd (m - 1) m (by omega) (by omega)
        omega
      · rw [List.mem_append, h2, List.mem_singleton]
        constructor
        · rintro (⟨j, hj, e⟩ | e)
          · exact ⟨j, by omega, e⟩
          · exact ⟨m, by omega, e.symm⟩
        · rintro ⟨j, hj, e⟩
          rcases Nat.lt_or_ge j m with h | h
          · exact .inl ⟨j, h, e⟩
          · exact .inr (by rw [← e, show j = m by omega])
    · rw [if_neg hk, List.append_nil]
      refine ⟨h1, fun y => ?_⟩
      have hk' : ¬ (m = 0 ∨ d[m]! ≠ d[m - 1]!) := fun h => hk (decide_eq_true h)
      have e0 : d[m]! = d[m - 1]! := Classical.byContradiction fun h => hk' (.inr h)
      have m0 : m ≠ 0 := fun h => hk' (.inl h)
      rw [h2]
      constructor
      · rintro ⟨j, hj, e⟩; exact ⟨j, by omega, e⟩
      · rintro ⟨j, hj, e⟩
        rcases Nat.lt_or_ge j m with h | h
        · exact ⟨j, h, e⟩
        · exact ⟨m - 1, by omega, by rw [← e, show j = m by omega, e0]⟩
theorem compact_sorted {zs : List Int} (h : zs.Pairwise (· ≤ ·)) : SA (Lib.compact zs) ∧ ∀ y, y ∈ Lib.compact zs ↔ y ∈ zs := by
  have hget : ∀ i, i < zs.length → zs.toArray[i]! = zs.getD i 0 := fun i hi => by simp [getElem!_pos, hi]
  have hd : ∀ i j, i < j → j < zs.toArray.size → zs.toArray[i]! ≤ zs.toArray[j]! := fun i j hij hj => by
    have hj' : j < zs.length := by simpa using hj
    rw [hget i (by omega), hget j hj']
    have := List.pairwise_iff_getElem.1 h i j (by omega) hj' hij
    simpa [List.getD_eq_getElem?_getD, List.getElem?_eq_getElem, hj', show i < zs.length by omega] using this
  obtain ⟨h1, h2⟩ := compUp_spec hd zs.length (by simp)
  refine ⟨h1, fun y => ?_⟩
  unfold Lib.compact
  rw [h2]
  constructor
  · rintro ⟨j, hj, rfl⟩
    have : zs.toArray[j]! = zs[j] := by simp [getElem!_pos, hj]
    rw [this]; exact List.getElem_mem _
  · intro hy
    obtain ⟨j, hj, e⟩ := List.getElem_of_mem hy
    exact ⟨j, hj, by rw [← e]; simp [getElem!_pos, hj]⟩
theorem sorted_merge (zs : List Int) : (zs.mergeSort fun x y => decide (x ≤ y)).Pairwise (· ≤ ·) := by
  have := List.pairwise_mergeSort (le := fun (x y : Int) => decide (x ≤ y)) (fun a b c h1 h2 => decide_eq_true (Int.le_trans (of_decide_eq_true h1) (of_decide_eq_true h2))) (fun a b => by
    rcases Int.le_total a b with h | h
    · simp [h]
    · simp [h]) zs
  exact this.imp fun h => of_decide_eq_true h
/-- What the program's sorting comes to. -/
theorem compact_merge {zs l : List Int} (h : ∀ y, y ∈ zs ↔ y ∈ l) : Lib.compact (zs.mergeSort fun x y => decide (x ≤ y)) = sortD l := by
  obtain ⟨h1, h2⟩ := compact_sorted (sorted_merge zs)
  refine asc_unique h1 (sortD_asc l) fun y => ?_
  rw [h2, sortD_mem, (List.mergeSort_perm zs _).mem_iff]
  exact h y
/-- What the document's sorting does with one more. -/
theorem insD_at {out : List Int} {x : Int} {at_ : Nat} (ha : SA out) (hat : at_ ≤ out.length) (h1 : ∀ j, j < at_ → out.getD j 0 ≤ x) (h2 : ∀ j, at_ ≤ j → j < out.length → x < out.getD j 0) :
    (if at_ = 0 ∨ out.getD (at_ - 1) 0 ≠ x then out.take at_ ++ [x] ++ out.drop at_ else out) = insD x out := by
  have hget : ∀ j, j < out.length → out.getD j 0 ∈ out := fun j hj => getD_mem hj 0
  have hlt : ∀ i j, i < j → j < out.length → out.getD i 0 < out.getD j 0 := fun i j hij hj => by
    have := List.pairwise_iff_getElem.1 ha i j (by omega) hj hij
    simpa [List.getD_eq_getElem?_getD, List.getElem?_eq_getElem, hj, show i < out.length by omega] using this
  split
  · rename_i hc
    have hlow : ∀ y ∈ out.take at_, y < x := fun y hy => by
      obtain ⟨j, hj, e⟩ := List.getElem_of_mem hy
      have hj' : j < at_ := by rw [List.length_take] at hj; omega
      have e2 : y = out.getD j 0 := by
        rw [← e, List.getElem_take, List.getD_eq_getElem?_getD, List.getElem?_eq_getElem (by omega)]; rfl
      rw [e2]
      have a1 := h1 (at_ - 1) (by omega)
      have a2 : out.getD (at_ - 1) 0 ≠ x := by
        rcases hc with h | h
        · omega
        · exact h
      rcases Nat.lt_or_ge j (at_ - 1) with h | h
      · have := hlt j (at_ - 1) h (by omega); omega
      · rw [show j = at_ - 1 by omega]; omega
    have hhigh : ∀ y ∈ out.drop at_, x < y := fun y hy => by
      obtain ⟨j, hj, e⟩ := List.getElem_of_mem hy
      have hj' : at_ + j < out.length := by rw [List.length_drop] at hj; omega
      have e2 : y = out.getD (at_ + j) 0 := by
        rw [← e, List.getElem_drop, List.getD_eq_getElem?_getD, List.getElem?_eq_getElem hj']; rfl
      rw [e2]; exact h2 _ (by omega) hj'
    refine asc_unique ?_ (insD_asc ha) fun y => ?_
    · unfold SA at ha ⊢
      rw [List.pairwise_append, List.pairwise_append]
      refine ⟨⟨ha.sublist (List.take_sublist _ _), by simp, fun y hy z hz => ?_⟩, ha.sublist (List.drop_sublist _ _), fun y hy z hz => ?_⟩
      · rw [List.mem_singleton] at hz; subst hz; exact hlow y hy
      · rcases List.mem_append.1 hy with hy | hy
        · have := hlow y hy; have := hhigh z hz; omega
        · rw [List.mem_singleton] at hy; subst hy; exact hhigh z hz
    · rw [insD_mem, List.mem_append, List.mem_append, List.mem_singleton]
      constructor
      · rintro ((h | h) | h)
        · exact .inr (List.mem_of_mem_take h)
        · exact .inl h
        · exact .inr (List.mem_of_mem_drop h)
      · rintro (h | h)
        · exact .inl (.inr h)
        · rw [← List.take_append_drop at_ out] at h
          rcases List.mem_append.1 h with h | h
          · exact .inl (.inl h)
          · exact .inr h
  · rename_i hc
    have hx : x ∈ out := by
      have h3 : ¬ at_ = 0 := fun h => hc (.inl h)
      have h4 : out.getD (at_ - 1) 0 = x := Classical.byContradiction fun h => hc (.inr h)
      rw [← h4]; exact hget _ (by omega)
    refine asc_unique ha (insD_asc ha) fun y => ?_
    rw [insD_mem]
    constructor
    · exact .inr
    · rintro (rfl | h)
      · exact hx
      · exact h
/-! Raw depths -/
theorem raw_same {b : Int} (b0 : 0 ≤ b) {ls : List (List Kn)} (l : List Int) (y : Int) : y ∈ [0, b] ++ minAll b ls ++ l ↔ y ∈ [0, b] ++ lowAll b ls ++ l := by
  have hm : ∀ y, y ∈ minAll b ls ↔ ∃ k, (∃ q ∈ ls, k ∈ q) ∧ y = min k.1 b := fun y => by
    unfold minAll minAt
    rw [List.mem_flatMap]
    constructor
    · rintro ⟨q, hq, hy⟩
      obtain ⟨k, hk, e⟩ := List.mem_map.1 hy
      exact ⟨k, ⟨q, hq, hk⟩, e.symm⟩
    · rintro ⟨k, ⟨q, hq, hk⟩, e⟩
      exact ⟨q, hq, List.mem_map.2 ⟨k, hk, e.symm⟩⟩
  have hl : ∀ y, y ∈ lowAll b ls ↔ ∃ k, (∃ q ∈ ls, k ∈ q) ∧ k.1 ≤ b ∧ y = k.1 := fun y => by
    unfold lowAll lowAt
    rw [List.mem_flatMap]
    constructor
    · rintro ⟨q, hq, hy⟩
      obtain ⟨k, hk, e⟩ := List.mem_map.1 hy
      obtain ⟨h1, h2⟩ := List.mem_filter.1 hk
      exact ⟨k, ⟨q, hq, h1⟩, of_decide_eq_true h2, e.symm⟩
    · rintro ⟨k, ⟨q, hq, hk⟩, h2, e⟩
      exact ⟨q, hq, List.mem_map.2 ⟨k, List.mem_filter.2 ⟨hk, decide_eq_true h2⟩, e.symm⟩⟩
  simp only [List.mem_append, hm, hl]
  constructor
  · rintro ((h | ⟨k, hk, e⟩) | h)
    · exact .inl (.inl h)
    · by_cases hb : k.1 ≤ b
      · exact .inl (.inr ⟨k, hk, hb, by omega⟩)
      · exact .inl (.inl (by simp; omega))
    · exact .inr h
  · rintro ((h | ⟨k, hk, hb, e⟩) | h)
    · exact .inl (.inl h)
    · exact .inl (.inr ⟨k, hk, by omega⟩)
    · exact .inr h
theorem depths_mem {e : Ear} {y : Int} : y ∈ depthsV e ↔ y = 0 ∨ y = e.bottom ∨ (∃ q ∈ e.lines, ∃ k ∈ q, k.1 ≤ e.bottom ∧ y = k.1) ∨ ∃ r ∈ e.reps, y = r.z := by
  unfold depthsV rawR
  rw [sortD_mem, List.mem_append, List.mem_append]
  unfold lowAll lowAt
  simp only [List.mem_cons, List.not_mem_nil, or_false, List.mem_flatMap, List.mem_map, List.mem_filter, decide_eq_true_eq]
  constructor
  · rintro (((h | h) | ⟨q, hq, k, ⟨hk, hb⟩, e⟩) | ⟨r, hr, e⟩)
    · exact .inl h
    · exact .inr (.inl h)
    · exact .inr (.inr (.inl ⟨q, hq, k, hk, hb, e.symm⟩))
    · exact .inr (.inr (.inr ⟨r, hr, e.symm⟩))
  · rintro (h | h | ⟨q, hq, k, hk, hb, e⟩ | ⟨r, hr, e⟩)
    · exact .inl (.inl (.inl h))
    · exact .inl (.inl (.inr h))
    · exact .inl (.inr ⟨q, hq, k, ⟨hk, hb⟩, e.symm⟩)
    · exact .inr ⟨r, hr, e.symm⟩
end Go.Proofs.Ytcglpbchejkolaa
/- Earth: the values of a line, part by part: plain laws. -/
namespace Go.Proofs.Ytcglpbchejkolaa
open Go.RowKit
set_option linter.unusedSimpArgs false
set_option linter.unusedVariables false

def segR (p q : Kn) (y : Int) : Kn := (p.2 + (q.2 - p.2) * (y - p.1) / (q.1 - p.1), p.2 + -(-((q.2 - p.2) * (y - p.1)) / (q.1 - p.1)))
def le2 (p q : Kn) : Prop := p.1 ≤ q.1 ∧ p.2 ≤ q.2
theorem rangeP_knot {ks : List Kn} (ha : Asc ks) {k : Kn} (hk : k ∈ ks) : rangeP ks k.1 = (k.2, k.2) := by
  unfold rangeP
  rw [valP_knot ha hk]
  show (k.2, k.2 + min 0 1) = _
  rw [show k.2 + min (0 : Int) 1 = k.2 by omega]
theorem val_mid {ks : List Kn} (ha : Asc ks) {i : Nat} (h1 : 0 < i) (h2 : i < ks.length) {y : Int} (hy : (ks.getD (i - 1) (0, 0)).1 ≤ y) (hy2 : y ≤ (ks.getD i (0, 0)).1) :
    rangeP ks y = segR (ks.getD (i - 1) (0, 0)) (ks.getD i (0, 0)) y := by
  have hlt := ha.lt (i := i - 1) (j := i) (by omega) h2
  have hp := getD_mem (l := ks) (i := i - 1) (by omega) (0, 0)
  have hq := getD_mem (l := ks) (i := i) h2 (0, 0)
  have hbefore : ∀ k < i, (ks.getD (i - 1) (0, 0)).1 < y → (ks.getD k (0, 0)).1 < y := fun k hk h => by
    rcases Nat.lt_or_ge k (i - 1) with h3 | h3
    · have := ha.lt (i := k) (j := i - 1) h3 (by omega); omega
    · rw [show k = i - 1 by omega]; exact h
  have hafter : ∀ k, i ≤ k → k < ks.length → y ≤ (ks.getD k (0, 0)).1 := fun k h3 h4 => by
    rcases Nat.lt_or_ge i k with h5 | h5
    · have := ha.lt (i := i) (j := k) h5 h4; omega
    · rw [show k = i by omega]; exact hy2
  by_cases e1 : (ks.getD (i - 1) (0, 0)).1 = y
  · rw [← e1, rangeP_knot ha hp]
    unfold segR
    rw [Int.sub_self, Int.mul_zero, Int.neg_zero, Int.zero_ediv]
    simp
  by_cases e2 : (ks.getD i (0, 0)).1 = y
  · rw [← e2, rangeP_knot ha hq]
    unfold segR
    rw [← Int.neg_mul, Int.mul_ediv_cancel _ (by omega), Int.mul_ediv_cancel _ (by omega)]
    ext <;> simp <;> omega
  have hf := findV_at (ks := ks) (by intro e; rw [e] at h2; simp at h2) (x := y) (i := i) (by omega) (fun k hk => hbefore k hk (by omega)) hafter
  rw [if_neg (fun h => e2 h.2), show min i (ks.length - 1) = i by omega] at hf
  unfold rangeP valP partAt
  rw [hf]
  generalize ks.getD (i - 1) (0, 0) = p at *
  generalize ks.getD i (0, 0) = q at *
  rw [if_neg (fun h : p = q => by rw [h] at hlt; omega)]
  unfold segR segP
  rw [ceil_law (by omega)]
  simp only [Int.add_assoc]
theorem val_low {ks : List Kn} (ha : Asc ks) (h0 : 0 < ks.length) {y : Int} (hy : y ≤ (ks.getD 0 (0, 0)).1) : rangeP ks y = ((ks.getD 0 (0, 0)).2, (ks.getD 0 (0, 0)).2) := by
  have hf := findV_at (ks := ks) (by intro e; rw [e] at h0; simp at h0) (x := y) (i := 0) (by omega) (fun k hk => by omega) (fun k _ h4 => by
    rcases Nat.eq_zero_or_pos k with h5 | h5
    · rw [h5]; exact hy
    · have := ha.lt (i := 0) (j := k) h5 h4; omega)
  have hf : findV ks y = (ks.getD 0 (0, 0), ks.getD 0 (0, 0)) := by rw [hf]; split <;> simp
  unfold rangeP valP partAt
  rw [hf, if_pos rfl]
  show ((ks.getD 0 (0, 0)).2, (ks.getD 0 (0, 0)).2 + min 0 1) = _
  rw [show (ks.getD 0 (0, 0)).2 + min (0 : Int) 1 = (ks.getD 0 (0, 0)).2 by omega]
theorem val_high {ks : List Kn} (ha : Asc ks) (h0 : 0 < ks.length) {y : Int} (hy : (ks.getD (ks.length - 1) (0, 0)).1 ≤ y) : rangeP ks y = ((ks.getD (ks.length - 1) (0, 0)).2, (ks.getD (ks.length - 1) (0, 0)).2) := by
  by_cases e : (ks.getD (ks.length - 1) (0, 0)).1 = y
  · rw [← e, rangeP_knot ha (getD_mem (by omega) _)]
  have hf := findV_at (ks := ks) (by intro e; rw [e] at h0; simp at h0) (x := y) (i := ks.length) (by omega) (fun k hk => by
    rcases Nat.lt_or_ge k (ks.length - 1) with h5 | h5
    · have := ha.lt (i := k) (j := ks.length - 1) h5 (by omega); omega
    · rw [show k = ks.length - 1 by omega]; omega) (fun k h3 h4 => by omega)
  rw [if_neg (fun h => by omega), show min ks.length (ks.length - 1) = ks.length - 1 by omega] at hf
  unfold rangeP valP partAt
  rw [hf, if_pos rfl]
  show ((ks.getD (ks.length - 1) (0, 0)).2, (ks.getD (ks.length - 1) (0, 0)).2 + min 0 1) = _
  rw [show (ks.getD (ks.length - 1) (0, 0)).2 + min (0 : Int) 1 = (ks.getD (ks.length - 1) (0, 0)).2 by omega]
theorem segR_up {p q : Kn} (h : p.1 < q.1) (hd : p.2 ≤ q.2) {x y : Int} (hxy : x ≤ y) : le2 (segR p q x) (segR p q y) := by
  have m : (q.2 - p.2) * (x - p.1) ≤ (q.2 - p.2) * (y - p.1) := Int.mul_le_mul_of_nonneg_left (by omega) (by omega)
  have a1 := Int.ediv_le_ediv (show 0 < q.1 - p.1 by omega) m
  have a2 := Int.ediv_le_ediv (show 0 < q.1 - p.1 by omega) (Int.neg_le_neg m)
  exact ⟨by show p.2 + _ ≤ p.2 + _; omega, by show p.2 + -_ ≤ p.2 + -_; omega⟩
theorem segR_down {p q : Kn} (h : p.1 < q.1) (hd : q.2 ≤ p.2) {x y : Int} (hxy : x ≤ y) : le2 (segR p q y) (segR p q x) := by
  have m : (q.2 - p.2) * (y - p.1) ≤ (q.2 - p.2) * (x - p.1) := Int.mul_le_mul_of_nonpos_left (by omega) (by omega)
  have a1 := Int.ediv_le_ediv (show 0 < q.1 - p.1 by omega) m
  have a2 := Int.ediv_le_ediv (show 0 < q.1 - p.1 by omega) (Int.neg_le_neg m)
  exact ⟨by show p.2 + _ ≤ p.2 + _; omega, by show p.2 + -_ ≤ p.2 + -_; omega⟩
/-- A part on which a line goes one way. -/
def Mono (ks : List Kn) (a b : Int) : Prop :=
  (∀ x y, a ≤ x → x ≤ y → y ≤ b → le2 (rangeP ks x) (rangeP ks y)) ∨ (∀ x y, a ≤ x → x ≤ y → y ≤ b → le2 (rangeP ks y) (rangeP ks x))
/-- Within a part each place lies in a smaller one, between knots or the part's ends, on which the line goes one way. -/
theorem piece {ks : List Kn} (ha : Asc ks) (h0 : 0 < ks.length) {u w x : Int} (hu : u ≤ x) (hw : x ≤ w) : ∃ a b, u ≤ a ∧ a ≤ x ∧ x ≤ b ∧ b ≤ w ∧ Mono ks a b ∧ (a = u ∨ ∃ k ∈ ks, k.1 = a) ∧ (b = w ∨ ∃ k ∈ ks, k.1 = b) := by
  have conc : ∀ {v : Int}, le2 (v, v) (v, v) := ⟨Int.le_refl _, Int.le_refl _⟩
  obtain ⟨i, hi, h1, h2⟩ := split_at ha x
  by_cases e0 : i = 0
  · subst e0
    have hx := h2 0 (Nat.le_refl _) h0
    by_cases hb : (ks.getD 0 (0, 0)).1 ≤ w
    · exact ⟨u, (ks.getD 0 (0, 0)).1, Int.le_refl _, hu, hx, hb, .inl fun y z _ h4 h5 => by rw [val_low ha h0 (by omega), val_low ha h0 h5]; exact conc, .inl rfl, .inr ⟨_, getD_mem h0 _, rfl⟩⟩
    · exact ⟨u, w, Int.le_refl _, hu, hw, Int.le_refl _, .inl fun y z _ h4 h5 => by rw [val_low ha h0 (by omega), val_low ha h0 (by omega)]; exact conc, .inl rfl, .inl rfl⟩
  have hp := h1 (i - 1) (by omega)
  have lo : ∃ a, u ≤ a ∧ a ≤ x ∧ (ks.getD (i - 1) (0, 0)).1 ≤ a ∧ (a = u ∨ ∃ k ∈ ks, k.1 = a) := by
    by_cases h : u ≤ (ks.getD (i - 1) (0, 0)).1
    · exact ⟨_, h, by omega, Int.le_refl _, .inr ⟨_, getD_mem (by omega) _, rfl⟩⟩
    · exact ⟨u, Int.le_refl _, hu, by omega, .inl rfl⟩
  obtain ⟨a, a1, a2, a3, a4⟩ := lo
  by_cases e1 : i = ks.length
  · subst e1
    exact ⟨a, w, a1, a2, hw, Int.le_refl _, .inl fun y z h3 h4 _ => by rw [val_high ha h0 (by omega), val_high ha h0 (by omega)]; exact conc, a4, .inl rfl⟩
  have hq := h2 i (Nat.le_refl _) (by omega)
  have hlt := ha.lt (i := i - 1) (j := i) (by omega) (by omega)
  have hi' : ∃ b, x ≤ b ∧ b ≤ w ∧ b ≤ (ks.getD i (0, 0)).1 ∧ (b = w ∨ ∃ k ∈ ks, k.1 = b) := by
    by_cases h : (ks.getD i (0, 0)).1 ≤ w
    · exact ⟨_, hq, h, Int.le_refl _, .inr ⟨_, getD_mem (by omega) _, rfl⟩⟩
    · exact ⟨w, hw, Int.le_refl _, by omega, .inl rfl⟩
  obtain ⟨b, b1, b2, b3, b4⟩ := hi'
  refine ⟨a, b, a1, a2, b1, b2, ?_, a4, b4⟩
  clear a4 b4
  rcases Int.le_total (ks.getD (i - 1) (0, 0)).2 (ks.getD i (0, 0)).2 with hd | hd
  · left
    intro y z h3 h4 h5
    rw [val_mid ha (i := i) (y := y) (by omega) (by omega) (by omega) (by omega), val_mid ha (i := i) (y := z) (by omega) (by omega) (by omega) (by omega)]
    exact segR_up hlt hd h4
  · right
    intro y z h3 h4 h5
    rw [val_mid ha (i := i) (y := y) (by omega) (by omega) (by omega) (by omega), val_mid ha (i := i) (y := z) (by omega) (by omega) (by omega) (by omega)]
    exact segR_down hlt hd h4
end Go.Proofs.Ytcglpbchejkolaa
/- Earth: the least and the greatest value of a part enclose all, and are among them: plain laws. -/
namespace Go.Proofs.Ytcglpbchejkolaa
open Go.RowKit
set_option linter.unusedSimpArgs false
set_option linter.unusedVariables false

theorem foldMin_le : ∀ (l : List Int) (s : Int), foldMin l s ≤ s ∧ ∀ x ∈ l, foldMin l s ≤ x
  | [], s => ⟨Int.le_refl _, fun x hx => by cases hx⟩
  | y :: l, s => by
    obtain ⟨h1, h2⟩ := foldMin_le l (min s y)
    show foldMin l (min s y) ≤ s ∧ ∀ x ∈ y :: l, foldMin l (min s y) ≤ x
    refine ⟨by omega, fun x hx => ?_⟩
    rcases List.mem_cons.1 hx with rfl | hx
    · omega
    · exact h2 x hx
theorem foldMax_ge : ∀ (l : List Int) (s : Int), s ≤ foldMax l s ∧ ∀ x ∈ l, x ≤ foldMax l s
  | [], s => ⟨Int.le_refl _, fun x hx => by cases hx⟩
  | y :: l, s => by
    obtain ⟨h1, h2⟩ := foldMax_ge l (max s y)
    show s ≤ foldMax l (max s y) ∧ ∀ x ∈ y :: l, x ≤ foldMax l (max s y)
    refine ⟨by omega, fun x hx => ?_⟩
    rcases List.mem_cons.1 hx with rfl | hx
    · omega
    · exact h2 x hx
/-- Both components' least are one place's. -/
theorem foldMin_at (f : Int → Kn) (hf : ∀ x, (f x).1 ≤ (f x).2 ∧ (f x).2 ≤ (f x).1 + 1) : ∀ (l : List Int) (s : Int), ∃ x ∈ s :: l, (foldMin (l.map fun x => (f x).1) (f s).1, foldMin (l.map fun x => (f x).2) (f s).2) = f x
  | [], s => ⟨s, by simp, rfl⟩
  | y :: l, s => by
    show ∃ x ∈ s :: y :: l, (foldMin (l.map fun x => (f x).1) (min (f s).1 (f y).1), foldMin (l.map fun x => (f x).2) (min (f s).2 (f y).2)) = f x
    have hs := hf s
    have hy := hf y
    by_cases h : (f s).1 ≤ (f y).1 ∧ (f s).2 ≤ (f y).2
    · obtain ⟨x, hx, e⟩ := foldMin_at f hf l s
      rw [show min (f s).1 (f y).1 = (f s).1 by omega, show min (f s).2 (f y).2 = (f s).2 by omega]
      refine ⟨x, ?_, e⟩
      rcases List.mem_cons.1 hx with rfl | hx
      · simp
      · simp [hx]
    · obtain ⟨x, hx, e⟩ := foldMin_at f hf l y
      rw [show min (f s).1 (f y).1 = (f y).1 by omega, show min (f s).2 (f y).2 = (f y).2 by omega]
      exact ⟨x, List.mem_cons_of_mem _ hx, e⟩
theorem foldMax_at (f : Int → Kn) (hf : ∀ x, (f x).1 ≤ (f x).2 ∧ (f x).2 ≤ (f x).1 + 1) : ∀ (l : List Int) (s : Int), ∃ x ∈ s :: l, (foldMax (l.map fun x => (f x).1) (f s).1, foldMax (l.map fun x => (f x).2) (f s).2) = f x
  | [], s => ⟨s, by simp, rfl⟩
  | y :: l, s => by
    show ∃ x ∈ s :: y :: l, (foldMax (l.map fun x => (f x).1) (max (f s).1 (f y).1), foldMax (l.map fun x => (f x).2) (max (f s).2 (f y).2)) = f x
    have hs := hf s
    have hy := hf y
    by_cases h : (f y).1 ≤ (f s).1 ∧ (f y).2 ≤ (f s).2
    · obtain ⟨x, hx, e⟩ := foldMax_at f hf l s
      rw [show max (f s).1 (f y).1 = (f s).1 by omega, show max (f s).2 (f y).2 = (f s).2 by omega]
      refine ⟨x, ?_, e⟩
      rcases List.mem_cons.1 hx with rfl | hx
      · simp
      · simp [hx]
    · obtain ⟨x, hx, e⟩ := foldMax_at f hf l y
      rw [show max (f s).1 (f y).1 = (f y).1 by omega, show max (f s).2 (f y).2 = (f y).2 by omega]
      exact ⟨x, List.mem_cons_of_mem _ hx, e⟩
theorem inner_mem {ks : List Kn} {a b x : Int} (h1 : a ≤ x) (h2 : x ≤ b) (h : x = a ∨ x = b ∨ ∃ k ∈ ks, k.1 = x) : x ∈ innerV ks a b := by
  unfold innerV
  by_cases e1 : x = a
  · subst e1; simp
  by_cases e2 : x = b
  · subst e2; simp
  obtain ⟨k, hk, e⟩ := (h.resolve_left e1).resolve_left e2
  refine List.mem_append_right _ (List.mem_map.2 ⟨k, List.mem_filter.2 ⟨hk, ?_⟩, e⟩)
  rw [Bool.and_eq_true, decide_eq_true_eq, decide_eq_true_eq]
  omega
theorem inner_in {ks : List Kn} {a b x : Int} (hab : a ≤ b) (h : x ∈ innerV ks a b) : a ≤ x ∧ x ≤ b ∧ (x = a ∨ x = b ∨ ∃ k ∈ ks, k.1 = x) := by
  unfold innerV at h
  rcases List.mem_append.1 h with h | h
  · simp only [List.mem_cons, List.not_mem_nil, or_false] at h
    rcases h with rfl | rfl
    · exact ⟨Int.le_refl _, hab, .inl rfl⟩
    · exact ⟨hab, Int.le_refl _, .inr (.inl rfl)⟩
  · obtain ⟨k, hk, rfl⟩ := List.mem_map.1 h
    obtain ⟨h1, h2⟩ := List.mem_filter.1 hk
    rw [Bool.and_eq_true, decide_eq_true_eq, decide_eq_true_eq] at h2
    exact ⟨by omega, by omega, .inr (.inr ⟨k, h1, rfl⟩)⟩
theorem Good.rg {ks : List Kn} (h : Good ks) (x : Int) : (rangeP ks x).1 ≤ (rangeP ks x).2 ∧ (rangeP ks x).2 ≤ (rangeP ks x).1 + 1 := by
  have := h.val x
  unfold rangeP
  exact ⟨by show _ ≤ _ + _; omega, by show _ + _ ≤ _; omega⟩
section
variable {ks : List Kn} (hr : rightB ks = true) {a b : Int} (hab : a ≤ b)
include hr hab
theorem least_eq : leastV ks a b = (foldMin ((innerV ks a b).map fun x => (rangeP ks x).1) (rangeP ks a).1, foldMin ((innerV ks a b).map fun x => (rangeP ks x).2) (rangeP ks a).2) := by
  unfold leastV; rw [if_pos ⟨hr, hab⟩]
theorem most_eq : mostV ks a b = (foldMax ((innerV ks a b).map fun x => (rangeP ks x).1) (rangeP ks a).1, foldMax ((innerV ks a b).map fun x => (rangeP ks x).2) (rangeP ks a).2) := by
  unfold mostV; rw [if_pos ⟨hr, hab⟩]
theorem least_cand {x : Int} (hx : x ∈ innerV ks a b) : le2 (leastV ks a b) (rangeP ks x) := by
  rw [least_eq hr hab]
  exact ⟨(foldMin_le _ _).2 _ (List.mem_map.2 ⟨x, hx, rfl⟩), (foldMin_le _ _).2 _ (List.mem_map.2 ⟨x, hx, rfl⟩)⟩
theorem most_cand {x : Int} (hx : x ∈ innerV ks a b) : le2 (rangeP ks x) (mostV ks a b) := by
  rw [most_eq hr hab]
  exact ⟨(foldMax_ge _ _).2 _ (List.mem_map.2 ⟨x, hx, rfl⟩), (foldMax_ge _ _).2 _ (List.mem_map.2 ⟨x, hx, rfl⟩)⟩
theorem least_at : ∃ x, a ≤ x ∧ x ≤ b ∧ (x = a ∨ x = b ∨ ∃ k ∈ ks, k.1 = x) ∧ leastV ks a b = rangeP ks x := by
  obtain ⟨x, hx, e⟩ := foldMin_at (rangeP ks) (good hr).rg (innerV ks a b) a
  rw [← least_eq hr hab] at e
  have hm : x ∈ innerV ks a b := by
    rcases List.mem_cons.1 hx with rfl | hx
    · exact inner_mem (Int.le_refl _) hab (.inl rfl)
    · exact hx
  obtain ⟨h1, h2, h3⟩ := inner_in hab hm
  exact ⟨x, h1, h2, h3, e⟩
theorem most_at : ∃ x, a ≤ x ∧ x ≤ b ∧ (x = a ∨ x = b ∨ ∃ k ∈ ks, k.1 = x) ∧ mostV ks a b = rangeP ks x := by
  obtain ⟨x, hx, e⟩ := foldMax_at (rangeP ks) (good hr).rg (innerV ks a b) a
  rw [← most_eq hr hab] at e
  have hm : x ∈ innerV ks a b := by
    rcases List.mem_cons.1 hx with rfl | hx
    · exact inner_mem (Int.le_refl _) hab (.inl rfl)
    · exact hx
  obtain ⟨h1, h2, h3⟩ := inner_in hab hm
  exact ⟨x, h1, h2, h3, e⟩
theorem enclose {x : Int} (h1 : a ≤ x) (h2 : x ≤ b) : le2 (leastV ks a b) (rangeP ks x) ∧ le2 (rangeP ks x) (mostV ks a b) := by
  have hg := good hr
  obtain ⟨p, q, p1, p2, p3, p4, hm, hp, hq⟩ := piece hg.asc (List.length_pos_iff.2 hg.ne) h1 h2
  have cp : p ∈ innerV ks a b := inner_mem p1 (by omega) (hp.imp id .inr)
  have cq : q ∈ innerV ks a b := inner_mem (by omega) p4 (.inr hq)
  have l1 := least_cand hr hab cp
  have l2 := least_cand hr hab cq
  have m1 := most_cand hr hab cp
  have m2 := most_cand hr hab cq
  rcases hm with hm | hm
  · have u1 := hm p x (Int.le_refl _) p2 p3
    have u2 := hm x q p2 p3 (Int.le_refl _)
    exact ⟨⟨Int.le_trans l1.1 u1.1, Int.le_trans l1.2 u1.2⟩, Int.le_trans u2.1 m2.1, Int.le_trans u2.2 m2.2⟩
  · have u1 := hm p x (Int.le_refl _) p2 p3
    have u2 := hm x q p2 p3 (Int.le_refl _)
    exact ⟨⟨Int.le_trans l2.1 u2.1, Int.le_trans l2.2 u2.2⟩, Int.le_trans u1.1 m1.1, Int.le_trans u1.2 m1.2⟩
end
end Go.Proofs.Ytcglpbchejkolaa
/- Earth: the earth made of numbers: its lines are lines. -/
namespace Go.Proofs.Ytcglpbchejkolaa
open Go.RowKit
set_option linter.unusedSimpArgs false
set_option linter.unusedVariables false

theorem shift_len (off : List Int) (up : Bool) : ∀ (l : List Kn) (i : Int), (shiftGo off up i l).length = l.length
  | [], i => rfl
  | k :: l, i => by rw [shiftGo, List.length_cons, List.length_cons, shift_len off up l]
theorem shift_asc (off : List Int) (up : Bool) : ∀ {l : List Kn} {i : Int}, Asc l → Asc (shiftGo off up i l)
  | [], i, _ => .nil
  | [k], i, _ => .one _
  | k :: k' :: l, i, .cons h ht => .cons h (shift_asc off up (i := i + 1) ht)
theorem shift_box {off : List Int} {up : Bool} {A V : Int} : ∀ {l : List Kn} {i : Int}, (∀ k ∈ l, 0 ≤ k.1 ∧ k.1 ≤ A ∧ 0 ≤ k.2 ∧ k.2 ≤ V) → ∀ k ∈ shiftGo off up i l, 0 ≤ k.1 ∧ k.1 ≤ A ∧ 0 ≤ k.2 ∧ k.2 ≤ V + 40000000
  | [], i, _, k, hk => by cases hk
  | x :: l, i, h, k, hk => by
    rw [shiftGo] at hk
    rcases List.mem_cons.1 hk with rfl | hk
    · have hx := h x (by simp)
      have hp := Int.emod_nonneg (pickV off i) (b := 40000000) (by decide)
      have hp' := Int.emod_lt_of_pos (pickV off i) (b := 40000000) (by decide)
      refine ⟨hx.1, hx.2.1, ?_⟩
      show 0 ≤ (if up = true then x.2 + pickV off i % 40000000 else max 0 (x.2 - pickV off i % 40000000)) ∧ (if up = true then x.2 + pickV off i % 40000000 else max 0 (x.2 - pickV off i % 40000000)) ≤ V + 40000000
      split <;> omega
    · exact shift_box (fun k hk => h k (by simp [hk])) k hk
theorem shift_line {off : List Int} {up : Bool} {l : List Kn} {i : Int} (h0 : l ≠ []) (h1 : l.length ≤ 6) (ha : Asc l) (hb : ∀ k ∈ l, 0 ≤ k.1 ∧ k.1 ≤ 500000 ∧ 0 ≤ k.2 ∧ k.2 ≤ 15021000000) : lineE (shiftGo off up i l) = 0 :=
  lineE_of (fun e => h0 (List.length_eq_zero_iff.1 (by rw [← shift_len off up l i, e]; rfl))) (by rw [shift_len]; omega) (shift_asc off up ha) fun k hk => by have := shift_box hb k hk; omega
theorem tp_box' (g : Gr) : ∀ k ∈ tpV g, 0 ≤ k.1 ∧ k.1 ≤ 500000 ∧ 0 ≤ k.2 ∧ k.2 ≤ 15021000000 := fun k hk => by have := tp_box g k hk; omega
theorem known_pl (g : Gr) : lineE (knownV g).pl = 0 := shift_line (tp_rise g).ne (tp_len g) (tp_rise g).asc (tp_box' g)
theorem known_ph (g : Gr) : lineE (knownV g).ph = 0 := shift_line (tp_rise g).ne (tp_len g) (tp_rise g).asc (tp_box' g)
theorem known_fl (g : Gr) : lineE (knownV g).fl = 0 := shift_line (tf_rise g).ne (tf_len g) (tf_rise g).asc (tf_box g)
theorem known_fh (g : Gr) : lineE (knownV g).fh = 0 := shift_line (tf_rise g).ne (tf_len g) (tf_rise g).asc (tf_box g)
end Go.Proofs.Ytcglpbchejkolaa
/- Earth: bounds of a line's values; one cm's step of what a point allows. -/
namespace Go.Proofs.Ytcglpbchejkolaa
open Go.RowKit
set_option linter.unusedSimpArgs false
set_option linter.unusedVariables false

theorem range_box {ks : List Kn} (ha : Asc ks) (h0 : 0 < ks.length) {lo hi : Int} (hb : ∀ k ∈ ks, lo ≤ k.2 ∧ k.2 ≤ hi) (x : Int) : lo ≤ (rangeP ks x).1 ∧ (rangeP ks x).1 ≤ hi ∧ lo ≤ (rangeP ks x).2 ∧ (rangeP ks x).2 ≤ hi := by
  obtain ⟨i, hi', h1, h2⟩ := split_at ha x
  by_cases e0 : i = 0
  · subst e0
    rw [val_low ha h0 (h2 0 (Nat.le_refl _) h0)]
    have := hb _ (getD_mem h0 (0, 0))
    exact ⟨this.1, this.2, this.1, this.2⟩
  have hp := h1 (i - 1) (by omega)
  by_cases e1 : i = ks.length
  · rw [val_high ha h0 (by rw [← e1]; omega)]
    have := hb _ (getD_mem (l := ks) (i := ks.length - 1) (by omega) (0, 0))
    exact ⟨this.1, this.2, this.1, this.2⟩
  have hq := h2 i (Nat.le_refl _) (by omega)
  have hlt := ha.lt (i := i - 1) (j := i) (by omega) (by omega)
  have mp := getD_mem (l := ks) (i := i - 1) (by omega) (0, 0)
  have mq := getD_mem (l := ks) (i := i) (by omega) (0, 0)
  have kp := rangeP_knot ha mp
  have kq := rangeP_knot ha mq
  rw [val_mid ha (i := i) (by omega) (by omega) (Int.le_refl _) (by omega)] at kp
  rw [val_mid ha (i := i) (by omega) (by omega) (by omega) (Int.le_refl _)] at kq
  rw [val_mid ha (i := i) (by omega) (by omega) (by omega) hq]
  have bp := hb _ mp
  have bq := hb _ mq
  rcases Int.le_total (ks.getD (i - 1) (0, 0)).2 (ks.getD i (0, 0)).2 with hd | hd
  · have u1 := segR_up hlt hd (show (ks.getD (i - 1) (0, 0)).1 ≤ x by omega)
    have u2 := segR_up hlt hd hq
    rw [kp] at u1
    rw [kq] at u2
    obtain ⟨a1, a2⟩ := u1
    obtain ⟨a3, a4⟩ := u2
    exact ⟨Int.le_trans bp.1 a1, Int.le_trans a3 bq.2, Int.le_trans bp.1 a2, Int.le_trans a4 bq.2⟩
  · have u1 := segR_down hlt hd (show (ks.getD (i - 1) (0, 0)).1 ≤ x by omega)
    have u2 := segR_down hlt hd hq
    rw [kp] at u1
    rw [kq] at u2
    obtain ⟨a1, a2⟩ := u1
    obtain ⟨a3, a4⟩ := u2
    exact ⟨Int.le_trans bq.1 a3, Int.le_trans a1 bp.2, Int.le_trans bq.1 a4, Int.le_trans a2 bp.2⟩
theorem upP_step {gl gh z : Int} (h : gl ≤ gh) (h0 : 0 ≤ gl) (k : Kn) : upP gl gh z k + gl ≤ upP gl gh (z + 1) k ∧ upP gl gh (z + 1) k ≤ upP gl gh z k + gh := by
  unfold upP
  have e1 : gl * (z + 1 - k.1) = gl * (z - k.1) + gl := by rw [show z + 1 - k.1 = (z - k.1) + 1 by omega, Int.mul_add, Int.mul_one]
  have e2 : gh * (z + 1 - k.1) = gh * (z - k.1) + gh := by rw [show z + 1 - k.1 = (z - k.1) + 1 by omega, Int.mul_add, Int.mul_one]
  by_cases h1 : z + 1 < k.1
  · rw [if_pos h1, if_pos (by omega)]; omega
  · by_cases h2 : z < k.1
    · rw [if_neg h1, if_pos h2, show z + 1 - k.1 = 0 by omega, show z - k.1 = -1 by omega]; omega
    · rw [if_neg h1, if_neg h2]; omega
theorem loP_step {gl gh z : Int} (h : gl ≤ gh) (h0 : 0 ≤ gl) (k : Kn) : loP gl gh z k + gl ≤ loP gl gh (z + 1) k ∧ loP gl gh (z + 1) k ≤ loP gl gh z k + gh := by
  unfold loP
  have e1 : gl * (z + 1 - k.1) = gl * (z - k.1) + gl := by rw [show z + 1 - k.1 = (z - k.1) + 1 by omega, Int.mul_add, Int.mul_one]
  have e2 : gh * (z + 1 - k.1) = gh * (z - k.1) + gh := by rw [show z + 1 - k.1 = (z - k.1) + 1 by omega, Int.mul_add, Int.mul_one]
  by_cases h1 : z + 1 < k.1
  · rw [if_pos h1, if_pos (by omega)]; omega
  · by_cases h2 : z < k.1
    · rw [if_neg h1, if_pos h2, show z + 1 - k.1 = 0 by omega, show z - k.1 = -1 by omega]; omega
    · rw [if_neg h1, if_neg h2]; omega
theorem upV_step {gl gh z : Int} (h : gl ≤ gh) (h0 : 0 ≤ gl) : ∀ (l : List Kn) (s s' : Int), s' ≤ s + gh → upV gl gh l (z + 1) s' ≤ upV gl gh l z s + gh
  | [], s, s', hs => hs
  | k :: l, s, s', hs => by
    have := upP_step (z := z) h h0 k
    exact upV_step h h0 l (min s (upP gl gh z k)) (min s' (upP gl gh (z + 1) k)) (by omega)
theorem loV_step {gl gh z : Int} (h : gl ≤ gh) (h0 : 0 ≤ gl) : ∀ (l : List Kn) (s s' : Int), s ≤ s' → loV gl gh l z s ≤ loV gl gh l (z + 1) s'
  | [], s, s', hs => hs
  | k :: l, s, s', hs => by
    have := loP_step (z := z) h h0 k
    exact loV_step h h0 l (max s (loP gl gh z k)) (max s' (loP gl gh (z + 1) k)) (by omega)
end Go.Proofs.Ytcglpbchejkolaa
/- Earth: one cm's step of a line that goes up. -/
namespace Go.Proofs.Ytcglpbchejkolaa
open Go.RowKit
set_option linter.unusedSimpArgs false
set_option linter.unusedVariables false

theorem Rise.slope {gl gh B : Int} : ∀ {l : List Kn}, Rise gl gh B l → ∀ {i : Nat}, 0 < i → i < l.length → gl * ((l.getD i (0, 0)).1 - (l.getD (i - 1) (0, 0)).1) ≤ (l.getD i (0, 0)).2 - (l.getD (i - 1) (0, 0)).2 ∧ (l.getD i (0, 0)).2 - (l.getD (i - 1) (0, 0)).2 ≤ gh * ((l.getD i (0, 0)).1 - (l.getD (i - 1) (0, 0)).1)
  | [], h, i, h1, h2 => by cases h
  | [k], h, i, h1, h2 => by simp at h2; omega
  | (a, v) :: (a', v') :: l, h, i, h1, h2 => by
    cases h with
    | cons ha hB g1 g2 ht =>
      match i, h1, h2 with
      | 1, _, _ => exact ⟨g1, g2⟩
      | i + 2, _, h2 => exact ht.slope (i := i + 1) (by omega) (by simpa using h2)
theorem segR_step {p q : Kn} {gl gh z : Int} (h : p.1 < q.1) (h1 : gl * (q.1 - p.1) ≤ q.2 - p.2) (h2 : q.2 - p.2 ≤ gh * (q.1 - p.1)) :
    ((segR p q z).1 + gl ≤ (segR p q (z + 1)).1 ∧ (segR p q (z + 1)).1 ≤ (segR p q z).1 + gh) ∧ (segR p q z).2 + gl ≤ (segR p q (z + 1)).2 ∧ (segR p q (z + 1)).2 ≤ (segR p q z).2 + gh := by
  unfold segR
  have hL : 0 < q.1 - p.1 := by omega
  have e : (q.2 - p.2) * (z + 1 - p.1) = (q.2 - p.2) * (z - p.1) + (q.2 - p.2) := by rw [show z + 1 - p.1 = (z - p.1) + 1 by omega, Int.mul_add, Int.mul_one]
  rw [e]
  generalize (q.2 - p.2) * (z - p.1) = N at *
  generalize q.2 - p.2 = D at *
  generalize q.1 - p.1 = L at *
  have a1 := Int.ediv_le_ediv hL (show N + gl * L ≤ N + D by omega)
  have a2 := Int.ediv_le_ediv hL (show N + D ≤ N + gh * L by omega)
  have a3 := Int.ediv_le_ediv hL (show -(N + D) ≤ -N + -gl * L by rw [Int.neg_mul]; omega)
  have a4 := Int.ediv_le_ediv hL (show -N + -gh * L ≤ -(N + D) by rw [Int.neg_mul]; omega)
  rw [Int.add_mul_ediv_right _ _ (by omega)] at a1 a2 a3 a4
  simp only []
  omega
theorem Rise.step {gl gh B : Int} {l : List Kn} (h : Rise gl gh B l) (h0 : 0 ≤ gl) (hg : gl ≤ gh) (z : Int) : le2 (rangeP l z) (rangeP l (z + 1)) ∧ (rangeP l (z + 1)).1 ≤ (rangeP l z).1 + gh ∧ (rangeP l (z + 1)).2 ≤ (rangeP l z).2 + gh := by
  have ha := h.asc
  have hl : 0 < l.length := List.length_pos_iff.2 h.ne
  obtain ⟨i, hi, h1, h2⟩ := split_at ha (z + 1)
  by_cases e0 : i = 0
  · subst e0
    have := h2 0 (Nat.le_refl _) hl
    rw [val_low ha hl (y := z) (by omega), val_low ha hl this]
    exact ⟨⟨Int.le_refl _, Int.le_refl _⟩, by show _ ≤ _ + gh; omega, by show _ ≤ _ + gh; omega⟩
  have hp := h1 (i - 1) (by omega)
  by_cases e1 : i = l.length
  · rw [e1] at hp
    rw [val_high ha hl (y := z) (by omega), val_high ha hl (y := z + 1) (by omega)]
    exact ⟨⟨Int.le_refl _, Int.le_refl _⟩, by show _ ≤ _ + gh; omega, by show _ ≤ _ + gh; omega⟩
  have hq := h2 i (Nat.le_refl _) (by omega)
  have hlt := ha.lt (i := i - 1) (j := i) (by omega) (by omega)
  obtain ⟨s1, s2⟩ := h.slope (i := i) (by omega) (by omega)
  rw [val_mid ha (i := i) (y := z) (by omega) (by omega) (by omega) (by omega), val_mid ha (i := i) (y := z + 1) (by omega) (by omega) (by omega) (by omega)]
  obtain ⟨⟨b1, b2⟩, b3, b4⟩ := segR_step (z := z) hlt s1 s2
  exact ⟨⟨by omega, by omega⟩, b2, b4⟩
/-- A line lifted as a whole. -/
def lift (off : Int) (l : List Kn) : List Kn := l.map fun k => (k.1, k.2 + off)
theorem Rise.lift {gl gh B off : Int} : ∀ {l : List Kn}, Rise gl gh B l → Rise gl gh B (lift off l)
  | [], h => by cases h
  | [k], h => by cases h; exact .one _
  | (a, v) :: (a', v') :: l, h => by
    cases h with
    | cons ha hB g1 g2 ht => exact .cons ha hB (show gl * (a' - a) ≤ v' + off - (v + off) by omega) (show v' + off - (v + off) ≤ gh * (a' - a) by omega) ht.lift
end Go.Proofs.Ytcglpbchejkolaa
/- Earth: the earth whose lines are a truth's: valid, and what its ranges do in one cm. -/
namespace Go.Proofs.Ytcglpbchejkolaa
open Go.RowKit
set_option linter.unusedSimpArgs false
set_option linter.unusedVariables false

theorem same_ab {u l : List Kn} (hu : Good u) (hl : Good l) (h1 : ∀ k ∈ u, ∃ k' ∈ l, k'.1 = k.1 ∧ k'.2 ≤ k.2) (h2 : ∀ k ∈ l, ∃ k' ∈ u, k'.1 = k.1 ∧ k.2 ≤ k'.2) (to : Int) : aboveV u l to = true := by
  rw [aboveV_iff hu hl]
  refine ⟨fun k hk => .inr ?_, fun k hk => .inr ?_⟩
  · obtain ⟨k', m, e, le⟩ := h1 k hk
    rw [← e, rangeP_knot hl.asc m]; exact le
  · obtain ⟨k', m, e, le⟩ := h2 k hk
    rw [← e, rangeP_knot hu.asc m]; exact le
theorem lift_mem {off : Int} {l : List Kn} {k : Kn} : k ∈ lift off l ↔ ∃ k' ∈ l, k = (k'.1, k'.2 + off) := by
  unfold lift
  rw [List.mem_map]
  exact ⟨fun ⟨x, h, e⟩ => ⟨x, h, e.symm⟩, fun ⟨x, h, e⟩ => ⟨x, h, e.symm⟩⟩
theorem tf_over (g : Gr) : ∀ k ∈ tfV g, ∃ k' ∈ tpV g, k'.1 = k.1 ∧ k'.2 ≤ k.2 := fun k hk => by
  obtain ⟨x, hx, rfl⟩ := List.mem_map.1 hk
  exact ⟨(x.1, x.2.1), List.mem_map.2 ⟨x, hx, rfl⟩, rfl, (truthL_box g x hx).2.2.2.2.1⟩
theorem tp_under (g : Gr) : ∀ k ∈ tpV g, ∃ k' ∈ tfV g, k'.1 = k.1 ∧ k.2 ≤ k'.2 := fun k hk => by
  obtain ⟨x, hx, rfl⟩ := List.mem_map.1 hk
  exact ⟨(x.1, x.2.2), List.mem_map.2 ⟨x, hx, rfl⟩, rfl, (truthL_box g x hx).2.2.2.2.1⟩
theorem lift_line {l : List Kn} {off : Int} (o0 : 0 ≤ off) (o1 : off ≤ 30000000) (h0 : l ≠ []) (h1 : l.length ≤ 6) (ha : Asc (lift off l)) (hb : ∀ k ∈ l, 0 ≤ k.1 ∧ k.1 ≤ 500000 ∧ 0 ≤ k.2 ∧ k.2 ≤ 15021000000) : lineE (lift off l) = 0 := by
  have hlen : (lift off l).length = l.length := by simp [lift]
  refine lineE_of (fun e => h0 (List.length_eq_zero_iff.1 (by rw [← hlen, e]; rfl))) (by omega) ha fun k hk => ?_
  obtain ⟨k', m, rfl⟩ := lift_mem.1 hk
  have := hb k' m
  exact ⟨this.1, by show k'.1 ≤ _; omega, by show 0 ≤ k'.2 + off; omega, by show k'.2 + off ≤ _; omega⟩
theorem repV_in (g : Gr) (n : Int) : 1 ≤ (repV (tpV g) (tfV g) n).kind ∧ (repV (tpV g) (tfV g) n).kind ≤ 4 ∧ 0 ≤ (repV (tpV g) (tfV g) n).z ∧ (repV (tpV g) (tfV g) n).z ≤ bottomV g ∧ 0 ≤ (repV (tpV g) (tfV g) n).p ∧ (repV (tpV g) (tfV g) n).p ≤ 68719476736 := by
  have hB := bottomV_bd g
  have n0 := Int.emod_nonneg n (b := 1099511627776) (by decide)
  have n1 := Int.emod_lt_of_pos n (b := 1099511627776) (by decide)
  unfold repV
  rw [tp_end]
  generalize n % 1099511627776 = m at *
  have z0 := Int.emod_nonneg (m / 4) (b := bottomV g + 1) (by omega)
  have z1 := Int.emod_lt_of_pos (m / 4) (b := bottomV g + 1) (by omega)
  generalize m / 4 % (bottomV g + 1) = z at *
  have bp := range_box (tp_rise g).asc (List.length_pos_iff.2 (tp_rise g).ne) (fun k hk => (tp_box' g k hk).2.2) z
  have bf := range_box (tf_rise g).asc (List.length_pos_iff.2 (tf_rise g).ne) (fun k hk => (tf_box g k hk).2.2) z
  refine ⟨by show 1 ≤ 1 + m % 4; omega, by show 1 + m % 4 ≤ 4; omega, z0, by show z ≤ _; omega, ?_⟩
  simp only []
  split
  · omega
  · split
    · omega
    · split <;> omega
def growE (g : Gr) (off : Int) : Ear := { knownV g with pl := tpV g, ph := lift off (tpV g), fl := tfV g, fh := lift off (tfV g) }
theorem grow_valid (g : Gr) {off : Int} (o0 : 0 ≤ off) (o1 : off ≤ 30000000) : Valid (growE g off) where
  b := by show 1 ≤ endV (tpV g) ∧ endV (tpV g) ≤ 1048576; rw [tp_end]; have := bottomV_bd g; omega
  g := by
    show 0 ≤ pickV g.off 1 % 2001 ∧ pickV g.off 1 % 2001 ≤ 30000 + pickV g.off 2 % 10001 ∧ 30000 + pickV g.off 2 % 10001 ≤ 40000
    omega
  pl := tp_line g
  ph := lift_line o0 o1 (tp_rise g).ne (tp_len g) (tp_rise g).lift.asc (tp_box' g)
  fl := tf_line g
  fh := lift_line o0 o1 (tf_rise g).ne (tf_len g) (tf_rise g).lift.asc (tf_box g)
  ab1 := same_ab (good (rightB_of (lift_line o0 o1 (tp_rise g).ne (tp_len g) (tp_rise g).lift.asc (tp_box' g)))) (good (rightB_of (tp_line g)))
    (fun k hk => by obtain ⟨k', m, rfl⟩ := lift_mem.1 hk; exact ⟨k', m, rfl, by show k'.2 ≤ k'.2 + off; omega⟩)
    (fun k hk => ⟨_, lift_mem.2 ⟨k, hk, rfl⟩, rfl, by show k.2 ≤ k.2 + off; omega⟩) _
  ab2 := same_ab (good (rightB_of (lift_line o0 o1 (tf_rise g).ne (tf_len g) (tf_rise g).lift.asc (tf_box g)))) (good (rightB_of (tf_line g)))
    (fun k hk => by obtain ⟨k', m, rfl⟩ := lift_mem.1 hk; exact ⟨k', m, rfl, by show k'.2 ≤ k'.2 + off; omega⟩)
    (fun k hk => ⟨_, lift_mem.2 ⟨k, hk, rfl⟩, rfl, by show k.2 ≤ k.2 + off; omega⟩) _
  ab3 := same_ab (good (rightB_of (lift_line o0 o1 (tf_rise g).ne (tf_len g) (tf_rise g).lift.asc (tf_box g)))) (good (rightB_of (tp_line g)))
    (fun k hk => by obtain ⟨k', m, rfl⟩ := lift_mem.1 hk; obtain ⟨x, hx, e1, e2⟩ := tf_over g k' m; exact ⟨x, hx, e1, by show x.2 ≤ k'.2 + off; omega⟩)
    (fun k hk => by obtain ⟨x, hx, e1, e2⟩ := tp_under g k hk; exact ⟨_, lift_mem.2 ⟨x, hx, rfl⟩, e1, by show k.2 ≤ x.2 + off; omega⟩) _
  reps := by
    show ((g.marks.take 8).map (repV (tpV g) (tfV g))).length ≤ 24
    rw [List.length_map, List.length_take]; omega
  rep := fun r hr => by
    obtain ⟨n, -, rfl⟩ := List.mem_map.1 (show r ∈ (g.marks.take 8).map (repV (tpV g) (tfV g)) from hr)
    have := repV_in g n
    show _ ∧ _ ∧ _ ∧ _ ≤ endV (tpV g) ∧ _
    rw [tp_end]; exact this
theorem grow_law (g : Gr) {off : Int} (o0 : 0 ≤ off) (o1 : off ≤ 30000000) (z : Int) : phV (growE g off) (z + 1) ≤ phV (growE g off) z + (growE g off).gh ∧ fhV (growE g off) (z + 1) ≤ fhV (growE g off) z + (growE g off).gh ∧ plV (growE g off) z ≤ plV (growE g off) (z + 1) ∧ flV (growE g off) z ≤ flV (growE g off) (z + 1) := by
  have hv := grow_valid g o0 o1
  have hg := hv.g
  have hgh : 30000 ≤ (growE g off).gh := by show 30000 ≤ 30000 + pickV g.off 2 % 10001; omega
  have s1 := (tp_rise g).lift (off := off) |>.step (by decide) (by decide) z
  have s2 := (tf_rise g).lift (off := off) |>.step (by decide) (by decide) z
  have s3 := (tp_rise g).step (by decide) (by decide) z
  have s4 := (tf_rise g).step (by decide) (by decide) z
  have f : fhV (growE g off) (z + 1) ≤ fhV (growE g off) z + (growE g off).gh := by
    unfold fhV
    refine upV_step hg.2.1 hg.1 _ _ _ ?_
    have := s2.2.2
    show (rangeP (lift off (tfV g)) (z + 1)).2 ≤ (rangeP (lift off (tfV g)) z).2 + _
    omega
  have u : upV (growE g off).gl (growE g off).gh (pointsV (growE g off).bottom (growE g off).reps (growE g off).ph 2) (z + 1) (rangeP (growE g off).ph (z + 1)).2 ≤ upV (growE g off).gl (growE g off).gh (pointsV (growE g off).bottom (growE g off).reps (growE g off).ph 2) z (rangeP (growE g off).ph z).2 + (growE g off).gh := by
    refine upV_step hg.2.1 hg.1 _ _ _ ?_
    have := s1.2.2
    show (rangeP (lift off (tpV g)) (z + 1)).2 ≤ (rangeP (lift off (tpV g)) z).2 + _
    omega
  have p : plV (growE g off) z ≤ plV (growE g off) (z + 1) := by
    unfold plV
    have := loV_step (z := z) hg.2.1 hg.1 (pointsV (growE g off).bottom (growE g off).reps (growE g off).pl 1) (rangeP (growE g off).pl z).1 (rangeP (growE g off).pl (z + 1)).1 s3.1.1
    omega
  refine ⟨by unfold phV; omega, f, p, ?_⟩
  unfold flV
  have := loV_step (z := z) hg.2.1 hg.1 (pointsV (growE g off).bottom (growE g off).reps (growE g off).fl 3) (rangeP (growE g off).fl z).1 (rangeP (growE g off).fl (z + 1)).1 s4.1.1
  omega
end Go.Proofs.Ytcglpbchejkolaa
