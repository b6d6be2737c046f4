/- Texts laid into one: XT2 XV XW XX Ac XA XS3 XT3 XB1. -/
import Derived.Test.YtcglpbchejkolaaChecks7
/- What is to be shown of each function, as the executor has it. Printed by trees.py. -/
namespace Go.Proofs.Ytcglpbchejkolaa
noncomputable def flcheck : List (Nat × Func) := [(69, Try.f69)]
theorem fxcheck : ∀ p ∈ flcheck, FnOK p := fns_cons ⟨Try.func69, ⟨_, Try.func69, by decide, rfl⟩⟩ (fns_nil)
noncomputable def ccheck : Cx := tab2.only [60, 18, 21] (fun r => match r with
  | 4 => [.blk 2000005]
  | _ => []) flcheck 1 [] (fun _ => none)
def tcheck : Tree :=
  (.split (.not (.and (.cmp .le (.lit 1) (.var 0)) (.cmp .le (.var 0) (.lit 1048576)))) (.ret [(.int (.lit 2))]) (.split (.cmp .lt (.var 5) (.lit 0)) (.ret [(.int (.lit 2))]) (.split (.cmp .lt (.var 6) (.var 5)) (.ret [(.int (.lit 2))]) (.split (.cmp .lt (.lit 40000) (.var 6)) (.ret [(.int (.lit 2))]) (.dfn .nil (.dfn .nil (.dfn .nil (.dfn .nil (.dfn .nil (.call 18 [(.arr 44 (.var 1)), (.int (.lit 1048576)), (.int (.lit 68719476736))] (.split (.cmp .ne (.var 13) (.lit 0)) (.ret [(.int (.var 13))]) (.dfn .nil (.call 18 [(.arr 44 (.var 2)), (.int (.lit 1048576)), (.int (.lit 68719476736))] (.split (.cmp .ne (.var 15) (.lit 0)) (.ret [(.int (.var 15))]) (.dfn .nil (.call 18 [(.arr 44 (.var 3)), (.int (.lit 1048576)), (.int (.lit 68719476736))] (.split (.cmp .ne (.var 17) (.lit 0)) (.ret [(.int (.var 17))]) (.dfn .nil (.call 18 [(.arr 44 (.var 4)), (.int (.lit 1048576)), (.int (.lit 68719476736))] (.split (.cmp .ne (.var 19) (.lit 0)) (.ret [(.int (.var 19))]) (.call 21 [(.arr 44 (.var 2)), (.arr 44 (.var 1))] (.split (.not (.of (.var 20))) (.ret [(.int (.lit 12))]) (.call 21 [(.arr 44 (.var 4)), (.arr 44 (.var 3))] (.split (.not (.of (.var 21))) (.ret [(.int (.lit 12))]) (.call 21 [(.arr 44 (.var 4)), (.arr 44 (.var 1))] (.split (.not (.of (.var 22))) (.ret [(.int (.lit 12))]) (.split (.cmp .lt (.lit 24) (.len (.var 7))) (.ret [(.int (.lit 8))]) (.loop [.int, .int] [(.int (.lit 0)), (.int (.lit 0))] (.split (.cmp .lt (.var 24) (.len (.var 7))) (.ob (.cmp .le (.lit 0) (.var 24)) (.ob (.cmp .lt (.var 24) (.len (.var 7))) (.split (.cmp .lt (.cell (.var 7) (.var 24) 0) (.lit 1)) (.ret [(.int (.lit 4))]) (.split (.cmp .le (.lit 5) (.cell (.var 7) (.var 24) 0)) (.ret [(.int (.lit 4))]) (.split (.not (.and (.cmp .le (.lit 0) (.cell (.var 7) (.var 24) 1)) (.cmp .le (.cell (.var 7) (.var 24) 1) (.var 0)))) (.ret [(.int (.lit 2))]) (.split (.not (.and (.cmp .le (.lit 0) (.cell (.var 7) (.var 24) 2)) (.cmp .le (.cell (.var 7) (.var 24) 2) (.lit 68719476736)))) (.ret [(.int (.lit 2))]) (.back 0 [(.int (.var 23)), (.int (.add (.var 24) (.lit 1)))]))))))) (.ret [(.int (.lit 0))]))))))))))))))))))))))))))))))
noncomputable def crcheck : Cx := tab2.only [19, 77] (fun _ => []) [] 0 [] (fun _ => none)
def trcheck : Tree :=
  (.split (.cmp .lt (.var 0) (.lit 1)) (.ret [(.int (.lit 2))]) (.split (.cmp .lt (.lit 1048576) (.var 0)) (.ret [(.int (.lit 2))]) (.split (.cmp .lt (.var 5) (.lit 0)) (.ret [(.int (.lit 2))]) (.split (.cmp .lt (.var 6) (.var 5)) (.ret [(.int (.lit 2))]) (.split (.cmp .lt (.lit 40000) (.var 6)) (.ret [(.int (.lit 2))]) (.arr [[(.arr 44 (.var 1))], [(.arr 44 (.var 2))], [(.arr 44 (.var 3))], [(.arr 44 (.var 4))]] (.loop [.int, .int] [(.int (.lit 0)), (.int (.lit 0))] (.split (.cmp .lt (.var 10) (.len (.var 8))) (.ob (.cmp .le (.lit 0) (.var 10)) (.ob (.cmp .lt (.var 10) (.len (.var 8))) (.call 19 [(.arr 44 (.cell (.var 8) (.var 10) 0)), (.int (.lit 1048576)), (.int (.lit 68719476736))] (.split (.cmp .ne (.var 11) (.lit 0)) (.ret [(.int (.var 11))]) (.back 0 [(.int (.var 9)), (.int (.add (.var 10) (.lit 1)))]))))) (.call 77 [(.arr 44 (.var 2)), (.arr 44 (.var 1))] (.split (.not (.of (.var 11))) (.ret [(.int (.lit 12))]) (.call 77 [(.arr 44 (.var 4)), (.arr 44 (.var 3))] (.split (.not (.of (.var 12))) (.ret [(.int (.lit 12))]) (.call 77 [(.arr 44 (.var 4)), (.arr 44 (.var 1))] (.split (.not (.of (.var 13))) (.ret [(.int (.lit 12))]) (.split (.cmp .lt (.lit 24) (.len (.var 7))) (.ret [(.int (.lit 8))]) (.loop [.int, .int] [(.int (.var 9)), (.int (.lit 0))] (.split (.cmp .lt (.var 15) (.len (.var 7))) (.ob (.cmp .le (.lit 0) (.var 15)) (.ob (.cmp .lt (.var 15) (.len (.var 7))) (.split (.cmp .lt (.cell (.var 7) (.var 15) 0) (.lit 1)) (.ret [(.int (.lit 4))]) (.split (.cmp .lt (.lit 4) (.cell (.var 7) (.var 15) 0)) (.ret [(.int (.lit 4))]) (.split (.cmp .lt (.cell (.var 7) (.var 15) 1) (.lit 0)) (.ret [(.int (.lit 2))]) (.split (.cmp .lt (.var 0) (.cell (.var 7) (.var 15) 1)) (.ret [(.int (.lit 2))]) (.split (.cmp .lt (.cell (.var 7) (.var 15) 2) (.lit 0)) (.ret [(.int (.lit 2))]) (.split (.cmp .lt (.lit 68719476736) (.cell (.var 7) (.var 15) 2)) (.ret [(.int (.lit 2))]) (.back 1 [(.int (.var 14)), (.int (.add (.var 15) (.lit 1)))]))))))))) (.ret [(.int (.lit 0))]))))))))))))))))))
noncomputable def cclone : Cx := tab2.only [] (fun _ => []) [] 0 [] (fun _ => none)
def tclone : Tree :=
  (.dfn .nil (.both (.split (.cmp .eq (.len (.var 0)) (.lit 0)) (.dfn .nil (.ret [(.cnt 44 (.var 2))])) (.arr [] (.ob (.cmp .le (.mul (.add (.len (.var 2)) (.len (.var 0))) (.lit 16)) (.lit 140737488355328)) (.cat (.var 2) (.var 0) (.ret [(.cnt 44 (.var 3))]))))) (.arr [] (.ob (.cmp .le (.mul (.add (.len (.var 2)) (.len (.var 0))) (.lit 16)) (.lit 140737488355328)) (.cat (.var 2) (.var 0) (.ret [(.cnt 44 (.var 3))]))))))
noncomputable def crclone : Cx := tab2.only [] (fun _ => []) [] 0 [] (fun _ => none)
def trclone : Tree :=
  (.dfn .nil (.both (.split (.cmp .eq (.len (.var 0)) (.lit 0)) (.dfn .nil (.ret [(.cnt 57 (.var 2))])) (.arr [] (.ob (.cmp .le (.mul (.add (.len (.var 2)) (.len (.var 0))) (.lit 24)) (.lit 140737488355328)) (.cat (.var 2) (.var 0) (.ret [(.cnt 57 (.var 3))]))))) (.arr [] (.ob (.cmp .le (.mul (.add (.len (.var 2)) (.len (.var 0))) (.lit 24)) (.lit 140737488355328)) (.cat (.var 2) (.var 0) (.ret [(.cnt 57 (.var 3))]))))))
noncomputable def flpoints : List (Nat × Func) := [(126, Try.f126), (140, Try.f140), (127, Try.f127)]
theorem fxpoints : ∀ p ∈ flpoints, FnOK p := fns_cons ⟨Try.func126, ⟨_, Try.func126, by decide, rfl⟩⟩ (fns_cons ⟨Try.func140, ⟨_, Try.func140, by decide, rfl⟩⟩ (fns_cons ⟨Try.func127, ⟨_, Try.func127, by decide, rfl⟩⟩ (fns_nil)))
noncomputable def cpoints : Cx := tab2.only [99] (fun r => match r with
  | 1500005 => [.vec 11]
  | _ => []) flpoints 3 [] (fun _ => none)
def tpoints : Tree :=
  (.dfn .nil (.call 99 [(.arr 44 (.var 8))] (.arr [] (.dfn .nil (.loop [.int, .int] [(.int (.lit 0)), (.int (.lit 0))] (.split (.cmp .lt (.var 15) (.len (.var 11))) (.ob (.cmp .le (.lit 0) (.var 15)) (.ob (.cmp .lt (.var 15) (.len (.var 11))) (.split (.cmp .lt (.var 0) (.cell (.var 11) (.var 15) 0)) (.loop [.int, .int, (.vec 44)] [(.int (.var 15)), (.int (.add (.var 15) (.lit 1))), (.cnt 44 (.var 11))] (.split (.cmp .lt (.var 17) (.len (.var 18))) (.ob (.cmp .le (.lit 0) (.var 17)) (.ob (.cmp .lt (.var 17) (.len (.var 18))) (.split (.not (.cmp .lt (.var 0) (.cell (.var 18) (.var 17) 0))) (.ob (.cmp .le (.lit 0) (.var 16)) (.ob (.cmp .lt (.var 16) (.len (.var 18))) (.upd (.var 18) (.var 16) 0 [(.int (.cell (.var 18) (.var 17) 0)), (.int (.cell (.var 18) (.var 17) 1))] (.back 1 [(.int (.add (.var 16) (.lit 1))), (.int (.add (.var 17) (.lit 1))), (.cnt 44 (.var 19))])))) (.back 1 [(.int (.var 16)), (.int (.add (.var 17) (.lit 1))), (.cnt 44 (.var 18))])))) (.ob (.cmp .le (.lit 0) (.var 16)) (.ob (.cmp .le (.var 16) (.len (.var 18))) (.mk (.sub (.len (.var 18)) (.var 16)) [(.int (.lit 0)), (.int (.lit 0))] (.cat (.sub3 (.var 18) (.lit 0) (.var 16) 0) (.var 19) (.ob (.cmp .le (.lit 0) (.var 16)) (.ob (.cmp .le (.var 16) (.len (.var 20))) (.cat (.sub3 (.var 20) (.lit 0) (.var 16) 0) .nil (.loop [(.vec 44), .int] [(.cnt 44 (.var 21)), (.int (.lit 0))] (.split (.cmp .lt (.var 23) (.len (.var 7))) (.ob (.cmp .le (.lit 0) (.var 23)) (.ob (.cmp .lt (.var 23) (.len (.var 7))) (.split (.cmp .eq (.cell (.var 7) (.var 23) 0) (.var 9)) (.arr [[(.int (.cell (.var 7) (.var 23) 1)), (.int (.cell (.var 7) (.var 23) 2))]] (.ob (.cmp .le (.mul (.add (.len (.var 22)) (.len (.var 24))) (.lit 16)) (.lit 140737488355328)) (.cat (.var 22) (.var 24) (.back 2 [(.cnt 44 (.var 25)), (.int (.add (.var 23) (.lit 1)))])))) (.back 2 [(.cnt 44 (.var 22)), (.int (.add (.var 23) (.lit 1)))])))) (.ret [(.cnt 44 (.var 22))])))))))))))) (.back 0 [(.int (.var 14)), (.int (.add (.var 15) (.lit 1)))])))) (.loop [(.vec 44), .int] [(.cnt 44 (.var 11)), (.int (.lit 0))] (.split (.cmp .lt (.var 17) (.len (.var 7))) (.ob (.cmp .le (.lit 0) (.var 17)) (.ob (.cmp .lt (.var 17) (.len (.var 7))) (.split (.cmp .eq (.cell (.var 7) (.var 17) 0) (.var 9)) (.arr [[(.int (.cell (.var 7) (.var 17) 1)), (.int (.cell (.var 7) (.var 17) 2))]] (.ob (.cmp .le (.mul (.add (.len (.var 16)) (.len (.var 18))) (.lit 16)) (.lit 140737488355328)) (.cat (.var 16) (.var 18) (.back 1 [(.cnt 44 (.var 19)), (.int (.add (.var 17) (.lit 1)))])))) (.back 1 [(.cnt 44 (.var 16)), (.int (.add (.var 17) (.lit 1)))])))) (.ret [(.cnt 44 (.var 16))])))))))))
noncomputable def crpoints : Cx := tab2.only [] (fun r => match r with
  | 50011 => [.vec 14]
  | _ => []) [] 0 [] (fun _ => none)
def trpoints : Tree :=
  (.dfn .nil (.dfn .nil (.loop [(.vec 44), .int] [(.cnt 44 (.var 11)), (.int (.lit 0))] (.split (.cmp .lt (.var 13) (.len (.var 8))) (.ob (.cmp .le (.lit 0) (.var 13)) (.ob (.cmp .lt (.var 13) (.len (.var 8))) (.split (.cmp .le (.cell (.var 8) (.var 13) 0) (.var 0)) (.ob (.cmp .lt (.var 13) (.len (.var 8))) (.arr [[(.int (.cell (.var 8) (.var 13) 0)), (.int (.cell (.var 8) (.var 13) 1))]] (.ob (.cmp .le (.mul (.add (.len (.var 12)) (.len (.var 14))) (.lit 16)) (.lit 140737488355328)) (.cat (.var 12) (.var 14) (.back 0 [(.cnt 44 (.var 15)), (.int (.add (.var 13) (.lit 1)))]))))) (.back 0 [(.cnt 44 (.var 12)), (.int (.add (.var 13) (.lit 1)))])))) (.loop [(.vec 44), .int] [(.cnt 44 (.var 12)), (.int (.lit 0))] (.split (.cmp .lt (.var 15) (.len (.var 7))) (.ob (.cmp .le (.lit 0) (.var 15)) (.ob (.cmp .lt (.var 15) (.len (.var 7))) (.split (.cmp .eq (.cell (.var 7) (.var 15) 0) (.var 9)) (.ob (.cmp .lt (.var 15) (.len (.var 7))) (.ob (.cmp .lt (.var 15) (.len (.var 7))) (.arr [[(.int (.cell (.var 7) (.var 15) 1)), (.int (.cell (.var 7) (.var 15) 2))]] (.ob (.cmp .le (.mul (.add (.len (.var 14)) (.len (.var 16))) (.lit 16)) (.lit 140737488355328)) (.cat (.var 14) (.var 16) (.back 1 [(.cnt 44 (.var 17)), (.int (.add (.var 15) (.lit 1)))])))))) (.back 1 [(.cnt 44 (.var 14)), (.int (.add (.var 15) (.lit 1)))])))) (.ret [(.cnt 44 (.var 14))])))))))
noncomputable def flbounded : List (Nat × Func) := [(124, Try.f124), (125, Try.f125)]
theorem fxbounded : ∀ p ∈ flbounded, FnOK p := fns_cons ⟨Try.func124, ⟨_, Try.func124, by decide, rfl⟩⟩ (fns_cons ⟨Try.func125, ⟨_, Try.func125, by decide, rfl⟩⟩ (fns_nil))
noncomputable def cbounded : Cx := tab2.only [] (fun _ => []) flbounded 2 [] (fun _ => none)
def tbounded : Tree :=
  (.arr [] (.loop [.int, .int] [(.int (.var 10)), (.int (.lit 0))] (.split (.cmp .lt (.var 13) (.len (.var 8))) (.ob (.cmp .le (.lit 0) (.var 13)) (.ob (.cmp .lt (.var 13) (.len (.var 8))) (.split (.cmp .lt (.var 9) (.cell (.var 8) (.var 13) 0)) (.ob (.and (.cmp .le (.lit (-9223372036854775808)) (.sub (.var 9) (.cell (.var 8) (.var 13) 0))) (.cmp .le (.sub (.var 9) (.cell (.var 8) (.var 13) 0)) (.lit 9223372036854775807))) (.ob (.and (.cmp .le (.lit (-9223372036854775808)) (.mul (.var 5) (.sub (.var 9) (.cell (.var 8) (.var 13) 0)))) (.cmp .le (.mul (.var 5) (.sub (.var 9) (.cell (.var 8) (.var 13) 0))) (.lit 9223372036854775807))) (.ob (.and (.cmp .le (.lit (-9223372036854775808)) (.add (.cell (.var 8) (.var 13) 1) (.mul (.var 5) (.sub (.var 9) (.cell (.var 8) (.var 13) 0))))) (.cmp .le (.add (.cell (.var 8) (.var 13) 1) (.mul (.var 5) (.sub (.var 9) (.cell (.var 8) (.var 13) 0)))) (.lit 9223372036854775807))) (.ob (.and (.cmp .le (.lit (-9223372036854775808)) (.min (.var 12) (.add (.cell (.var 8) (.var 13) 1) (.mul (.var 5) (.sub (.var 9) (.cell (.var 8) (.var 13) 0)))))) (.cmp .le (.min (.var 12) (.add (.cell (.var 8) (.var 13) 1) (.mul (.var 5) (.sub (.var 9) (.cell (.var 8) (.var 13) 0))))) (.lit 9223372036854775807))) (.back 0 [(.int (.min (.var 12) (.add (.cell (.var 8) (.var 13) 1) (.mul (.var 5) (.sub (.var 9) (.cell (.var 8) (.var 13) 0)))))), (.int (.add (.var 13) (.lit 1)))]))))) (.ob (.and (.cmp .le (.lit (-9223372036854775808)) (.sub (.var 9) (.cell (.var 8) (.var 13) 0))) (.cmp .le (.sub (.var 9) (.cell (.var 8) (.var 13) 0)) (.lit 9223372036854775807))) (.ob (.and (.cmp .le (.lit (-9223372036854775808)) (.mul (.var 6) (.sub (.var 9) (.cell (.var 8) (.var 13) 0)))) (.cmp .le (.mul (.var 6) (.sub (.var 9) (.cell (.var 8) (.var 13) 0))) (.lit 9223372036854775807))) (.ob (.and (.cmp .le (.lit (-9223372036854775808)) (.add (.cell (.var 8) (.var 13) 1) (.mul (.var 6) (.sub (.var 9) (.cell (.var 8) (.var 13) 0))))) (.cmp .le (.add (.cell (.var 8) (.var 13) 1) (.mul (.var 6) (.sub (.var 9) (.cell (.var 8) (.var 13) 0)))) (.lit 9223372036854775807))) (.ob (.and (.cmp .le (.lit (-9223372036854775808)) (.min (.var 12) (.add (.cell (.var 8) (.var 13) 1) (.mul (.var 6) (.sub (.var 9) (.cell (.var 8) (.var 13) 0)))))) (.cmp .le (.min (.var 12) (.add (.cell (.var 8) (.var 13) 1) (.mul (.var 6) (.sub (.var 9) (.cell (.var 8) (.var 13) 0))))) (.lit 9223372036854775807))) (.back 0 [(.int (.min (.var 12) (.add (.cell (.var 8) (.var 13) 1) (.mul (.var 6) (.sub (.var 9) (.cell (.var 8) (.var 13) 0)))))), (.int (.add (.var 13) (.lit 1)))])))))))) (.ret [(.int (.var 12))]))))
noncomputable def flraised : List (Nat × Func) := [(124, Try.f124), (128, Try.f128)]
theorem fxraised : ∀ p ∈ flraised, FnOK p := fns_cons ⟨Try.func124, ⟨_, Try.func124, by decide, rfl⟩⟩ (fns_cons ⟨Try.func128, ⟨_, Try.func128, by decide, rfl⟩⟩ (fns_nil))
noncomputable def craised : Cx := tab2.only [] (fun _ => []) flraised 2 [] (fun _ => none)
def traised : Tree :=
  (.arr [] (.loop [.int, .int] [(.int (.var 10)), (.int (.lit 0))] (.split (.cmp .lt (.var 13) (.len (.var 8))) (.ob (.cmp .le (.lit 0) (.var 13)) (.ob (.cmp .lt (.var 13) (.len (.var 8))) (.split (.cmp .lt (.var 9) (.cell (.var 8) (.var 13) 0)) (.ob (.and (.cmp .le (.lit (-9223372036854775808)) (.sub (.var 9) (.cell (.var 8) (.var 13) 0))) (.cmp .le (.sub (.var 9) (.cell (.var 8) (.var 13) 0)) (.lit 9223372036854775807))) (.ob (.and (.cmp .le (.lit (-9223372036854775808)) (.mul (.var 6) (.sub (.var 9) (.cell (.var 8) (.var 13) 0)))) (.cmp .le (.mul (.var 6) (.sub (.var 9) (.cell (.var 8) (.var 13) 0))) (.lit 9223372036854775807))) (.ob (.and (.cmp .le (.lit (-9223372036854775808)) (.add (.cell (.var 8) (.var 13) 1) (.mul (.var 6) (.sub (.var 9) (.cell (.var 8) (.var 13) 0))))) (.cmp .le (.add (.cell (.var 8) (.var 13) 1) (.mul (.var 6) (.sub (.var 9) (.cell (.var 8) (.var 13) 0)))) (.lit 9223372036854775807))) (.ob (.and (.cmp .le (.lit (-9223372036854775808)) (.max (.var 12) (.add (.cell (.var 8) (.var 13) 1) (.mul (.var 6) (.sub (.var 9) (.cell (.var 8) (.var 13) 0)))))) (.cmp .le (.max (.var 12) (.add (.cell (.var 8) (.var 13) 1) (.mul (.var 6) (.sub (.var 9) (.cell (.var 8) (.var 13) 0))))) (.lit 9223372036854775807))) (.back 0 [(.int (.max (.var 12) (.add (.cell (.var 8) (.var 13) 1) (.mul (.var 6) (.sub (.var 9) (.cell (.var 8) (.var 13) 0)))))), (.int (.add (.var 13) (.lit 1)))]))))) (.ob (.and (.cmp .le (.lit (-9223372036854775808)) (.sub (.var 9) (.cell (.var 8) (.var 13) 0))) (.cmp .le (.sub (.var 9) (.cell (.var 8) (.var 13) 0)) (.lit 9223372036854775807))) (.ob (.and (.cmp .le (.lit (-9223372036854775808)) (.mul (.var 5) (.sub (.var 9) (.cell (.var 8) (.var 13) 0)))) (.cmp .le (.mul (.var 5) (.sub (.var 9) (.cell (.var 8) (.var 13) 0))) (.lit 9223372036854775807))) (.ob (.and (.cmp .le (.lit (-9223372036854775808)) (.add (.cell (.var 8) (.var 13) 1) (.mul (.var 5) (.sub (.var 9) (.cell (.var 8) (.var 13) 0))))) (.cmp .le (.add (.cell (.var 8) (.var 13) 1) (.mul (.var 5) (.sub (.var 9) (.cell (.var 8) (.var 13) 0)))) (.lit 9223372036854775807))) (.ob (.and (.cmp .le (.lit (-9223372036854775808)) (.max (.var 12) (.add (.cell (.var 8) (.var 13) 1) (.mul (.var 5) (.sub (.var 9) (.cell (.var 8) (.var 13) 0)))))) (.cmp .le (.max (.var 12) (.add (.cell (.var 8) (.var 13) 1) (.mul (.var 5) (.sub (.var 9) (.cell (.var 8) (.var 13) 0))))) (.lit 9223372036854775807))) (.back 0 [(.int (.max (.var 12) (.add (.cell (.var 8) (.var 13) 1) (.mul (.var 5) (.sub (.var 9) (.cell (.var 8) (.var 13) 0)))))), (.int (.add (.var 13) (.lit 1)))])))))))) (.ret [(.int (.var 12))]))))
noncomputable def crupper : Cx := tab2.only [] (fun _ => []) [] 0 [] (fun _ => none)
def trupper : Tree :=
  (.loop [.int, .int] [(.int (.var 10)), (.int (.lit 0))] (.split (.cmp .lt (.var 12) (.len (.var 8))) (.ob (.cmp .le (.lit 0) (.var 12)) (.ob (.cmp .lt (.var 12) (.len (.var 8))) (.split (.cmp .le (.cell (.var 8) (.var 12) 0) (.var 9)) (.ob (.cmp .lt (.var 12) (.len (.var 8))) (.ob (.cmp .lt (.var 12) (.len (.var 8))) (.ob (.and (.cmp .le (.lit (-9223372036854775808)) (.sub (.var 9) (.cell (.var 8) (.var 12) 0))) (.cmp .le (.sub (.var 9) (.cell (.var 8) (.var 12) 0)) (.lit 9223372036854775807))) (.ob (.and (.cmp .le (.lit (-9223372036854775808)) (.mul (.var 6) (.sub (.var 9) (.cell (.var 8) (.var 12) 0)))) (.cmp .le (.mul (.var 6) (.sub (.var 9) (.cell (.var 8) (.var 12) 0))) (.lit 9223372036854775807))) (.ob (.and (.cmp .le (.lit (-9223372036854775808)) (.add (.cell (.var 8) (.var 12) 1) (.mul (.var 6) (.sub (.var 9) (.cell (.var 8) (.var 12) 0))))) (.cmp .le (.add (.cell (.var 8) (.var 12) 1) (.mul (.var 6) (.sub (.var 9) (.cell (.var 8) (.var 12) 0)))) (.lit 9223372036854775807))) (.ob (.and (.cmp .le (.lit (-9223372036854775808)) (.min (.var 11) (.add (.cell (.var 8) (.var 12) 1) (.mul (.var 6) (.sub (.var 9) (.cell (.var 8) (.var 12) 0)))))) (.cmp .le (.min (.var 11) (.add (.cell (.var 8) (.var 12) 1) (.mul (.var 6) (.sub (.var 9) (.cell (.var 8) (.var 12) 0))))) (.lit 9223372036854775807))) (.back 0 [(.int (.min (.var 11) (.add (.cell (.var 8) (.var 12) 1) (.mul (.var 6) (.sub (.var 9) (.cell (.var 8) (.var 12) 0)))))), (.int (.add (.var 12) (.lit 1)))]))))))) (.ob (.cmp .lt (.var 12) (.len (.var 8))) (.ob (.cmp .lt (.var 12) (.len (.var 8))) (.ob (.and (.cmp .le (.lit (-9223372036854775808)) (.sub (.cell (.var 8) (.var 12) 0) (.var 9))) (.cmp .le (.sub (.cell (.var 8) (.var 12) 0) (.var 9)) (.lit 9223372036854775807))) (.ob (.and (.cmp .le (.lit (-9223372036854775808)) (.mul (.var 5) (.sub (.cell (.var 8) (.var 12) 0) (.var 9)))) (.cmp .le (.mul (.var 5) (.sub (.cell (.var 8) (.var 12) 0) (.var 9))) (.lit 9223372036854775807))) (.ob (.and (.cmp .le (.lit (-9223372036854775808)) (.sub (.cell (.var 8) (.var 12) 1) (.mul (.var 5) (.sub (.cell (.var 8) (.var 12) 0) (.var 9))))) (.cmp .le (.sub (.cell (.var 8) (.var 12) 1) (.mul (.var 5) (.sub (.cell (.var 8) (.var 12) 0) (.var 9)))) (.lit 9223372036854775807))) (.ob (.and (.cmp .le (.lit (-9223372036854775808)) (.min (.var 11) (.sub (.cell (.var 8) (.var 12) 1) (.mul (.var 5) (.sub (.cell (.var 8) (.var 12) 0) (.var 9)))))) (.cmp .le (.min (.var 11) (.sub (.cell (.var 8) (.var 12) 1) (.mul (.var 5) (.sub (.cell (.var 8) (.var 12) 0) (.var 9))))) (.lit 9223372036854775807))) (.back 0 [(.int (.min (.var 11) (.sub (.cell (.var 8) (.var 12) 1) (.mul (.var 5) (.sub (.cell (.var 8) (.var 12) 0) (.var 9)))))), (.int (.add (.var 12) (.lit 1)))])))))))))) (.ret [(.int (.var 11))])))
noncomputable def crlower : Cx := tab2.only [] (fun _ => []) [] 0 [] (fun _ => none)
def trlower : Tree :=
  (.loop [.int, .int] [(.int (.var 10)), (.int (.lit 0))] (.split (.cmp .lt (.var 12) (.len (.var 8))) (.ob (.cmp .le (.lit 0) (.var 12)) (.ob (.cmp .lt (.var 12) (.len (.var 8))) (.split (.cmp .le (.cell (.var 8) (.var 12) 0) (.var 9)) (.ob (.cmp .lt (.var 12) (.len (.var 8))) (.ob (.cmp .lt (.var 12) (.len (.var 8))) (.ob (.and (.cmp .le (.lit (-9223372036854775808)) (.sub (.var 9) (.cell (.var 8) (.var 12) 0))) (.cmp .le (.sub (.var 9) (.cell (.var 8) (.var 12) 0)) (.lit 9223372036854775807))) (.ob (.and (.cmp .le (.lit (-9223372036854775808)) (.mul (.var 5) (.sub (.var 9) (.cell (.var 8) (.var 12) 0)))) (.cmp .le (.mul (.var 5) (.sub (.var 9) (.cell (.var 8) (.var 12) 0))) (.lit 9223372036854775807))) (.ob (.and (.cmp .le (.lit (-9223372036854775808)) (.add (.cell (.var 8) (.var 12) 1) (.mul (.var 5) (.sub (.var 9) (.cell (.var 8) (.var 12) 0))))) (.cmp .le (.add (.cell (.var 8) (.var 12) 1) (.mul (.var 5) (.sub (.var 9) (.cell (.var 8) (.var 12) 0)))) (.lit 9223372036854775807))) (.ob (.and (.cmp .le (.lit (-9223372036854775808)) (.max (.var 11) (.add (.cell (.var 8) (.var 12) 1) (.mul (.var 5) (.sub (.var 9) (.cell (.var 8) (.var 12) 0)))))) (.cmp .le (.max (.var 11) (.add (.cell (.var 8) (.var 12) 1) (.mul (.var 5) (.sub (.var 9) (.cell (.var 8) (.var 12) 0))))) (.lit 9223372036854775807))) (.back 0 [(.int (.max (.var 11) (.add (.cell (.var 8) (.var 12) 1) (.mul (.var 5) (.sub (.var 9) (.cell (.var 8) (.var 12) 0)))))), (.int (.add (.var 12) (.lit 1)))]))))))) (.ob (.cmp .lt (.var 12) (.len (.var 8))) (.ob (.cmp .lt (.var 12) (.len (.var 8))) (.ob (.and (.cmp .le (.lit (-9223372036854775808)) (.sub (.cell (.var 8) (.var 12) 0) (.var 9))) (.cmp .le (.sub (.cell (.var 8) (.var 12) 0) (.var 9)) (.lit 9223372036854775807))) (.ob (.and (.cmp .le (.lit (-9223372036854775808)) (.mul (.var 6) (.sub (.cell (.var 8) (.var 12) 0) (.var 9)))) (.cmp .le (.mul (.var 6) (.sub (.cell (.var 8) (.var 12) 0) (.var 9))) (.lit 9223372036854775807))) (.ob (.and (.cmp .le (.lit (-9223372036854775808)) (.sub (.cell (.var 8) (.var 12) 1) (.mul (.var 6) (.sub (.cell (.var 8) (.var 12) 0) (.var 9))))) (.cmp .le (.sub (.cell (.var 8) (.var 12) 1) (.mul (.var 6) (.sub (.cell (.var 8) (.var 12) 0) (.var 9)))) (.lit 9223372036854775807))) (.ob (.and (.cmp .le (.lit (-9223372036854775808)) (.max (.var 11) (.sub (.cell (.var 8) (.var 12) 1) (.mul (.var 6) (.sub (.cell (.var 8) (.var 12) 0) (.var 9)))))) (.cmp .le (.max (.var 11) (.sub (.cell (.var 8) (.var 12) 1) (.mul (.var 6) (.sub (.cell (.var 8) (.var 12) 0) (.var 9))))) (.lit 9223372036854775807))) (.back 0 [(.int (.max (.var 11) (.sub (.cell (.var 8) (.var 12) 1) (.mul (.var 6) (.sub (.cell (.var 8) (.var 12) 0) (.var 9)))))), (.int (.add (.var 12) (.lit 1)))])))))))))) (.ret [(.int (.var 11))])))
noncomputable def cboth : Cx := tab2.only [117, 116, 118, 65] (fun _ => []) [] 0 [] (fun _ => none)
def tboth : Tree :=
  (.call 117 [(.int (.var 0)), (.arr 44 (.var 1)), (.arr 44 (.var 2)), (.arr 44 (.var 3)), (.arr 44 (.var 4)), (.int (.var 5)), (.int (.var 6)), (.arr 57 (.var 7)), (.arr 44 (.var 4)), (.int (.lit 4))] (.call 65 [(.arr 44 (.var 4)), (.int (.var 8))] (.call 116 [(.int (.var 0)), (.arr 44 (.var 1)), (.arr 44 (.var 2)), (.arr 44 (.var 3)), (.arr 44 (.var 4)), (.int (.var 5)), (.int (.var 6)), (.arr 57 (.var 7)), (.arr 44 (.var 9)), (.int (.var 8)), (.int (.var 11))] (.call 117 [(.int (.var 0)), (.arr 44 (.var 1)), (.arr 44 (.var 2)), (.arr 44 (.var 3)), (.arr 44 (.var 4)), (.int (.var 5)), (.int (.var 6)), (.arr 57 (.var 7)), (.arr 44 (.var 2)), (.int (.lit 2))] (.call 65 [(.arr 44 (.var 2)), (.int (.var 8))] (.call 116 [(.int (.var 0)), (.arr 44 (.var 1)), (.arr 44 (.var 2)), (.arr 44 (.var 3)), (.arr 44 (.var 4)), (.int (.var 5)), (.int (.var 6)), (.arr 57 (.var 7)), (.arr 44 (.var 13)), (.int (.var 8)), (.int (.var 15))] (.call 117 [(.int (.var 0)), (.arr 44 (.var 1)), (.arr 44 (.var 2)), (.arr 44 (.var 3)), (.arr 44 (.var 4)), (.int (.var 5)), (.int (.var 6)), (.arr 57 (.var 7)), (.arr 44 (.var 1)), (.int (.lit 1))] (.call 65 [(.arr 44 (.var 1)), (.int (.var 8))] (.call 118 [(.int (.var 0)), (.arr 44 (.var 1)), (.arr 44 (.var 2)), (.arr 44 (.var 3)), (.arr 44 (.var 4)), (.int (.var 5)), (.int (.var 6)), (.arr 57 (.var 7)), (.arr 44 (.var 17)), (.int (.var 8)), (.int (.var 18))] (.call 117 [(.int (.var 0)), (.arr 44 (.var 1)), (.arr 44 (.var 2)), (.arr 44 (.var 3)), (.arr 44 (.var 4)), (.int (.var 5)), (.int (.var 6)), (.arr 57 (.var 7)), (.arr 44 (.var 3)), (.int (.lit 3))] (.call 65 [(.arr 44 (.var 3)), (.int (.var 8))] (.call 118 [(.int (.var 0)), (.arr 44 (.var 1)), (.arr 44 (.var 2)), (.arr 44 (.var 3)), (.arr 44 (.var 4)), (.int (.var 5)), (.int (.var 6)), (.arr 57 (.var 7)), (.arr 44 (.var 21)), (.int (.var 8)), (.int (.var 22))] (.ret [(.int (.max (.lit 0) (.var 20))), (.int (.min (.var 12) (.var 16))), (.int (.max (.max (.lit 0) (.var 20)) (.var 24))), (.int (.var 12))])))))))))))))
noncomputable def crranges : Cx := tab2.only [97, 96, 98, 72] (fun r => match r with
  | 50006 => [.blk 1, .blk 2]
  | _ => []) [] 0 [] (fun _ => none)
def trranges : Tree :=
  (.call 97 [(.int (.var 0)), (.arr 44 (.var 1)), (.arr 44 (.var 2)), (.arr 44 (.var 3)), (.arr 44 (.var 4)), (.int (.var 5)), (.int (.var 6)), (.arr 57 (.var 7)), (.arr 44 (.var 4)), (.int (.lit 4))] (.call 72 [(.arr 44 (.var 4)), (.int (.var 8))] (.call 96 [(.int (.var 0)), (.arr 44 (.var 1)), (.arr 44 (.var 2)), (.arr 44 (.var 3)), (.arr 44 (.var 4)), (.int (.var 5)), (.int (.var 6)), (.arr 57 (.var 7)), (.arr 44 (.var 9)), (.int (.var 8)), (.int (.var 11))] (.call 97 [(.int (.var 0)), (.arr 44 (.var 1)), (.arr 44 (.var 2)), (.arr 44 (.var 3)), (.arr 44 (.var 4)), (.int (.var 5)), (.int (.var 6)), (.arr 57 (.var 7)), (.arr 44 (.var 2)), (.int (.lit 2))] (.call 72 [(.arr 44 (.var 2)), (.int (.var 8))] (.call 96 [(.int (.var 0)), (.arr 44 (.var 1)), (.arr 44 (.var 2)), (.arr 44 (.var 3)), (.arr 44 (.var 4)), (.int (.var 5)), (.int (.var 6)), (.arr 57 (.var 7)), (.arr 44 (.var 13)), (.int (.var 8)), (.int (.min (.var 15) (.var 12)))] (.call 97 [(.int (.var 0)), (.arr 44 (.var 1)), (.arr 44 (.var 2)), (.arr 44 (.var 3)), (.arr 44 (.var 4)), (.int (.var 5)), (.int (.var 6)), (.arr 57 (.var 7)), (.arr 44 (.var 1)), (.int (.lit 1))] (.call 72 [(.arr 44 (.var 1)), (.int (.var 8))] (.call 98 [(.int (.var 0)), (.arr 44 (.var 1)), (.arr 44 (.var 2)), (.arr 44 (.var 3)), (.arr 44 (.var 4)), (.int (.var 5)), (.int (.var 6)), (.arr 57 (.var 7)), (.arr 44 (.var 17)), (.int (.var 8)), (.int (.max (.lit 0) (.var 18)))] (.call 97 [(.int (.var 0)), (.arr 44 (.var 1)), (.arr 44 (.var 2)), (.arr 44 (.var 3)), (.arr 44 (.var 4)), (.int (.var 5)), (.int (.var 6)), (.arr 57 (.var 7)), (.arr 44 (.var 3)), (.int (.lit 3))] (.call 72 [(.arr 44 (.var 3)), (.int (.var 8))] (.call 98 [(.int (.var 0)), (.arr 44 (.var 1)), (.arr 44 (.var 2)), (.arr 44 (.var 3)), (.arr 44 (.var 4)), (.int (.var 5)), (.int (.var 6)), (.arr 57 (.var 7)), (.arr 44 (.var 21)), (.int (.var 8)), (.int (.max (.var 20) (.var 22)))] (.ret [(.int (.var 20)), (.int (.var 16)), (.int (.var 24)), (.int (.var 12))])))))))))))))
noncomputable def casked : Cx := tab2.only [35, 60, 95] (fun _ => []) [] 0 [] (fun _ => none)
def tasked : Tree :=
  (.call 35 [(.int (.var 0)), (.arr 44 (.var 1)), (.arr 44 (.var 2)), (.arr 44 (.var 3)), (.arr 44 (.var 4)), (.int (.var 5)), (.int (.var 6)), (.arr 57 (.var 7))] (.split (.cmp .ne (.var 9) (.lit 0)) (.ret [(.int (.lit 0)), (.int (.lit 0)), (.int (.lit 0)), (.int (.lit 0))]) (.split (.not (.and (.cmp .le (.lit 0) (.var 8)) (.cmp .le (.var 8) (.var 0)))) (.ret [(.int (.lit 0)), (.int (.lit 0)), (.int (.lit 0)), (.int (.lit 0))]) (.call 95 [(.int (.var 0)), (.arr 44 (.var 1)), (.arr 44 (.var 2)), (.arr 44 (.var 3)), (.arr 44 (.var 4)), (.int (.var 5)), (.int (.var 6)), (.arr 57 (.var 7)), (.int (.var 8))] (.ret [(.int (.var 10)), (.int (.var 11)), (.int (.var 12)), (.int (.var 13))])))))
noncomputable def cpore : Cx := tab2.only [66] (fun _ => []) [] 0 [] (fun _ => none)
def tpore : Tree :=
  (.call 66 [(.int (.var 0)), (.arr 44 (.var 1)), (.arr 44 (.var 2)), (.arr 44 (.var 3)), (.arr 44 (.var 4)), (.int (.var 5)), (.int (.var 6)), (.arr 57 (.var 7)), (.int (.var 8))] (.ret [(.int (.var 9)), (.int (.var 10))]))
noncomputable def cfrac : Cx := tab2.only [66] (fun _ => []) [] 0 [] (fun _ => none)
def tfrac : Tree :=
  (.call 66 [(.int (.var 0)), (.arr 44 (.var 1)), (.arr 44 (.var 2)), (.arr 44 (.var 3)), (.arr 44 (.var 4)), (.int (.var 5)), (.int (.var 6)), (.arr 57 (.var 7)), (.int (.var 8))] (.ret [(.int (.var 11)), (.int (.var 12))]))
noncomputable def cwindow : Cx := tab2.only [66] (fun _ => []) [] 0 [] (fun _ => none)
def twindow : Tree :=
  (.call 66 [(.int (.var 0)), (.arr 44 (.var 1)), (.arr 44 (.var 2)), (.arr 44 (.var 3)), (.arr 44 (.var 4)), (.int (.var 5)), (.int (.var 6)), (.arr 57 (.var 7)), (.int (.var 8))] (.ret [(.int (.var 10)), (.int (.var 11))]))
noncomputable def crin : Cx := tab2.only [47] (fun _ => []) [] 0 [] (fun _ => none)
def trin : Tree :=
  (.split (.cmp .le (.lit 0) (.var 8)) (.split (.cmp .le (.var 8) (.var 0)) (.call 47 [(.int (.var 0)), (.arr 44 (.var 1)), (.arr 44 (.var 2)), (.arr 44 (.var 3)), (.arr 44 (.var 4)), (.int (.var 5)), (.int (.var 6)), (.arr 57 (.var 7))] (.ret [(.bool (.cmp .eq (.var 9) (.lit 0)))])) (.ret [(.bool (.lit false))])) (.ret [(.bool (.lit false))]))
noncomputable def crpore : Cx := tab2.only [67, 68] (fun _ => []) [] 0 [] (fun _ => none)
def trpore : Tree :=
  (.call 67 [(.int (.var 0)), (.arr 44 (.var 1)), (.arr 44 (.var 2)), (.arr 44 (.var 3)), (.arr 44 (.var 4)), (.int (.var 5)), (.int (.var 6)), (.arr 57 (.var 7)), (.int (.var 8))] (.split (.not (.of (.var 9))) (.ret [(.int (.lit 0)), (.int (.lit 0))]) (.call 68 [(.int (.var 0)), (.arr 44 (.var 1)), (.arr 44 (.var 2)), (.arr 44 (.var 3)), (.arr 44 (.var 4)), (.int (.var 5)), (.int (.var 6)), (.arr 57 (.var 7)), (.int (.var 8))] (.ret [(.int (.var 10)), (.int (.var 11))]))))
noncomputable def crfrac : Cx := tab2.only [67, 68] (fun _ => []) [] 0 [] (fun _ => none)
def trfrac : Tree :=
  (.call 67 [(.int (.var 0)), (.arr 44 (.var 1)), (.arr 44 (.var 2)), (.arr 44 (.var 3)), (.arr 44 (.var 4)), (.int (.var 5)), (.int (.var 6)), (.arr 57 (.var 7)), (.int (.var 8))] (.split (.not (.of (.var 9))) (.ret [(.int (.lit 0)), (.int (.lit 0))]) (.call 68 [(.int (.var 0)), (.arr 44 (.var 1)), (.arr 44 (.var 2)), (.arr 44 (.var 3)), (.arr 44 (.var 4)), (.int (.var 5)), (.int (.var 6)), (.arr 57 (.var 7)), (.int (.var 8))] (.ret [(.int (.var 12)), (.int (.var 13))]))))
noncomputable def crwindow : Cx := tab2.only [67, 68] (fun _ => []) [] 0 [] (fun _ => none)
def trwindow : Tree :=
  (.call 67 [(.int (.var 0)), (.arr 44 (.var 1)), (.arr 44 (.var 2)), (.arr 44 (.var 3)), (.arr 44 (.var 4)), (.int (.var 5)), (.int (.var 6)), (.arr 57 (.var 7)), (.int (.var 8))] (.split (.not (.of (.var 9))) (.ret [(.int (.lit 0)), (.int (.lit 0))]) (.call 68 [(.int (.var 0)), (.arr 44 (.var 1)), (.arr 44 (.var 2)), (.arr 44 (.var 3)), (.arr 44 (.var 4)), (.int (.var 5)), (.int (.var 6)), (.arr 57 (.var 7)), (.int (.var 8))] (.ret [(.int (.var 11)), (.int (.var 12))]))))
noncomputable def cmkline : Cx := tab2.only [] (fun r => match r with
  | 3 => [.blk 1]
  | 50005 => [.blk 1, .vec 4]
  | _ => []) [] 0 [] (fun _ => none)
def tmkline : Tree :=
  (.dfn .nil (.dfn .nil (.loop [.int, (.vec 44)] [(.int (.lit 0)), (.cnt 44 (.var 2))] (.ob (.and (.cmp .le (.lit (-9223372036854775808)) (.add (.var 3) (.lit 1))) (.cmp .le (.add (.var 3) (.lit 1)) (.lit 9223372036854775807))) (.split (.cmp .lt (.add (.var 3) (.lit 1)) (.len (.var 0))) (.ob (.cmp .le (.lit 0) (.var 3)) (.ob (.cmp .lt (.var 3) (.len (.var 0))) (.ob (.cmp .lt (.add (.var 3) (.lit 1)) (.len (.var 0))) (.arr [[(.int (.cell (.var 0) (.var 3) 0)), (.int (.cell (.var 0) (.add (.var 3) (.lit 1)) 0))]] (.ob (.cmp .le (.mul (.add (.len (.var 4)) (.len (.var 5))) (.lit 16)) (.lit 140737488355328)) (.cat (.var 4) (.var 5) (.ob (.and (.cmp .le (.lit (-9223372036854775808)) (.add (.var 3) (.lit 2))) (.cmp .le (.add (.var 3) (.lit 2)) (.lit 9223372036854775807))) (.ob (.and (.cmp .le (.lit (-9223372036854775808)) (.add (.var 3) (.lit 2))) (.cmp .le (.add (.var 3) (.lit 2)) (.lit 9223372036854775807))) (.back 0 [(.int (.add (.var 3) (.lit 2))), (.cnt 44 (.var 6))]))))))))) (.ret [(.cnt 44 (.var 4))]))))))
noncomputable def cshown : Cx := tab2.only [55] (fun _ => []) [] 0 [] (fun _ => none)
def tshown : Tree :=
  (.dfn .nil (.dfn .nil (.dfn .nil (.dfn .nil (.dfn .nil (.arr [[(.int (.lit 0))], [(.int (.lit 0))], [(.int (.lit 100000))], [(.int (.lit 900000000))]] (.call 55 [(.arr 2 (.var 5))] (.arr [[(.int (.lit 0))], [(.int (.lit 0))], [(.int (.lit 100000))], [(.int (.lit 1200000000))]] (.call 55 [(.arr 2 (.var 7))] (.arr [[(.int (.lit 0))], [(.int (.lit 0))], [(.int (.lit 100000))], [(.int (.lit 1500000000))]] (.call 55 [(.arr 2 (.var 9))] (.arr [[(.int (.lit 0))], [(.int (.lit 0))], [(.int (.lit 100000))], [(.int (.lit 2000000000))]] (.call 55 [(.arr 2 (.var 11))] (.dfn .nil (.ret [(.int (.lit 100000)), (.cnt 44 (.var 6)), (.cnt 44 (.var 8)), (.cnt 44 (.var 10)), (.cnt 44 (.var 12)), (.int (.lit 0)), (.int (.lit 30000)), (.cnt 57 (.var 13))])))))))))))))))
noncomputable def cawake : Cx := tab2.only [55, 56, 23, 31, 35] (fun _ => []) [] 0 [] (fun _ => none)
def tawake : Tree :=
  (.arr [[(.int (.lit 0))], [(.int (.lit 100))], [(.int (.lit 10))], [(.int (.lit 200))], [(.int (.lit 30))], [(.int (.lit 100))]] (.call 55 [(.arr 2 (.var 0))] (.call 23 [(.arr 44 (.var 1)), (.int (.lit 13))] (.split (.and (.cmp .eq (.var 2) (.lit 185)) (.cmp .eq (.var 3) (.lit 185))) (.call 56 [] (.call 31 [(.int (.var 4)), (.arr 44 (.var 5)), (.arr 44 (.var 6)), (.arr 44 (.var 7)), (.arr 44 (.var 8)), (.int (.var 9)), (.int (.var 10)), (.arr 57 (.var 11)), (.int (.lit 50000))] (.split (.and (.cmp .eq (.var 12) (.lit 600000000)) (.cmp .eq (.var 13) (.lit 750000000))) (.call 56 [] (.call 35 [(.int (.var 14)), (.arr 44 (.var 15)), (.arr 44 (.var 16)), (.arr 44 (.var 17)), (.arr 44 (.var 18)), (.int (.var 19)), (.int (.var 20)), (.arr 57 (.var 21))] (.ret [(.bool (.cmp .eq (.var 22) (.lit 0)))]))) (.ret [(.bool (.lit false))])))) (.ret [(.bool (.lit false))])))))
end Go.Proofs.Ytcglpbchejkolaa
/- Earth: which earths are valid; copies; points. -/
namespace Go.Proofs.Ytcglpbchejkolaa
open Go.RowKit
set_option linter.unusedSimpArgs false
set_option linter.unusedVariables false

theorem reps_len (rows : List (List C)) : (repsOf rows).length = rows.length := by simp [repsOf]
theorem rp0 (v : Value) (rows : List (List C)) (i : Nat) : ((C.s v rows).at i 0).int = ((repsOf rows).getD i ⟨0, 0, 0⟩).kind := by
  simp only [cell_at, repsOf, List.getD_eq_getElem?_getD, List.getElem?_map]
  cases rows[i]? <;> rfl
theorem rp1 (v : Value) (rows : List (List C)) (i : Nat) : ((C.s v rows).at i 1).int = ((repsOf rows).getD i ⟨0, 0, 0⟩).z := by
  simp only [cell_at, repsOf, List.getD_eq_getElem?_getD, List.getElem?_map]
  cases rows[i]? <;> rfl
theorem rp2 (v : Value) (rows : List (List C)) (i : Nat) : ((C.s v rows).at i 2).int = ((repsOf rows).getD i ⟨0, 0, 0⟩).p := by
  simp only [cell_at, repsOf, List.getD_eq_getElem?_getD, List.getElem?_map]
  cases rows[i]? <;> rfl
theorem badReps_kind {bottom : Int} {r : Rep} {l : List Rep} (h : r.kind < 1 ∨ 5 ≤ r.kind) : badReps bottom (r :: l) = 4 := by
  rw [badReps, if_neg]
  rw [inV_iff]; omega
theorem badReps_range {bottom : Int} {r : Rep} {l : List Rep} (h : 1 ≤ r.kind ∧ r.kind ≤ 4) (h2 : r.z < 0 ∨ bottom < r.z ∨ r.p < 0 ∨ 68719476736 < r.p) : badReps bottom (r :: l) = 2 := by
  rw [badReps, if_pos (by rw [inV_iff]; omega), if_neg]
  rw [Bool.and_eq_true, inV_iff, inV_iff]; omega
theorem badReps_next {bottom : Int} {r : Rep} {l : List Rep} (h : 1 ≤ r.kind ∧ r.kind ≤ 4) (h2 : 0 ≤ r.z ∧ r.z ≤ bottom ∧ 0 ≤ r.p ∧ r.p ≤ 68719476736) : badReps bottom (r :: l) = badReps bottom l := by
  rw [badReps, if_pos (by rw [inV_iff]; omega), if_pos]
  rw [Bool.and_eq_true, inV_iff, inV_iff]; omega
theorem orE_ne {a b : Int} (h : a ≠ 0) : orE a b = a := if_neg h
theorem orE_eq {a b : Int} (h : a = 0) : orE a b = b := if_pos h
/-- What is asked behind the lines. -/
def restV (e : Ear) : Int := if ab e.ph e.pl && ab e.fh e.fl && ab e.fh e.pl then (if 24 < e.reps.length then 8 else badReps e.bottom e.reps) else 12
theorem checkV_range {e : Ear} (h : e.bottom < 1 ∨ 1048576 < e.bottom ∨ e.gl < 0 ∨ e.gh < e.gl ∨ 40000 < e.gh) : checkV e = 2 := by
  unfold checkV
  rw [if_neg]
  simp only [Bool.and_eq_true, decide_eq_true_eq, inV_iff]; omega
theorem checkV_in {e : Ear} (h : 1 ≤ e.bottom ∧ e.bottom ≤ 1048576 ∧ 0 ≤ e.gl ∧ e.gl ≤ e.gh ∧ e.gh ≤ 40000) : checkV e = [lineE e.pl, lineE e.ph, lineE e.fl, lineE e.fh].foldr orE (restV e) := by
  unfold checkV
  rw [if_pos]
  · rfl
  · simp only [Bool.and_eq_true, decide_eq_true_eq, inV_iff]; omega
theorem rightB_of {ks : List Kn} (h : lineE ks = 0) : rightB ks = true := by
  unfold rightB
  have : lineV ks 1048576 68719476736 = 0 := h
  rw [this]; rfl
theorem restV_clash {e : Ear} (h : ab e.ph e.pl = false ∨ ab e.fh e.fl = false ∨ ab e.fh e.pl = false) : restV e = 12 := by
  unfold restV
  rw [if_neg]
  simp only [Bool.and_eq_true]
  rintro ⟨⟨h1, h2⟩, h3⟩
  rcases h with h | h | h
  · rw [h1] at h; cases h
  · rw [h2] at h; cases h
  · rw [h3] at h; cases h
theorem restV_in {e : Ear} (h : ab e.ph e.pl = true ∧ ab e.fh e.fl = true ∧ ab e.fh e.pl = true) : restV e = if 24 < e.reps.length then 8 else badReps e.bottom e.reps := by
  unfold restV
  rw [if_pos]
  rw [h.1, h.2.1, h.2.2]; rfl
theorem check_ok : tab2.ok 35 := by
  refine Tab.of_ct rfl rfl ⟨_, Try.func35, by decide, rfl⟩ ?_ ctF_det
  refine ct_ok (cx := ccheck) (Tab.cx_ok (all_cons (up_ok within_ok) (all_cons (up_ok line_ok) (all_cons (up_ok above2_ok) all_nil))) fxcheck) Try.func35 (bds := []) (T := tcheck) (by kernel_rfl) ?_
  have h1 : ccheck.ct 18 = some ctLine := rfl
  have h2 : ccheck.ct 21 = some ctAbove := rfl
  unfold tcheck
  simp only [VC, allC, List.map_cons, List.map_nil, List.length_cons, List.length_nil, List.getElem?_cons_zero, List.getElem?_cons_succ, List.cons.injEq, C.i.injEq, C.b.injEq, and_true, true_and, forall_const, kindsOf_nil, kindsOf_lf, kindsOf_agg, kindsOf_box, boxKinds_nil, boxKinds_lf, boxKinds_agg, boxKinds_box, List.append_nil, List.cons_append, List.nil_append, den_cmp_le, den_cmp_lt, den_cmp_eq, den_cmp_ne, den_cmp_le', den_cmp_lt', den_cmp_eq', den_cmp_ne', den_and, den_and', den_or, den_or', den_not, den_not', den_blit, den_of, ev_var, at_0, at_1, at_2, at_3, at_4, at_5, at_6, at_7, at_skip, c_int, c_bool, c_arr, c_cnt, c_vec, ev_nil, ev_join, ev_sub3, loc_s, int_i, bool_b, rows_s, cs_nil, cs_cons, E.den_lit, E.den_var, E.den_add, E.den_sub, E.den_mul, E.den_quo, E.den_rem, E.den_max, E.den_min, E.den_len, E.den_wr, E.den_cell, ev_cell, h1, h2, ctLine, ctAbove, ctCheck, ctF, lineSh, earthSh, earthKs, n_, k_, earOf]
  intro b _ _ u1 r1 _ _ _ u2 r2 _ _ _ u3 r3 _ _ _ u4 r4 _ _ _ gl _ _ gh _ _ u7 r7 _ _ _
  have hr := reps_len r7
  simp only [rp0 u7 r7, rp1 u7 r7, rp2 u7 r7]
  rw [← hr]
  generalize knots r1 = k1 at *
  generalize knots r2 = k2 at *
  generalize knots r3 = k3 at *
  generalize knots r4 = k4 at *
  generalize repsOf r7 = rs at *
  generalize hE : (⟨b, k1, k2, k3, k4, gl, gh, rs⟩ : Ear) = e
  have eb : e.bottom = b := by rw [← hE]
  have e1 : e.pl = k1 := by rw [← hE]
  have e2 : e.ph = k2 := by rw [← hE]
  have e3 : e.fl = k3 := by rw [← hE]
  have e4 : e.fh = k4 := by rw [← hE]
  have egl : e.gl = gl := by rw [← hE]
  have egh : e.gh = gh := by rw [← hE]
  have ers : e.reps = rs := by rw [← hE]
  refine ⟨bds_nil _, fun h => (checkV_range (by omega)).symm, fun c1 => ⟨fun h => (checkV_range (by omega)).symm, fun c2 => ⟨fun h => (checkV_range (by omega)).symm, fun c3 => ⟨fun h => (checkV_range (by omega)).symm, fun c4 => ?_⟩⟩⟩⟩
  rw [checkV_in (by omega), e1, e2, e3, e4]
  simp only [List.foldr_cons, List.foldr_nil]
  rintro n1 _ _ hn1
  have hn1 : n1 = lineE k1 := hn1
  rw [← hn1]
  refine ⟨fun h => (orE_ne h).symm, fun z1 => ?_⟩
  rw [orE_eq z1]
  rintro n2 _ _ hn2
  have hn2 : n2 = lineE k2 := hn2
  rw [← hn2]
  refine ⟨fun h => (orE_ne h).symm, fun z2 => ?_⟩
  rw [orE_eq z2]
  rintro n3 _ _ hn3
  have hn3 : n3 = lineE k3 := hn3
  rw [← hn3]
  refine ⟨fun h => (orE_ne h).symm, fun z3 => ?_⟩
  rw [orE_eq z3]
  rintro n4 _ _ hn4
  have hn4 : n4 = lineE k4 := hn4
  rw [← hn4]
  refine ⟨fun h => (orE_ne h).symm, fun z4 => ?_⟩
  rw [orE_eq z4]
  have g1 := rightB_of (ks := k1) (by omega)
  have g2 := rightB_of (ks := k2) (by omega)
  have g3 := rightB_of (ks := k3) (by omega)
  have g4 := rightB_of (ks := k4) (by omega)
  rintro t1 ht1
  have ht1 : t1 = ab k2 k1 := by rw [ht1, g1, g2]; rfl
  refine ⟨fun h => (restV_clash (.inl (by rw [e1, e2, ← ht1, h]))).symm, fun y1 => ?_⟩
  rintro t2 ht2
  have ht2 : t2 = ab k4 k3 := by rw [ht2, g3, g4]; rfl
  refine ⟨fun h => (restV_clash (.inr (.inl (by rw [e3, e4, ← ht2, h])))).symm, fun y2 => ?_⟩
  rintro t3 ht3
  have ht3 : t3 = ab k4 k1 := by rw [ht3, g1, g4]; rfl
  refine ⟨fun h => (restV_clash (.inr (.inr (by rw [e1, e4, ← ht3, h])))).symm, fun y3 => ?_⟩
  rw [restV_in (by rw [e1, e2, e3, e4, ← ht1, ← ht2, ← ht3]; exact ⟨y1, y2, y3⟩), ers, eb]
  refine ⟨fun h => by rw [if_pos (by omega)], fun hlen => ?_⟩
  rw [if_neg (by omega)]
  refine ⟨fun xs => match xs with | [_, .i i] => 0 ≤ i ∧ i ≤ rs.length ∧ badReps b rs = badReps b (rs.drop i.toNat) | _ => False, fun xs => match xs with | [_, .i i] => ((rs.length : Int) - i).toNat | _ => 0, ⟨by omega, by omega, rfl⟩, ?_⟩
  rintro x _ _ i _ _ ⟨i0, i1, hi⟩
  refine ⟨fun hlt => ⟨i0, hlt, ?_⟩, fun hge => ?_⟩
  · rw [drop_cons (by omega) ⟨0, 0, 0⟩, ← show (i + 1).toNat = i.toNat + 1 by omega] at hi
    generalize rs.getD i.toNat ⟨0, 0, 0⟩ = k at *
    refine ⟨fun h => by rw [hi, badReps_kind (by omega)], fun h5 => ⟨fun h => by rw [hi, badReps_kind (by omega)], fun h6 => ⟨fun h => by rw [hi, badReps_range (by omega) (by omega)], fun h7 => ⟨fun h => by rw [hi, badReps_range (by omega) (by omega)], fun h8 => ?_⟩⟩⟩⟩
    exact ⟨⟨by omega, by omega, by rw [hi, badReps_next (by omega) (by omega)]⟩, (show ((rs.length : Int) - (i + 1)).toNat < ((rs.length : Int) - i).toNat by omega)⟩
  · rw [hi, List.drop_of_length_le (by omega)]; rfl
theorem rcheck_ok : tab2.ok 47 := by
  refine Tab.of_ct rfl rfl ⟨_, Try.func47, by decide, rfl⟩ ?_ ctF_det
  refine ct_ok (cx := crcheck) (Tab.cx_ok (all_cons (up_ok rline_ok) (all_cons (up_ok rabove_ok) all_nil))) Try.func47 (bds := []) (T := trcheck) (by kernel_rfl) ?_
  have h1 : crcheck.ct 19 = some ctLine := rfl
  have h2 : crcheck.ct 77 = some ctRAboveI := rfl
  unfold trcheck
  simp only [VC, allC, List.map_cons, List.map_nil, List.length_cons, List.length_nil, List.getElem?_cons_zero, List.getElem?_cons_succ, List.cons.injEq, C.i.injEq, C.b.injEq, and_true, true_and, forall_const, kindsOf_nil, kindsOf_lf, kindsOf_agg, kindsOf_box, boxKinds_nil, boxKinds_lf, boxKinds_agg, boxKinds_box, List.append_nil, List.cons_append, List.nil_append, den_cmp_le, den_cmp_lt, den_cmp_eq, den_cmp_ne, den_cmp_le', den_cmp_lt', den_cmp_eq', den_cmp_ne', den_and, den_and', den_or, den_or', den_not, den_not', den_blit, den_of, ev_var, at_0, at_1, at_2, at_3, at_4, at_5, at_6, at_7, at_skip, c_int, c_bool, c_arr, c_cnt, c_vec, ev_nil, ev_join, ev_sub3, loc_s, int_i, bool_b, rows_s, cs_nil, cs_cons, E.den_lit, E.den_var, E.den_add, E.den_sub, E.den_mul, E.den_quo, E.den_rem, E.den_max, E.den_min, E.den_len, E.den_wr, E.den_cell, ev_cell, h1, h2, ctLine, ctRAboveI, ctCheck, ctF, lineSh, earthSh, earthKs, n_, k_, earOf]
  intro b _ _ u1 r1 _ _ _ u2 r2 _ _ _ u3 r3 _ _ _ u4 r4 _ _ _ gl _ _ gh _ _ u7 r7 _ _ _
  have hr := reps_len r7
  simp only [rp0 u7 r7, rp1 u7 r7, rp2 u7 r7]
  rw [← hr]
  have hrow : ∀ (v : Value) (i : Nat), knots ((C.s v [[C.s u1 r1], [C.s u2 r2], [C.s u3 r3], [C.s u4 r4]]).at i 0).rows = [knots r1, knots r2, knots r3, knots r4].getD i [] := fun v i => by
    match i with
    | 0 => rfl
    | 1 => rfl
    | 2 => rfl
    | 3 => rfl
    | i + 4 => rfl
  simp only [hrow]
  generalize knots r1 = k1 at *
  generalize knots r2 = k2 at *
  generalize knots r3 = k3 at *
  generalize knots r4 = k4 at *
  generalize repsOf r7 = rs at *
  generalize hE : (⟨b, k1, k2, k3, k4, gl, gh, rs⟩ : Ear) = e
  have eb : e.bottom = b := by rw [← hE]
  have e1 : e.pl = k1 := by rw [← hE]
  have e2 : e.ph = k2 := by rw [← hE]
  have e3 : e.fl = k3 := by rw [← hE]
  have e4 : e.fh = k4 := by rw [← hE]
  have egl : e.gl = gl := by rw [← hE]
  have egh : e.gh = gh := by rw [← hE]
  have ers : e.reps = rs := by rw [← hE]
  refine ⟨bds_nil _, fun h => (checkV_range (by omega)).symm, fun c0 => ⟨fun h => (checkV_range (by omega)).symm, fun c1 => ⟨fun h => (checkV_range (by omega)).symm, fun c2 => ⟨fun h => (checkV_range (by omega)).symm, fun c3 => ⟨fun h => (checkV_range (by omega)).symm, fun c4 v => ?_⟩⟩⟩⟩⟩
  rw [checkV_in (by omega), e1, e2, e3, e4]
  generalize hL : [k1, k2, k3, k4] = L
  have hmap : [lineE k1, lineE k2, lineE k3, lineE k4] = L.map lineE := by rw [← hL]; rfl
  have hLl : L.length = 4 := by rw [← hL]; rfl
  rw [hmap]
  refine ⟨fun xs => match xs with | [_, .i i] => 0 ≤ i ∧ i ≤ 4 ∧ (∀ k ∈ L.take i.toNat, lineE k = 0) ∧ (L.map lineE).foldr orE (restV e) = ((L.drop i.toNat).map lineE).foldr orE (restV e) | _ => False, fun xs => match xs with | [_, .i i] => ((4 : Int) - i).toNat | _ => 0, ⟨by omega, by omega, fun k hk => by simp at hk, rfl⟩, ?_⟩
  rintro x _ _ i _ _ ⟨i0, i1, hz, hi⟩
  refine ⟨fun hlt => ⟨i0, hlt, ?_⟩, fun hge => ?_⟩
  · have hlt : i < 4 := hlt
    rw [drop_cons (by omega) [], ← show (i + 1).toNat = i.toNat + 1 by omega] at hi
    have next : lineE (L.getD i.toNat []) = 0 → ∀ k ∈ L.take (i + 1).toNat, lineE k = 0 := fun h k hk => by
      rw [show (i + 1).toNat = i.toNat + 1 by omega, take_snoc (by omega) []] at hk
      rcases List.mem_append.1 hk with hk | hk
      · exact hz k hk
      · rw [List.mem_singleton] at hk; subst hk; exact h
    generalize L.getD i.toNat [] = k at *
    rintro n _ _ hn
    have hn : n = lineE k := hn
    rw [List.map_cons, List.foldr_cons, ← hn] at hi
    refine ⟨fun h => by rw [hi, orE_ne h], fun h => ⟨⟨by omega, by omega, next (by omega), by rw [hi, orE_eq h]⟩, (show ((4 : Int) - (i + 1)).toNat < ((4 : Int) - i).toNat by omega)⟩⟩
  · have hge : 4 ≤ i := hge
    rw [List.drop_of_length_le (by omega)] at hi
    rw [List.take_of_length_le (by omega)] at hz
    rw [hi]
    simp only [List.map_nil, List.foldr_nil]
    rw [← hL] at hz
    have g1 := rightB_of (hz k1 (by simp))
    have g2 := rightB_of (hz k2 (by simp))
    have g3 := rightB_of (hz k3 (by simp))
    have g4 := rightB_of (hz k4 (by simp))
    refine ⟨⟨g2, g1⟩, ?_⟩
    rintro t1 ht1
    have ht1 : t1 = ab k2 k1 := ht1
    refine ⟨fun h => (restV_clash (.inl (by rw [e1, e2, ← ht1, h]))).symm, fun y1 => ⟨⟨g4, g3⟩, ?_⟩⟩
    rintro t2 ht2
    have ht2 : t2 = ab k4 k3 := ht2
    refine ⟨fun h => (restV_clash (.inr (.inl (by rw [e3, e4, ← ht2, h])))).symm, fun y2 => ⟨⟨g4, g1⟩, ?_⟩⟩
    rintro t3 ht3
    have ht3 : t3 = ab k4 k1 := ht3
    refine ⟨fun h => (restV_clash (.inr (.inr (by rw [e1, e4, ← ht3, h])))).symm, fun y3 => ?_⟩
    rw [restV_in (by rw [e1, e2, e3, e4, ← ht1, ← ht2, ← ht3]; exact ⟨y1, y2, y3⟩), ers, eb]
    refine ⟨fun h => by rw [if_pos (by omega)], fun hlen => ?_⟩
    rw [if_neg (by omega)]
    refine ⟨fun xs => match xs with | [_, .i i] => 0 ≤ i ∧ i ≤ rs.length ∧ badReps b rs = badReps b (rs.drop i.toNat) | _ => False, fun xs => match xs with | [_, .i i] => ((rs.length : Int) - i).toNat | _ => 0, ⟨by omega, by omega, rfl⟩, ?_⟩
    rintro x _ _ i _ _ ⟨i0, i1, hi⟩
    refine ⟨fun hlt => ⟨i0, hlt, ?_⟩, fun hge => ?_⟩
    · rw [drop_cons (by omega) ⟨0, 0, 0⟩, ← show (i + 1).toNat = i.toNat + 1 by omega] at hi
      generalize rs.getD i.toNat ⟨0, 0, 0⟩ = k at *
      refine ⟨fun h => by rw [hi, badReps_kind (by omega)], fun h5 => ⟨fun h => by rw [hi, badReps_kind (by omega)], fun h6 => ⟨fun h => by rw [hi, badReps_range (by omega) (by omega)], fun h7 => ⟨fun h => by rw [hi, badReps_range (by omega) (by omega)], fun h8 => ⟨fun h => by rw [hi, badReps_range (by omega) (by omega)], fun h9 => ⟨fun h => by rw [hi, badReps_range (by omega) (by omega)], fun h10 => ?_⟩⟩⟩⟩⟩⟩
      exact ⟨⟨by omega, by omega, by rw [hi, badReps_next (by omega) (by omega)]⟩, (show ((rs.length : Int) - (i + 1)).toNat < ((rs.length : Int) - i).toNat by omega)⟩
    · rw [hi, List.drop_of_length_le (by omega)]; rfl
theorem clone_ok : tab2.ok 99 := by
  refine Tab.of_ct rfl rfl ⟨_, Try.func99, by decide, rfl⟩ ?_ (fun h => by cases h)
  refine ct_ok (cx := cclone) (Tab.cx_ok all_nil) Try.func99 (bds := []) (T := tclone) (by kernel_rfl) ?_
  unfold tclone
  simp only [VC, allC, List.map_cons, List.map_nil, List.length_cons, List.length_nil, List.getElem?_cons_zero, List.getElem?_cons_succ, List.cons.injEq, C.i.injEq, C.b.injEq, and_true, true_and, forall_const, kindsOf_nil, kindsOf_lf, kindsOf_agg, kindsOf_box, boxKinds_nil, boxKinds_lf, boxKinds_agg, boxKinds_box, List.append_nil, List.cons_append, List.nil_append, den_cmp_le, den_cmp_lt, den_cmp_eq, den_cmp_ne, den_cmp_le', den_cmp_lt', den_cmp_eq', den_cmp_ne', den_and, den_and', den_or, den_or', den_not, den_not', den_blit, den_of, ev_var, at_0, at_1, at_2, at_3, at_4, at_5, at_6, at_7, at_skip, c_int, c_bool, c_arr, c_cnt, c_vec, ev_nil, ev_join, ev_sub3, loc_s, int_i, bool_b, rows_s, cs_nil, cs_cons, E.den_lit, E.den_var, E.den_add, E.den_sub, E.den_mul, E.den_quo, E.den_rem, E.den_max, E.den_min, E.den_len, E.den_wr, E.den_cell, ev_cell, ctClone, ctF]
  intro u r _ _ _ hp; have hp : r.length ≤ 1000 := hp; refine ⟨bds_nil _, ⟨fun h => ⟨_, by rw [List.length_eq_zero_iff.1 (show r.length = 0 by omega)]⟩, fun _ => ⟨by omega, fun v' => ⟨v', rfl⟩⟩⟩, by omega, fun v' => ⟨v', rfl⟩⟩
theorem rclone_ok : tab2.ok 100 := by
  refine Tab.of_ct rfl rfl ⟨_, Try.func100, by decide, rfl⟩ ?_ (fun h => by cases h)
  refine ct_ok (cx := crclone) (Tab.cx_ok all_nil) Try.func100 (bds := []) (T := trclone) (by kernel_rfl) ?_
  unfold trclone
  simp only [VC, allC, List.map_cons, List.map_nil, List.length_cons, List.length_nil, List.getElem?_cons_zero, List.getElem?_cons_succ, List.cons.injEq, C.i.injEq, C.b.injEq, and_true, true_and, forall_const, kindsOf_nil, kindsOf_lf, kindsOf_agg, kindsOf_box, boxKinds_nil, boxKinds_lf, boxKinds_agg, boxKinds_box, List.append_nil, List.cons_append, List.nil_append, den_cmp_le, den_cmp_lt, den_cmp_eq, den_cmp_ne, den_cmp_le', den_cmp_lt', den_cmp_eq', den_cmp_ne', den_and, den_and', den_or, den_or', den_not, den_not', den_blit, den_of, ev_var, at_0, at_1, at_2, at_3, at_4, at_5, at_6, at_7, at_skip, c_int, c_bool, c_arr, c_cnt, c_vec, ev_nil, ev_join, ev_sub3, loc_s, int_i, bool_b, rows_s, cs_nil, cs_cons, E.den_lit, E.den_var, E.den_add, E.den_sub, E.den_mul, E.den_quo, E.den_rem, E.den_max, E.den_min, E.den_len, E.den_wr, E.den_cell, ev_cell, ctClone, ctF]
  intro u r _ _ _ hp; have hp : r.length ≤ 1000 := hp; refine ⟨bds_nil _, ⟨fun h => ⟨_, by rw [List.length_eq_zero_iff.1 (show r.length = 0 by omega)]⟩, fun _ => ⟨by omega, fun v' => ⟨v', rfl⟩⟩⟩, by omega, fun v' => ⟨v', rfl⟩⟩
end Go.Proofs.Ytcglpbchejkolaa
/- Earth: points, and what they allow and ask for. -/
namespace Go.Proofs.Ytcglpbchejkolaa
open Go.RowKit
set_option linter.unusedSimpArgs false
set_option linter.unusedVariables false

theorem knots_app (a b : List (List C)) : knots (a ++ b) = knots a ++ knots b := by simp [knots]
theorem knots_one (a b : Int) : knots [[.i a, .i b]] = [(a, b)] := rfl
theorem knots_upd (rows : List (List C)) (i : Nat) (a b : Int) : knots (updRow rows i 0 [.i a, .i b]) = (knots rows).set i (a, b) := by
  unfold updRow knots
  rw [List.map_set]
  rfl
theorem knots_take (rows : List (List C)) (n : Nat) : knots (rows.take n) = (knots rows).take n := by simp [knots]
/-- The points of the reports of a kind. -/
def repP (reps : List Rep) (kind : Int) : List Kn := (reps.filter fun r => r.kind == kind).map fun r => (r.z, r.p)
theorem repP_snoc_yes {l : List Rep} {r : Rep} {kind : Int} (h : r.kind = kind) : repP (l ++ [r]) kind = repP l kind ++ [(r.z, r.p)] := by
  unfold repP
  rw [List.filter_append, List.map_append, List.filter_cons_of_pos (by simpa using h)]; rfl
theorem repP_snoc_no {l : List Rep} {r : Rep} {kind : Int} (h : r.kind ≠ kind) : repP (l ++ [r]) kind = repP l kind := by
  unfold repP
  rw [List.filter_append, List.map_append, List.filter_cons_of_neg (by simpa using h)]; simp
theorem repP_len (l : List Rep) (kind : Int) : (repP l kind).length ≤ l.length := by
  unfold repP
  rw [List.length_map]
  exact List.length_filter_le _ _
def lowP (bottom : Int) (l : List Kn) : List Kn := l.filter fun k => decide (k.1 ≤ bottom)
theorem lowP_snoc_yes {b : Int} {l : List Kn} {k : Kn} (h : k.1 ≤ b) : lowP b (l ++ [k]) = lowP b l ++ [k] := by
  unfold lowP
  rw [List.filter_append, List.filter_cons_of_pos (by simpa using h)]; rfl
theorem lowP_snoc_no {b : Int} {l : List Kn} {k : Kn} (h : b < k.1) : lowP b (l ++ [k]) = lowP b l := by
  unfold lowP
  rw [List.filter_append, List.filter_cons_of_neg (by simp; omega)]; simp
theorem lowP_len (b : Int) (l : List Kn) : (lowP b l).length ≤ l.length := List.length_filter_le _ _
theorem lowP_all {b : Int} {l : List Kn} (h : ∀ k ∈ l, k.1 ≤ b) : lowP b l = l := List.filter_eq_self.2 fun k hk => by simpa using h k hk
theorem pointsV_eq (b : Int) (reps : List Rep) (l : List Kn) (kind : Int) : pointsV b reps l kind = lowP b l ++ repP reps kind := rfl
theorem rep_step {rows : List (List C)} {A : List Kn} {rs : List Rep} {kind : Int} {i : Int} (i0 : 0 ≤ i) (i1 : i < rs.length) (hr : knots rows = A ++ repP (rs.take i.toNat) kind) :
    ((rs.getD i.toNat ⟨0, 0, 0⟩).kind = kind → ∀ c : List C, c = [.i (rs.getD i.toNat ⟨0, 0, 0⟩).z, .i (rs.getD i.toNat ⟨0, 0, 0⟩).p] → knots (rows ++ [c]) = A ++ repP (rs.take (i + 1).toNat) kind) ∧
    ((rs.getD i.toNat ⟨0, 0, 0⟩).kind ≠ kind → knots rows = A ++ repP (rs.take (i + 1).toNat) kind) := by
  rw [show (i + 1).toNat = i.toNat + 1 by omega, take_snoc (by omega) ⟨0, 0, 0⟩]
  refine ⟨fun h c hc => ?_, fun h => ?_⟩
  · rw [hc, knots_app, knots_one, repP_snoc_yes h, hr, List.append_assoc]
  · rw [repP_snoc_no h, hr]
theorem rows_le {rows : List (List C)} {A : List Kn} {rs : List Rep} {kind : Int} {n : Nat} (hA : A.length ≤ 100) (hrs : rs.length ≤ 100) (hr : knots rows = A ++ repP (rs.take n) kind) : rows.length ≤ 200 := by
  rw [← knots_len rows, hr, List.length_append]
  have := repP_len (rs.take n) kind
  rw [List.length_take] at this
  omega
theorem points_ok : tab2.ok 117 := by
  refine Tab.of_ct rfl rfl ⟨_, Try.func117, by decide, rfl⟩ ?_ (fun h => by cases h)
  refine ct_ok (cx := cpoints) (Tab.cx_ok (all_cons clone_ok all_nil) fxpoints) Try.func117 (bds := []) (T := tpoints) (by kernel_rfl) ?_
  have h1 : cpoints.ct 99 = some (ctClone 44) := rfl
  unfold tpoints
  simp only [VC, allC, List.map_cons, List.map_nil, List.length_cons, List.length_nil, List.getElem?_cons_zero, List.getElem?_cons_succ, List.cons.injEq, C.i.injEq, C.b.injEq, and_true, true_and, forall_const, kindsOf_nil, kindsOf_lf, kindsOf_agg, kindsOf_box, boxKinds_nil, boxKinds_lf, boxKinds_agg, boxKinds_box, List.append_nil, List.cons_append, List.nil_append, den_cmp_le, den_cmp_lt, den_cmp_eq, den_cmp_ne, den_cmp_le', den_cmp_lt', den_cmp_eq', den_cmp_ne', den_and, den_and', den_or, den_or', den_not, den_not', den_blit, den_of, ev_var, at_0, at_1, at_2, at_3, at_4, at_5, at_6, at_7, at_skip, c_int, c_bool, c_arr, c_cnt, c_vec, ev_nil, ev_join, ev_sub3, loc_s, int_i, bool_b, rows_s, cs_nil, cs_cons, E.den_lit, E.den_var, E.den_add, E.den_sub, E.den_mul, E.den_quo, E.den_rem, E.den_max, E.den_min, E.den_len, E.den_wr, E.den_cell, ev_cell, h1, ctClone, ctPoints, ctF, lineSh, earthSh, earthKs, n_, k_, earOf]
  intro b _ _ u1 r1 _ _ _ u2 r2 _ _ _ u3 r3 _ _ _ u4 r4 _ _ _ gl _ _ gh _ _ u7 r7 _ _ _ u8 r8 _ _ _ kind _ _ hp
  obtain ⟨hp1, hp2⟩ := hp
  have hr := reps_len r7
  have hk := knots_len r8
  simp only [rp0 u7 r7, rp1 u7 r7, rp2 u7 r7]
  rw [← hr] at hp2 ⊢
  generalize repsOf r7 = rs at *
  have hrs : rs.length ≤ 100 := hp2
  refine ⟨bds_nil _, (show r8.length ≤ 1000 by omega), ?_⟩
  rintro u11 r11 _ _ _ ⟨u11', h11⟩
  obtain rfl : r11 = r8 := by simpa using (show u11 = u11' ∧ r11 = r8 by simpa using h11).2
  simp only [kn1 u11 r11, kn2 u11 r11]
  rw [← hk]
  generalize hks : knots r11 = ks at *
  have hA : (lowP b ks).length ≤ 100 := by have := lowP_len b ks; omega
  refine ⟨fun xs => match xs with | [_, .i i] => 0 ≤ i ∧ i ≤ ks.length ∧ ∀ k ∈ ks.take i.toNat, k.1 ≤ b | _ => False, fun xs => match xs with | [_, .i i] => ((ks.length : Int) - i).toNat | _ => 0, ⟨by omega, by omega, fun k hk => by simp at hk⟩, ?_⟩
  rintro x _ _ i _ _ ⟨i0, i1, hi⟩
  refine ⟨fun hlt => ⟨i0, hlt, fun hb => ?_, fun hb => ?_⟩, fun hge => ?_⟩
  · -- the first one that is struck
    have hst : lowP b (ks.take (i + 1).toNat) = ks.take i.toNat := by
      rw [show (i + 1).toNat = i.toNat + 1 by omega, take_snoc (by omega) (0, 0), lowP_snoc_no hb, lowP_all hi]
    refine ⟨fun xs => match xs with | [.i p, .i q, .s _ rows] => 0 ≤ p ∧ p < q ∧ q ≤ ks.length ∧ rows.length = ks.length ∧ (knots rows).take p.toNat = lowP b (ks.take q.toNat) ∧ ∀ k : Nat, q ≤ k → (knots rows).getD k (0, 0) = ks.getD k (0, 0) | _ => False, fun xs => match xs with | [_, .i q, _] => ((ks.length : Int) - q).toNat | _ => 0, ⟨by omega, by omega, by omega, by omega, by rw [hks, hst], fun k _ => by rw [hks]⟩, ?_⟩
    rintro p _ _ q _ _ v18 r18 _ _ _ ⟨p0, pq, qn, hlen, htake, hrest⟩
    have hk18 := knots_len r18
    simp only [kn1 v18 r18, kn2 v18 r18]
    rw [hlen]
    generalize hK : knots r18 = K at *
    refine ⟨fun hlq => ⟨by omega, hlq, fun hle => ?_, fun hgt => ?_⟩, fun hgq => ?_⟩
    · have hle : (ks.getD q.toNat (0, 0)).1 ≤ b := by rw [← hrest q.toNat (by omega)]; exact hle
      refine ⟨p0, by omega, fun v19 => ⟨⟨by omega, by omega, by omega, ?_, ?_, fun k hk => ?_⟩, (show ((ks.length : Int) - (q + 1)).toNat < ((ks.length : Int) - q).toNat by omega)⟩⟩
      · rw [← hlen]; unfold updRow; simp
      · rw [knots_upd, hK, show (p + 1).toNat = p.toNat + 1 by omega, take_snoc (by rw [List.length_set]; omega) (0, 0), List.take_set_of_le (by omega), htake, show (q + 1).toNat = q.toNat + 1 by omega, take_snoc (by omega) (0, 0), lowP_snoc_yes hle]
        congr 2
        rw [List.getD_eq_getElem?_getD, List.getElem?_set_self (by omega)]
        show ((K.getD q.toNat (0, 0)).1, (K.getD q.toNat (0, 0)).2) = _
        rw [hrest q.toNat (by omega)]
      · rw [knots_upd, hK, List.getD_eq_getElem?_getD, List.getElem?_set_ne (by omega), ← List.getD_eq_getElem?_getD]
        exact hrest k (by omega)
    · have hgt : b < (ks.getD q.toNat (0, 0)).1 := by rw [← hrest q.toNat (by omega)]; exact hgt
      refine ⟨⟨by omega, by omega, by omega, rfl, ?_, fun k hk => hrest k (by omega)⟩, (show ((ks.length : Int) - (q + 1)).toNat < ((ks.length : Int) - q).toNat by omega)⟩
      rw [htake, show (q + 1).toNat = q.toNat + 1 by omega, take_snoc (by omega) (0, 0), lowP_snoc_no hgt]
    · refine ⟨p0, by omega, p0, ?_, fun v21 => ?_⟩
      · simp only [List.length_append, List.length_drop, List.length_take, List.length_replicate]; omega
      rw [List.take_of_length_le (l := ks) (i := q.toNat) (by omega)] at htake
      have hstart : knots (List.drop (0 : Int).toNat (List.take p.toNat (List.drop (0 : Int).toNat (List.take p.toNat r18) ++ List.replicate ((ks.length : Int) - p).toNat [C.i 0, C.i 0]))) = lowP b ks ++ repP (rs.take (0 : Int).toNat) kind := by
        show knots (List.drop 0 (List.take p.toNat (List.drop 0 (List.take p.toNat r18) ++ List.replicate ((ks.length : Int) - p).toNat [C.i 0, C.i 0]))) = lowP b ks ++ repP [] kind
        rw [List.drop_zero, List.drop_zero, List.take_append, List.take_take, Nat.min_self, List.length_take, Nat.min_eq_left (by omega), Nat.sub_self, List.take_zero, List.append_nil, knots_take, hK, htake]
        simp [repP]
      refine ⟨fun xs => match xs with | [.s _ rows, .i i] => 0 ≤ i ∧ i ≤ rs.length ∧ knots rows = lowP b ks ++ repP (rs.take i.toNat) kind | _ => False, fun xs => match xs with | [_, .i i] => ((rs.length : Int) - i).toNat | _ => 0, ⟨by omega, by omega, hstart⟩, ?_⟩; rintro v22 r22 _ _ _ i _ _ ⟨i0, i1, hi⟩; have hle := rows_le hA hrs hi; refine ⟨fun hlt => ?_, fun hge => ⟨v22, r22, rfl, by rw [hi, List.take_of_length_le (by omega)]; rfl⟩⟩; obtain ⟨s1, s2⟩ := rep_step (by omega) hlt hi
      refine ⟨i0, hlt, fun he => ⟨by omega, fun v25 => ⟨⟨by omega, by omega, s1 he _ rfl⟩, (show ((rs.length : Int) - (i + 1)).toNat < ((rs.length : Int) - i).toNat by omega)⟩⟩, fun hne => ⟨⟨by omega, by omega, s2 hne⟩, (show ((rs.length : Int) - (i + 1)).toNat < ((rs.length : Int) - i).toNat by omega)⟩⟩
  · refine ⟨⟨by omega, by omega, fun k hk => ?_⟩, (show ((ks.length : Int) - (i + 1)).toNat < ((ks.length : Int) - i).toNat by omega)⟩
    rw [show (i + 1).toNat = i.toNat + 1 by omega, take_snoc (by omega) (0, 0)] at hk
    rcases List.mem_append.1 hk with hk | hk
    · exact hi k hk
    · rw [List.mem_singleton] at hk; subst hk; exact hb
  · rw [List.take_of_length_le (by omega)] at hi
    have hstart : knots r11 = lowP b ks ++ repP (rs.take (0 : Int).toNat) kind := by
      rw [hks, lowP_all hi]
      show ks = ks ++ repP [] kind
      simp [repP]
    refine ⟨fun xs => match xs with | [.s _ rows, .i i] => 0 ≤ i ∧ i ≤ rs.length ∧ knots rows = lowP b ks ++ repP (rs.take i.toNat) kind | _ => False, fun xs => match xs with | [_, .i i] => ((rs.length : Int) - i).toNat | _ => 0, ⟨by omega, by omega, hstart⟩, ?_⟩; rintro v22 r22 _ _ _ i _ _ ⟨i0, i1, hi⟩; have hle := rows_le hA hrs hi; refine ⟨fun hlt => ?_, fun hge => ⟨v22, r22, rfl, by rw [hi, List.take_of_length_le (by omega)]; rfl⟩⟩; obtain ⟨s1, s2⟩ := rep_step (by omega) hlt hi
    refine ⟨i0, hlt, fun he => ⟨by omega, fun v25 => ⟨⟨by omega, by omega, s1 he _ rfl⟩, (show ((rs.length : Int) - (i + 1)).toNat < ((rs.length : Int) - i).toNat by omega)⟩⟩, fun hne => ⟨⟨by omega, by omega, s2 hne⟩, (show ((rs.length : Int) - (i + 1)).toNat < ((rs.length : Int) - i).toNat by omega)⟩⟩
theorem rpoints_ok : tab2.ok 97 := by
  refine Tab.of_ct rfl rfl ⟨_, Try.func97, by decide, rfl⟩ ?_ (fun h => by cases h)
  refine ct_ok (cx := crpoints) (Tab.cx_ok all_nil) Try.func97 (bds := []) (T := trpoints) (by kernel_rfl) ?_
  unfold trpoints
  simp only [VC, allC, List.map_cons, List.map_nil, List.length_cons, List.length_nil, List.getElem?_cons_zero, List.getElem?_cons_succ, List.cons.injEq, C.i.injEq, C.b.injEq, and_true, true_and, forall_const, kindsOf_nil, kindsOf_lf, kindsOf_agg, kindsOf_box, boxKinds_nil, boxKinds_lf, boxKinds_agg, boxKinds_box, List.append_nil, List.cons_append, List.nil_append, den_cmp_le, den_cmp_lt, den_cmp_eq, den_cmp_ne, den_cmp_le', den_cmp_lt', den_cmp_eq', den_cmp_ne', den_and, den_and', den_or, den_or', den_not, den_not', den_blit, den_of, ev_var, at_0, at_1, at_2, at_3, at_4, at_5, at_6, at_7, at_skip, c_int, c_bool, c_arr, c_cnt, c_vec, ev_nil, ev_join, ev_sub3, loc_s, int_i, bool_b, rows_s, cs_nil, cs_cons, E.den_lit, E.den_var, E.den_add, E.den_sub, E.den_mul, E.den_quo, E.den_rem, E.den_max, E.den_min, E.den_len, E.den_wr, E.den_cell, ev_cell, ctPoints, ctF, lineSh, earthSh, earthKs, n_, k_, earOf]
  intro b _ _ u1 r1 _ _ _ u2 r2 _ _ _ u3 r3 _ _ _ u4 r4 _ _ _ gl _ _ gh _ _ u7 r7 _ _ _ u8 r8 _ _ _ kind _ _ hp
  obtain ⟨hp1, hp2⟩ := hp
  have hr := reps_len r7
  have hk := knots_len r8
  simp only [rp0 u7 r7, rp1 u7 r7, rp2 u7 r7, kn1 u8 r8, kn2 u8 r8]
  rw [← hr] at hp2 ⊢
  rw [← hk]
  generalize repsOf r7 = rs at *
  have hrs : rs.length ≤ 100 := hp2
  generalize hks : knots r8 = ks at *
  have hA : (lowP b ks).length ≤ 100 := by have := lowP_len b ks; omega
  refine ⟨bds_nil _, fun xs => match xs with | [.s _ rows, .i i] => 0 ≤ i ∧ i ≤ ks.length ∧ knots rows = lowP b (ks.take i.toNat) | _ => False, fun xs => match xs with | [_, .i i] => ((ks.length : Int) - i).toNat | _ => 0, ⟨by omega, by omega, rfl⟩, ?_⟩
  rintro v12 r12 _ _ _ i _ _ ⟨i0, i1, hi⟩
  have hle12 : r12.length ≤ 100 := by
    rw [← knots_len r12, hi]
    have := lowP_len b (ks.take i.toNat)
    rw [List.length_take] at this
    omega
  refine ⟨fun hlt => ⟨i0, hlt, fun hb => ⟨hlt, ?_⟩, fun hb => ?_⟩, fun hge => ?_⟩
  · refine ⟨by omega, fun v15 => ⟨⟨by omega, by omega, ?_⟩, (show ((ks.length : Int) - (i + 1)).toNat < ((ks.length : Int) - i).toNat by omega)⟩⟩
    rw [knots_app, knots_one, hi, show (i + 1).toNat = i.toNat + 1 by omega, take_snoc (by omega) (0, 0), lowP_snoc_yes hb]
  · refine ⟨⟨by omega, by omega, ?_⟩, (show ((ks.length : Int) - (i + 1)).toNat < ((ks.length : Int) - i).toNat by omega)⟩
    rw [hi, show (i + 1).toNat = i.toNat + 1 by omega, take_snoc (by omega) (0, 0), lowP_snoc_no hb]
  · rw [List.take_of_length_le (by omega)] at hi
    have hstart : knots r12 = lowP b ks ++ repP (rs.take (0 : Int).toNat) kind := by
      rw [hi]
      show _ = lowP b ks ++ repP [] kind
      simp [repP]
    refine ⟨fun xs => match xs with | [.s _ rows, .i i] => 0 ≤ i ∧ i ≤ rs.length ∧ knots rows = lowP b ks ++ repP (rs.take i.toNat) kind | _ => False, fun xs => match xs with | [_, .i i] => ((rs.length : Int) - i).toNat | _ => 0, ⟨by omega, by omega, hstart⟩, ?_⟩; rintro v22 r22 _ _ _ i _ _ ⟨i0, i1, hi⟩; have hle := rows_le hA hrs hi; refine ⟨fun hlt => ?_, fun hge => ⟨v22, r22, rfl, by rw [hi, List.take_of_length_le (by omega)]; rfl⟩⟩; obtain ⟨s1, s2⟩ := rep_step (by omega) hlt hi
    refine ⟨i0, hlt, fun he => ⟨hlt, hlt, by omega, fun v25 => ⟨⟨by omega, by omega, s1 he _ rfl⟩, (show ((rs.length : Int) - (i + 1)).toNat < ((rs.length : Int) - i).toNat by omega)⟩⟩, fun hne => ⟨⟨by omega, by omega, s2 hne⟩, (show ((rs.length : Int) - (i + 1)).toNat < ((rs.length : Int) - i).toNat by omega)⟩⟩
/-! What points allow and ask for -/
theorem g_bd {g z k : Int} (h0 : 0 ≤ g) (h1 : g ≤ 40000) (z0 : 0 ≤ z) (z1 : z ≤ 1048576) (k0 : 0 ≤ k) (k1 : k ≤ 1048576) : -41943040000 ≤ g * (z - k) ∧ g * (z - k) ≤ 41943040000 ∧ g * (k - z) = -(g * (z - k)) := by
  have := mul_abs (y := z - k) (z := g) (V := 1048576) (A := 40000) (by omega) (by omega) h0 h1
  rw [Int.mul_comm (z - k) g] at this
  refine ⟨by omega, by omega, ?_⟩
  rw [← Int.mul_neg, Int.neg_sub]
theorem upP_lt {gl gh z : Int} {k : Kn} (h : z < k.1) : upP gl gh z k = k.2 + gl * (z - k.1) := by unfold upP; rw [if_pos h]
theorem upP_ge {gl gh z : Int} {k : Kn} (h : k.1 ≤ z) : upP gl gh z k = k.2 + gh * (z - k.1) := by unfold upP; rw [if_neg (by omega)]
theorem loP_lt {gl gh z : Int} {k : Kn} (h : z < k.1) : loP gl gh z k = k.2 + gh * (z - k.1) := by unfold loP; rw [if_pos h]
theorem loP_ge {gl gh z : Int} {k : Kn} (h : k.1 ≤ z) : loP gl gh z k = k.2 + gl * (z - k.1) := by unfold loP; rw [if_neg (by omega)]
theorem bounded_ok : tab2.ok 116 := by
  refine Tab.of_ct rfl rfl ⟨_, Try.func116, by decide, rfl⟩ ?_ ctF_det
  refine ct_ok (cx := cbounded) (Tab.cx_ok all_nil fxbounded) Try.func116 (bds := []) (T := tbounded) (by kernel_rfl) ?_
  unfold tbounded
  simp only [VC, allC, List.map_cons, List.map_nil, List.length_cons, List.length_nil, List.getElem?_cons_zero, List.getElem?_cons_succ, List.cons.injEq, C.i.injEq, C.b.injEq, and_true, true_and, forall_const, kindsOf_nil, kindsOf_lf, kindsOf_agg, kindsOf_box, boxKinds_nil, boxKinds_lf, boxKinds_agg, boxKinds_box, List.append_nil, List.cons_append, List.nil_append, den_cmp_le, den_cmp_lt, den_cmp_eq, den_cmp_ne, den_cmp_le', den_cmp_lt', den_cmp_eq', den_cmp_ne', den_and, den_and', den_or, den_or', den_not, den_not', den_blit, den_of, ev_var, at_0, at_1, at_2, at_3, at_4, at_5, at_6, at_7, at_skip, c_int, c_bool, c_arr, c_cnt, c_vec, ev_nil, ev_join, ev_sub3, loc_s, int_i, bool_b, rows_s, cs_nil, cs_cons, E.den_lit, E.den_var, E.den_add, E.den_sub, E.den_mul, E.den_quo, E.den_rem, E.den_max, E.den_min, E.den_len, E.den_wr, E.den_cell, ev_cell, kn1, kn2, ctUp, ctF, lineSh, earthSh, earthKs, n_, k_, earOf]
  intro b _ _ u1 r1 _ _ _ u2 r2 _ _ _ u3 r3 _ _ _ u4 r4 _ _ _ gl _ _ gh _ _ u7 r7 _ _ _ u8 r8 _ _ _ z _ _ so s0 s1 hp; have hk := knots_len r8; rw [← hk]; generalize knots r8 = ks at *; obtain ⟨⟨-, hpt⟩, g1, g2, g3, g4, g5, g6⟩ := hp; change 0 ≤ gl at g1; change gl ≤ 40000 at g2; change 0 ≤ gh at g3; change gh ≤ 40000 at g4
  refine ⟨bds_nil _, fun xs => match xs with | [.i so', .i i] => 0 ≤ i ∧ i ≤ ks.length ∧ upV gl gh ks z so = upV gl gh (ks.drop i.toNat) z so' | _ => False, fun xs => match xs with | [_, .i i] => ((ks.length : Int) - i).toNat | _ => 0, ⟨by omega, by omega, rfl⟩, ?_⟩
  rintro so' s0 s1 i _ _ ⟨i0, i1, hi⟩
  refine ⟨fun hlt => ⟨i0, hlt, ?_⟩, fun hge => by rw [hi, List.drop_of_length_le (by omega)]; rfl⟩
  rw [drop_cons (by omega) (0, 0), ← show (i + 1).toNat = i.toNat + 1 by omega] at hi
  have hm := hpt _ (getD_mem (l := ks) (i := i.toNat) (by omega) (0, 0)); have hl := g_bd g1 g2 g5 g6 hm.1 hm.2.1; have hh := g_bd g3 g4 g5 g6 hm.1 hm.2.1; generalize ks.getD i.toNat (0, 0) = k at *
  refine ⟨fun h => ⟨⟨by omega, by omega⟩, ⟨by omega, by omega⟩, ⟨by omega, by omega⟩, ⟨by omega, by omega⟩, ⟨by omega, by omega, by rw [hi, ← upP_lt (gh := gh) h]; rfl⟩, (show ((ks.length : Int) - (i + 1)).toNat < ((ks.length : Int) - i).toNat by omega)⟩, fun h => ⟨⟨by omega, by omega⟩, ⟨by omega, by omega⟩, ⟨by omega, by omega⟩, ⟨by omega, by omega⟩, ⟨by omega, by omega, by rw [hi, ← upP_ge (gl := gl) h]; rfl⟩, (show ((ks.length : Int) - (i + 1)).toNat < ((ks.length : Int) - i).toNat by omega)⟩⟩
theorem raised_ok : tab2.ok 118 := by
  refine Tab.of_ct rfl rfl ⟨_, Try.func118, by decide, rfl⟩ ?_ ctF_det
  refine ct_ok (cx := craised) (Tab.cx_ok all_nil fxraised) Try.func118 (bds := []) (T := traised) (by kernel_rfl) ?_
  unfold traised
  simp only [VC, allC, List.map_cons, List.map_nil, List.length_cons, List.length_nil, List.getElem?_cons_zero, List.getElem?_cons_succ, List.cons.injEq, C.i.injEq, C.b.injEq, and_true, true_and, forall_const, kindsOf_nil, kindsOf_lf, kindsOf_agg, kindsOf_box, boxKinds_nil, boxKinds_lf, boxKinds_agg, boxKinds_box, List.append_nil, List.cons_append, List.nil_append, den_cmp_le, den_cmp_lt, den_cmp_eq, den_cmp_ne, den_cmp_le', den_cmp_lt', den_cmp_eq', den_cmp_ne', den_and, den_and', den_or, den_or', den_not, den_not', den_blit, den_of, ev_var, at_0, at_1, at_2, at_3, at_4, at_5, at_6, at_7, at_skip, c_int, c_bool, c_arr, c_cnt, c_vec, ev_nil, ev_join, ev_sub3, loc_s, int_i, bool_b, rows_s, cs_nil, cs_cons, E.den_lit, E.den_var, E.den_add, E.den_sub, E.den_mul, E.den_quo, E.den_rem, E.den_max, E.den_min, E.den_len, E.den_wr, E.den_cell, ev_cell, kn1, kn2, ctLo, ctF, lineSh, earthSh, earthKs, n_, k_, earOf]
  intro b _ _ u1 r1 _ _ _ u2 r2 _ _ _ u3 r3 _ _ _ u4 r4 _ _ _ gl _ _ gh _ _ u7 r7 _ _ _ u8 r8 _ _ _ z _ _ so s0 s1 hp; have hk := knots_len r8; rw [← hk]; generalize knots r8 = ks at *; obtain ⟨⟨-, hpt⟩, g1, g2, g3, g4, g5, g6⟩ := hp; change 0 ≤ gl at g1; change gl ≤ 40000 at g2; change 0 ≤ gh at g3; change gh ≤ 40000 at g4
  refine ⟨bds_nil _, fun xs => match xs with | [.i so', .i i] => 0 ≤ i ∧ i ≤ ks.length ∧ loV gl gh ks z so = loV gl gh (ks.drop i.toNat) z so' | _ => False, fun xs => match xs with | [_, .i i] => ((ks.length : Int) - i).toNat | _ => 0, ⟨by omega, by omega, rfl⟩, ?_⟩
  rintro so' s0 s1 i _ _ ⟨i0, i1, hi⟩
  refine ⟨fun hlt => ⟨i0, hlt, ?_⟩, fun hge => by rw [hi, List.drop_of_length_le (by omega)]; rfl⟩
  rw [drop_cons (by omega) (0, 0), ← show (i + 1).toNat = i.toNat + 1 by omega] at hi
  have hm := hpt _ (getD_mem (l := ks) (i := i.toNat) (by omega) (0, 0)); have hl := g_bd g1 g2 g5 g6 hm.1 hm.2.1; have hh := g_bd g3 g4 g5 g6 hm.1 hm.2.1; generalize ks.getD i.toNat (0, 0) = k at *
  refine ⟨fun h => ⟨⟨by omega, by omega⟩, ⟨by omega, by omega⟩, ⟨by omega, by omega⟩, ⟨by omega, by omega⟩, ⟨by omega, by omega, by rw [hi, ← loP_lt (gl := gl) h]; rfl⟩, (show ((ks.length : Int) - (i + 1)).toNat < ((ks.length : Int) - i).toNat by omega)⟩, fun h => ⟨⟨by omega, by omega⟩, ⟨by omega, by omega⟩, ⟨by omega, by omega⟩, ⟨by omega, by omega⟩, ⟨by omega, by omega, by rw [hi, ← loP_ge (gh := gh) h]; rfl⟩, (show ((ks.length : Int) - (i + 1)).toNat < ((ks.length : Int) - i).toNat by omega)⟩⟩
theorem rupper_ok : tab2.ok 96 := by
  refine Tab.of_ct rfl rfl ⟨_, Try.func96, by decide, rfl⟩ ?_ ctF_det
  refine ct_ok (cx := crupper) (Tab.cx_ok all_nil) Try.func96 (bds := []) (T := trupper) (by kernel_rfl) ?_
  unfold trupper
  simp only [VC, allC, List.map_cons, List.map_nil, List.length_cons, List.length_nil, List.getElem?_cons_zero, List.getElem?_cons_succ, List.cons.injEq, C.i.injEq, C.b.injEq, and_true, true_and, forall_const, kindsOf_nil, kindsOf_lf, kindsOf_agg, kindsOf_box, boxKinds_nil, boxKinds_lf, boxKinds_agg, boxKinds_box, List.append_nil, List.cons_append, List.nil_append, den_cmp_le, den_cmp_lt, den_cmp_eq, den_cmp_ne, den_cmp_le', den_cmp_lt', den_cmp_eq', den_cmp_ne', den_and, den_and', den_or, den_or', den_not, den_not', den_blit, den_of, ev_var, at_0, at_1, at_2, at_3, at_4, at_5, at_6, at_7, at_skip, c_int, c_bool, c_arr, c_cnt, c_vec, ev_nil, ev_join, ev_sub3, loc_s, int_i, bool_b, rows_s, cs_nil, cs_cons, E.den_lit, E.den_var, E.den_add, E.den_sub, E.den_mul, E.den_quo, E.den_rem, E.den_max, E.den_min, E.den_len, E.den_wr, E.den_cell, ev_cell, kn1, kn2, ctUp, ctF, lineSh, earthSh, earthKs, n_, k_, earOf]
  intro b _ _ u1 r1 _ _ _ u2 r2 _ _ _ u3 r3 _ _ _ u4 r4 _ _ _ gl _ _ gh _ _ u7 r7 _ _ _ u8 r8 _ _ _ z _ _ so s0 s1 hp; have hk := knots_len r8; rw [← hk]; generalize knots r8 = ks at *; obtain ⟨⟨-, hpt⟩, g1, g2, g3, g4, g5, g6⟩ := hp; change 0 ≤ gl at g1; change gl ≤ 40000 at g2; change 0 ≤ gh at g3; change gh ≤ 40000 at g4
  refine ⟨bds_nil _, fun xs => match xs with | [.i so', .i i] => 0 ≤ i ∧ i ≤ ks.length ∧ upV gl gh ks z so = upV gl gh (ks.drop i.toNat) z so' | _ => False, fun xs => match xs with | [_, .i i] => ((ks.length : Int) - i).toNat | _ => 0, ⟨by omega, by omega, rfl⟩, ?_⟩
  rintro so' s0 s1 i _ _ ⟨i0, i1, hi⟩
  refine ⟨fun hlt => ⟨i0, hlt, ?_⟩, fun hge => by rw [hi, List.drop_of_length_le (by omega)]; rfl⟩
  rw [drop_cons (by omega) (0, 0), ← show (i + 1).toNat = i.toNat + 1 by omega] at hi
  have hm := hpt _ (getD_mem (l := ks) (i := i.toNat) (by omega) (0, 0)); have hl := g_bd g1 g2 g5 g6 hm.1 hm.2.1; have hh := g_bd g3 g4 g5 g6 hm.1 hm.2.1; generalize ks.getD i.toNat (0, 0) = k at *
  refine ⟨fun h => ⟨by omega, by omega, ⟨by omega, by omega⟩, ⟨by omega, by omega⟩, ⟨by omega, by omega⟩, ⟨by omega, by omega⟩, ⟨by omega, by omega, by rw [hi, ← upP_ge (gl := gl) h]; rfl⟩, (show ((ks.length : Int) - (i + 1)).toNat < ((ks.length : Int) - i).toNat by omega)⟩, fun h => ⟨by omega, by omega, ⟨by omega, by omega⟩, ⟨by omega, by omega⟩, ⟨by omega, by omega⟩, ⟨by omega, by omega⟩, ⟨by omega, by omega, by rw [hi, hl.2.2, Int.sub_neg, ← upP_lt (gh := gh) h]; rfl⟩, (show ((ks.length : Int) - (i + 1)).toNat < ((ks.length : Int) - i).toNat by omega)⟩⟩
theorem rlower_ok : tab2.ok 98 := by
  refine Tab.of_ct rfl rfl ⟨_, Try.func98, by decide, rfl⟩ ?_ ctF_det
  refine ct_ok (cx := crlower) (Tab.cx_ok all_nil) Try.func98 (bds := []) (T := trlower) (by kernel_rfl) ?_
  unfold trlower
  simp only [VC, allC, List.map_cons, List.map_nil, List.length_cons, List.length_nil, List.getElem?_cons_zero, List.getElem?_cons_succ, List.cons.injEq, C.i.injEq, C.b.injEq, and_true, true_and, forall_const, kindsOf_nil, kindsOf_lf, kindsOf_agg, kindsOf_box, boxKinds_nil, boxKinds_lf, boxKinds_agg, boxKinds_box, List.append_nil, List.cons_append, List.nil_append, den_cmp_le, den_cmp_lt, den_cmp_eq, den_cmp_ne, den_cmp_le', den_cmp_lt', den_cmp_eq', den_cmp_ne', den_and, den_and', den_or, den_or', den_not, den_not', den_blit, den_of, ev_var, at_0, at_1, at_2, at_3, at_4, at_5, at_6, at_7, at_skip, c_int, c_bool, c_arr, c_cnt, c_vec, ev_nil, ev_join, ev_sub3, loc_s, int_i, bool_b, rows_s, cs_nil, cs_cons, E.den_lit, E.den_var, E.den_add, E.den_sub, E.den_mul, E.den_quo, E.den_rem, E.den_max, E.den_min, E.den_len, E.den_wr, E.den_cell, ev_cell, kn1, kn2, ctLo, ctF, lineSh, earthSh, earthKs, n_, k_, earOf]
  intro b _ _ u1 r1 _ _ _ u2 r2 _ _ _ u3 r3 _ _ _ u4 r4 _ _ _ gl _ _ gh _ _ u7 r7 _ _ _ u8 r8 _ _ _ z _ _ so s0 s1 hp; have hk := knots_len r8; rw [← hk]; generalize knots r8 = ks at *; obtain ⟨⟨-, hpt⟩, g1, g2, g3, g4, g5, g6⟩ := hp; change 0 ≤ gl at g1; change gl ≤ 40000 at g2; change 0 ≤ gh at g3; change gh ≤ 40000 at g4
  refine ⟨bds_nil _, fun xs => match xs with | [.i so', .i i] => 0 ≤ i ∧ i ≤ ks.length ∧ loV gl gh ks z so = loV gl gh (ks.drop i.toNat) z so' | _ => False, fun xs => match xs with | [_, .i i] => ((ks.length : Int) - i).toNat | _ => 0, ⟨by omega, by omega, rfl⟩, ?_⟩
  rintro so' s0 s1 i _ _ ⟨i0, i1, hi⟩
  refine ⟨fun hlt => ⟨i0, hlt, ?_⟩, fun hge => by rw [hi, List.drop_of_length_le (by omega)]; rfl⟩
  rw [drop_cons (by omega) (0, 0), ← show (i + 1).toNat = i.toNat + 1 by omega] at hi
  have hm := hpt _ (getD_mem (l := ks) (i := i.toNat) (by omega) (0, 0)); have hl := g_bd g1 g2 g5 g6 hm.1 hm.2.1; have hh := g_bd g3 g4 g5 g6 hm.1 hm.2.1; generalize ks.getD i.toNat (0, 0) = k at *
  refine ⟨fun h => ⟨by omega, by omega, ⟨by omega, by omega⟩, ⟨by omega, by omega⟩, ⟨by omega, by omega⟩, ⟨by omega, by omega⟩, ⟨by omega, by omega, by rw [hi, ← loP_ge (gh := gh) h]; rfl⟩, (show ((ks.length : Int) - (i + 1)).toNat < ((ks.length : Int) - i).toNat by omega)⟩, fun h => ⟨by omega, by omega, ⟨by omega, by omega⟩, ⟨by omega, by omega⟩, ⟨by omega, by omega⟩, ⟨by omega, by omega⟩, ⟨by omega, by omega, by rw [hi, hh.2.2, Int.sub_neg, ← loP_lt (gl := gl) h]; rfl⟩, (show ((ks.length : Int) - (i + 1)).toNat < ((ks.length : Int) - i).toNat by omega)⟩⟩
end Go.Proofs.Ytcglpbchejkolaa
/- Earth: the ranges at a depth. -/
namespace Go.Proofs.Ytcglpbchejkolaa
open Go.RowKit
set_option linter.unusedSimpArgs false
set_option linter.unusedVariables false

theorem upV_min (gl gh z a : Int) : ∀ (l : List Kn) (b : Int), upV gl gh l z (min a b) = min a (upV gl gh l z b)
  | [], b => rfl
  | k :: l, b => by
    show upV gl gh l z (min (min a b) (upP gl gh z k)) = min a (upV gl gh l z (min b (upP gl gh z k)))
    rw [← upV_min gl gh z a l]
    congr 1; omega
theorem loV_max (gl gh z a : Int) : ∀ (l : List Kn) (b : Int), loV gl gh l z (max a b) = max a (loV gl gh l z b)
  | [], b => rfl
  | k :: l, b => by
    show loV gl gh l z (max (max a b) (loP gl gh z k)) = max a (loV gl gh l z (max b (loP gl gh z k)))
    rw [← loV_max gl gh z a l]
    congr 1; omega
theorem badReps_ok {b : Int} : ∀ {l : List Rep}, badReps b l = 0 → ∀ r ∈ l, 1 ≤ r.kind ∧ r.kind ≤ 4 ∧ 0 ≤ r.z ∧ r.z ≤ b ∧ 0 ≤ r.p ∧ r.p ≤ 68719476736
  | [], _, r, hr => by simp at hr
  | x :: l, h, r, hr => by
    rw [badReps] at h
    split at h
    rotate_left
    · omega
    rename_i h1
    split at h
    rotate_left
    · omega
    rename_i h2
    rw [inV_iff] at h1
    rw [Bool.and_eq_true, inV_iff, inV_iff] at h2
    rcases List.mem_cons.1 hr with rfl | hr
    · omega
    · exact badReps_ok h r hr
/-- A valid earth. -/
structure Valid (e : Ear) : Prop where
  b : 1 ≤ e.bottom ∧ e.bottom ≤ 1048576
  g : 0 ≤ e.gl ∧ e.gl ≤ e.gh ∧ e.gh ≤ 40000
  pl : lineE e.pl = 0
  ph : lineE e.ph = 0
  fl : lineE e.fl = 0
  fh : lineE e.fh = 0
  ab1 : ab e.ph e.pl = true
  ab2 : ab e.fh e.fl = true
  ab3 : ab e.fh e.pl = true
  reps : e.reps.length ≤ 24
  rep : ∀ r ∈ e.reps, 1 ≤ r.kind ∧ r.kind ≤ 4 ∧ 0 ≤ r.z ∧ r.z ≤ e.bottom ∧ 0 ≤ r.p ∧ r.p ≤ 68719476736
theorem orE_zero {a b : Int} (h : orE a b = 0) : a = 0 ∧ b = 0 := by
  unfold orE at h
  split at h
  · exact ⟨by assumption, h⟩
  · omega
theorem valid {e : Ear} (h : checkV e = 0) : Valid e := by
  unfold checkV at h
  split at h
  rotate_left
  · omega
  rename_i h0
  simp only [Bool.and_eq_true, decide_eq_true_eq, inV_iff] at h0
  obtain ⟨h1, h⟩ := orE_zero h
  obtain ⟨h2, h⟩ := orE_zero h
  obtain ⟨h3, h⟩ := orE_zero h
  obtain ⟨h4, h⟩ := orE_zero h
  split at h
  rotate_left
  · omega
  rename_i h5
  simp only [Bool.and_eq_true] at h5
  split at h
  · omega
  exact ⟨by omega, by omega, h1, h2, h3, h4, h5.1.1, h5.1.2, h5.2, by omega, badReps_ok h⟩
theorem valid_iff {e : Ear} : checkV e = 0 ↔ Valid e := by
  refine ⟨valid, fun h => ?_⟩
  have := h.b
  have := h.g
  rw [checkV_in (by omega), h.pl, h.ph, h.fl, h.fh]
  show restV e = 0
  rw [restV_in ⟨h.ab1, h.ab2, h.ab3⟩, if_neg (by have := h.reps; omega)]
  have : ∀ (b : Int) (l : List Rep), (∀ r ∈ l, 1 ≤ r.kind ∧ r.kind ≤ 4 ∧ 0 ≤ r.z ∧ r.z ≤ b ∧ 0 ≤ r.p ∧ r.p ≤ 68719476736) → badReps b l = 0 := fun b l => by
    induction l with
    | nil => intro _; rfl
    | cons r l ih =>
      intro hl
      have := hl r (by simp)
      rw [badReps_next (by omega) (by omega)]
      exact ih fun x hx => hl x (by simp [hx])
  exact this _ _ h.rep
theorem lineE_box {ks : List Kn} (h : lineE ks = 0) : ks.length ≤ 24 ∧ ∀ k ∈ ks, 0 ≤ k.1 ∧ k.1 ≤ 1048576 ∧ 0 ≤ k.2 ∧ k.2 ≤ 68719476736 := by
  obtain ⟨-, h2, -, h4⟩ := lineV_ok h
  exact ⟨h2, h4⟩
theorem Valid.points {e : Ear} (h : Valid e) {ks : List Kn} (hk : lineE ks = 0) (kind : Int) : PointsOK (pointsV e.bottom e.reps ks kind) := by
  obtain ⟨h1, h2⟩ := lineE_box hk
  refine ⟨?_, fun k hkk => ?_⟩
  · rw [pointsV_eq, List.length_append]
    have a1 := lowP_len e.bottom ks
    have a2 := repP_len e.reps kind
    have := h.reps
    omega
  · rw [pointsV_eq] at hkk
    rcases List.mem_append.1 hkk with hm | hm
    · exact h2 k (List.mem_filter.1 hm).1
    · unfold repP at hm
      obtain ⟨r, hr, rfl⟩ := List.mem_map.1 hm
      have := h.rep r (List.mem_filter.1 hr).1
      have := h.b
      simp only []
      omega
theorem okE_iff {e : Ear} {z : Int} : okE e z = true ↔ checkV e = 0 ∧ 0 ≤ z ∧ z ≤ e.bottom := by
  unfold okE
  rw [Bool.and_eq_true, beq_iff_eq, inV_iff]
theorem Valid.gok {e : Ear} (h : Valid e) {z : Int} (h0 : 0 ≤ z) (h1 : z ≤ e.bottom) : GOK e.gl e.gh z := by
  have := h.b
  have := h.g
  exact ⟨by omega, by omega, by omega, by omega, h0, by omega⟩
theorem both_ok : tab2.ok 95 := by
  refine Tab.of_ct rfl rfl ⟨_, Try.func95, by decide, rfl⟩ ?_ ctF_det
  refine ct_ok (cx := cboth) (Tab.cx_ok (all_cons points_ok (all_cons bounded_ok (all_cons raised_ok (all_cons (up_ok value_ok) all_nil))))) Try.func95 (bds := []) (T := tboth) (by kernel_rfl) ?_
  have h1 : cboth.ct 117 = some ctPoints := rfl
  have h2 : cboth.ct 116 = some ctUp := rfl
  have h3 : cboth.ct 118 = some ctLo := rfl
  have h4 : cboth.ct 65 = some ctValue := rfl
  unfold tboth
  simp only [VC, allC, List.map_cons, List.map_nil, List.length_cons, List.length_nil, List.getElem?_cons_zero, List.getElem?_cons_succ, List.cons.injEq, C.i.injEq, C.b.injEq, and_true, true_and, forall_const, kindsOf_nil, kindsOf_lf, kindsOf_agg, kindsOf_box, boxKinds_nil, boxKinds_lf, boxKinds_agg, boxKinds_box, List.append_nil, List.cons_append, List.nil_append, den_cmp_le, den_cmp_lt, den_cmp_eq, den_cmp_ne, den_cmp_le', den_cmp_lt', den_cmp_eq', den_cmp_ne', den_and, den_and', den_or, den_or', den_not, den_not', den_blit, den_of, ev_var, at_0, at_1, at_2, at_3, at_4, at_5, at_6, at_7, at_skip, c_int, c_bool, c_arr, c_cnt, c_vec, ev_nil, ev_join, ev_sub3, loc_s, int_i, bool_b, rows_s, cs_nil, cs_cons, E.den_lit, E.den_var, E.den_add, E.den_sub, E.den_mul, E.den_quo, E.den_rem, E.den_max, E.den_min, E.den_len, E.den_wr, E.den_cell, h1, h2, h3, h4, ctPoints, ctUp, ctLo, ctValue, ctBoth, ctF, lineSh, rangeSh, earthSh, earthKs, n_, k_, earOf, ofKn]
  intro b _ _ u1 r1 _ _ _ u2 r2 _ _ _ u3 r3 _ _ _ u4 r4 _ _ _ gl _ _ gh _ _ u7 r7 _ _ _ z _ _ hp
  have hrl := reps_len r7; generalize knots r1 = k1 at *; generalize knots r2 = k2 at *; generalize knots r3 = k3 at *; generalize knots r4 = k4 at *; generalize repsOf r7 = rs at *; generalize hE : (⟨b, k1, k2, k3, k4, gl, gh, rs⟩ : Ear) = e at *; have eb : b = e.bottom := by rw [← hE]
  have e1 : k1 = e.pl := by rw [← hE]
  have e2 : k2 = e.ph := by rw [← hE]
  have e3 : k3 = e.fl := by rw [← hE]
  have e4 : k4 = e.fh := by rw [← hE]
  have egl : gl = e.gl := by rw [← hE]
  have egh : gh = e.gh := by rw [← hE]
  have ers : rs = e.reps := by rw [← hE]
  subst e1 e2 e3 e4 eb egl egh ers
  obtain ⟨hc, z0, z1⟩ := okE_iff.1 hp
  have hv := valid hc
  have hg := hv.gok z0 z1
  have hr7 : r7.length ≤ 100 := by rw [← hrl]; have := hv.reps; omega
  have l1 := (lineE_box hv.pl).1
  have l2 := (lineE_box hv.ph).1
  have l3 := (lineE_box hv.fl).1
  have l4 := (lineE_box hv.fh).1
  refine ⟨bds_nil _, ⟨by omega, hr7⟩, ?_⟩
  rintro v9 r9 _ _ _ ⟨v, rows, hh, h9⟩
  obtain rfl : r9 = rows := by simp at hh; exact hh.2
  refine ⟨rightB_of hv.fh, ?_⟩
  rintro n10 _ _ n11 _ _ ⟨-, rfl⟩
  rw [h9]
  refine ⟨⟨hv.points hv.fh 4, hg⟩, ?_⟩
  rintro n12 _ _ h12
  refine ⟨⟨by omega, hr7⟩, ?_⟩
  rintro v13 r13 _ _ _ ⟨v, rows, hh, h13⟩
  obtain rfl : r13 = rows := by simp at hh; exact hh.2
  refine ⟨rightB_of hv.ph, ?_⟩
  rintro n14 _ _ n15 _ _ ⟨-, rfl⟩
  rw [h13]
  refine ⟨⟨hv.points hv.ph 2, hg⟩, ?_⟩
  rintro n16 _ _ h16
  refine ⟨⟨by omega, hr7⟩, ?_⟩
  rintro v17 r17 _ _ _ ⟨v, rows, hh, h17⟩
  obtain rfl : r17 = rows := by simp at hh; exact hh.2
  refine ⟨rightB_of hv.pl, ?_⟩
  rintro n18 _ _ n19 _ _ ⟨rfl, -⟩
  rw [h17]
  refine ⟨⟨hv.points hv.pl 1, hg⟩, ?_⟩
  rintro n20 _ _ h20
  refine ⟨⟨by omega, hr7⟩, ?_⟩
  rintro v21 r21 _ _ _ ⟨v, rows, hh, h21⟩
  obtain rfl : r21 = rows := by simp at hh; exact hh.2
  refine ⟨rightB_of hv.fl, ?_⟩
  rintro n22 _ _ n23 _ _ ⟨rfl, -⟩
  rw [h21]
  refine ⟨⟨hv.points hv.fl 3, hg⟩, ?_⟩
  rintro n24 _ _ h24
  rw [h12, h16, h20, h24]
  exact ⟨rfl, rfl, rfl, rfl⟩
theorem rranges_ok : tab2.ok 68 := by
  refine Tab.of_ct rfl rfl ⟨_, Try.func68, by decide, rfl⟩ ?_ ctF_det
  refine ct_ok (cx := crranges) (Tab.cx_ok (all_cons rpoints_ok (all_cons rupper_ok (all_cons rlower_ok (all_cons (up_ok rvalue_ok) all_nil))))) Try.func68 (bds := []) (T := trranges) (by kernel_rfl) ?_
  have h1 : crranges.ct 97 = some ctPoints := rfl
  have h2 : crranges.ct 96 = some ctUp := rfl
  have h3 : crranges.ct 98 = some ctLo := rfl
  have h4 : crranges.ct 72 = some ctValue := rfl
  unfold trranges
  simp only [VC, allC, List.map_cons, List.map_nil, List.length_cons, List.length_nil, List.getElem?_cons_zero, List.getElem?_cons_succ, List.cons.injEq, C.i.injEq, C.b.injEq, and_true, true_and, forall_const, kindsOf_nil, kindsOf_lf, kindsOf_agg, kindsOf_box, boxKinds_nil, boxKinds_lf, boxKinds_agg, boxKinds_box, List.append_nil, List.cons_append, List.nil_append, den_cmp_le, den_cmp_lt, den_cmp_eq, den_cmp_ne, den_cmp_le', den_cmp_lt', den_cmp_eq', den_cmp_ne', den_and, den_and', den_or, den_or', den_not, den_not', den_blit, den_of, ev_var, at_0, at_1, at_2, at_3, at_4, at_5, at_6, at_7, at_skip, c_int, c_bool, c_arr, c_cnt, c_vec, ev_nil, ev_join, ev_sub3, loc_s, int_i, bool_b, rows_s, cs_nil, cs_cons, E.den_lit, E.den_var, E.den_add, E.den_sub, E.den_mul, E.den_quo, E.den_rem, E.den_max, E.den_min, E.den_len, E.den_wr, E.den_cell, h1, h2, h3, h4, ctPoints, ctUp, ctLo, ctValue, ctBoth, ctF, lineSh, rangeSh, earthSh, earthKs, n_, k_, earOf, ofKn]
  intro b _ _ u1 r1 _ _ _ u2 r2 _ _ _ u3 r3 _ _ _ u4 r4 _ _ _ gl _ _ gh _ _ u7 r7 _ _ _ z _ _ hp
  have hrl := reps_len r7; generalize knots r1 = k1 at *; generalize knots r2 = k2 at *; generalize knots r3 = k3 at *; generalize knots r4 = k4 at *; generalize repsOf r7 = rs at *; generalize hE : (⟨b, k1, k2, k3, k4, gl, gh, rs⟩ : Ear) = e at *; have eb : b = e.bottom := by rw [← hE]
  have e1 : k1 = e.pl := by rw [← hE]
  have e2 : k2 = e.ph := by rw [← hE]
  have e3 : k3 = e.fl := by rw [← hE]
  have e4 : k4 = e.fh := by rw [← hE]
  have egl : gl = e.gl := by rw [← hE]
  have egh : gh = e.gh := by rw [← hE]
  have ers : rs = e.reps := by rw [← hE]
  subst e1 e2 e3 e4 eb egl egh ers
  obtain ⟨hc, z0, z1⟩ := okE_iff.1 hp
  have hv := valid hc
  have hg := hv.gok z0 z1
  have hr7 : r7.length ≤ 100 := by rw [← hrl]; have := hv.reps; omega
  have l1 := (lineE_box hv.pl).1
  have l2 := (lineE_box hv.ph).1
  have l3 := (lineE_box hv.fl).1
  have l4 := (lineE_box hv.fh).1
  refine ⟨bds_nil _, ⟨by omega, hr7⟩, ?_⟩
  rintro v9 r9 _ _ _ ⟨v, rows, hh, h9⟩
  obtain rfl : r9 = rows := by simp at hh; exact hh.2
  refine ⟨rightB_of hv.fh, ?_⟩
  rintro n10 _ _ n11 _ _ ⟨-, rfl⟩
  rw [h9]
  refine ⟨⟨hv.points hv.fh 4, hg⟩, ?_⟩
  rintro n12 _ _ h12
  have h12 : n12 = fhV e z := h12
  refine ⟨⟨by omega, hr7⟩, ?_⟩
  rintro v13 r13 _ _ _ ⟨v, rows, hh, h13⟩
  obtain rfl : r13 = rows := by simp at hh; exact hh.2
  refine ⟨rightB_of hv.ph, ?_⟩
  rintro n14 _ _ n15 _ _ ⟨-, rfl⟩
  rw [h13]
  refine ⟨⟨hv.points hv.ph 2, hg⟩, ?_⟩
  rintro n16 _ _ h16
  have h16 : n16 = phV e z := by rw [h16, Int.min_comm, upV_min, h12]; rfl
  refine ⟨⟨by omega, hr7⟩, ?_⟩
  rintro v17 r17 _ _ _ ⟨v, rows, hh, h17⟩
  obtain rfl : r17 = rows := by simp at hh; exact hh.2
  refine ⟨rightB_of hv.pl, ?_⟩
  rintro n18 _ _ n19 _ _ ⟨rfl, -⟩
  rw [h17]
  refine ⟨⟨hv.points hv.pl 1, hg⟩, ?_⟩
  rintro n20 _ _ h20
  have h20 : n20 = plV e z := by rw [h20, loV_max]; rfl
  refine ⟨⟨by omega, hr7⟩, ?_⟩
  rintro v21 r21 _ _ _ ⟨v, rows, hh, h21⟩
  obtain rfl : r21 = rows := by simp at hh; exact hh.2
  refine ⟨rightB_of hv.fl, ?_⟩
  rintro n22 _ _ n23 _ _ ⟨rfl, -⟩
  rw [h21]
  refine ⟨⟨hv.points hv.fl 3, hg⟩, ?_⟩
  rintro n24 _ _ h24
  have h24 : n24 = flV e z := by rw [h24, loV_max, h20]; rfl
  exact ⟨h20, h16, h24, h12⟩
theorem asked_ok : tab2.ok 66 := by
  refine Tab.of_ct rfl rfl ⟨_, Try.func66, by decide, rfl⟩ ?_ ctF_det
  refine ct_ok (cx := casked) (Tab.cx_ok (all_cons check_ok (all_cons (up_ok within_ok) (all_cons both_ok all_nil)))) Try.func66 (bds := []) (T := tasked) (by kernel_rfl) ?_
  have h1 : casked.ct 35 = some ctCheck := rfl
  have h2 : casked.ct 95 = some ctBoth := rfl
  unfold tasked
  simp only [VC, allC, List.map_cons, List.map_nil, List.length_cons, List.length_nil, List.getElem?_cons_zero, List.getElem?_cons_succ, List.cons.injEq, C.i.injEq, C.b.injEq, and_true, true_and, forall_const, kindsOf_nil, kindsOf_lf, kindsOf_agg, kindsOf_box, boxKinds_nil, boxKinds_lf, boxKinds_agg, boxKinds_box, List.append_nil, List.cons_append, List.nil_append, den_cmp_le, den_cmp_lt, den_cmp_eq, den_cmp_ne, den_cmp_le', den_cmp_lt', den_cmp_eq', den_cmp_ne', den_and, den_and', den_or, den_or', den_not, den_not', den_blit, den_of, ev_var, at_0, at_1, at_2, at_3, at_4, at_5, at_6, at_7, at_skip, c_int, c_bool, c_arr, c_cnt, c_vec, ev_nil, ev_join, ev_sub3, loc_s, int_i, bool_b, rows_s, cs_nil, cs_cons, E.den_lit, E.den_var, E.den_add, E.den_sub, E.den_mul, E.den_quo, E.den_rem, E.den_max, E.den_min, E.den_len, E.den_wr, E.den_cell, h1, h2, ctCheck, ctBoth, ctAsked, ctF, lineSh, rangeSh, earthSh, earthKs, n_, k_, earOf, ofKn]
  intro b _ _ u1 r1 _ _ _ u2 r2 _ _ _ u3 r3 _ _ _ u4 r4 _ _ _ gl _ _ gh _ _ u7 r7 _ _ _ z _ _
  have hrl := reps_len r7; generalize knots r1 = k1 at *; generalize knots r2 = k2 at *; generalize knots r3 = k3 at *; generalize knots r4 = k4 at *; generalize repsOf r7 = rs at *; generalize hE : (⟨b, k1, k2, k3, k4, gl, gh, rs⟩ : Ear) = e at *; have eb : b = e.bottom := by rw [← hE]
  have no : ¬ (checkV e = 0 ∧ 0 ≤ z ∧ z ≤ e.bottom) → (0 : Int) = (poreV e z).1 ∧ (0 : Int) = (poreV e z).2 ∧ (0 : Int) = (fracV e z).1 ∧ (0 : Int) = (fracV e z).2 := fun h => by
    unfold poreV fracV
    rw [if_neg (fun hc => h (okE_iff.1 hc)), if_neg (fun hc => h (okE_iff.1 hc))]
    exact ⟨rfl, rfl, rfl, rfl⟩
  refine ⟨bds_nil _, ?_⟩
  rintro n _ _ rfl
  refine ⟨fun h => no fun hc => h hc.1, fun h => ⟨fun h2 => ?_, fun h2 => ?_⟩⟩
  · refine no fun hc => ?_
    have := h2 hc.2.1
    omega
  have hok : okE e z = true := okE_iff.2 ⟨h, by omega⟩
  refine ⟨hok, ?_⟩
  unfold poreV fracV
  rw [if_pos hok, if_pos hok]
  rintro a _ _ b _ _ c _ _ d _ _ hh
  exact hh
theorem rin_ok : tab2.ok 67 := by
  refine Tab.of_ct rfl rfl ⟨_, Try.func67, by decide, rfl⟩ ?_ ctF_det
  refine ct_ok (cx := crin) (Tab.cx_ok (all_cons rcheck_ok all_nil)) Try.func67 (bds := []) (T := trin) (by kernel_rfl) ?_
  have h1 : crin.ct 47 = some ctCheck := rfl
  unfold trin
  simp only [VC, allC, List.map_cons, List.map_nil, List.length_cons, List.length_nil, List.getElem?_cons_zero, List.getElem?_cons_succ, List.cons.injEq, C.i.injEq, C.b.injEq, and_true, true_and, forall_const, kindsOf_nil, kindsOf_lf, kindsOf_agg, kindsOf_box, boxKinds_nil, boxKinds_lf, boxKinds_agg, boxKinds_box, List.append_nil, List.cons_append, List.nil_append, den_cmp_le, den_cmp_lt, den_cmp_eq, den_cmp_ne, den_cmp_le', den_cmp_lt', den_cmp_eq', den_cmp_ne', den_and, den_and', den_or, den_or', den_not, den_not', den_blit, den_of, ev_var, at_0, at_1, at_2, at_3, at_4, at_5, at_6, at_7, at_skip, c_int, c_bool, c_arr, c_cnt, c_vec, ev_nil, ev_join, ev_sub3, loc_s, int_i, bool_b, rows_s, cs_nil, cs_cons, E.den_lit, E.den_var, E.den_add, E.den_sub, E.den_mul, E.den_quo, E.den_rem, E.den_max, E.den_min, E.den_len, E.den_wr, E.den_cell, h1, ctCheck, ctIn, ctF, lineSh, rangeSh, earthSh, earthKs, n_, k_, earOf, ofKn]
  intro b _ _ u1 r1 _ _ _ u2 r2 _ _ _ u3 r3 _ _ _ u4 r4 _ _ _ gl _ _ gh _ _ u7 r7 _ _ _ z _ _
  have hrl := reps_len r7; generalize knots r1 = k1 at *; generalize knots r2 = k2 at *; generalize knots r3 = k3 at *; generalize knots r4 = k4 at *; generalize repsOf r7 = rs at *; generalize hE : (⟨b, k1, k2, k3, k4, gl, gh, rs⟩ : Ear) = e at *; have eb : b = e.bottom := by rw [← hE]
  have no : ¬ (checkV e = 0 ∧ 0 ≤ z ∧ z ≤ e.bottom) → false = okE e z := fun h => by
    cases hc : okE e z with
    | false => rfl
    | true => exact absurd (okE_iff.1 hc) h
  refine ⟨bds_nil _, fun h => ⟨fun h2 => ?_, fun h2 => no fun hc => by omega⟩, fun h => no fun hc => by omega⟩
  rintro n _ _ rfl
  show decide (checkV e = 0) = _
  rw [Bool.eq_iff_iff, decide_eq_true_iff, okE_iff]
  omega
theorem pore_ok : tab2.ok 27 := by
  refine Tab.of_ct rfl rfl ⟨_, Try.func27, by decide, rfl⟩ ?_ ctF_det
  refine ct_ok (cx := cpore) (Tab.cx_ok (all_cons asked_ok all_nil)) Try.func27 (bds := []) (T := tpore) (by kernel_rfl) ?_
  have h1 : cpore.ct 66 = some ctAsked := rfl
  unfold tpore
  simp only [VC, allC, List.map_cons, List.map_nil, List.length_cons, List.length_nil, List.getElem?_cons_zero, List.getElem?_cons_succ, List.cons.injEq, C.i.injEq, C.b.injEq, and_true, true_and, forall_const, kindsOf_nil, kindsOf_lf, kindsOf_agg, kindsOf_box, boxKinds_nil, boxKinds_lf, boxKinds_agg, boxKinds_box, List.append_nil, List.cons_append, List.nil_append, den_cmp_le, den_cmp_lt, den_cmp_eq, den_cmp_ne, den_cmp_le', den_cmp_lt', den_cmp_eq', den_cmp_ne', den_and, den_and', den_or, den_or', den_not, den_not', den_blit, den_of, ev_var, at_0, at_1, at_2, at_3, at_4, at_5, at_6, at_7, at_skip, c_int, c_bool, c_arr, c_cnt, c_vec, ev_nil, ev_join, ev_sub3, loc_s, int_i, bool_b, rows_s, cs_nil, cs_cons, E.den_lit, E.den_var, E.den_add, E.den_sub, E.den_mul, E.den_quo, E.den_rem, E.den_max, E.den_min, E.den_len, E.den_wr, E.den_cell, h1, ctAsked, ctRange, ctF, lineSh, rangeSh, earthSh, earthKs, n_, k_, earOf, ofKn]
  intro b _ _ u1 r1 _ _ _ u2 r2 _ _ _ u3 r3 _ _ _ u4 r4 _ _ _ gl _ _ gh _ _ u7 r7 _ _ _ z _ _; generalize hE : (⟨b, knots r1, knots r2, knots r3, knots r4, gl, gh, repsOf r7⟩ : Ear) = e at *
  refine ⟨bds_nil _, ?_⟩
  rintro a _ _ b _ _ c _ _ d _ _ ⟨h1, h2, -, -⟩
  exact ⟨h1, h2⟩
theorem frac_ok : tab2.ok 29 := by
  refine Tab.of_ct rfl rfl ⟨_, Try.func29, by decide, rfl⟩ ?_ ctF_det
  refine ct_ok (cx := cfrac) (Tab.cx_ok (all_cons asked_ok all_nil)) Try.func29 (bds := []) (T := tfrac) (by kernel_rfl) ?_
  have h1 : cfrac.ct 66 = some ctAsked := rfl
  unfold tfrac
  simp only [VC, allC, List.map_cons, List.map_nil, List.length_cons, List.length_nil, List.getElem?_cons_zero, List.getElem?_cons_succ, List.cons.injEq, C.i.injEq, C.b.injEq, and_true, true_and, forall_const, kindsOf_nil, kindsOf_lf, kindsOf_agg, kindsOf_box, boxKinds_nil, boxKinds_lf, boxKinds_agg, boxKinds_box, List.append_nil, List.cons_append, List.nil_append, den_cmp_le, den_cmp_lt, den_cmp_eq, den_cmp_ne, den_cmp_le', den_cmp_lt', den_cmp_eq', den_cmp_ne', den_and, den_and', den_or, den_or', den_not, den_not', den_blit, den_of, ev_var, at_0, at_1, at_2, at_3, at_4, at_5, at_6, at_7, at_skip, c_int, c_bool, c_arr, c_cnt, c_vec, ev_nil, ev_join, ev_sub3, loc_s, int_i, bool_b, rows_s, cs_nil, cs_cons, E.den_lit, E.den_var, E.den_add, E.den_sub, E.den_mul, E.den_quo, E.den_rem, E.den_max, E.den_min, E.den_len, E.den_wr, E.den_cell, h1, ctAsked, ctRange, ctF, lineSh, rangeSh, earthSh, earthKs, n_, k_, earOf, ofKn]
  intro b _ _ u1 r1 _ _ _ u2 r2 _ _ _ u3 r3 _ _ _ u4 r4 _ _ _ gl _ _ gh _ _ u7 r7 _ _ _ z _ _; generalize hE : (⟨b, knots r1, knots r2, knots r3, knots r4, gl, gh, repsOf r7⟩ : Ear) = e at *
  refine ⟨bds_nil _, ?_⟩
  rintro a _ _ b _ _ c _ _ d _ _ ⟨-, -, h1, h2⟩
  exact ⟨h1, h2⟩
theorem win_eq (e : Ear) (z : Int) : winV e z = ((poreV e z).2, (fracV e z).1) := by
  unfold winV poreV fracV
  split <;> rfl
theorem window_ok : tab2.ok 31 := by
  refine Tab.of_ct rfl rfl ⟨_, Try.func31, by decide, rfl⟩ ?_ ctF_det
  refine ct_ok (cx := cwindow) (Tab.cx_ok (all_cons asked_ok all_nil)) Try.func31 (bds := []) (T := twindow) (by kernel_rfl) ?_
  have h1 : cwindow.ct 66 = some ctAsked := rfl
  unfold twindow
  simp only [VC, allC, List.map_cons, List.map_nil, List.length_cons, List.length_nil, List.getElem?_cons_zero, List.getElem?_cons_succ, List.cons.injEq, C.i.injEq, C.b.injEq, and_true, true_and, forall_const, kindsOf_nil, kindsOf_lf, kindsOf_agg, kindsOf_box, boxKinds_nil, boxKinds_lf, boxKinds_agg, boxKinds_box, List.append_nil, List.cons_append, List.nil_append, den_cmp_le, den_cmp_lt, den_cmp_eq, den_cmp_ne, den_cmp_le', den_cmp_lt', den_cmp_eq', den_cmp_ne', den_and, den_and', den_or, den_or', den_not, den_not', den_blit, den_of, ev_var, at_0, at_1, at_2, at_3, at_4, at_5, at_6, at_7, at_skip, c_int, c_bool, c_arr, c_cnt, c_vec, ev_nil, ev_join, ev_sub3, loc_s, int_i, bool_b, rows_s, cs_nil, cs_cons, E.den_lit, E.den_var, E.den_add, E.den_sub, E.den_mul, E.den_quo, E.den_rem, E.den_max, E.den_min, E.den_len, E.den_wr, E.den_cell, h1, ctAsked, ctRange, ctF, lineSh, rangeSh, earthSh, earthKs, n_, k_, earOf, ofKn]
  intro b _ _ u1 r1 _ _ _ u2 r2 _ _ _ u3 r3 _ _ _ u4 r4 _ _ _ gl _ _ gh _ _ u7 r7 _ _ _ z _ _; generalize hE : (⟨b, knots r1, knots r2, knots r3, knots r4, gl, gh, repsOf r7⟩ : Ear) = e at *
  refine ⟨bds_nil _, ?_⟩
  rintro a _ _ b _ _ c _ _ d _ _ ⟨-, h1, h2, -⟩
  rw [win_eq]
  exact ⟨h1, h2⟩
theorem rpore_ok : tab2.ok 28 := by
  refine Tab.of_ct rfl rfl ⟨_, Try.func28, by decide, rfl⟩ ?_ ctF_det
  refine ct_ok (cx := crpore) (Tab.cx_ok (all_cons rin_ok (all_cons rranges_ok all_nil))) Try.func28 (bds := []) (T := trpore) (by kernel_rfl) ?_
  have h1 : crpore.ct 67 = some ctIn := rfl
  have h2 : crpore.ct 68 = some ctBoth := rfl
  unfold trpore
  simp only [VC, allC, List.map_cons, List.map_nil, List.length_cons, List.length_nil, List.getElem?_cons_zero, List.getElem?_cons_succ, List.cons.injEq, C.i.injEq, C.b.injEq, and_true, true_and, forall_const, kindsOf_nil, kindsOf_lf, kindsOf_agg, kindsOf_box, boxKinds_nil, boxKinds_lf, boxKinds_agg, boxKinds_box, List.append_nil, List.cons_append, List.nil_append, den_cmp_le, den_cmp_lt, den_cmp_eq, den_cmp_ne, den_cmp_le', den_cmp_lt', den_cmp_eq', den_cmp_ne', den_and, den_and', den_or, den_or', den_not, den_not', den_blit, den_of, ev_var, at_0, at_1, at_2, at_3, at_4, at_5, at_6, at_7, at_skip, c_int, c_bool, c_arr, c_cnt, c_vec, ev_nil, ev_join, ev_sub3, loc_s, int_i, bool_b, rows_s, cs_nil, cs_cons, E.den_lit, E.den_var, E.den_add, E.den_sub, E.den_mul, E.den_quo, E.den_rem, E.den_max, E.den_min, E.den_len, E.den_wr, E.den_cell, h1, h2, ctIn, ctBoth, ctRange, ctF, lineSh, rangeSh, earthSh, earthKs, n_, k_, earOf, ofKn]
  intro b _ _ u1 r1 _ _ _ u2 r2 _ _ _ u3 r3 _ _ _ u4 r4 _ _ _ gl _ _ gh _ _ u7 r7 _ _ _ z _ _; generalize hE : (⟨b, knots r1, knots r2, knots r3, knots r4, gl, gh, repsOf r7⟩ : Ear) = e at *
  refine ⟨bds_nil _, ?_⟩
  rintro t rfl
  unfold poreV
  refine ⟨fun h => by rw [if_neg (by rw [h]; simp)]; exact ⟨rfl, rfl⟩, fun h => ⟨h, ?_⟩⟩
  rw [if_pos h]
  rintro a _ _ b _ _ c _ _ d _ _ ⟨h1, h2, -, -⟩
  exact ⟨h1, h2⟩
theorem rfrac_ok : tab2.ok 30 := by
  refine Tab.of_ct rfl rfl ⟨_, Try.func30, by decide, rfl⟩ ?_ ctF_det
  refine ct_ok (cx := crfrac) (Tab.cx_ok (all_cons rin_ok (all_cons rranges_ok all_nil))) Try.func30 (bds := []) (T := trfrac) (by kernel_rfl) ?_
  have h1 : crfrac.ct 67 = some ctIn := rfl
  have h2 : crfrac.ct 68 = some ctBoth := rfl
  unfold trfrac
  simp only [VC, allC, List.map_cons, List.map_nil, List.length_cons, List.length_nil, List.getElem?_cons_zero, List.getElem?_cons_succ, List.cons.injEq, C.i.injEq, C.b.injEq, and_true, true_and, forall_const, kindsOf_nil, kindsOf_lf, kindsOf_agg, kindsOf_box, boxKinds_nil, boxKinds_lf, boxKinds_agg, boxKinds_box, List.append_nil, List.cons_append, List.nil_append, den_cmp_le, den_cmp_lt, den_cmp_eq, den_cmp_ne, den_cmp_le', den_cmp_lt', den_cmp_eq', den_cmp_ne', den_and, den_and', den_or, den_or', den_not, den_not', den_blit, den_of, ev_var, at_0, at_1, at_2, at_3, at_4, at_5, at_6, at_7, at_skip, c_int, c_bool, c_arr, c_cnt, c_vec, ev_nil, ev_join, ev_sub3, loc_s, int_i, bool_b, rows_s, cs_nil, cs_cons, E.den_lit, E.den_var, E.den_add, E.den_sub, E.den_mul, E.den_quo, E.den_rem, E.den_max, E.den_min, E.den_len, E.den_wr, E.den_cell, h1, h2, ctIn, ctBoth, ctRange, ctF, lineSh, rangeSh, earthSh, earthKs, n_, k_, earOf, ofKn]
  intro b _ _ u1 r1 _ _ _ u2 r2 _ _ _ u3 r3 _ _ _ u4 r4 _ _ _ gl _ _ gh _ _ u7 r7 _ _ _ z _ _; generalize hE : (⟨b, knots r1, knots r2, knots r3, knots r4, gl, gh, repsOf r7⟩ : Ear) = e at *
  refine ⟨bds_nil _, ?_⟩
  rintro t rfl
  unfold fracV
  refine ⟨fun h => by rw [if_neg (by rw [h]; simp)]; exact ⟨rfl, rfl⟩, fun h => ⟨h, ?_⟩⟩
  rw [if_pos h]
  rintro a _ _ b _ _ c _ _ d _ _ ⟨-, -, h1, h2⟩
  exact ⟨h1, h2⟩
theorem rwindow_ok : tab2.ok 32 := by
  refine Tab.of_ct rfl rfl ⟨_, Try.func32, by decide, rfl⟩ ?_ ctF_det
  refine ct_ok (cx := crwindow) (Tab.cx_ok (all_cons rin_ok (all_cons rranges_ok all_nil))) Try.func32 (bds := []) (T := trwindow) (by kernel_rfl) ?_
  have h1 : crwindow.ct 67 = some ctIn := rfl
  have h2 : crwindow.ct 68 = some ctBoth := rfl
  unfold trwindow
  simp only [VC, allC, List.map_cons, List.map_nil, List.length_cons, List.length_nil, List.getElem?_cons_zero, List.getElem?_cons_succ, List.cons.injEq, C.i.injEq, C.b.injEq, and_true, true_and, forall_const, kindsOf_nil, kindsOf_lf, kindsOf_agg, kindsOf_box, boxKinds_nil, boxKinds_lf, boxKinds_agg, boxKinds_box, List.append_nil, List.cons_append, List.nil_append, den_cmp_le, den_cmp_lt, den_cmp_eq, den_cmp_ne, den_cmp_le', den_cmp_lt', den_cmp_eq', den_cmp_ne', den_and, den_and', den_or, den_or', den_not, den_not', den_blit, den_of, ev_var, at_0, at_1, at_2, at_3, at_4, at_5, at_6, at_7, at_skip, c_int, c_bool, c_arr, c_cnt, c_vec, ev_nil, ev_join, ev_sub3, loc_s, int_i, bool_b, rows_s, cs_nil, cs_cons, E.den_lit, E.den_var, E.den_add, E.den_sub, E.den_mul, E.den_quo, E.den_rem, E.den_max, E.den_min, E.den_len, E.den_wr, E.den_cell, h1, h2, ctIn, ctBoth, ctRange, ctF, lineSh, rangeSh, earthSh, earthKs, n_, k_, earOf, ofKn]
  intro b _ _ u1 r1 _ _ _ u2 r2 _ _ _ u3 r3 _ _ _ u4 r4 _ _ _ gl _ _ gh _ _ u7 r7 _ _ _ z _ _; generalize hE : (⟨b, knots r1, knots r2, knots r3, knots r4, gl, gh, repsOf r7⟩ : Ear) = e at *
  refine ⟨bds_nil _, ?_⟩
  rintro t rfl
  unfold winV
  refine ⟨fun h => by rw [if_neg (by rw [h]; simp)]; exact ⟨rfl, rfl⟩, fun h => ⟨h, ?_⟩⟩
  rw [if_pos h]
  rintro a _ _ b _ _ c _ _ d _ _ ⟨-, h1, h2, -⟩
  exact ⟨h1, h2⟩
end Go.Proofs.Ytcglpbchejkolaa
/- Wide structs: the cells by their number, never written out. -/
namespace Go.Proofs.Ytcglpbchejkolaa
open Go.RowKit
set_option linter.unusedSimpArgs false
set_option linter.unusedVariables false

theorem allC_intro {P : Program} : ∀ {ks : List Lk} {p : List C → Prop}, (∀ cs, CTy P ks cs → p cs) → allC P ks p
  | [], p, h => h [] trivial
  | .int :: ks, p, h => fun n h1 h2 => allC_intro fun cs hc => h (.i n :: cs) ⟨⟨fun m => by cases m <;> exact ⟨h1, h2⟩, n, rfl⟩, hc⟩
  | .bool :: ks, p, h => fun t => allC_intro fun cs hc => h (.b t :: cs) ⟨⟨fun m => by cases m <;> trivial, t, rfl⟩, hc⟩
  | .arr t :: ks, p, h => fun v rows d h1 h2 => allC_intro fun cs hc => h (.s v rows :: cs) ⟨⟨h2, v, rows, d, rfl, h1⟩, hc⟩
  | .vec t :: ks, p, h => fun v rows d h1 h2 => allC_intro fun cs hc => h (.s v rows :: cs) ⟨⟨h2, v, rows, d, rfl, h1⟩, hc⟩
theorem at_lt {cs l : List C} {i : Nat} (h : i < cs.length) : at_ (cs ++ l) i = at_ cs i := at_ext h
theorem at_end {cs l : List C} {i j : Nat} (h : i = cs.length + j) : at_ (cs ++ l) i = at_ l j := by
  subst h
  unfold at_
  rw [List.getD_eq_getElem?_getD, List.getElem?_append_right (by omega), Nat.add_sub_cancel_left, ← List.getD_eq_getElem?_getD]
theorem CTy.int {P : Program} : ∀ {ks : List Lk} {cs : List C}, CTy P ks cs → ∀ {i : Nat}, ks[i]? = some .int → at_ cs i = .i (at_ cs i).int ∧ -9223372036854775808 ≤ (at_ cs i).int ∧ (at_ cs i).int ≤ 9223372036854775807
  | k :: ks, c :: cs, h, 0, hi => by
    cases hi
    obtain ⟨⟨hs, n, rfl⟩, -⟩ := h
    exact ⟨rfl, (hs 0)⟩
  | k :: ks, c :: cs, h, i + 1, hi => CTy.int h.2 (i := i) (by simpa using hi)
  | [], _, _, i, hi => by simp at hi
theorem at_cs {ρ : List C} : ∀ {l : List Lf} {i : Nat} {x : Lf}, l[i]? = some x → at_ (cs_ ρ l) i = x.c ρ := fun {l i x} h => by
  unfold at_ cs_
  rw [List.getD_eq_getElem?_getD, List.getElem?_map, h]; rfl
/-! A tree, one node after another -/
section
variable {cx : Cx} {R : List C → Prop} {ρ : List C} {Ls : List (List C → Prop)} {t e : Tree}
theorem VC.callI {f : Nat} {args : List Lf} {ct : Ct} (h : cx.ct f = some ct) (hpre : ct.pre (cs_ ρ args)) (hk : ∀ rs, CTy cx.P (kindsOf ct.res ++ boxKinds ct.args) rs → ct.post (cs_ ρ args) rs → VC cx R t (ρ ++ rs) Ls) : VC cx R (.call f args t) ρ Ls := by
  simp only [VC, h]
  exact ⟨hpre, allC_intro hk⟩
theorem VC.arrI {rows : List (List Lf)} (h : ∀ v : Value, VC cx R t (ρ ++ [.s v (rows.map (cs_ ρ))]) Ls) : VC cx R (.arr rows t) ρ Ls := h
theorem VC.dfnI {x : E} (h : VC cx R t (ρ ++ [x.ev ρ]) Ls) : VC cx R (.dfn x t) ρ Ls := h
theorem VC.splitI {b : B} (h1 : b.den ρ = true → VC cx R t ρ Ls) (h2 : b.den ρ = false → VC cx R e ρ Ls) : VC cx R (.split b t e) ρ Ls := ⟨h1, h2⟩
theorem VC.posI {b : B} (h : b.den ρ = true) (h1 : VC cx R t ρ Ls) : VC cx R (.split b t e) ρ Ls := ⟨fun _ => h1, fun h2 => absurd h2 (by rw [h]; simp)⟩
theorem VC.negI {b : B} (h : b.den ρ = false) (h1 : VC cx R e ρ Ls) : VC cx R (.split b t e) ρ Ls := ⟨fun h2 => absurd h2 (by rw [h]; simp), fun _ => h1⟩
theorem VC.obI {b : B} (h : b.den ρ = true) (h1 : VC cx R t ρ Ls) : VC cx R (.ob b t) ρ Ls := ⟨h, h1⟩
theorem VC.retI {l : List Lf} (h : R (cs_ ρ l)) : VC cx R (.ret l) ρ Ls := h
theorem VC.catI {a b : E} (h : ∀ v : Value, VC cx R t (ρ ++ [.s v ((a.ev ρ).rows ++ (b.ev ρ).rows)]) Ls) : VC cx R (.cat a b t) ρ Ls := h
end
end Go.Proofs.Ytcglpbchejkolaa
/- Earth: the chapter's examples. -/
namespace Go.Proofs.Ytcglpbchejkolaa
open Go.RowKit
set_option linter.unusedSimpArgs false
set_option linter.unusedVariables false

theorem ints_len (rows : List (List C)) : (ints rows).length = rows.length := by simp [ints]
theorem in1 (v : Value) (rows : List (List C)) (i : Nat) : ((C.s v rows).at i 0).int = (ints rows).getD i 0 := by
  simp only [cell_at, ints, List.getD_eq_getElem?_getD, List.getElem?_map]
  cases rows[i]? <;> rfl
theorem pairs_at : ∀ {l : List Int} {n : Nat}, 2 * n + 1 < l.length → pairs (l.take (2 * (n + 1))) = pairs (l.take (2 * n)) ++ [(l.getD (2 * n) 0, l.getD (2 * n + 1) 0)]
  | [], n, h => by simp at h
  | [a], n, h => by simp at h
  | a :: b :: l, 0, h => by simp [pairs]
  | a :: b :: l, n + 1, h => by
    have ih := pairs_at (l := l) (n := n) (by simp at h; omega)
    rw [show 2 * (n + 1 + 1) = 2 * (n + 1) + 1 + 1 by omega, show 2 * (n + 1) = 2 * n + 1 + 1 by omega] at *
    simp only [List.take_succ_cons, pairs, List.getD_cons_succ, List.cons_append]
    rw [ih]
theorem pairs_end : ∀ {l : List Int} {n : Nat}, l.length ≤ 2 * n + 1 → pairs (l.take (2 * n)) = pairs l
  | [], n, h => by simp
  | [a], n, h => by cases n <;> simp [pairs, Nat.mul_add]
  | a :: b :: l, 0, h => by simp at h
  | a :: b :: l, n + 1, h => by
    have ih := pairs_end (l := l) (n := n) (by simp at h; omega)
    rw [show 2 * (n + 1) = 2 * n + 1 + 1 by omega]
    simp only [List.take_succ_cons, pairs]
    rw [ih]
theorem mkline_ok : tab2.ok 55 := by
  refine Tab.of_ct rfl rfl ⟨_, Try.func55, by decide, rfl⟩ ?_ (fun h => by cases h)
  refine ct_ok (cx := cmkline) (Tab.cx_ok all_nil) Try.func55 (bds := []) (T := tmkline) (by kernel_rfl) ?_
  unfold tmkline
  simp only [VC, allC, List.map_cons, List.map_nil, List.length_cons, List.length_nil, List.getElem?_cons_zero, List.getElem?_cons_succ, List.cons.injEq, C.i.injEq, C.b.injEq, and_true, true_and, forall_const, kindsOf_nil, kindsOf_lf, kindsOf_agg, kindsOf_box, boxKinds_nil, boxKinds_lf, boxKinds_agg, boxKinds_box, List.append_nil, List.cons_append, List.nil_append, den_cmp_le, den_cmp_lt, den_cmp_eq, den_cmp_ne, den_cmp_le', den_cmp_lt', den_cmp_eq', den_cmp_ne', den_and, den_and', den_or, den_or', den_not, den_not', den_blit, den_of, ev_var, at_0, at_1, at_2, at_3, at_4, at_5, at_6, at_7, at_skip, c_int, c_bool, c_arr, c_cnt, c_vec, ev_nil, ev_join, ev_sub3, loc_s, int_i, bool_b, rows_s, cs_nil, cs_cons, E.den_lit, E.den_var, E.den_add, E.den_sub, E.den_mul, E.den_quo, E.den_rem, E.den_max, E.den_min, E.den_len, E.den_wr, E.den_cell, ev_cell, in1, ctMkLine, ctF]
  intro u r _ _ _ hp
  have hl := ints_len r
  have hp : r.length ≤ 100 := hp
  rw [← hl] at hp ⊢
  generalize ints r = l at *
  refine ⟨bds_nil _, fun xs => match xs with | [.i i, .s _ rows] => ∃ n : Nat, i = 2 * n ∧ n ≤ l.length ∧ knots rows = pairs (l.take (2 * n)) ∧ rows.length = n | _ => False, fun xs => match xs with | [.i i, _] => ((l.length : Int) - i).toNat | _ => 0, ⟨0, rfl, by omega, rfl, rfl⟩, ?_⟩
  rintro i _ _ v4 r4 _ _ _ ⟨n, rfl, hn, hr, hrl⟩
  refine ⟨⟨by omega, by omega⟩, fun hlt => ?_, fun hge => ⟨v4, r4, rfl, by rw [hr, pairs_end (by omega)]⟩⟩
  have e1 : (2 * (n : Int)).toNat = 2 * n := by omega
  have e2 : (2 * (n : Int) + 1).toNat = 2 * n + 1 := by omega
  rw [e1, e2]
  refine ⟨by omega, by omega, by omega, by omega, fun v6 => ⟨⟨by omega, by omega⟩, ⟨by omega, by omega⟩, ⟨n + 1, by omega, by omega, ?_, by simp [hrl]⟩, (show ((l.length : Int) - (2 * (n : Int) + 2)).toNat < ((l.length : Int) - 2 * (n : Int)).toNat by omega)⟩⟩
  rw [knots_app, hr, pairs_at (by omega)]
  rfl
theorem shown_ok : tab2.ok 56 := by
  refine Tab.of_ct rfl rfl ⟨_, Try.func56, by decide, rfl⟩ ?_ (fun h => by cases h)
  refine ct_ok (cx := cshown) (Tab.cx_ok (all_cons mkline_ok all_nil)) Try.func56 (bds := []) (T := tshown) (by kernel_rfl) ?_
  have h1 : cshown.ct 55 = some ctMkLine := rfl
  unfold tshown
  simp only [VC, allC, List.map_cons, List.map_nil, List.length_cons, List.length_nil, List.getElem?_cons_zero, List.getElem?_cons_succ, List.cons.injEq, C.i.injEq, C.b.injEq, and_true, true_and, forall_const, kindsOf_nil, kindsOf_lf, kindsOf_agg, kindsOf_box, boxKinds_nil, boxKinds_lf, boxKinds_agg, boxKinds_box, List.append_nil, List.cons_append, List.nil_append, den_cmp_le, den_cmp_lt, den_cmp_eq, den_cmp_ne, den_cmp_le', den_cmp_lt', den_cmp_eq', den_cmp_ne', den_and, den_and', den_or, den_or', den_not, den_not', den_blit, den_of, ev_var, at_0, at_1, at_2, at_3, at_4, at_5, at_6, at_7, at_skip, c_int, c_bool, c_arr, c_cnt, c_vec, ev_nil, ev_join, ev_sub3, loc_s, int_i, bool_b, rows_s, cs_nil, cs_cons, E.den_lit, E.den_var, E.den_add, E.den_sub, E.den_mul, E.den_quo, E.den_rem, E.den_max, E.den_min, E.den_len, E.den_wr, E.den_cell, h1, ctMkLine, ctShown, ctF, earOf, n_, k_]
  refine ⟨bds_nil _, by decide, ?_⟩
  rintro v6 r6 _ _ _ ⟨_, _, hh, h6⟩
  obtain rfl := (by simpa using hh : v6 = _ ∧ r6 = _).2
  refine ⟨by decide, ?_⟩
  rintro v8 r8 _ _ _ ⟨_, _, hh, h8⟩
  obtain rfl := (by simpa using hh : v8 = _ ∧ r8 = _).2
  refine ⟨by decide, ?_⟩
  rintro v10 r10 _ _ _ ⟨_, _, hh, h10⟩
  obtain rfl := (by simpa using hh : v10 = _ ∧ r10 = _).2
  refine ⟨by decide, ?_⟩
  rintro v12 r12 _ _ _ ⟨_, _, hh, h12⟩
  obtain rfl := (by simpa using hh : v12 = _ ∧ r12 = _).2
  rw [h6, h8, h10, h12]
  rfl
theorem at_known : atV [(0, 100), (10, 200), (30, 100)] 13 = (185, 185) := by decide
theorem check_known : checkV shownE = 0 := by decide +kernel
theorem win_known : winV shownE 50000 = (600000000, 750000000) := by decide +kernel
theorem awake_ok : tab2.ok 17 := by
  refine Tab.of_ct rfl rfl ⟨_, Try.func17, by decide, rfl⟩ ?_ ctF_det
  refine ct_ok (cx := cawake) (Tab.cx_ok (all_cons mkline_ok (all_cons shown_ok (all_cons (up_ok at_ok) (all_cons window_ok (all_cons check_ok all_nil)))))) Try.func17 (bds := []) (T := tawake) (by kernel_rfl) ?_
  have h1 : cawake.ct 55 = some ctMkLine := rfl
  have h2 : cawake.ct 56 = some ctShown := rfl
  have h3 : cawake.ct 23 = some ctAt := rfl
  have h4 : cawake.ct 31 = some (ctRange winV) := rfl
  have h5 : cawake.ct 35 = some ctCheck := rfl
  unfold tawake
  simp only [VC, allC, List.map_cons, List.map_nil, List.length_cons, List.length_nil, List.getElem?_cons_zero, List.getElem?_cons_succ, List.cons.injEq, C.i.injEq, C.b.injEq, and_true, true_and, forall_const, kindsOf_nil, kindsOf_lf, kindsOf_agg, kindsOf_box, boxKinds_nil, boxKinds_lf, boxKinds_agg, boxKinds_box, List.append_nil, List.cons_append, List.nil_append, den_cmp_le, den_cmp_lt, den_cmp_eq, den_cmp_ne, den_cmp_le', den_cmp_lt', den_cmp_eq', den_cmp_ne', den_and, den_and', den_or, den_or', den_not, den_not', den_blit, den_of, ev_var, at_0, at_1, at_2, at_3, at_4, at_5, at_6, at_7, at_skip, c_int, c_bool, c_arr, c_cnt, c_vec, ev_nil, ev_join, ev_sub3, loc_s, int_i, bool_b, rows_s, cs_nil, cs_cons, E.den_lit, E.den_var, E.den_add, E.den_sub, E.den_mul, E.den_quo, E.den_rem, E.den_max, E.den_min, E.den_len, E.den_wr, E.den_cell, h1, h2, h3, h4, h5, ctMkLine, ctShown, ctAt, ctRange, ctCheck, ctAwake, ctF, lineSh, rangeSh, earthSh, earthKs, ofKn, earOf, n_, k_]
  refine ⟨bds_nil _, by decide, ?_⟩
  rintro v1 r1 _ _ _ ⟨_, _, hh, e1⟩
  obtain rfl := (by simpa using hh : v1 = _ ∧ r1 = _).2
  rw [e1]
  rintro a _ _ b _ _ ⟨ha, hb⟩
  have ha : a = 185 := ha.trans (congrArg Prod.fst at_known)
  have hb : b = 185 := hb.trans (congrArg Prod.snd at_known)
  refine ⟨fun _ => ?_, fun h => absurd hb (h ha)⟩
  rintro b0 _ _ v1 r1 _ _ _ v2 r2 _ _ _ v3 r3 _ _ _ v4 r4 _ _ _ gl _ _ gh _ _ v7 r7 _ _ _ hE
  rw [hE]
  rintro c _ _ d _ _ ⟨hc, hd⟩
  have hc : c = 600000000 := hc.trans (congrArg Prod.fst win_known)
  have hd : d = 750000000 := hd.trans (congrArg Prod.snd win_known)
  refine ⟨fun _ => ?_, fun h => absurd hd (h hc)⟩
  rintro b0 _ _ v1 r1 _ _ _ v2 r2 _ _ _ v3 r3 _ _ _ v4 r4 _ _ _ gl _ _ gh _ _ v7 r7 _ _ _ hE
  rw [hE]
  rintro n _ _ hn
  rw [check_known] at hn
  subst hn
  rfl
end Go.Proofs.Ytcglpbchejkolaa
/- Earth: contracts, more of them: what the statements call. -/
namespace Go.Proofs.Ytcglpbchejkolaa
set_option linter.unusedVariables false

deriving instance DecidableEq for Rep
deriving instance DecidableEq for Ear
/-- The places at which the least and the greatest value of a part may be. -/
def innerV (ks : List Kn) (a b : Int) : List Int := [a, b] ++ (ks.filter fun k => decide (a < k.1) && decide (k.1 < b)).map (·.1)
def foldMin (l : List Int) (so : Int) : Int := l.foldl min so
def foldMax (l : List Int) (so : Int) : Int := l.foldl max so
def leastV (ks : List Kn) (a b : Int) : Kn := if rightB ks = true ∧ a ≤ b then (foldMin ((innerV ks a b).map fun x => (rangeP ks x).1) (rangeP ks a).1, foldMin ((innerV ks a b).map fun x => (rangeP ks x).2) (rangeP ks a).2) else (0, 0)
def mostV (ks : List Kn) (a b : Int) : Kn := if rightB ks = true ∧ a ≤ b then (foldMax ((innerV ks a b).map fun x => (rangeP ks x).1) (rangeP ks a).1, foldMax ((innerV ks a b).map fun x => (rangeP ks x).2) (rangeP ks a).2) else (0, 0)
def ctPart (f : List Kn → Int → Int → Kn) : Ct := ctF [lineSh, .lf .int, .lf .int] [rangeSh] (fun cs => (at_ cs 0).rows.length ≤ 1000) (fun cs => ofKn (f (k_ cs 0) (n_ cs 1) (n_ cs 2)))
def ctInner : Ct := ⟨[lineSh, .lf .int, .lf .int], [.lf (.vec 2)], fun cs => (at_ cs 0).rows.length ≤ 1000, fun cs rs => ∃ v rows, rs = [.s v rows] ∧ ints rows = innerV (k_ cs 0) (n_ cs 1) (n_ cs 2), false⟩
def le26 (c : C) : Bool := decide ((c.rows.length : Int) ≤ 26)
def ctShort : Ct := ctF [lineSh] [.lf .bool] (fun _ => True) (fun cs => [.b (le26 (at_ cs 0))])
def smallB (cs : List C) : Bool := le26 (at_ cs 1) && le26 (at_ cs 2) && le26 (at_ cs 3) && le26 (at_ cs 4) && le26 (at_ cs 7)
def ctSmall : Ct := ctF [earthSh] [.lf .bool] (fun _ => True) (fun cs => [.b (smallB cs)])
def vecE : Sh0 := .agg (earthKs.map toArr')
  where toArr' : Lk → Lk
    | .arr t => .vec t
    | k => k
def ctOwn : Ct := ⟨[lineSh], [.agg [.vec 44]], fun cs => (at_ cs 0).rows.length ≤ 1000, fun cs rs => ∃ v, rs = [.s v (at_ cs 0).rows], false⟩
def shortE (cs : List C) : Prop := (at_ cs 1).rows.length ≤ 1000 ∧ (at_ cs 2).rows.length ≤ 1000 ∧ (at_ cs 3).rows.length ≤ 1000 ∧ (at_ cs 4).rows.length ≤ 1000 ∧ (at_ cs 7).rows.length ≤ 1000
def ctCopy : Ct := ⟨[earthSh], [.agg [.int, .vec 44, .vec 44, .vec 44, .vec 44, .int, .int, .vec 57]], fun cs => shortE cs, fun cs rs => (at_ rs 0 = at_ cs 0 ∧ at_ rs 5 = at_ cs 5 ∧ at_ rs 6 = at_ cs 6) ∧ ∀ i : Nat, i < 8 → (at_ rs i).rows = (at_ cs i).rows, false⟩
def ctSameLine : Ct := ctF [lineSh, lineSh] [.lf .bool] (fun _ => True) (fun cs => [.b (k_ cs 0 == k_ cs 1)])
def ear8 (cs : List C) : Ear := ⟨n_ cs 8, k_ cs 9, k_ cs 10, k_ cs 11, k_ cs 12, n_ cs 13, n_ cs 14, repsOf (at_ cs 15).rows⟩
def ctSame : Ct := ctF [earthSh, earthSh] [.lf .bool] (fun _ => True) (fun cs => [.b (earOf cs == ear8 cs)])
def ctMod : Ct := ctF [.lf .int, .lf .int] [.lf .int] (fun cs => 1 ≤ n_ cs 1) (fun cs => [.i (n_ cs 0 % n_ cs 1)])
def tab3 : Tab where
  ct := fun f => match f with
    | 39 | 40 => some (ctPart leastV)
    | 41 | 42 => some (ctPart mostV)
    | 75 => some ctInner
    | 16 => some ctShort
    | 25 => some ctSmall
    | 24 => some ctOwn
    | 26 | 70 => some ctCopy
    | 44 => some ctSameLine
    | 33 => some ctSame
    | 22 | 53 => some ctMod
    | f => tab2.ct f
  inl := tab2.inl
  sel := tab2.sel
theorem up3_ok {f : Nat} (h : tab2.ok f) (he : tab3.ct f = tab2.ct f := by rfl) : tab3.ok f :=
  ⟨h.1, fun ct hc => h.2.1 ct (he ▸ hc), h.2.2.1, h.2.2.2⟩
end Go.Proofs.Ytcglpbchejkolaa
/- What is to be shown of each function, as the executor has it. Printed by trees.py. -/
namespace Go.Proofs.Ytcglpbchejkolaa
noncomputable def cshort : Cx := tab3.only [] (fun _ => []) [] 0 [] (fun _ => none)
def tshort : Tree :=
  (.ret [(.bool (.cmp .le (.len (.var 0)) (.lit 26)))])
noncomputable def csmall : Cx := tab3.only [16] (fun _ => []) [] 0 [] (fun _ => none)
def tsmall : Tree :=
  (.call 16 [(.arr 44 (.var 1))] (.split (.of (.var 8)) (.call 16 [(.arr 44 (.var 2))] (.split (.of (.var 9)) (.call 16 [(.arr 44 (.var 3))] (.split (.of (.var 10)) (.call 16 [(.arr 44 (.var 4))] (.split (.of (.var 11)) (.ret [(.bool (.cmp .le (.len (.var 7)) (.lit 26)))]) (.ret [(.bool (.lit false))]))) (.ret [(.bool (.lit false))]))) (.ret [(.bool (.lit false))]))) (.ret [(.bool (.lit false))])))
noncomputable def cown : Cx := tab3.only [] (fun _ => []) [] 0 [] (fun _ => none)
def town : Tree :=
  (.dfn .nil (.ob (.cmp .le (.mul (.add (.len .nil) (.len (.var 0))) (.lit 16)) (.lit 140737488355328)) (.cat .nil (.var 0) (.ret [(.cnt 44 (.var 2))]))))
noncomputable def ccopy : Cx := tab3.only [99, 100] (fun r => match r with
  | 2 => [.blk 2000005]
  | _ => []) [] 0 [] (fun _ => none)
def tcopy : Tree :=
  (.dfn .nil (.dfn .nil (.dfn .nil (.dfn .nil (.dfn .nil (.call 99 [(.arr 44 (.var 1))] (.call 99 [(.arr 44 (.var 2))] (.call 99 [(.arr 44 (.var 3))] (.call 99 [(.arr 44 (.var 4))] (.call 100 [(.arr 57 (.var 7))] (.ret [(.int (.var 0)), (.cnt 44 (.var 13)), (.cnt 44 (.var 14)), (.cnt 44 (.var 15)), (.cnt 44 (.var 16)), (.int (.var 5)), (.int (.var 6)), (.cnt 57 (.var 17))])))))))))))
noncomputable def csameline : Cx := tab3.only [] (fun _ => []) [] 0 [] (fun _ => none)
def tsameline : Tree :=
  (.loop [.bool, .int] [(.bool (.lit false)), (.int (.lit 0))] (.split (.cmp .lt (.var 3) (.len (.var 0))) (.split (.cmp .lt (.var 3) (.len (.var 1))) (.ob (.cmp .le (.lit 0) (.var 3)) (.ob (.cmp .lt (.var 3) (.len (.var 0))) (.ob (.cmp .lt (.var 3) (.len (.var 1))) (.split (.not (.and (.cmp .eq (.cell (.var 0) (.var 3) 0) (.cell (.var 1) (.var 3) 0)) (.cmp .eq (.cell (.var 0) (.var 3) 1) (.cell (.var 1) (.var 3) 1)))) (.ret [(.bool (.lit false))]) (.back 0 [(.bool (.of (.var 2))), (.int (.add (.var 3) (.lit 1)))]))))) (.ret [(.bool (.cmp .eq (.len (.var 0)) (.len (.var 1))))])) (.ret [(.bool (.cmp .eq (.len (.var 0)) (.len (.var 1))))])))
noncomputable def crsame : Cx := tab3.only [44] (fun _ => []) [] 0 [] (fun _ => none)
def trsame : Tree :=
  (.split (.cmp .ne (.var 0) (.var 8)) (.ret [(.bool (.lit false))]) (.split (.cmp .ne (.var 5) (.var 13)) (.ret [(.bool (.lit false))]) (.split (.cmp .ne (.var 6) (.var 14)) (.ret [(.bool (.lit false))]) (.split (.cmp .ne (.len (.var 7)) (.len (.var 15))) (.ret [(.bool (.lit false))]) (.loop [.bool, .int] [(.bool (.lit false)), (.int (.lit 0))] (.split (.cmp .lt (.var 17) (.len (.var 7))) (.ob (.cmp .le (.lit 0) (.var 17)) (.ob (.cmp .lt (.var 17) (.len (.var 7))) (.ob (.cmp .lt (.var 17) (.len (.var 15))) (.split (.not (.and (.cmp .eq (.cell (.var 7) (.var 17) 0) (.cell (.var 15) (.var 17) 0)) (.and (.cmp .eq (.cell (.var 7) (.var 17) 1) (.cell (.var 15) (.var 17) 1)) (.cmp .eq (.cell (.var 7) (.var 17) 2) (.cell (.var 15) (.var 17) 2))))) (.ret [(.bool (.lit false))]) (.back 0 [(.bool (.of (.var 16))), (.int (.add (.var 17) (.lit 1)))]))))) (.call 44 [(.arr 44 (.var 1)), (.arr 44 (.var 9))] (.split (.of (.var 18)) (.call 44 [(.arr 44 (.var 2)), (.arr 44 (.var 10))] (.split (.of (.var 19)) (.call 44 [(.arr 44 (.var 3)), (.arr 44 (.var 11))] (.split (.of (.var 20)) (.call 44 [(.arr 44 (.var 4)), (.arr 44 (.var 12))] (.ret [(.bool (.of (.var 21)))])) (.ret [(.bool (.lit false))]))) (.ret [(.bool (.lit false))]))) (.ret [(.bool (.lit false))])))))))))
noncomputable def cmod : Cx := tab3.only [] (fun _ => []) [] 0 [] (fun _ => none)
def tmod : Tree :=
  (.ob (.cmp .ne (.var 1) (.lit 0)) (.split (.cmp .lt (.rem (.var 0) (.var 1)) (.lit 0)) (.ob (.and (.cmp .le (.lit (-9223372036854775808)) (.add (.rem (.var 0) (.var 1)) (.var 1))) (.cmp .le (.add (.rem (.var 0) (.var 1)) (.var 1)) (.lit 9223372036854775807))) (.ob (.and (.cmp .le (.lit (-9223372036854775808)) (.add (.rem (.var 0) (.var 1)) (.var 1))) (.cmp .le (.add (.rem (.var 0) (.var 1)) (.var 1)) (.lit 9223372036854775807))) (.ret [(.int (.add (.rem (.var 0) (.var 1)) (.var 1)))]))) (.ob (.and (.cmp .le (.lit (-9223372036854775808)) (.rem (.var 0) (.var 1))) (.cmp .le (.rem (.var 0) (.var 1)) (.lit 9223372036854775807))) (.ret [(.int (.rem (.var 0) (.var 1)))]))))
noncomputable def cmod64 : Cx := tab3.only [] (fun _ => []) [] 0 [] (fun _ => none)
def tmod64 : Tree :=
  (.ob (.cmp .ne (.var 1) (.lit 0)) (.split (.cmp .lt (.rem (.var 0) (.var 1)) (.lit 0)) (.ob (.and (.cmp .le (.lit (-9223372036854775808)) (.add (.rem (.var 0) (.var 1)) (.var 1))) (.cmp .le (.add (.rem (.var 0) (.var 1)) (.var 1)) (.lit 9223372036854775807))) (.ob (.and (.cmp .le (.lit (-9223372036854775808)) (.add (.rem (.var 0) (.var 1)) (.var 1))) (.cmp .le (.add (.rem (.var 0) (.var 1)) (.var 1)) (.lit 9223372036854775807))) (.ret [(.int (.add (.rem (.var 0) (.var 1)) (.var 1)))]))) (.ob (.and (.cmp .le (.lit (-9223372036854775808)) (.rem (.var 0) (.var 1))) (.cmp .le (.rem (.var 0) (.var 1)) (.lit 9223372036854775807))) (.ret [(.int (.rem (.var 0) (.var 1)))]))))
noncomputable def flleast : List (Nat × Func) := [(73, Try.f73), (103, Try.f103), (104, Try.f104), (102, Try.f102), (74, Try.f74)]
theorem fxleast : ∀ p ∈ flleast, FnOK p := fns_cons ⟨Try.func73, ⟨_, Try.func73, by decide, rfl⟩⟩ (fns_cons ⟨Try.func103, ⟨_, Try.func103, by decide, rfl⟩⟩ (fns_cons ⟨Try.func104, ⟨_, Try.func104, by decide, rfl⟩⟩ (fns_cons ⟨Try.func102, ⟨_, Try.func102, by decide, rfl⟩⟩ (fns_cons ⟨Try.func74, ⟨_, Try.func74, by decide, rfl⟩⟩ (fns_nil)))))
noncomputable def cleast : Cx := tab3.only [63, 65] (fun _ => []) flleast 5 [] (fun _ => none)
def tleast : Tree :=
  (.arr [[(.arr 44 (.var 0))]] (.call 63 [(.arr 24 (.var 3))] (.split (.not (.of (.var 4))) (.ret [(.int (.lit 0)), (.int (.lit 0))]) (.split (.cmp .lt (.var 2) (.var 1)) (.ret [(.int (.lit 0)), (.int (.lit 0))]) (.arr [[(.int (.var 1))], [(.int (.var 2))]] (.loop [(.vec 2), .int] [(.cnt 2 (.var 5)), (.int (.lit 0))] (.split (.cmp .lt (.var 7) (.len (.var 0))) (.ob (.cmp .le (.lit 0) (.var 7)) (.ob (.cmp .lt (.var 7) (.len (.var 0))) (.split (.cmp .lt (.var 1) (.cell (.var 0) (.var 7) 0)) (.split (.cmp .lt (.cell (.var 0) (.var 7) 0) (.var 2)) (.arr [[(.int (.cell (.var 0) (.var 7) 0))]] (.ob (.cmp .le (.mul (.add (.len (.var 6)) (.len (.var 8))) (.lit 8)) (.lit 140737488355328)) (.cat (.var 6) (.var 8) (.back 0 [(.cnt 2 (.var 9)), (.int (.add (.var 7) (.lit 1)))])))) (.back 0 [(.cnt 2 (.var 6)), (.int (.add (.var 7) (.lit 1)))])) (.back 0 [(.cnt 2 (.var 6)), (.int (.add (.var 7) (.lit 1)))])))) (.call 65 [(.arr 44 (.var 0)), (.int (.var 1))] (.arr [] (.loop [.int, .int] [(.int (.var 8)), (.int (.lit 0))] (.split (.cmp .lt (.var 12) (.len (.var 6))) (.ob (.cmp .le (.lit 0) (.var 12)) (.ob (.cmp .lt (.var 12) (.len (.var 6))) (.call 65 [(.arr 44 (.var 0)), (.int (.cell (.var 6) (.var 12) 0))] (.back 1 [(.int (.min (.var 11) (.var 13))), (.int (.add (.var 12) (.lit 1)))])))) (.arr [] (.loop [.int, .int] [(.int (.var 9)), (.int (.lit 0))] (.split (.cmp .lt (.var 15) (.len (.var 6))) (.ob (.cmp .le (.lit 0) (.var 15)) (.ob (.cmp .lt (.var 15) (.len (.var 6))) (.call 65 [(.arr 44 (.var 0)), (.int (.cell (.var 6) (.var 15) 0))] (.back 2 [(.int (.min (.var 14) (.var 17))), (.int (.add (.var 15) (.lit 1)))])))) (.ret [(.int (.var 11)), (.int (.var 14))])))))))))))))))
noncomputable def flmost : List (Nat × Func) := [(73, Try.f73), (103, Try.f103), (104, Try.f104), (102, Try.f102), (76, Try.f76)]
theorem fxmost : ∀ p ∈ flmost, FnOK p := fns_cons ⟨Try.func73, ⟨_, Try.func73, by decide, rfl⟩⟩ (fns_cons ⟨Try.func103, ⟨_, Try.func103, by decide, rfl⟩⟩ (fns_cons ⟨Try.func104, ⟨_, Try.func104, by decide, rfl⟩⟩ (fns_cons ⟨Try.func102, ⟨_, Try.func102, by decide, rfl⟩⟩ (fns_cons ⟨Try.func76, ⟨_, Try.func76, by decide, rfl⟩⟩ (fns_nil)))))
noncomputable def cmost : Cx := tab3.only [63, 65] (fun _ => []) flmost 5 [] (fun _ => none)
def tmost : Tree :=
  (.arr [[(.arr 44 (.var 0))]] (.call 63 [(.arr 24 (.var 3))] (.split (.not (.of (.var 4))) (.ret [(.int (.lit 0)), (.int (.lit 0))]) (.split (.cmp .lt (.var 2) (.var 1)) (.ret [(.int (.lit 0)), (.int (.lit 0))]) (.arr [[(.int (.var 1))], [(.int (.var 2))]] (.loop [(.vec 2), .int] [(.cnt 2 (.var 5)), (.int (.lit 0))] (.split (.cmp .lt (.var 7) (.len (.var 0))) (.ob (.cmp .le (.lit 0) (.var 7)) (.ob (.cmp .lt (.var 7) (.len (.var 0))) (.split (.cmp .lt (.var 1) (.cell (.var 0) (.var 7) 0)) (.split (.cmp .lt (.cell (.var 0) (.var 7) 0) (.var 2)) (.arr [[(.int (.cell (.var 0) (.var 7) 0))]] (.ob (.cmp .le (.mul (.add (.len (.var 6)) (.len (.var 8))) (.lit 8)) (.lit 140737488355328)) (.cat (.var 6) (.var 8) (.back 0 [(.cnt 2 (.var 9)), (.int (.add (.var 7) (.lit 1)))])))) (.back 0 [(.cnt 2 (.var 6)), (.int (.add (.var 7) (.lit 1)))])) (.back 0 [(.cnt 2 (.var 6)), (.int (.add (.var 7) (.lit 1)))])))) (.call 65 [(.arr 44 (.var 0)), (.int (.var 1))] (.arr [] (.loop [.int, .int] [(.int (.var 8)), (.int (.lit 0))] (.split (.cmp .lt (.var 12) (.len (.var 6))) (.ob (.cmp .le (.lit 0) (.var 12)) (.ob (.cmp .lt (.var 12) (.len (.var 6))) (.call 65 [(.arr 44 (.var 0)), (.int (.cell (.var 6) (.var 12) 0))] (.back 1 [(.int (.max (.var 11) (.var 13))), (.int (.add (.var 12) (.lit 1)))])))) (.arr [] (.loop [.int, .int] [(.int (.var 9)), (.int (.lit 0))] (.split (.cmp .lt (.var 15) (.len (.var 6))) (.ob (.cmp .le (.lit 0) (.var 15)) (.ob (.cmp .lt (.var 15) (.len (.var 6))) (.call 65 [(.arr 44 (.var 0)), (.int (.cell (.var 6) (.var 15) 0))] (.back 2 [(.int (.max (.var 14) (.var 17))), (.int (.add (.var 15) (.lit 1)))])))) (.ret [(.int (.var 11)), (.int (.var 14))])))))))))))))))
noncomputable def cinner : Cx := tab3.only [] (fun _ => []) [] 0 [] (fun _ => none)
def tinner : Tree :=
  (.dfn .nil (.arr [[(.int (.var 1))], [(.int (.var 2))]] (.loop [(.vec 2), .int] [(.cnt 2 (.var 4)), (.int (.lit 0))] (.split (.cmp .lt (.var 6) (.len (.var 0))) (.ob (.cmp .le (.lit 0) (.var 6)) (.ob (.cmp .lt (.var 6) (.len (.var 0))) (.split (.cmp .lt (.var 1) (.cell (.var 0) (.var 6) 0)) (.ob (.cmp .lt (.var 6) (.len (.var 0))) (.split (.cmp .lt (.cell (.var 0) (.var 6) 0) (.var 2)) (.ob (.cmp .lt (.var 6) (.len (.var 0))) (.arr [[(.int (.cell (.var 0) (.var 6) 0))]] (.ob (.cmp .le (.mul (.add (.len (.var 5)) (.len (.var 7))) (.lit 8)) (.lit 140737488355328)) (.cat (.var 5) (.var 7) (.back 0 [(.cnt 2 (.var 8)), (.int (.add (.var 6) (.lit 1)))]))))) (.back 0 [(.cnt 2 (.var 5)), (.int (.add (.var 6) (.lit 1)))]))) (.back 0 [(.cnt 2 (.var 5)), (.int (.add (.var 6) (.lit 1)))])))) (.ret [(.cnt 2 (.var 5))])))))
noncomputable def crleast : Cx := tab3.only [71, 72, 75] (fun r => match r with
  | 6 => [.blk 2]
  | _ => []) [] 0 [] (fun _ => none)
def trleast : Tree :=
  (.call 71 [(.arr 44 (.var 0))] (.split (.not (.of (.var 3))) (.ret [(.int (.lit 0)), (.int (.lit 0))]) (.split (.cmp .lt (.var 2) (.var 1)) (.ret [(.int (.lit 0)), (.int (.lit 0))]) (.call 72 [(.arr 44 (.var 0)), (.int (.var 1))] (.call 75 [(.arr 44 (.var 0)), (.int (.var 1)), (.int (.var 2))] (.loop [.int, .int, .int] [(.int (.lit 0)), (.int (.var 4)), (.int (.var 5))] (.split (.cmp .lt (.var 7) (.len (.var 6))) (.ob (.cmp .le (.lit 0) (.var 7)) (.ob (.cmp .lt (.var 7) (.len (.var 6))) (.call 72 [(.arr 44 (.var 0)), (.int (.cell (.var 6) (.var 7) 0))] (.back 0 [(.int (.add (.var 7) (.lit 1))), (.int (.min (.var 8) (.var 10))), (.int (.min (.var 9) (.var 11)))])))) (.ret [(.int (.var 8)), (.int (.var 9))]))))))))
noncomputable def crmost : Cx := tab3.only [71, 72, 75] (fun r => match r with
  | 6 => [.blk 2]
  | _ => []) [] 0 [] (fun _ => none)
def trmost : Tree :=
  (.call 71 [(.arr 44 (.var 0))] (.split (.not (.of (.var 3))) (.ret [(.int (.lit 0)), (.int (.lit 0))]) (.split (.cmp .lt (.var 2) (.var 1)) (.ret [(.int (.lit 0)), (.int (.lit 0))]) (.call 72 [(.arr 44 (.var 0)), (.int (.var 1))] (.call 75 [(.arr 44 (.var 0)), (.int (.var 1)), (.int (.var 2))] (.loop [.int, .int, .int] [(.int (.lit 0)), (.int (.var 4)), (.int (.var 5))] (.split (.cmp .lt (.var 7) (.len (.var 6))) (.ob (.cmp .le (.lit 0) (.var 7)) (.ob (.cmp .lt (.var 7) (.len (.var 6))) (.call 72 [(.arr 44 (.var 0)), (.int (.cell (.var 6) (.var 7) 0))] (.back 0 [(.int (.add (.var 7) (.lit 1))), (.int (.max (.var 8) (.var 10))), (.int (.max (.var 9) (.var 11)))])))) (.ret [(.int (.var 8)), (.int (.var 9))]))))))))
noncomputable def cllines : Cx := tab3.only [16, 18, 19, 17] (fun _ => []) [] 0 [] (fun _ => none)
def tllines : Tree :=
  (.call 16 [(.arr 44 (.var 0))] (.split (.not (.of (.var 3))) (.call 17 [] (.ret [(.bool (.of (.var 4)))])) (.call 18 [(.arr 44 (.var 0)), (.int (.var 1)), (.int (.var 2))] (.call 19 [(.arr 44 (.var 0)), (.int (.var 1)), (.int (.var 2))] (.split (.cmp .eq (.var 4) (.var 5)) (.call 17 [] (.ret [(.bool (.of (.var 6)))])) (.ret [(.bool (.lit false))]))))))
noncomputable def clvalues : Cx := tab3.only [16, 24, 23, 38, 39, 40, 41, 42, 21, 43, 44, 17] (fun _ => []) [] 0 [] (fun _ => none)
def tlvalues : Tree :=
  (.call 16 [(.arr 44 (.var 0))] (.split (.not (.of (.var 4))) (.call 17 [] (.ret [(.bool (.of (.var 5)))])) (.call 16 [(.arr 44 (.var 1))] (.split (.not (.of (.var 5))) (.call 17 [] (.ret [(.bool (.of (.var 6)))])) (.call 24 [(.arr 44 (.var 0))] (.dfn .nil (.call 23 [(.arr 44 (.var 6)), (.int (.var 2))] (.call 38 [(.arr 44 (.var 0)), (.int (.var 2))] (.split (.not (.and (.cmp .eq (.var 8) (.var 10)) (.cmp .eq (.var 9) (.var 11)))) (.ret [(.bool (.lit false))]) (.call 39 [(.arr 44 (.var 6)), (.int (.var 2)), (.int (.var 3))] (.call 40 [(.arr 44 (.var 0)), (.int (.var 2)), (.int (.var 3))] (.split (.not (.and (.cmp .eq (.var 12) (.var 14)) (.cmp .eq (.var 13) (.var 15)))) (.ret [(.bool (.lit false))]) (.call 41 [(.arr 44 (.var 6)), (.int (.var 2)), (.int (.var 3))] (.call 42 [(.arr 44 (.var 0)), (.int (.var 2)), (.int (.var 3))] (.split (.not (.and (.cmp .eq (.var 16) (.var 18)) (.cmp .eq (.var 17) (.var 19)))) (.ret [(.bool (.lit false))]) (.call 21 [(.arr 44 (.var 6)), (.arr 44 (.var 1))] (.call 43 [(.arr 44 (.var 0)), (.arr 44 (.var 1))] (.split (.beq (.of (.var 20)) (.of (.var 21))) (.call 44 [(.arr 44 (.var 6)), (.arr 44 (.var 0))] (.split (.of (.var 22)) (.call 17 [] (.ret [(.bool (.of (.var 23)))])) (.ret [(.bool (.lit false))]))) (.ret [(.bool (.lit false))])))))))))))))))))))
noncomputable def clranges : Cx := tab3.only [25, 26, 27, 28, 29, 30, 31, 32, 33, 17] (fun _ => []) [] 0 [] (fun _ => none)
def tlranges : Tree :=
  (.call 25 [(.int (.var 0)), (.arr 44 (.var 1)), (.arr 44 (.var 2)), (.arr 44 (.var 3)), (.arr 44 (.var 4)), (.int (.var 5)), (.int (.var 6)), (.arr 57 (.var 7))] (.split (.not (.of (.var 9))) (.call 17 [] (.ret [(.bool (.of (.var 10)))])) (.call 26 [(.int (.var 0)), (.arr 44 (.var 1)), (.arr 44 (.var 2)), (.arr 44 (.var 3)), (.arr 44 (.var 4)), (.int (.var 5)), (.int (.var 6)), (.arr 57 (.var 7))] (.dfn .nil (.dfn .nil (.dfn .nil (.dfn .nil (.dfn .nil (.call 27 [(.int (.var 10)), (.arr 44 (.var 11)), (.arr 44 (.var 12)), (.arr 44 (.var 13)), (.arr 44 (.var 14)), (.int (.var 15)), (.int (.var 16)), (.arr 57 (.var 17)), (.int (.var 8))] (.call 28 [(.int (.var 0)), (.arr 44 (.var 1)), (.arr 44 (.var 2)), (.arr 44 (.var 3)), (.arr 44 (.var 4)), (.int (.var 5)), (.int (.var 6)), (.arr 57 (.var 7)), (.int (.var 8))] (.split (.and (.cmp .eq (.var 23) (.var 25)) (.cmp .eq (.var 24) (.var 26))) (.call 29 [(.int (.var 10)), (.arr 44 (.var 11)), (.arr 44 (.var 12)), (.arr 44 (.var 13)), (.arr 44 (.var 14)), (.int (.var 15)), (.int (.var 16)), (.arr 57 (.var 17)), (.int (.var 8))] (.call 30 [(.int (.var 0)), (.arr 44 (.var 1)), (.arr 44 (.var 2)), (.arr 44 (.var 3)), (.arr 44 (.var 4)), (.int (.var 5)), (.int (.var 6)), (.arr 57 (.var 7)), (.int (.var 8))] (.split (.and (.cmp .eq (.var 27) (.var 29)) (.cmp .eq (.var 28) (.var 30))) (.call 31 [(.int (.var 10)), (.arr 44 (.var 11)), (.arr 44 (.var 12)), (.arr 44 (.var 13)), (.arr 44 (.var 14)), (.int (.var 15)), (.int (.var 16)), (.arr 57 (.var 17)), (.int (.var 8))] (.call 32 [(.int (.var 0)), (.arr 44 (.var 1)), (.arr 44 (.var 2)), (.arr 44 (.var 3)), (.arr 44 (.var 4)), (.int (.var 5)), (.int (.var 6)), (.arr 57 (.var 7)), (.int (.var 8))] (.split (.and (.cmp .eq (.var 31) (.var 33)) (.cmp .eq (.var 32) (.var 34))) (.call 33 [(.int (.var 10)), (.arr 44 (.var 11)), (.arr 44 (.var 12)), (.arr 44 (.var 13)), (.arr 44 (.var 14)), (.int (.var 15)), (.int (.var 16)), (.arr 57 (.var 17)), (.int (.var 0)), (.arr 44 (.var 1)), (.arr 44 (.var 2)), (.arr 44 (.var 3)), (.arr 44 (.var 4)), (.int (.var 5)), (.int (.var 6)), (.arr 57 (.var 7))] (.split (.of (.var 35)) (.call 17 [] (.ret [(.bool (.of (.var 36)))])) (.ret [(.bool (.lit false))]))) (.ret [(.bool (.lit false))])))) (.ret [(.bool (.lit false))])))) (.ret [(.bool (.lit false))]))))))))))))
noncomputable def crcopy : Cx := tab3.only [24] (fun _ => []) [] 0 [] (fun _ => none)
def trcopy : Tree :=
  (.dfn .nil (.dfn .nil (.dfn .nil (.dfn .nil (.dfn .nil (.call 24 [(.arr 44 (.var 1))] (.call 24 [(.arr 44 (.var 2))] (.call 24 [(.arr 44 (.var 3))] (.call 24 [(.arr 44 (.var 4))] (.ob (.cmp .le (.mul (.add (.len .nil) (.len (.var 7))) (.lit 24)) (.lit 140737488355328)) (.cat .nil (.var 7) (.ret [(.int (.var 0)), (.cnt 44 (.var 13)), (.cnt 44 (.var 14)), (.cnt 44 (.var 15)), (.cnt 44 (.var 16)), (.int (.var 5)), (.int (.var 6)), (.cnt 57 (.var 17))]))))))))))))
end Go.Proofs.Ytcglpbchejkolaa
/- Earth: copies, comparisons, numbers brought into range. -/
namespace Go.Proofs.Ytcglpbchejkolaa
open Go.RowKit
set_option linter.unusedSimpArgs false
set_option linter.unusedVariables false

theorem take_next {α : Type} {a b : List α} {i : Nat} (d : α) (h : a.take i = b.take i) (ha : i < a.length) (hb : i < b.length) (he : a.getD i d = b.getD i d) : a.take (i + 1) = b.take (i + 1) := by
  rw [take_snoc ha d, take_snoc hb d, h, he]
theorem take_all {α : Type} {a b : List α} {i : Nat} (h : a.take i = b.take i) (hi : a.length ≤ i ∨ b.length ≤ i) : a = b ↔ a.length = b.length := by
  constructor
  · intro e; rw [e]
  · intro e
    rw [List.take_of_length_le (by omega), List.take_of_length_le (by omega)] at h
    exact h
theorem ne_at {α : Type} {a b : List α} {i : Nat} {d : α} (h : a.getD i d ≠ b.getD i d) : a ≠ b := fun e => h (by rw [e])
theorem beq_no {α : Type} [BEq α] [LawfulBEq α] {a b : α} (h : a ≠ b) : (a == b) = false := beq_eq_false_iff_ne.2 h
theorem short_ok : tab3.ok 16 := by
  refine Tab.of_ct rfl rfl ⟨_, Try.func16, by decide, rfl⟩ ?_ ctF_det
  refine ct_ok (cx := cshort) (Tab.cx_ok all_nil) Try.func16 (bds := []) (T := tshort) (by kernel_rfl) ?_
  unfold tshort
  simp only [VC, allC, List.map_cons, List.map_nil, List.length_cons, List.length_nil, List.getElem?_cons_zero, List.getElem?_cons_succ, List.cons.injEq, C.i.injEq, C.b.injEq, and_true, true_and, forall_const, kindsOf_nil, kindsOf_lf, kindsOf_agg, kindsOf_box, boxKinds_nil, boxKinds_lf, boxKinds_agg, boxKinds_box, List.append_nil, List.cons_append, List.nil_append, den_cmp_le, den_cmp_lt, den_cmp_eq, den_cmp_ne, den_cmp_le', den_cmp_lt', den_cmp_eq', den_cmp_ne', den_and, den_and', den_or, den_or', den_not, den_not', den_blit, den_of, ev_var, at_0, at_1, at_2, at_3, at_4, at_5, at_6, at_7, at_skip, c_int, c_bool, c_arr, c_cnt, c_vec, ev_nil, ev_join, ev_sub3, loc_s, int_i, bool_b, rows_s, cs_nil, cs_cons, E.den_lit, E.den_var, E.den_add, E.den_sub, E.den_mul, E.den_quo, E.den_rem, E.den_max, E.den_min, E.den_len, E.den_wr, E.den_cell, ctShort, ctF, lineSh]
  intro u r _ _ _
  exact ⟨bds_nil _, rfl⟩
theorem small_ok : tab3.ok 25 := by
  refine Tab.of_ct rfl rfl ⟨_, Try.func25, by decide, rfl⟩ ?_ ctF_det
  refine ct_ok (cx := csmall) (Tab.cx_ok (all_cons short_ok all_nil)) Try.func25 (bds := []) (T := tsmall) (by kernel_rfl) ?_
  have h1 : csmall.ct 16 = some ctShort := rfl
  unfold tsmall
  simp only [VC, allC, List.map_cons, List.map_nil, List.length_cons, List.length_nil, List.getElem?_cons_zero, List.getElem?_cons_succ, List.cons.injEq, C.i.injEq, C.b.injEq, and_true, true_and, forall_const, kindsOf_nil, kindsOf_lf, kindsOf_agg, kindsOf_box, boxKinds_nil, boxKinds_lf, boxKinds_agg, boxKinds_box, List.append_nil, List.cons_append, List.nil_append, den_cmp_le, den_cmp_lt, den_cmp_eq, den_cmp_ne, den_cmp_le', den_cmp_lt', den_cmp_eq', den_cmp_ne', den_and, den_and', den_or, den_or', den_not, den_not', den_blit, den_of, ev_var, at_0, at_1, at_2, at_3, at_4, at_5, at_6, at_7, at_skip, c_int, c_bool, c_arr, c_cnt, c_vec, ev_nil, ev_join, ev_sub3, loc_s, int_i, bool_b, rows_s, cs_nil, cs_cons, E.den_lit, E.den_var, E.den_add, E.den_sub, E.den_mul, E.den_quo, E.den_rem, E.den_max, E.den_min, E.den_len, E.den_wr, E.den_cell, h1, ctShort, ctSmall, ctF, lineSh, earthSh, earthKs, smallB]
  intro b _ _ u1 r1 _ _ _ u2 r2 _ _ _ u3 r3 _ _ _ u4 r4 _ _ _ gl _ _ gh _ _ u7 r7 _ _ _
  refine ⟨bds_nil _, ?_⟩
  rintro t rfl
  refine ⟨fun h => ?_, fun h => by rw [h]; rfl⟩
  rintro t2 rfl
  refine ⟨fun h2 => ?_, fun h2 => by rw [h, h2]; rfl⟩
  rintro t3 rfl
  refine ⟨fun h3 => ?_, fun h3 => by rw [h, h2, h3]; rfl⟩
  rintro t4 rfl
  refine ⟨fun h4 => ?_, fun h4 => by rw [h, h2, h3, h4]; rfl⟩
  rw [h, h2, h3, h4]
  rfl
theorem own_ok : tab3.ok 24 := by
  refine Tab.of_ct rfl rfl ⟨_, Try.func24, by decide, rfl⟩ ?_ (fun h => by cases h)
  refine ct_ok (cx := cown) (Tab.cx_ok all_nil) Try.func24 (bds := []) (T := town) (by kernel_rfl) ?_
  unfold town
  simp only [VC, allC, List.map_cons, List.map_nil, List.length_cons, List.length_nil, List.getElem?_cons_zero, List.getElem?_cons_succ, List.cons.injEq, C.i.injEq, C.b.injEq, and_true, true_and, forall_const, kindsOf_nil, kindsOf_lf, kindsOf_agg, kindsOf_box, boxKinds_nil, boxKinds_lf, boxKinds_agg, boxKinds_box, List.append_nil, List.cons_append, List.nil_append, den_cmp_le, den_cmp_lt, den_cmp_eq, den_cmp_ne, den_cmp_le', den_cmp_lt', den_cmp_eq', den_cmp_ne', den_and, den_and', den_or, den_or', den_not, den_not', den_blit, den_of, ev_var, at_0, at_1, at_2, at_3, at_4, at_5, at_6, at_7, at_skip, c_int, c_bool, c_arr, c_cnt, c_vec, ev_nil, ev_join, ev_sub3, loc_s, int_i, bool_b, rows_s, cs_nil, cs_cons, E.den_lit, E.den_var, E.den_add, E.den_sub, E.den_mul, E.den_quo, E.den_rem, E.den_max, E.den_min, E.den_len, E.den_wr, E.den_cell, ctOwn, ctF, lineSh]
  intro u r _ _ _ hp
  have hp : r.length ≤ 1000 := hp
  exact ⟨bds_nil _, by omega, fun v => ⟨v, rfl⟩⟩
theorem rcopy_ok : tab3.ok 26 := by
  refine Tab.of_ct rfl rfl ⟨_, Try.func26, by decide, rfl⟩ ?_ (fun h => by cases h)
  refine ct_ok (cx := crcopy) (Tab.cx_ok (all_cons own_ok all_nil)) Try.func26 (bds := []) (T := trcopy) (by kernel_rfl) ?_
  have h1 : crcopy.ct 24 = some ctOwn := rfl
  unfold trcopy
  simp only [VC, allC, List.map_cons, List.map_nil, List.length_cons, List.length_nil, List.getElem?_cons_zero, List.getElem?_cons_succ, List.cons.injEq, C.i.injEq, C.b.injEq, and_true, true_and, forall_const, kindsOf_nil, kindsOf_lf, kindsOf_agg, kindsOf_box, boxKinds_nil, boxKinds_lf, boxKinds_agg, boxKinds_box, List.append_nil, List.cons_append, List.nil_append, den_cmp_le, den_cmp_lt, den_cmp_eq, den_cmp_ne, den_cmp_le', den_cmp_lt', den_cmp_eq', den_cmp_ne', den_and, den_and', den_or, den_or', den_not, den_not', den_blit, den_of, ev_var, at_0, at_1, at_2, at_3, at_4, at_5, at_6, at_7, at_skip, c_int, c_bool, c_arr, c_cnt, c_vec, ev_nil, ev_join, ev_sub3, loc_s, int_i, bool_b, rows_s, cs_nil, cs_cons, E.den_lit, E.den_var, E.den_add, E.den_sub, E.den_mul, E.den_quo, E.den_rem, E.den_max, E.den_min, E.den_len, E.den_wr, E.den_cell, h1, ctOwn, ctCopy, ctF, lineSh, earthSh, earthKs, shortE]
  intro b _ _ u1 r1 _ _ _ u2 r2 _ _ _ u3 r3 _ _ _ u4 r4 _ _ _ gl _ _ gh _ _ u7 r7 _ _ _ hp
  obtain ⟨p1, p2, p3, p4, p7⟩ := hp
  refine ⟨bds_nil _, p1, ?_⟩
  rintro v1 s1 _ _ _ ⟨_, hh⟩
  obtain rfl := (by simpa using hh : v1 = _ ∧ s1 = r1).2
  refine ⟨p2, ?_⟩
  rintro v2 s2 _ _ _ ⟨_, hh⟩
  obtain rfl := (by simpa using hh : v2 = _ ∧ s2 = r2).2
  refine ⟨p3, ?_⟩
  rintro v3 s3 _ _ _ ⟨_, hh⟩
  obtain rfl := (by simpa using hh : v3 = _ ∧ s3 = r3).2
  refine ⟨p4, ?_⟩
  rintro v4 s4 _ _ _ ⟨_, hh⟩
  obtain rfl := (by simpa using hh : v4 = _ ∧ s4 = r4).2
  refine ⟨by omega, fun v17 i hi => ?_⟩
  match i, hi with
  | 0, _ => rfl
  | 1, _ => rfl
  | 2, _ => rfl
  | 3, _ => rfl
  | 4, _ => rfl
  | 5, _ => rfl
  | 6, _ => rfl
  | 7, _ => rfl
theorem copy_ok : tab3.ok 70 := by
  refine Tab.of_ct rfl rfl ⟨_, Try.func70, by decide, rfl⟩ ?_ (fun h => by cases h)
  refine ct_ok (cx := ccopy) (Tab.cx_ok (all_cons (up3_ok clone_ok) (all_cons (up3_ok rclone_ok) all_nil))) Try.func70 (bds := []) (T := tcopy) (by kernel_rfl) ?_
  have h1 : ccopy.ct 99 = some (ctClone 44) := rfl
  have h2 : ccopy.ct 100 = some (ctClone 57) := rfl
  unfold tcopy
  simp only [VC, allC, List.map_cons, List.map_nil, List.length_cons, List.length_nil, List.getElem?_cons_zero, List.getElem?_cons_succ, List.cons.injEq, C.i.injEq, C.b.injEq, and_true, true_and, forall_const, kindsOf_nil, kindsOf_lf, kindsOf_agg, kindsOf_box, boxKinds_nil, boxKinds_lf, boxKinds_agg, boxKinds_box, List.append_nil, List.cons_append, List.nil_append, den_cmp_le, den_cmp_lt, den_cmp_eq, den_cmp_ne, den_cmp_le', den_cmp_lt', den_cmp_eq', den_cmp_ne', den_and, den_and', den_or, den_or', den_not, den_not', den_blit, den_of, ev_var, at_0, at_1, at_2, at_3, at_4, at_5, at_6, at_7, at_skip, c_int, c_bool, c_arr, c_cnt, c_vec, ev_nil, ev_join, ev_sub3, loc_s, int_i, bool_b, rows_s, cs_nil, cs_cons, E.den_lit, E.den_var, E.den_add, E.den_sub, E.den_mul, E.den_quo, E.den_rem, E.den_max, E.den_min, E.den_len, E.den_wr, E.den_cell, h1, h2, ctClone, ctCopy, ctF, lineSh, earthSh, earthKs, shortE]
  intro b _ _ u1 r1 _ _ _ u2 r2 _ _ _ u3 r3 _ _ _ u4 r4 _ _ _ gl _ _ gh _ _ u7 r7 _ _ _ hp
  obtain ⟨p1, p2, p3, p4, p7⟩ := hp
  refine ⟨bds_nil _, p1, ?_⟩
  rintro v1 s1 _ _ _ ⟨_, hh⟩
  obtain rfl := (by simpa using hh : v1 = _ ∧ s1 = r1).2
  refine ⟨p2, ?_⟩
  rintro v2 s2 _ _ _ ⟨_, hh⟩
  obtain rfl := (by simpa using hh : v2 = _ ∧ s2 = r2).2
  refine ⟨p3, ?_⟩
  rintro v3 s3 _ _ _ ⟨_, hh⟩
  obtain rfl := (by simpa using hh : v3 = _ ∧ s3 = r3).2
  refine ⟨p4, ?_⟩
  rintro v4 s4 _ _ _ ⟨_, hh⟩
  obtain rfl := (by simpa using hh : v4 = _ ∧ s4 = r4).2
  refine ⟨p7, ?_⟩
  rintro v7 s7 _ _ _ ⟨_, hh⟩
  obtain rfl := (by simpa using hh : v7 = _ ∧ s7 = r7).2
  intro i hi
  match i, hi with
  | 0, _ => rfl
  | 1, _ => rfl
  | 2, _ => rfl
  | 3, _ => rfl
  | 4, _ => rfl
  | 5, _ => rfl
  | 6, _ => rfl
  | 7, _ => rfl
theorem sameline_ok : tab3.ok 44 := by
  refine Tab.of_ct rfl rfl ⟨_, Try.func44, by decide, rfl⟩ ?_ ctF_det
  refine ct_ok (cx := csameline) (Tab.cx_ok all_nil) Try.func44 (bds := []) (T := tsameline) (by kernel_rfl) ?_
  unfold tsameline
  simp only [VC, allC, List.map_cons, List.map_nil, List.length_cons, List.length_nil, List.getElem?_cons_zero, List.getElem?_cons_succ, List.cons.injEq, C.i.injEq, C.b.injEq, and_true, true_and, forall_const, kindsOf_nil, kindsOf_lf, kindsOf_agg, kindsOf_box, boxKinds_nil, boxKinds_lf, boxKinds_agg, boxKinds_box, List.append_nil, List.cons_append, List.nil_append, den_cmp_le, den_cmp_lt, den_cmp_eq, den_cmp_ne, den_cmp_le', den_cmp_lt', den_cmp_eq', den_cmp_ne', den_and, den_and', den_or, den_or', den_not, den_not', den_blit, den_of, ev_var, at_0, at_1, at_2, at_3, at_4, at_5, at_6, at_7, at_skip, c_int, c_bool, c_arr, c_cnt, c_vec, ev_nil, ev_join, ev_sub3, loc_s, int_i, bool_b, rows_s, cs_nil, cs_cons, E.den_lit, E.den_var, E.den_add, E.den_sub, E.den_mul, E.den_quo, E.den_rem, E.den_max, E.den_min, E.den_len, E.den_wr, E.den_cell, ev_cell, kn1, kn2, ctSameLine, ctF, lineSh, k_]
  intro v0 r0 d0 _ hs0 v1 r1 d1 _ hs1
  have e0 := knots_len r0
  have e1 := knots_len r1
  generalize knots r0 = a at *
  generalize knots r1 = b at *
  refine ⟨bds_nil _, fun xs => match xs with | [_, .i i] => 0 ≤ i ∧ i ≤ a.length ∧ i ≤ b.length ∧ a.take i.toNat = b.take i.toNat | _ => False, fun xs => match xs with | [_, .i i] => ((a.length : Int) - i).toNat | _ => 0, ⟨by omega, by omega, by omega, by simp⟩, ?_⟩
  rintro x i _ _ ⟨i0, i1, i2, h⟩
  have fin : (a.length ≤ i.toNat ∨ b.length ≤ i.toNat) → B.den [C.s v0 r0, C.s v1 r1, C.b x, C.i i] (.cmp .eq (.len (.var 0)) (.len (.var 1))) = (a == b) := fun hle => by
    rw [Bool.eq_iff_iff, beq_iff_eq, take_all h hle]
    simp only [den_cmp_eq, E.den_len, ev_var, at_0, at_1, rows_s]
    omega
  refine ⟨fun hl => ⟨fun hr => ⟨i0, hl, hr, fun hne => ?_, fun he => ⟨⟨by omega, by omega, by omega, ?_⟩, (show ((a.length : Int) - (i + 1)).toNat < ((a.length : Int) - i).toNat by omega)⟩⟩, fun hr => fin (by omega)⟩, fun hl => fin (by omega)⟩
  · refine (beq_no (ne_at (i := i.toNat) (d := (0, 0)) fun he => ?_)).symm
    rw [he] at hne
    exact hne rfl rfl
  · rw [show (i + 1).toNat = i.toNat + 1 by omega]; exact take_next (0, 0) h (by omega) (by omega) (Prod.ext he.1 he.2)
theorem rsame_ok : tab3.ok 33 := by
  refine Tab.of_ct rfl rfl ⟨_, Try.func33, by decide, rfl⟩ ?_ ctF_det
  refine ct_ok (cx := crsame) (Tab.cx_ok (all_cons sameline_ok all_nil)) Try.func33 (bds := []) (T := trsame) (by kernel_rfl) ?_
  have h1 : crsame.ct 44 = some ctSameLine := rfl
  unfold trsame
  simp only [VC, allC, List.map_cons, List.map_nil, List.length_cons, List.length_nil, List.getElem?_cons_zero, List.getElem?_cons_succ, List.cons.injEq, C.i.injEq, C.b.injEq, and_true, true_and, forall_const, kindsOf_nil, kindsOf_lf, kindsOf_agg, kindsOf_box, boxKinds_nil, boxKinds_lf, boxKinds_agg, boxKinds_box, List.append_nil, List.cons_append, List.nil_append, den_cmp_le, den_cmp_lt, den_cmp_eq, den_cmp_ne, den_cmp_le', den_cmp_lt', den_cmp_eq', den_cmp_ne', den_and, den_and', den_or, den_or', den_not, den_not', den_blit, den_of, ev_var, at_0, at_1, at_2, at_3, at_4, at_5, at_6, at_7, at_skip, c_int, c_bool, c_arr, c_cnt, c_vec, ev_nil, ev_join, ev_sub3, loc_s, int_i, bool_b, rows_s, cs_nil, cs_cons, E.den_lit, E.den_var, E.den_add, E.den_sub, E.den_mul, E.den_quo, E.den_rem, E.den_max, E.den_min, E.den_len, E.den_wr, E.den_cell, ev_cell, rp0, rp1, rp2, h1, ctSameLine, ctSame, ctF, lineSh, earthSh, earthKs, k_, n_, earOf, ear8]
  intro b _ _ u1 r1 _ _ _ u2 r2 _ _ _ u3 r3 _ _ _ u4 r4 _ _ _ gl _ _ gh _ _ u7 r7 _ _ _ b' _ _ v1 s1 _ _ _ v2 s2 _ _ _ v3 s3 _ _ _ v4 s4 _ _ _ gl' _ _ gh' _ _ v7 s7 _ _ _
  have e0 := reps_len r7
  have e1 := reps_len s7
  rw [← e0, ← e1]
  generalize knots r1 = k1 at *
  generalize knots r2 = k2 at *
  generalize knots r3 = k3 at *
  generalize knots r4 = k4 at *
  generalize knots s1 = l1 at *
  generalize knots s2 = l2 at *
  generalize knots s3 = l3 at *
  generalize knots s4 = l4 at *
  generalize repsOf r7 = p at *
  generalize repsOf s7 = q at *
  have hinj : ((⟨b, k1, k2, k3, k4, gl, gh, p⟩ : Ear) = ⟨b', l1, l2, l3, l4, gl', gh', q⟩) ↔ (b = b' ∧ k1 = l1 ∧ k2 = l2 ∧ k3 = l3 ∧ k4 = l4 ∧ gl = gl' ∧ gh = gh' ∧ p = q) := by rw [Ear.mk.injEq]
  have no : ¬ (b = b' ∧ k1 = l1 ∧ k2 = l2 ∧ k3 = l3 ∧ k4 = l4 ∧ gl = gl' ∧ gh = gh' ∧ p = q) → false = ((⟨b, k1, k2, k3, k4, gl, gh, p⟩ : Ear) == ⟨b', l1, l2, l3, l4, gl', gh', q⟩) := fun h => (beq_no (fun hc => h (hinj.1 hc))).symm
  refine ⟨bds_nil _, fun h => no fun hc => h hc.1, fun a1 => ⟨fun h => no fun hc => h hc.2.2.2.2.2.1, fun a2 => ⟨fun h => no fun hc => h hc.2.2.2.2.2.2.1, fun a3 => ⟨fun h => no fun hc => h (by rw [hc.2.2.2.2.2.2.2]), fun a4 => ?_⟩⟩⟩⟩
  refine ⟨fun xs => match xs with | [_, .i i] => 0 ≤ i ∧ i ≤ p.length ∧ p.take i.toNat = q.take i.toNat | _ => False, fun xs => match xs with | [_, .i i] => ((p.length : Int) - i).toNat | _ => 0, ⟨by omega, by omega, by simp⟩, ?_⟩
  rintro x i _ _ ⟨i0, i1, h⟩
  refine ⟨fun hl => ⟨i0, hl, by omega, fun hne => no fun hc => ?_, fun he => ⟨⟨by omega, by omega, ?_⟩, (show ((p.length : Int) - (i + 1)).toNat < ((p.length : Int) - i).toNat by omega)⟩⟩, fun hge => ?_⟩
  · rw [hc.2.2.2.2.2.2.2] at hne
    exact hne rfl rfl rfl
  · rw [show (i + 1).toNat = i.toNat + 1 by omega]
    refine take_next ⟨0, 0, 0⟩ h (by omega) (by omega) ?_
    obtain ⟨f1, f2, f3⟩ := he
    generalize p.getD i.toNat ⟨0, 0, 0⟩ = x at *
    generalize q.getD i.toNat ⟨0, 0, 0⟩ = y at *
    cases x; cases y
    simp only [] at f1 f2 f3
    rw [f1, f2, f3]
  · have hpq : p = q := (take_all h (by omega)).2 (by omega)
    rintro t1 rfl
    refine ⟨fun b1 => ?_, fun b1 => no fun hc => by rw [hc.2.1] at b1; simp at b1⟩
    rintro t2 rfl
    refine ⟨fun b2 => ?_, fun b2 => no fun hc => by rw [hc.2.2.1] at b2; simp at b2⟩
    rintro t3 rfl
    refine ⟨fun b3 => ?_, fun b3 => no fun hc => by rw [hc.2.2.2.1] at b3; simp at b3⟩
    rintro t4 rfl
    rw [beq_iff_eq] at b1 b2 b3
    by_cases b4 : k4 = l4
    · rw [beq_iff_eq.2 b4]
      exact (beq_iff_eq.2 (hinj.2 ⟨a1, b1, b2, b3, b4, a2, a3, hpq⟩)).symm
    · rw [beq_no b4]
      exact no fun hc => b4 hc.2.2.2.2.1
theorem mod_ok : tab3.ok 53 := by
  refine Tab.of_ct rfl rfl ⟨_, Try.func53, by decide, rfl⟩ ?_ ctF_det
  refine ct_ok (cx := cmod) (Tab.cx_ok all_nil) Try.func53 (bds := []) (T := tmod) (by kernel_rfl) ?_
  unfold tmod
  simp only [VC, allC, List.map_cons, List.map_nil, List.length_cons, List.length_nil, List.getElem?_cons_zero, List.getElem?_cons_succ, List.cons.injEq, C.i.injEq, C.b.injEq, and_true, true_and, forall_const, kindsOf_nil, kindsOf_lf, kindsOf_agg, kindsOf_box, boxKinds_nil, boxKinds_lf, boxKinds_agg, boxKinds_box, List.append_nil, List.cons_append, List.nil_append, den_cmp_le, den_cmp_lt, den_cmp_eq, den_cmp_ne, den_cmp_le', den_cmp_lt', den_cmp_eq', den_cmp_ne', den_and, den_and', den_or, den_or', den_not, den_not', den_blit, den_of, ev_var, at_0, at_1, at_2, at_3, at_4, at_5, at_6, at_7, at_skip, c_int, c_bool, c_arr, c_cnt, c_vec, ev_nil, ev_join, ev_sub3, loc_s, int_i, bool_b, rows_s, cs_nil, cs_cons, E.den_lit, E.den_var, E.den_add, E.den_sub, E.den_mul, E.den_quo, E.den_rem, E.den_max, E.den_min, E.den_len, E.den_wr, E.den_cell, ctMod, ctF, n_]
  intro n n0 n1 m m0 m1 hm
  have e : n.tmod m = if n % m = 0 ∨ 0 ≤ n then n % m else n % m - m := by
    rw [Int.tmod_eq_emod]
    have h1 : (m ∣ n) ↔ n % m = 0 := Int.dvd_iff_emod_eq_zero
    by_cases h0 : 0 ≤ n
    · simp [h0]
    · by_cases h2 : n % m = 0
      · simp [h2, h1]
      · simp [h0, h2, h1]
        omega
  have h2 := Int.emod_nonneg n (b := m) (by omega)
  have h3 := Int.emod_lt_of_pos n (b := m) (by omega)
  rw [e]
  generalize n % m = r at *
  refine ⟨bds_nil _, by omega, ?_⟩
  split
  · refine ⟨fun h => by omega, fun h => ⟨by omega, rfl⟩⟩
  · refine ⟨fun h => ⟨by omega, by omega, by omega⟩, fun h => by omega⟩
theorem mod64_ok : tab3.ok 22 := by
  refine Tab.of_ct rfl rfl ⟨_, Try.func22, by decide, rfl⟩ ?_ ctF_det
  refine ct_ok (cx := cmod64) (Tab.cx_ok all_nil) Try.func22 (bds := []) (T := tmod64) (by kernel_rfl) ?_
  unfold tmod64
  simp only [VC, allC, List.map_cons, List.map_nil, List.length_cons, List.length_nil, List.getElem?_cons_zero, List.getElem?_cons_succ, List.cons.injEq, C.i.injEq, C.b.injEq, and_true, true_and, forall_const, kindsOf_nil, kindsOf_lf, kindsOf_agg, kindsOf_box, boxKinds_nil, boxKinds_lf, boxKinds_agg, boxKinds_box, List.append_nil, List.cons_append, List.nil_append, den_cmp_le, den_cmp_lt, den_cmp_eq, den_cmp_ne, den_cmp_le', den_cmp_lt', den_cmp_eq', den_cmp_ne', den_and, den_and', den_or, den_or', den_not, den_not', den_blit, den_of, ev_var, at_0, at_1, at_2, at_3, at_4, at_5, at_6, at_7, at_skip, c_int, c_bool, c_arr, c_cnt, c_vec, ev_nil, ev_join, ev_sub3, loc_s, int_i, bool_b, rows_s, cs_nil, cs_cons, E.den_lit, E.den_var, E.den_add, E.den_sub, E.den_mul, E.den_quo, E.den_rem, E.den_max, E.den_min, E.den_len, E.den_wr, E.den_cell, ctMod, ctF, n_]
  intro n n0 n1 m m0 m1 hm
  have e : n.tmod m = if n % m = 0 ∨ 0 ≤ n then n % m else n % m - m := by
    rw [Int.tmod_eq_emod]
    have h1 : (m ∣ n) ↔ n % m = 0 := Int.dvd_iff_emod_eq_zero
    by_cases h0 : 0 ≤ n
    · simp [h0]
    · by_cases h2 : n % m = 0
      · simp [h2, h1]
      · simp [h0, h2, h1]
        omega
  have h2 := Int.emod_nonneg n (b := m) (by omega)
  have h3 := Int.emod_lt_of_pos n (b := m) (by omega)
  rw [e]
  generalize n % m = r at *
  refine ⟨bds_nil _, by omega, ?_⟩
  split
  · refine ⟨fun h => by omega, fun h => ⟨by omega, rfl⟩⟩
  · refine ⟨fun h => ⟨by omega, by omega, by omega⟩, fun h => by omega⟩
end Go.Proofs.Ytcglpbchejkolaa
