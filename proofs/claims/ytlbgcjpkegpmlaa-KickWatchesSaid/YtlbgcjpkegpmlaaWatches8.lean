/- Texts laid into one: X3 XC XY XK XL XG Mp Hd XB1 XB2. -/
import Derived.Test.YtlbgcjpkegpmlaaWatches7
import Derived.WalkKit
import Derived.WalkLawsBesides
import Derived.Lib.Hide
import Derived.Handy
import Derived.Maps.Keyed
import Derived.Maps.Range
import Derived.Carry
import Derived.Maps.AppendAt
/- What is to be shown of each function, as the executor has it. Printed by trees.py. -/
namespace Go.Proofs.Ytlbgcjpkegpmlaa
noncomputable def ckick : Cx := tab.only [68] (fun _ => []) [] 0 []
def tkick : Tree :=
  (.split (.and (.cmp .le (.lit 0) (.var 0)) (.cmp .le (.var 0) (.lit 16777216))) (.split (.and (.cmp .le (.lit 0) (.var 1)) (.cmp .le (.var 1) (.lit 4096))) (.ret [(.int (.lit 0))]) (.ret [(.int (.lit 2))])) (.ret [(.int (.lit 2))]))
noncomputable def crkick : Cx := tab.only [69] (fun _ => []) [] 0 []
def trkick : Tree :=
  (.split (.not (.and (.cmp .le (.lit 0) (.var 0)) (.cmp .le (.var 0) (.lit 16777216)))) (.ret [(.int (.lit 2))]) (.split (.not (.and (.cmp .le (.lit 0) (.var 1)) (.cmp .le (.var 1) (.lit 4096)))) (.ret [(.int (.lit 2))]) (.ret [(.int (.lit 0))])))
noncomputable def cleast : Cx := tab.only [] (fun _ => []) [] 0 []
def tleast : Tree :=
  (.ret [(.int (.var 0)), (.int (.var 2))])
noncomputable def crleast : Cx := tab.only [] (fun _ => []) [] 0 []
def trleast : Tree :=
  (.ret [(.int (.var 0)), (.int (.var 2))])
noncomputable def ckicks : Cx := tab.only [75, 36] (fun _ => []) [] 0 []
def tkicks : Tree :=
  (.split (.cmp .lt (.var 1) (.var 0)) (.ret [(.int (.lit 2))]) (.split (.cmp .lt (.var 3) (.var 2)) (.ret [(.int (.lit 2))]) (.call 75 [(.int (.var 0)), (.int (.var 1)), (.int (.var 2)), (.int (.var 3))] (.call 36 [(.int (.var 4)), (.int (.var 5))] (.split (.cmp .ne (.var 6) (.lit 0)) (.ret [(.int (.lit 2))]) (.call 36 [(.int (.var 1)), (.int (.var 3))] (.split (.cmp .ne (.var 7) (.lit 0)) (.ret [(.int (.lit 2))]) (.ret [(.int (.lit 0))]))))))))
noncomputable def crkicks : Cx := tab.only [76, 37] (fun _ => []) [] 0 []
def trkicks : Tree :=
  (.split (.cmp .lt (.var 1) (.var 0)) (.ret [(.int (.lit 2))]) (.split (.cmp .lt (.var 3) (.var 2)) (.ret [(.int (.lit 2))]) (.call 76 [(.int (.var 0)), (.int (.var 1)), (.int (.var 2)), (.int (.var 3))] (.call 37 [(.int (.var 4)), (.int (.var 5))] (.split (.cmp .ne (.var 6) (.lit 0)) (.ret [(.int (.lit 2))]) (.call 37 [(.int (.var 1)), (.int (.var 3))] (.split (.cmp .ne (.var 7) (.lit 0)) (.ret [(.int (.lit 2))]) (.ret [(.int (.lit 0))]))))))))
noncomputable def csens : Cx := tab.only [68] (fun _ => []) [] 0 []
def tsens : Tree :=
  (.split (.cmp .ne (.var 0) (.lit 1)) (.split (.cmp .ne (.var 0) (.lit 2)) (.ret [(.int (.lit 4))]) (.split (.and (.cmp .le (.lit 1) (.var 1)) (.cmp .le (.var 1) (.lit 60))) (.split (.and (.cmp .le (.lit 0) (.var 2)) (.cmp .le (.var 2) (.lit 600))) (.split (.and (.cmp .le (.lit 0) (.var 3)) (.cmp .le (.var 3) (.lit 15))) (.split (.and (.cmp .le (.lit 1) (.var 4)) (.cmp .le (.var 4) (.lit 1048576))) (.split (.and (.cmp .le (.lit 0) (.var 5)) (.cmp .le (.var 5) (.lit 5))) (.split (.and (.cmp .le (.lit 1) (.var 6)) (.cmp .le (.var 6) (.lit 1099511627776))) (.split (.and (.cmp .le (.lit 1) (.var 7)) (.cmp .le (.var 7) (.lit 8))) (.ret [(.int (.lit 0))]) (.ret [(.int (.lit 2))])) (.ret [(.int (.lit 2))])) (.ret [(.int (.lit 2))])) (.ret [(.int (.lit 2))])) (.ret [(.int (.lit 2))])) (.ret [(.int (.lit 2))])) (.ret [(.int (.lit 2))]))) (.split (.and (.cmp .le (.lit 1) (.var 1)) (.cmp .le (.var 1) (.lit 60))) (.split (.and (.cmp .le (.lit 0) (.var 2)) (.cmp .le (.var 2) (.lit 600))) (.split (.and (.cmp .le (.lit 0) (.var 3)) (.cmp .le (.var 3) (.lit 15))) (.split (.and (.cmp .le (.lit 1) (.var 4)) (.cmp .le (.var 4) (.lit 1048576))) (.split (.and (.cmp .le (.lit 0) (.var 5)) (.cmp .le (.var 5) (.lit 5))) (.split (.and (.cmp .le (.lit 1) (.var 6)) (.cmp .le (.var 6) (.lit 1099511627776))) (.split (.and (.cmp .le (.lit 1) (.var 7)) (.cmp .le (.var 7) (.lit 8))) (.ret [(.int (.lit 0))]) (.ret [(.int (.lit 2))])) (.ret [(.int (.lit 2))])) (.ret [(.int (.lit 2))])) (.ret [(.int (.lit 2))])) (.ret [(.int (.lit 2))])) (.ret [(.int (.lit 2))])) (.ret [(.int (.lit 2))])))
noncomputable def crsens : Cx := tab.only [69] (fun _ => []) [] 0 []
def trsens : Tree :=
  (.split (.cmp .ne (.var 0) (.lit 1)) (.split (.cmp .ne (.var 0) (.lit 2)) (.ret [(.int (.lit 4))]) (.split (.not (.and (.cmp .le (.lit 1) (.var 1)) (.cmp .le (.var 1) (.lit 60)))) (.ret [(.int (.lit 2))]) (.split (.not (.and (.cmp .le (.lit 0) (.var 2)) (.cmp .le (.var 2) (.lit 600)))) (.ret [(.int (.lit 2))]) (.split (.not (.and (.cmp .le (.lit 0) (.var 3)) (.cmp .le (.var 3) (.lit 15)))) (.ret [(.int (.lit 2))]) (.split (.not (.and (.cmp .le (.lit 1) (.var 4)) (.cmp .le (.var 4) (.lit 1048576)))) (.ret [(.int (.lit 2))]) (.split (.not (.and (.cmp .le (.lit 0) (.var 5)) (.cmp .le (.var 5) (.lit 5)))) (.ret [(.int (.lit 2))]) (.split (.not (.and (.cmp .le (.lit 1) (.var 6)) (.cmp .le (.var 6) (.lit 1099511627776)))) (.ret [(.int (.lit 2))]) (.split (.not (.and (.cmp .le (.lit 1) (.var 7)) (.cmp .le (.var 7) (.lit 8)))) (.ret [(.int (.lit 2))]) (.ret [(.int (.lit 0))]))))))))) (.split (.not (.and (.cmp .le (.lit 1) (.var 1)) (.cmp .le (.var 1) (.lit 60)))) (.ret [(.int (.lit 2))]) (.split (.not (.and (.cmp .le (.lit 0) (.var 2)) (.cmp .le (.var 2) (.lit 600)))) (.ret [(.int (.lit 2))]) (.split (.not (.and (.cmp .le (.lit 0) (.var 3)) (.cmp .le (.var 3) (.lit 15)))) (.ret [(.int (.lit 2))]) (.split (.not (.and (.cmp .le (.lit 1) (.var 4)) (.cmp .le (.var 4) (.lit 1048576)))) (.ret [(.int (.lit 2))]) (.split (.not (.and (.cmp .le (.lit 0) (.var 5)) (.cmp .le (.var 5) (.lit 5)))) (.ret [(.int (.lit 2))]) (.split (.not (.and (.cmp .le (.lit 1) (.var 6)) (.cmp .le (.var 6) (.lit 1099511627776)))) (.ret [(.int (.lit 2))]) (.split (.not (.and (.cmp .le (.lit 1) (.var 7)) (.cmp .le (.var 7) (.lit 8)))) (.ret [(.int (.lit 2))]) (.ret [(.int (.lit 0))])))))))))
noncomputable def csensors : Cx := tab.only [40] (fun _ => []) [] 0 []
def tsensors : Tree :=
  (.split (.cmp .eq (.len (.var 0)) (.lit 0)) (.ret [(.int (.lit 6))]) (.split (.cmp .lt (.lit 4) (.len (.var 0))) (.ret [(.int (.lit 8))]) (.loop [.int, .int] [(.int (.lit 0)), (.int (.lit 0))] (.split (.cmp .lt (.var 2) (.len (.var 0))) (.ob (.cmp .le (.lit 0) (.var 2)) (.ob (.cmp .lt (.var 2) (.len (.var 0))) (.call 40 [(.int (.cell (.var 0) (.var 2) 0)), (.int (.cell (.var 0) (.var 2) 1)), (.int (.cell (.var 0) (.var 2) 2)), (.int (.cell (.var 0) (.var 2) 3)), (.int (.cell (.var 0) (.var 2) 4)), (.int (.cell (.var 0) (.var 2) 5)), (.int (.cell (.var 0) (.var 2) 6)), (.int (.cell (.var 0) (.var 2) 7))] (.split (.cmp .ne (.var 3) (.lit 0)) (.ret [(.int (.var 3))]) (.back 0 [(.int (.var 1)), (.int (.add (.var 2) (.lit 1)))]))))) (.ret [(.int (.lit 0))])))))
noncomputable def crsensors : Cx := tab.only [41] (fun _ => []) [] 0 []
def trsensors : Tree :=
  (.split (.cmp .eq (.len (.var 0)) (.lit 0)) (.ret [(.int (.lit 6))]) (.split (.cmp .lt (.lit 4) (.len (.var 0))) (.ret [(.int (.lit 8))]) (.loop [.int, .int] [(.int (.lit 0)), (.int (.lit 0))] (.split (.cmp .lt (.var 2) (.len (.var 0))) (.ob (.cmp .le (.lit 0) (.var 2)) (.ob (.cmp .lt (.var 2) (.len (.var 0))) (.call 41 [(.int (.cell (.var 0) (.var 2) 0)), (.int (.cell (.var 0) (.var 2) 1)), (.int (.cell (.var 0) (.var 2) 2)), (.int (.cell (.var 0) (.var 2) 3)), (.int (.cell (.var 0) (.var 2) 4)), (.int (.cell (.var 0) (.var 2) 5)), (.int (.cell (.var 0) (.var 2) 6)), (.int (.cell (.var 0) (.var 2) 7))] (.split (.cmp .ne (.var 3) (.lit 0)) (.ret [(.int (.var 3))]) (.back 0 [(.int (.var 1)), (.int (.add (.var 2) (.lit 1)))]))))) (.ret [(.int (.lit 0))])))))
noncomputable def cflow1 : Cx := tab.only [] (fun _ => []) [] 0 []
def tflow1 : Tree :=
  (.split (.cmp .lt (.var 2) (.lit 0)) (.ret [(.int (.lit 0))]) (.ob (.and (.cmp .le (.lit (-9223372036854775808)) (.mul (.var 2) (.var 1))) (.cmp .le (.mul (.var 2) (.var 1)) (.lit 9223372036854775807))) (.ob (.and (.cmp .le (.lit (-9223372036854775808)) (.add (.var 0) (.mul (.var 2) (.var 1)))) (.cmp .le (.add (.var 0) (.mul (.var 2) (.var 1))) (.lit 9223372036854775807))) (.ob (.and (.cmp .le (.lit (-9223372036854775808)) (.add (.var 0) (.mul (.var 2) (.var 1)))) (.cmp .le (.add (.var 0) (.mul (.var 2) (.var 1))) (.lit 9223372036854775807))) (.ret [(.int (.add (.var 0) (.mul (.var 2) (.var 1))))])))))
noncomputable def cgain1 : Cx := tab.only [] (fun _ => []) [] 0 []
def tgain1 : Tree :=
  (.split (.cmp .lt (.var 2) (.lit 0)) (.ret [(.int (.lit 0))]) (.ob (.and (.cmp .le (.lit (-9223372036854775808)) (.mul (.var 2) (.var 0))) (.cmp .le (.mul (.var 2) (.var 0)) (.lit 9223372036854775807))) (.ob (.and (.cmp .le (.lit (-9223372036854775808)) (.mul (.var 2) (.sub (.var 2) (.lit 1)))) (.cmp .le (.mul (.var 2) (.sub (.var 2) (.lit 1))) (.lit 9223372036854775807))) (.ob (.and (.cmp .le (.lit (-9223372036854775808)) (.quo (.mul (.var 2) (.sub (.var 2) (.lit 1))) (.lit 2))) (.cmp .le (.quo (.mul (.var 2) (.sub (.var 2) (.lit 1))) (.lit 2)) (.lit 9223372036854775807))) (.ob (.and (.cmp .le (.lit (-9223372036854775808)) (.mul (.var 1) (.quo (.mul (.var 2) (.sub (.var 2) (.lit 1))) (.lit 2)))) (.cmp .le (.mul (.var 1) (.quo (.mul (.var 2) (.sub (.var 2) (.lit 1))) (.lit 2))) (.lit 9223372036854775807))) (.ob (.and (.cmp .le (.lit (-9223372036854775808)) (.add (.mul (.var 2) (.var 0)) (.mul (.var 1) (.quo (.mul (.var 2) (.sub (.var 2) (.lit 1))) (.lit 2))))) (.cmp .le (.add (.mul (.var 2) (.var 0)) (.mul (.var 1) (.quo (.mul (.var 2) (.sub (.var 2) (.lit 1))) (.lit 2)))) (.lit 9223372036854775807))) (.ob (.and (.cmp .le (.lit (-9223372036854775808)) (.add (.mul (.var 2) (.var 0)) (.mul (.var 1) (.quo (.mul (.var 2) (.sub (.var 2) (.lit 1))) (.lit 2))))) (.cmp .le (.add (.mul (.var 2) (.var 0)) (.mul (.var 1) (.quo (.mul (.var 2) (.sub (.var 2) (.lit 1))) (.lit 2)))) (.lit 9223372036854775807))) (.ret [(.int (.add (.mul (.var 2) (.var 0)) (.mul (.var 1) (.quo (.mul (.var 2) (.sub (.var 2) (.lit 1))) (.lit 2)))))]))))))))
noncomputable def cflow : Cx := tab.only [36, 67] (fun _ => []) [] 0 []
def tflow : Tree :=
  (.call 36 [(.int (.var 0)), (.int (.var 1))] (.split (.cmp .ne (.var 3) (.lit 0)) (.ret [(.int (.lit 0))]) (.split (.cmp .lt (.lit 20000) (.var 2)) (.ret [(.int (.lit 0))]) (.call 67 [(.int (.var 0)), (.int (.var 1)), (.int (.var 2))] (.ret [(.int (.var 4))])))))
noncomputable def cgain : Cx := tab.only [36, 66] (fun _ => []) [] 0 []
def tgain : Tree :=
  (.call 36 [(.int (.var 0)), (.int (.var 1))] (.split (.cmp .ne (.var 3) (.lit 0)) (.ret [(.int (.lit 0))]) (.split (.cmp .lt (.lit 20000) (.var 2)) (.ret [(.int (.lit 0))]) (.call 66 [(.int (.var 0)), (.int (.var 1)), (.int (.var 2))] (.ret [(.int (.var 4))])))))
noncomputable def crflow : Cx := tab.only [37, 69] (fun _ => []) [] 0 []
def trflow : Tree :=
  (.call 37 [(.int (.var 0)), (.int (.var 1))] (.split (.cmp .ne (.var 3) (.lit 0)) (.ret [(.int (.lit 0))]) (.split (.not (.and (.cmp .le (.lit 0) (.var 2)) (.cmp .le (.var 2) (.lit 20000)))) (.ret [(.int (.lit 0))]) (.ob (.and (.cmp .le (.lit (-9223372036854775808)) (.mul (.var 2) (.var 1))) (.cmp .le (.mul (.var 2) (.var 1)) (.lit 9223372036854775807))) (.ob (.and (.cmp .le (.lit (-9223372036854775808)) (.add (.var 0) (.mul (.var 2) (.var 1)))) (.cmp .le (.add (.var 0) (.mul (.var 2) (.var 1))) (.lit 9223372036854775807))) (.ob (.and (.cmp .le (.lit (-9223372036854775808)) (.add (.var 0) (.mul (.var 2) (.var 1)))) (.cmp .le (.add (.var 0) (.mul (.var 2) (.var 1))) (.lit 9223372036854775807))) (.ret [(.int (.add (.var 0) (.mul (.var 2) (.var 1))))])))))))
noncomputable def crgain : Cx := tab.only [37, 69] (fun _ => []) [] 0 []
def trgain : Tree :=
  (.call 37 [(.int (.var 0)), (.int (.var 1))] (.split (.cmp .ne (.var 3) (.lit 0)) (.ret [(.int (.lit 0))]) (.split (.not (.and (.cmp .le (.lit 0) (.var 2)) (.cmp .le (.var 2) (.lit 20000)))) (.ret [(.int (.lit 0))]) (.ob (.and (.cmp .le (.lit (-9223372036854775808)) (.mul (.var 2) (.var 0))) (.cmp .le (.mul (.var 2) (.var 0)) (.lit 9223372036854775807))) (.ob (.and (.cmp .le (.lit (-9223372036854775808)) (.mul (.var 1) (.quo (.mul (.var 2) (.sub (.var 2) (.lit 1))) (.lit 2)))) (.cmp .le (.mul (.var 1) (.quo (.mul (.var 2) (.sub (.var 2) (.lit 1))) (.lit 2))) (.lit 9223372036854775807))) (.ob (.and (.cmp .le (.lit (-9223372036854775808)) (.add (.mul (.var 2) (.var 0)) (.mul (.var 1) (.quo (.mul (.var 2) (.sub (.var 2) (.lit 1))) (.lit 2))))) (.cmp .le (.add (.mul (.var 2) (.var 0)) (.mul (.var 1) (.quo (.mul (.var 2) (.sub (.var 2) (.lit 1))) (.lit 2)))) (.lit 9223372036854775807))) (.ob (.and (.cmp .le (.lit (-9223372036854775808)) (.add (.mul (.var 2) (.var 0)) (.mul (.var 1) (.quo (.mul (.var 2) (.sub (.var 2) (.lit 1))) (.lit 2))))) (.cmp .le (.add (.mul (.var 2) (.var 0)) (.mul (.var 1) (.quo (.mul (.var 2) (.sub (.var 2) (.lit 1))) (.lit 2)))) (.lit 9223372036854775807))) (.ret [(.int (.add (.mul (.var 2) (.var 0)) (.mul (.var 1) (.quo (.mul (.var 2) (.sub (.var 2) (.lit 1))) (.lit 2)))))]))))))))
noncomputable def crsays : Cx := tab.only [44, 45] (fun _ => []) [] 0 []
def trsays : Tree :=
  (.split (.cmp .eq (.var 0) (.lit 1)) (.call 45 [(.int (.var 8)), (.int (.var 9)), (.int (.var 10))] (.ret [(.int (.var 11))])) (.call 44 [(.int (.var 8)), (.int (.var 9)), (.int (.var 10))] (.ret [(.int (.var 11))])))
noncomputable def crvalue : Cx := tab.only [41, 37, 69, 78] (fun _ => []) [] 0 []
def trvalue : Tree :=
  (.call 41 [(.int (.var 0)), (.int (.var 1)), (.int (.var 2)), (.int (.var 3)), (.int (.var 4)), (.int (.var 5)), (.int (.var 6)), (.int (.var 7))] (.split (.cmp .ne (.var 12) (.lit 0)) (.ret [(.int (.lit 0))]) (.call 37 [(.int (.var 8)), (.int (.var 9))] (.split (.cmp .ne (.var 13) (.lit 0)) (.ret [(.int (.lit 0))]) (.ob (.and (.cmp .le (.lit (-9223372036854775808)) (.sub (.lit 0) (.var 3))) (.cmp .le (.sub (.lit 0) (.var 3)) (.lit 9223372036854775807))) (.ob (.and (.cmp .le (.lit (-9223372036854775808)) (.sub (.lit 0) (.var 3))) (.cmp .le (.sub (.lit 0) (.var 3)) (.lit 9223372036854775807))) (.split (.not (.and (.cmp .le (.sub (.lit 0) (.var 3)) (.var 11)) (.cmp .le (.var 11) (.var 3)))) (.ret [(.int (.lit 0))]) (.split (.cmp .lt (.lit 20000) (.var 10)) (.ret [(.int (.lit 0))]) (.call 78 [(.int (.var 0)), (.int (.var 1)), (.int (.var 2)), (.int (.var 3)), (.int (.var 4)), (.int (.var 5)), (.int (.var 6)), (.int (.var 7)), (.int (.var 8)), (.int (.var 9)), (.int (.var 10))] (.ob (.and (.cmp .le (.lit (-9223372036854775808)) (.mul (.var 11) (.var 4))) (.cmp .le (.mul (.var 11) (.var 4)) (.lit 9223372036854775807))) (.ob (.and (.cmp .le (.lit (-9223372036854775808)) (.add (.var 14) (.mul (.var 11) (.var 4)))) (.cmp .le (.add (.var 14) (.mul (.var 11) (.var 4))) (.lit 9223372036854775807))) (.ob (.and (.cmp .le (.lit (-9223372036854775808)) (.add (.var 14) (.mul (.var 11) (.var 4)))) (.cmp .le (.add (.var 14) (.mul (.var 11) (.var 4))) (.lit 9223372036854775807))) (.ret [(.int (.add (.var 14) (.mul (.var 11) (.var 4))))])))))))))))))
noncomputable def cvalue : Cx := tab.only [40, 36, 68, 77, 67, 66] (fun _ => []) [] 0 []
def tvalue : Tree :=
  (.call 40 [(.int (.var 0)), (.int (.var 1)), (.int (.var 2)), (.int (.var 3)), (.int (.var 4)), (.int (.var 5)), (.int (.var 6)), (.int (.var 7))] (.split (.cmp .ne (.var 12) (.lit 0)) (.ret [(.int (.lit 0))]) (.call 36 [(.int (.var 8)), (.int (.var 9))] (.split (.cmp .ne (.var 13) (.lit 0)) (.ret [(.int (.lit 0))]) (.ob (.and (.cmp .le (.lit (-9223372036854775808)) (.sub (.lit 0) (.var 3))) (.cmp .le (.sub (.lit 0) (.var 3)) (.lit 9223372036854775807))) (.ob (.and (.cmp .le (.lit (-9223372036854775808)) (.sub (.lit 0) (.var 3))) (.cmp .le (.sub (.lit 0) (.var 3)) (.lit 9223372036854775807))) (.split (.not (.and (.cmp .le (.sub (.lit 0) (.var 3)) (.var 11)) (.cmp .le (.var 11) (.var 3)))) (.ret [(.int (.lit 0))]) (.split (.cmp .lt (.lit 20000) (.var 10)) (.ret [(.int (.lit 0))]) (.ob (.and (.cmp .le (.lit (-9223372036854775808)) (.mul (.var 11) (.var 4))) (.cmp .le (.mul (.var 11) (.var 4)) (.lit 9223372036854775807))) (.split (.cmp .eq (.var 0) (.lit 2)) (.call 67 [(.int (.var 8)), (.int (.var 9)), (.int (.var 10))] (.ob (.and (.cmp .le (.lit (-9223372036854775808)) (.add (.var 14) (.mul (.var 11) (.var 4)))) (.cmp .le (.add (.var 14) (.mul (.var 11) (.var 4))) (.lit 9223372036854775807))) (.ob (.and (.cmp .le (.lit (-9223372036854775808)) (.add (.var 14) (.mul (.var 11) (.var 4)))) (.cmp .le (.add (.var 14) (.mul (.var 11) (.var 4))) (.lit 9223372036854775807))) (.ret [(.int (.add (.var 14) (.mul (.var 11) (.var 4))))])))) (.call 66 [(.int (.var 8)), (.int (.var 9)), (.int (.var 10))] (.ob (.and (.cmp .le (.lit (-9223372036854775808)) (.add (.var 14) (.mul (.var 11) (.var 4)))) (.cmp .le (.add (.var 14) (.mul (.var 11) (.var 4))) (.lit 9223372036854775807))) (.ob (.and (.cmp .le (.lit (-9223372036854775808)) (.add (.var 14) (.mul (.var 11) (.var 4)))) (.cmp .le (.add (.var 14) (.mul (.var 11) (.var 4))) (.lit 9223372036854775807))) (.ret [(.int (.add (.var 14) (.mul (.var 11) (.var 4))))]))))))))))))))
noncomputable def cchecks : Cx := tab.only [36, 37, 38, 39, 40, 41, 42, 43, 24, 44, 23, 45, 46, 47, 19] (fun _ => []) [] 0 []
def tchecks_1 : Tree :=
  (.call 47 [(.int (.var 6)), (.int (.var 7)), (.int (.var 8)), (.int (.var 9)), (.int (.var 10)), (.int (.var 11)), (.int (.var 12)), (.int (.var 13)), (.int (.var 0)), (.int (.var 1)), (.int (.var 15)), (.int (.var 16))] (.split (.cmp .eq (.var 29) (.var 30)) (.call 19 [] (.ret [(.bool (.of (.var 31)))])) (.ret [(.bool (.lit false))])))
def tchecks_2 : Tree :=
  (.split (.cmp .eq (.var 27) (.var 28)) (.call 46 [(.int (.var 6)), (.int (.var 7)), (.int (.var 8)), (.int (.var 9)), (.int (.var 10)), (.int (.var 11)), (.int (.var 12)), (.int (.var 13)), (.int (.var 0)), (.int (.var 1)), (.int (.var 15)), (.int (.var 16))] tchecks_1) (.ret [(.bool (.lit false))]))
def tchecks_3 : Tree :=
  (.split (.cmp .eq (.var 25) (.var 26)) (.call 23 [(.int (.var 0)), (.int (.var 1)), (.int (.var 15))] (.call 45 [(.int (.var 0)), (.int (.var 1)), (.int (.var 15))] tchecks_2)) (.ret [(.bool (.lit false))]))
def tchecks_4 : Tree :=
  (.split (.cmp .ne (.var 23) (.var 24)) (.ret [(.bool (.lit false))]) (.call 24 [(.int (.var 0)), (.int (.var 1)), (.int (.var 15))] (.call 44 [(.int (.var 0)), (.int (.var 1)), (.int (.var 15))] tchecks_3)))
def tchecks_5 : Tree :=
  (.call 41 [(.int (.var 6)), (.int (.var 7)), (.int (.var 8)), (.int (.var 9)), (.int (.var 10)), (.int (.var 11)), (.int (.var 12)), (.int (.var 13))] (.split (.cmp .ne (.var 21) (.var 22)) (.ret [(.bool (.lit false))]) (.call 42 [(.arr 23 (.var 14))] (.call 43 [(.arr 23 (.var 14))] tchecks_4))))
def tchecks_6 : Tree :=
  (.split (.cmp .ne (.var 19) (.var 20)) (.ret [(.bool (.lit false))]) (.call 40 [(.int (.var 6)), (.int (.var 7)), (.int (.var 8)), (.int (.var 9)), (.int (.var 10)), (.int (.var 11)), (.int (.var 12)), (.int (.var 13))] tchecks_5))
def tchecks_7 : Tree :=
  (.split (.cmp .ne (.var 17) (.var 18)) (.ret [(.bool (.lit false))]) (.call 38 [(.int (.var 2)), (.int (.var 3)), (.int (.var 4)), (.int (.var 5))] (.call 39 [(.int (.var 2)), (.int (.var 3)), (.int (.var 4)), (.int (.var 5))] tchecks_6)))
def tchecks : Tree :=
  (.split (.cmp .lt (.lit 6) (.len (.var 14))) (.call 19 [] (.ret [(.bool (.of (.var 17)))])) (.call 36 [(.int (.var 0)), (.int (.var 1))] (.call 37 [(.int (.var 0)), (.int (.var 1))] tchecks_7)))
end Go.Proofs.Ytlbgcjpkegpmlaa
/- Kicks and sensors: what is valid, flows, gains, values. -/
namespace Go.Proofs.Ytlbgcjpkegpmlaa
open Go.RowKit
set_option linter.unusedSimpArgs false
set_option linter.unusedVariables false

theorem kickE_yes {r g : Int} (h : KOk r g) : kickE r g = 0 := by unfold kickE; rw [if_pos h]
theorem kickE_no {r g : Int} (h : ¬ KOk r g) : kickE r g = 2 := by unfold kickE; rw [if_neg h]
theorem kick_ok : tab.ok 36 := by
  refine Tab.of_ct rfl rfl ⟨_, Try.func36, by decide, rfl⟩ ?_ ctF_det
  refine ct_ok (cx := ckick) (Tab.cx_ok (all_cons within_ok all_nil)) Try.func36 (bds := []) (T := tkick) (by kernel_rfl) ?_
  unfold tkick
  simp only [VC, allC, List.map_cons, List.map_nil, List.length_cons, List.length_nil, List.getElem?_cons_zero, List.getElem?_cons_succ, List.cons.injEq, C.i.injEq, C.b.injEq, and_true, true_and, forall_const, kindsOf_nil, kindsOf_lf, kindsOf_agg, kindsOf_box, boxKinds_nil, boxKinds_lf, boxKinds_agg, boxKinds_box, List.append_nil, List.cons_append, List.nil_append, den_cmp_le, den_cmp_lt, den_cmp_eq, den_cmp_ne, den_cmp_le', den_cmp_lt', den_cmp_eq', den_cmp_ne', den_and, den_and', den_or, den_or', den_not, den_not', den_blit, den_of, ev_var, at_0, at_1, at_2, at_3, at_4, at_5, at_6, at_7, at_skip, c_int, c_bool, c_arr, c_cnt, c_vec, ev_nil, ev_join, ev_sub3, loc_s, int_i, bool_b, rows_s, cs_nil, cs_cons, E.den_lit, E.den_var, E.den_add, E.den_sub, E.den_mul, E.den_quo, E.den_rem, E.den_max, E.den_min, E.den_len, E.den_wr, E.den_cell, ctKick, ctF, kickSh]; intro r r1 r2 g g1 g2; have k0 := @kickE_yes r g; have k2 := @kickE_no r g; unfold KOk at k0 k2; refine ⟨bds_nil _, ?_⟩; omega
theorem rkick_ok : tab.ok 37 := by
  refine Tab.of_ct rfl rfl ⟨_, Try.func37, by decide, rfl⟩ ?_ ctF_det
  refine ct_ok (cx := crkick) (Tab.cx_ok (all_cons between_ok all_nil)) Try.func37 (bds := []) (T := trkick) (by kernel_rfl) ?_
  unfold trkick
  simp only [VC, allC, List.map_cons, List.map_nil, List.length_cons, List.length_nil, List.getElem?_cons_zero, List.getElem?_cons_succ, List.cons.injEq, C.i.injEq, C.b.injEq, and_true, true_and, forall_const, kindsOf_nil, kindsOf_lf, kindsOf_agg, kindsOf_box, boxKinds_nil, boxKinds_lf, boxKinds_agg, boxKinds_box, List.append_nil, List.cons_append, List.nil_append, den_cmp_le, den_cmp_lt, den_cmp_eq, den_cmp_ne, den_cmp_le', den_cmp_lt', den_cmp_eq', den_cmp_ne', den_and, den_and', den_or, den_or', den_not, den_not', den_blit, den_of, ev_var, at_0, at_1, at_2, at_3, at_4, at_5, at_6, at_7, at_skip, c_int, c_bool, c_arr, c_cnt, c_vec, ev_nil, ev_join, ev_sub3, loc_s, int_i, bool_b, rows_s, cs_nil, cs_cons, E.den_lit, E.den_var, E.den_add, E.den_sub, E.den_mul, E.den_quo, E.den_rem, E.den_max, E.den_min, E.den_len, E.den_wr, E.den_cell, ctKick, ctF, kickSh]; intro r r1 r2 g g1 g2; have k0 := @kickE_yes r g; have k2 := @kickE_no r g; unfold KOk at k0 k2; refine ⟨bds_nil _, ?_⟩; omega
theorem least_ok : tab.ok 75 := by
  refine Tab.of_ct rfl rfl ⟨_, Try.func75, by decide, rfl⟩ ?_ ctF_det
  refine ct_ok (cx := cleast) (Tab.cx_ok all_nil) Try.func75 (bds := []) (T := tleast) (by kernel_rfl) ?_
  unfold tleast
  simp only [VC, allC, List.map_cons, List.map_nil, List.length_cons, List.length_nil, List.getElem?_cons_zero, List.getElem?_cons_succ, List.cons.injEq, C.i.injEq, C.b.injEq, and_true, true_and, forall_const, kindsOf_nil, kindsOf_lf, kindsOf_agg, kindsOf_box, boxKinds_nil, boxKinds_lf, boxKinds_agg, boxKinds_box, List.append_nil, List.cons_append, List.nil_append, den_cmp_le, den_cmp_lt, den_cmp_eq, den_cmp_ne, den_cmp_le', den_cmp_lt', den_cmp_eq', den_cmp_ne', den_and, den_and', den_or, den_or', den_not, den_not', den_blit, den_of, ev_var, at_0, at_1, at_2, at_3, at_4, at_5, at_6, at_7, at_skip, c_int, c_bool, c_arr, c_cnt, c_vec, ev_nil, ev_join, ev_sub3, loc_s, int_i, bool_b, rows_s, cs_nil, cs_cons, E.den_lit, E.den_var, E.den_add, E.den_sub, E.den_mul, E.den_quo, E.den_rem, E.den_max, E.den_min, E.den_len, E.den_wr, E.den_cell, ctLeast, ctF, kicksSh, kickSh]
  repeat' (first | exact bds_nil _ | apply And.intro | intro _)
theorem rleast_ok : tab.ok 76 := by
  refine Tab.of_ct rfl rfl ⟨_, Try.func76, by decide, rfl⟩ ?_ ctF_det
  refine ct_ok (cx := crleast) (Tab.cx_ok all_nil) Try.func76 (bds := []) (T := trleast) (by kernel_rfl) ?_
  unfold trleast
  simp only [VC, allC, List.map_cons, List.map_nil, List.length_cons, List.length_nil, List.getElem?_cons_zero, List.getElem?_cons_succ, List.cons.injEq, C.i.injEq, C.b.injEq, and_true, true_and, forall_const, kindsOf_nil, kindsOf_lf, kindsOf_agg, kindsOf_box, boxKinds_nil, boxKinds_lf, boxKinds_agg, boxKinds_box, List.append_nil, List.cons_append, List.nil_append, den_cmp_le, den_cmp_lt, den_cmp_eq, den_cmp_ne, den_cmp_le', den_cmp_lt', den_cmp_eq', den_cmp_ne', den_and, den_and', den_or, den_or', den_not, den_not', den_blit, den_of, ev_var, at_0, at_1, at_2, at_3, at_4, at_5, at_6, at_7, at_skip, c_int, c_bool, c_arr, c_cnt, c_vec, ev_nil, ev_join, ev_sub3, loc_s, int_i, bool_b, rows_s, cs_nil, cs_cons, E.den_lit, E.den_var, E.den_add, E.den_sub, E.den_mul, E.den_quo, E.den_rem, E.den_max, E.den_min, E.den_len, E.den_wr, E.den_cell, ctLeast, ctF, kicksSh, kickSh]
  repeat' (first | exact bds_nil _ | apply And.intro | intro _)
theorem kickE_iff {r g : Int} : kickE r g = 0 ↔ KOk r g := by unfold kickE; split <;> simp_all
theorem kicks_ok : tab.ok 38 := by
  refine Tab.of_ct rfl rfl ⟨_, Try.func38, by decide, rfl⟩ ?_ ctF_det
  refine ct_ok (cx := ckicks) (Tab.cx_ok (all_cons least_ok (all_cons kick_ok all_nil))) Try.func38 (bds := []) (T := tkicks) (by kernel_rfl) ?_
  have h1 : ckicks.ct 75 = some ctLeast := rfl
  have h2 : ckicks.ct 36 = some ctKick := rfl
  unfold tkicks
  simp only [VC, allC, List.map_cons, List.map_nil, List.length_cons, List.length_nil, List.getElem?_cons_zero, List.getElem?_cons_succ, List.cons.injEq, C.i.injEq, C.b.injEq, and_true, true_and, forall_const, kindsOf_nil, kindsOf_lf, kindsOf_agg, kindsOf_box, boxKinds_nil, boxKinds_lf, boxKinds_agg, boxKinds_box, List.append_nil, List.cons_append, List.nil_append, den_cmp_le, den_cmp_lt, den_cmp_eq, den_cmp_ne, den_cmp_le', den_cmp_lt', den_cmp_eq', den_cmp_ne', den_and, den_and', den_or, den_or', den_not, den_not', den_blit, den_of, ev_var, at_0, at_1, at_2, at_3, at_4, at_5, at_6, at_7, at_skip, c_int, c_bool, c_arr, c_cnt, c_vec, ev_nil, ev_join, ev_sub3, loc_s, int_i, bool_b, rows_s, cs_nil, cs_cons, E.den_lit, E.den_var, E.den_add, E.den_sub, E.den_mul, E.den_quo, E.den_rem, E.den_max, E.den_min, E.den_len, E.den_wr, E.den_cell, h1, h2, ctKicks, ctLeast, ctKick, ctF, kicksSh, kickSh]
  intro a _ _ b _ _ c _ _ d _ _
  have no : ¬ (a ≤ b ∧ c ≤ d ∧ KOk a c ∧ KOk b d) → 2 = kicksE a b c d := fun h => by unfold kicksE; rw [if_neg h]
  have yes : (a ≤ b ∧ c ≤ d ∧ KOk a c ∧ KOk b d) → 0 = kicksE a b c d := fun h => by unfold kicksE; rw [if_pos h]
  have f1 := @kickE_iff a c
  have f2 := @kickE_iff b d
  refine ⟨bds_nil _, fun h => no (by omega), fun h1 => ⟨fun h => no (by omega), fun h2 => ?_⟩⟩
  rintro x _ _ y _ _ ⟨rfl, rfl⟩ e _ _ rfl
  refine ⟨fun h => no fun h' => h (f1.2 h'.2.2.1), fun h3 => ?_⟩
  rintro e _ _ rfl
  exact ⟨fun h => no fun h' => h (f2.2 h'.2.2.2), fun h4 => yes ⟨h1, h2, f1.1 h3, f2.1 h4⟩⟩
theorem sensE_kind {ch pe de no st lo li ho : Int} (h : ch ≠ 1 ∧ ch ≠ 2) : sensE ch pe de no st lo li ho = 4 := by unfold sensE; rw [if_neg (by omega)]
theorem sensE_yes {ch pe de no st lo li ho : Int} (h : ch = 1 ∨ ch = 2) (h' : SOk pe de no st lo li ho) : sensE ch pe de no st lo li ho = 0 := by unfold sensE; rw [if_pos h, if_pos h']
theorem sensE_no {ch pe de no st lo li ho : Int} (h : ch = 1 ∨ ch = 2) (h' : ¬ SOk pe de no st lo li ho) : sensE ch pe de no st lo li ho = 2 := by unfold sensE; rw [if_pos h, if_neg h']
theorem sens_ok : tab.ok 40 := by
  refine Tab.of_ct rfl rfl ⟨_, Try.func40, by decide, rfl⟩ ?_ ctF_det
  refine ct_ok (cx := csens) (Tab.cx_ok (all_cons within_ok all_nil)) Try.func40 (bds := []) (T := tsens) (by kernel_rfl) ?_
  unfold tsens
  simp only [VC, allC, List.map_cons, List.map_nil, List.length_cons, List.length_nil, List.getElem?_cons_zero, List.getElem?_cons_succ, List.cons.injEq, C.i.injEq, C.b.injEq, and_true, true_and, forall_const, kindsOf_nil, kindsOf_lf, kindsOf_agg, kindsOf_box, boxKinds_nil, boxKinds_lf, boxKinds_agg, boxKinds_box, List.append_nil, List.cons_append, List.nil_append, den_cmp_le, den_cmp_lt, den_cmp_eq, den_cmp_ne, den_cmp_le', den_cmp_lt', den_cmp_eq', den_cmp_ne', den_and, den_and', den_or, den_or', den_not, den_not', den_blit, den_of, ev_var, at_0, at_1, at_2, at_3, at_4, at_5, at_6, at_7, at_skip, c_int, c_bool, c_arr, c_cnt, c_vec, ev_nil, ev_join, ev_sub3, loc_s, int_i, bool_b, rows_s, cs_nil, cs_cons, E.den_lit, E.den_var, E.den_add, E.den_sub, E.den_mul, E.den_quo, E.den_rem, E.den_max, E.den_min, E.den_len, E.den_wr, E.den_cell, ctSens, ctF, sensSh]; intro ch _ _ pe _ _ de _ _ no _ _ st _ _ lo _ _ li _ _ ho _ _; have k4 := @sensE_kind ch pe de no st lo li ho; have k0 := @sensE_yes ch pe de no st lo li ho; have k2 := @sensE_no ch pe de no st lo li ho; unfold SOk at k0 k2; refine ⟨bds_nil _, ?_⟩
  generalize sensE ch pe de no st lo li ho = E at *
  omega
theorem rsens_ok : tab.ok 41 := by
  refine Tab.of_ct rfl rfl ⟨_, Try.func41, by decide, rfl⟩ ?_ ctF_det
  refine ct_ok (cx := crsens) (Tab.cx_ok (all_cons between_ok all_nil)) Try.func41 (bds := []) (T := trsens) (by kernel_rfl) ?_
  unfold trsens
  simp only [VC, allC, List.map_cons, List.map_nil, List.length_cons, List.length_nil, List.getElem?_cons_zero, List.getElem?_cons_succ, List.cons.injEq, C.i.injEq, C.b.injEq, and_true, true_and, forall_const, kindsOf_nil, kindsOf_lf, kindsOf_agg, kindsOf_box, boxKinds_nil, boxKinds_lf, boxKinds_agg, boxKinds_box, List.append_nil, List.cons_append, List.nil_append, den_cmp_le, den_cmp_lt, den_cmp_eq, den_cmp_ne, den_cmp_le', den_cmp_lt', den_cmp_eq', den_cmp_ne', den_and, den_and', den_or, den_or', den_not, den_not', den_blit, den_of, ev_var, at_0, at_1, at_2, at_3, at_4, at_5, at_6, at_7, at_skip, c_int, c_bool, c_arr, c_cnt, c_vec, ev_nil, ev_join, ev_sub3, loc_s, int_i, bool_b, rows_s, cs_nil, cs_cons, E.den_lit, E.den_var, E.den_add, E.den_sub, E.den_mul, E.den_quo, E.den_rem, E.den_max, E.den_min, E.den_len, E.den_wr, E.den_cell, ctSens, ctF, sensSh]; intro ch _ _ pe _ _ de _ _ no _ _ st _ _ lo _ _ li _ _ ho _ _; have k4 := @sensE_kind ch pe de no st lo li ho; have k0 := @sensE_yes ch pe de no st lo li ho; have k2 := @sensE_no ch pe de no st lo li ho; unfold SOk at k0 k2; refine ⟨bds_nil _, ?_⟩
  generalize sensE ch pe de no st lo li ho = E at *
  omega
theorem firstE_drop {rows : List (List C)} {k : Nat} (h : k < rows.length) : firstE (rows.drop k) = if sensRow (rows.getD k []) = 0 then firstE (rows.drop (k + 1)) else sensRow (rows.getD k []) := by
  rw [List.drop_eq_getElem_cons h, firstE, List.getD_eq_getElem?_getD, List.getElem?_eq_getElem h]
  rfl
theorem sensorsE_short {rows : List (List C)} (h : (rows.length : Int) = 0) : 6 = sensorsE rows := by unfold sensorsE; rw [if_pos (by omega)]
theorem sensorsE_full {rows : List (List C)} (h : 4 < (rows.length : Int)) : 8 = sensorsE rows := by unfold sensorsE; rw [if_neg (by omega), if_pos (by omega)]
theorem sensorsE_first {rows : List (List C)} (h : (rows.length : Int) ≠ 0) (h' : (rows.length : Int) ≤ 4) : sensorsE rows = firstE rows := by unfold sensorsE; rw [if_neg (by omega), if_neg (by omega)]
theorem sensors_ok : tab.ok 42 := by
  refine Tab.of_ct rfl rfl ⟨_, Try.func42, by decide, rfl⟩ ?_ ctF_det
  refine ct_ok (cx := csensors) (Tab.cx_ok (all_cons sens_ok all_nil)) Try.func42 (bds := []) (T := tsensors) (by kernel_rfl) ?_
  have h1 : csensors.ct 40 = some ctSens := rfl
  unfold tsensors
  simp only [VC, allC, List.map_cons, List.map_nil, List.length_cons, List.length_nil, List.getElem?_cons_zero, List.getElem?_cons_succ, List.cons.injEq, C.i.injEq, C.b.injEq, and_true, true_and, forall_const, kindsOf_nil, kindsOf_lf, kindsOf_agg, kindsOf_box, boxKinds_nil, boxKinds_lf, boxKinds_agg, boxKinds_box, List.append_nil, List.cons_append, List.nil_append, den_cmp_le, den_cmp_lt, den_cmp_eq, den_cmp_ne, den_cmp_le', den_cmp_lt', den_cmp_eq', den_cmp_ne', den_and, den_and', den_or, den_or', den_not, den_not', den_blit, den_of, ev_var, at_0, at_1, at_2, at_3, at_4, at_5, at_6, at_7, at_skip, c_int, c_bool, c_arr, c_cnt, c_vec, ev_nil, ev_join, ev_sub3, loc_s, int_i, bool_b, rows_s, cs_nil, cs_cons, E.den_lit, E.den_var, E.den_add, E.den_sub, E.den_mul, E.den_quo, E.den_rem, E.den_max, E.den_min, E.den_len, E.den_wr, E.den_cell, h1, ctSensors, ctSens, ctF, sensSh]
  intro v rows d _ _
  refine ⟨bds_nil _, sensorsE_short, fun z1 => ⟨sensorsE_full, fun z2 => ?_⟩⟩; rw [sensorsE_first z1 z2]; refine ⟨fun xs => match xs with | [_, .i i] => 0 ≤ i ∧ i ≤ rows.length ∧ firstE rows = firstE (rows.drop i.toNat) | _ => False, fun xs => match xs with | [_, .i i] => ((rows.length : Int) - i).toNat | _ => 0, ⟨by omega, by omega, rfl⟩, ?_⟩; rintro x _ _ i _ _ ⟨i0, i1, hi⟩; refine ⟨fun hl => ⟨i0, hl, ?_⟩, fun hl => ?_⟩
  · rintro e _ _ he; have he' : e = sensRow (rows.getD i.toNat []) := he; have hd := firstE_drop (rows := rows) (k := i.toNat) (by omega); rw [← he'] at hd; refine ⟨fun h => (by rw [hi, hd, if_neg h]), fun h => ⟨⟨by omega, by omega, ?_⟩, (show ((rows.length : Int) - (i + 1)).toNat < ((rows.length : Int) - i).toNat from (by omega))⟩⟩; rw [hi, hd, if_pos h, show (i + 1).toNat = i.toNat + 1 by omega]
  · have e : i.toNat = rows.length := (by omega); rw [hi, e, List.drop_length]; rfl
theorem rsensors_ok : tab.ok 43 := by
  refine Tab.of_ct rfl rfl ⟨_, Try.func43, by decide, rfl⟩ ?_ ctF_det
  refine ct_ok (cx := crsensors) (Tab.cx_ok (all_cons rsens_ok all_nil)) Try.func43 (bds := []) (T := trsensors) (by kernel_rfl) ?_
  have h1 : crsensors.ct 41 = some ctSens := rfl
  unfold trsensors
  simp only [VC, allC, List.map_cons, List.map_nil, List.length_cons, List.length_nil, List.getElem?_cons_zero, List.getElem?_cons_succ, List.cons.injEq, C.i.injEq, C.b.injEq, and_true, true_and, forall_const, kindsOf_nil, kindsOf_lf, kindsOf_agg, kindsOf_box, boxKinds_nil, boxKinds_lf, boxKinds_agg, boxKinds_box, List.append_nil, List.cons_append, List.nil_append, den_cmp_le, den_cmp_lt, den_cmp_eq, den_cmp_ne, den_cmp_le', den_cmp_lt', den_cmp_eq', den_cmp_ne', den_and, den_and', den_or, den_or', den_not, den_not', den_blit, den_of, ev_var, at_0, at_1, at_2, at_3, at_4, at_5, at_6, at_7, at_skip, c_int, c_bool, c_arr, c_cnt, c_vec, ev_nil, ev_join, ev_sub3, loc_s, int_i, bool_b, rows_s, cs_nil, cs_cons, E.den_lit, E.den_var, E.den_add, E.den_sub, E.den_mul, E.den_quo, E.den_rem, E.den_max, E.den_min, E.den_len, E.den_wr, E.den_cell, h1, ctSensors, ctSens, ctF, sensSh]
  intro v rows d _ _
  refine ⟨bds_nil _, sensorsE_short, fun z1 => ⟨sensorsE_full, fun z2 => ?_⟩⟩; rw [sensorsE_first z1 z2]; refine ⟨fun xs => match xs with | [_, .i i] => 0 ≤ i ∧ i ≤ rows.length ∧ firstE rows = firstE (rows.drop i.toNat) | _ => False, fun xs => match xs with | [_, .i i] => ((rows.length : Int) - i).toNat | _ => 0, ⟨by omega, by omega, rfl⟩, ?_⟩; rintro x _ _ i _ _ ⟨i0, i1, hi⟩; refine ⟨fun hl => ⟨i0, hl, ?_⟩, fun hl => ?_⟩
  · rintro e _ _ he; have he' : e = sensRow (rows.getD i.toNat []) := he; have hd := firstE_drop (rows := rows) (k := i.toNat) (by omega); rw [← he'] at hd; refine ⟨fun h => (by rw [hi, hd, if_neg h]), fun h => ⟨⟨by omega, by omega, ?_⟩, (show ((rows.length : Int) - (i + 1)).toNat < ((rows.length : Int) - i).toNat from (by omega))⟩⟩; rw [hi, hd, if_pos h, show (i + 1).toNat = i.toNat + 1 by omega]
  · have e : i.toNat = rows.length := (by omega); rw [hi, e, List.drop_length]; rfl
theorem rkicks_ok : tab.ok 39 := by
  refine Tab.of_ct rfl rfl ⟨_, Try.func39, by decide, rfl⟩ ?_ ctF_det
  refine ct_ok (cx := crkicks) (Tab.cx_ok (all_cons rleast_ok (all_cons rkick_ok all_nil))) Try.func39 (bds := []) (T := trkicks) (by kernel_rfl) ?_
  have h1 : crkicks.ct 76 = some ctLeast := rfl
  have h2 : crkicks.ct 37 = some ctKick := rfl
  unfold trkicks
  simp only [VC, allC, List.map_cons, List.map_nil, List.length_cons, List.length_nil, List.getElem?_cons_zero, List.getElem?_cons_succ, List.cons.injEq, C.i.injEq, C.b.injEq, and_true, true_and, forall_const, kindsOf_nil, kindsOf_lf, kindsOf_agg, kindsOf_box, boxKinds_nil, boxKinds_lf, boxKinds_agg, boxKinds_box, List.append_nil, List.cons_append, List.nil_append, den_cmp_le, den_cmp_lt, den_cmp_eq, den_cmp_ne, den_cmp_le', den_cmp_lt', den_cmp_eq', den_cmp_ne', den_and, den_and', den_or, den_or', den_not, den_not', den_blit, den_of, ev_var, at_0, at_1, at_2, at_3, at_4, at_5, at_6, at_7, at_skip, c_int, c_bool, c_arr, c_cnt, c_vec, ev_nil, ev_join, ev_sub3, loc_s, int_i, bool_b, rows_s, cs_nil, cs_cons, E.den_lit, E.den_var, E.den_add, E.den_sub, E.den_mul, E.den_quo, E.den_rem, E.den_max, E.den_min, E.den_len, E.den_wr, E.den_cell, h1, h2, ctKicks, ctLeast, ctKick, ctF, kicksSh, kickSh]
  intro a _ _ b _ _ c _ _ d _ _
  have no : ¬ (a ≤ b ∧ c ≤ d ∧ KOk a c ∧ KOk b d) → 2 = kicksE a b c d := fun h => by unfold kicksE; rw [if_neg h]
  have yes : (a ≤ b ∧ c ≤ d ∧ KOk a c ∧ KOk b d) → 0 = kicksE a b c d := fun h => by unfold kicksE; rw [if_pos h]
  have f1 := @kickE_iff a c
  have f2 := @kickE_iff b d
  refine ⟨bds_nil _, fun h => no (by omega), fun h1 => ⟨fun h => no (by omega), fun h2 => ?_⟩⟩
  rintro x _ _ y _ _ ⟨rfl, rfl⟩ e _ _ rfl
  refine ⟨fun h => no fun h' => h (f1.2 h'.2.2.1), fun h3 => ?_⟩
  rintro e _ _ rfl
  exact ⟨fun h => no fun h' => h (f2.2 h'.2.2.2), fun h4 => yes ⟨h1, h2, f1.1 h3, f2.1 h4⟩⟩
theorem gain_facts {r g n : Int} (hk : KOk r g) (h0 : 0 ≤ n) (h1 : n ≤ 20000) : (0 ≤ n * r ∧ n * r ≤ 20000 * 16777216) ∧ (0 ≤ n * (n - 1) ∧ n * (n - 1) ≤ 400000000) ∧ (n * (n - 1)).tdiv 2 = n * (n - 1) / 2 ∧ (0 ≤ n * (n - 1) / 2 ∧ n * (n - 1) / 2 ≤ 200000000) ∧ (0 ≤ g * (n * (n - 1) / 2) ∧ g * (n * (n - 1) / 2) ≤ 4096 * 200000000) := by
  unfold KOk at hk
  have m1 := mul_bd (a := n) (b := r) (A := 20000) (B := 16777216) (by omega) (by omega) (by omega) (by omega)
  have m2 : 0 ≤ n * (n - 1) ∧ n * (n - 1) ≤ 400000000 := by
    rcases Int.lt_or_le n 1 with h | h
    · have e : n = 0 := by omega
      subst e; omega
    · have := mul_bd (a := n) (b := n - 1) (A := 20000) (B := 20000) (by omega) (by omega) (by omega) (by omega)
      omega
  have m3 : (n * (n - 1)).tdiv 2 = n * (n - 1) / 2 := Int.tdiv_eq_ediv_of_nonneg m2.1
  have m4 : 0 ≤ n * (n - 1) / 2 ∧ n * (n - 1) / 2 ≤ 200000000 := by omega
  have m5 := mul_bd (a := g) (b := n * (n - 1) / 2) (A := 4096) (B := 200000000) (by omega) (by omega) (by omega) (by omega)
  exact ⟨m1, m2, m3, m4, m5⟩
theorem flow1_ok : tab.ok 67 := by
  refine Tab.of_ct rfl rfl ⟨_, Try.func67, by decide, rfl⟩ ?_ ctF_det
  refine ct_ok (cx := cflow1) (Tab.cx_ok all_nil) Try.func67 (bds := []) (T := tflow1) (by kernel_rfl) ?_
  unfold tflow1
  simp only [VC, allC, List.map_cons, List.map_nil, List.length_cons, List.length_nil, List.getElem?_cons_zero, List.getElem?_cons_succ, List.cons.injEq, C.i.injEq, C.b.injEq, and_true, true_and, forall_const, kindsOf_nil, kindsOf_lf, kindsOf_agg, kindsOf_box, boxKinds_nil, boxKinds_lf, boxKinds_agg, boxKinds_box, List.append_nil, List.cons_append, List.nil_append, den_cmp_le, den_cmp_lt, den_cmp_eq, den_cmp_ne, den_cmp_le', den_cmp_lt', den_cmp_eq', den_cmp_ne', den_and, den_and', den_or, den_or', den_not, den_not', den_blit, den_of, ev_var, at_0, at_1, at_2, at_3, at_4, at_5, at_6, at_7, at_skip, c_int, c_bool, c_arr, c_cnt, c_vec, ev_nil, ev_join, ev_sub3, loc_s, int_i, bool_b, rows_s, cs_nil, cs_cons, E.den_lit, E.den_var, E.den_add, E.den_sub, E.den_mul, E.den_quo, E.den_rem, E.den_max, E.den_min, E.den_len, E.den_wr, E.den_cell, ctFlow1, ctF, kickSh]
  rintro r _ _ g _ _ n _ _ ⟨hk, hn⟩
  have hk' := hk
  unfold KOk at hk'
  refine ⟨bds_nil _, fun h => ?_, fun h => ?_⟩
  · unfold flowV; rw [if_neg (by omega)]
  · have m := mul_bd (a := n) (b := g) (A := 20000) (B := 4096) (by omega) (by omega) (by omega) (by omega)
    repeat (refine And.intro (by omega) ?_)
    unfold flowV; rw [if_pos ⟨hk, by omega, by omega⟩]
theorem gain1_ok : tab.ok 66 := by
  refine Tab.of_ct rfl rfl ⟨_, Try.func66, by decide, rfl⟩ ?_ ctF_det
  refine ct_ok (cx := cgain1) (Tab.cx_ok all_nil) Try.func66 (bds := []) (T := tgain1) (by kernel_rfl) ?_
  unfold tgain1
  simp only [VC, allC, List.map_cons, List.map_nil, List.length_cons, List.length_nil, List.getElem?_cons_zero, List.getElem?_cons_succ, List.cons.injEq, C.i.injEq, C.b.injEq, and_true, true_and, forall_const, kindsOf_nil, kindsOf_lf, kindsOf_agg, kindsOf_box, boxKinds_nil, boxKinds_lf, boxKinds_agg, boxKinds_box, List.append_nil, List.cons_append, List.nil_append, den_cmp_le, den_cmp_lt, den_cmp_eq, den_cmp_ne, den_cmp_le', den_cmp_lt', den_cmp_eq', den_cmp_ne', den_and, den_and', den_or, den_or', den_not, den_not', den_blit, den_of, ev_var, at_0, at_1, at_2, at_3, at_4, at_5, at_6, at_7, at_skip, c_int, c_bool, c_arr, c_cnt, c_vec, ev_nil, ev_join, ev_sub3, loc_s, int_i, bool_b, rows_s, cs_nil, cs_cons, E.den_lit, E.den_var, E.den_add, E.den_sub, E.den_mul, E.den_quo, E.den_rem, E.den_max, E.den_min, E.den_len, E.den_wr, E.den_cell, ctGain1, ctF, kickSh]
  rintro r _ _ g _ _ n _ _ ⟨hk, hn⟩
  have hk' := hk
  unfold KOk at hk'
  refine ⟨bds_nil _, fun h => ?_, fun h => ?_⟩
  · unfold gainV; rw [if_neg (by omega)]
  · obtain ⟨m1, m2, m3, m4, m5⟩ := gain_facts hk (n := n) (by omega) (by omega)
    rw [m3]
    repeat (refine And.intro (by omega) ?_)
    unfold gainV; rw [if_pos ⟨hk, by omega, by omega⟩]
theorem flow_ok : tab.ok 24 := by
  refine Tab.of_ct rfl rfl ⟨_, Try.func24, by decide, rfl⟩ ?_ ctF_det
  refine ct_ok (cx := cflow) (Tab.cx_ok (all_cons kick_ok (all_cons flow1_ok all_nil))) Try.func24 (bds := []) (T := tflow) (by kernel_rfl) ?_
  have h1 : cflow.ct 36 = some ctKick := rfl
  have h2 : cflow.ct 67 = some ctFlow1 := rfl
  unfold tflow
  simp only [VC, allC, List.map_cons, List.map_nil, List.length_cons, List.length_nil, List.getElem?_cons_zero, List.getElem?_cons_succ, List.cons.injEq, C.i.injEq, C.b.injEq, and_true, true_and, forall_const, kindsOf_nil, kindsOf_lf, kindsOf_agg, kindsOf_box, boxKinds_nil, boxKinds_lf, boxKinds_agg, boxKinds_box, List.append_nil, List.cons_append, List.nil_append, den_cmp_le, den_cmp_lt, den_cmp_eq, den_cmp_ne, den_cmp_le', den_cmp_lt', den_cmp_eq', den_cmp_ne', den_and, den_and', den_or, den_or', den_not, den_not', den_blit, den_of, ev_var, at_0, at_1, at_2, at_3, at_4, at_5, at_6, at_7, at_skip, c_int, c_bool, c_arr, c_cnt, c_vec, ev_nil, ev_join, ev_sub3, loc_s, int_i, bool_b, rows_s, cs_nil, cs_cons, E.den_lit, E.den_var, E.den_add, E.den_sub, E.den_mul, E.den_quo, E.den_rem, E.den_max, E.den_min, E.den_len, E.den_wr, E.den_cell, h1, h2, ctFlow, ctFlow1, ctKick, ctF, kickSh]
  intro r _ _ g _ _ n _ _
  refine ⟨bds_nil _, ?_⟩
  rintro e _ _ rfl
  refine ⟨fun h => (by unfold flowV; rw [if_neg fun h' => h (kickE_iff.2 h'.1)]), fun h => ⟨fun h' => (by unfold flowV; rw [if_neg (by omega)]), fun h' => ⟨⟨kickE_iff.1 h, by omega⟩, ?_⟩⟩⟩
  rintro x _ _ rfl
  rfl
theorem gain_ok : tab.ok 23 := by
  refine Tab.of_ct rfl rfl ⟨_, Try.func23, by decide, rfl⟩ ?_ ctF_det
  refine ct_ok (cx := cgain) (Tab.cx_ok (all_cons kick_ok (all_cons gain1_ok all_nil))) Try.func23 (bds := []) (T := tgain) (by kernel_rfl) ?_
  have h1 : cgain.ct 36 = some ctKick := rfl
  have h2 : cgain.ct 66 = some ctGain1 := rfl
  unfold tgain
  simp only [VC, allC, List.map_cons, List.map_nil, List.length_cons, List.length_nil, List.getElem?_cons_zero, List.getElem?_cons_succ, List.cons.injEq, C.i.injEq, C.b.injEq, and_true, true_and, forall_const, kindsOf_nil, kindsOf_lf, kindsOf_agg, kindsOf_box, boxKinds_nil, boxKinds_lf, boxKinds_agg, boxKinds_box, List.append_nil, List.cons_append, List.nil_append, den_cmp_le, den_cmp_lt, den_cmp_eq, den_cmp_ne, den_cmp_le', den_cmp_lt', den_cmp_eq', den_cmp_ne', den_and, den_and', den_or, den_or', den_not, den_not', den_blit, den_of, ev_var, at_0, at_1, at_2, at_3, at_4, at_5, at_6, at_7, at_skip, c_int, c_bool, c_arr, c_cnt, c_vec, ev_nil, ev_join, ev_sub3, loc_s, int_i, bool_b, rows_s, cs_nil, cs_cons, E.den_lit, E.den_var, E.den_add, E.den_sub, E.den_mul, E.den_quo, E.den_rem, E.den_max, E.den_min, E.den_len, E.den_wr, E.den_cell, h1, h2, ctGain, ctGain1, ctKick, ctF, kickSh]
  intro r _ _ g _ _ n _ _
  refine ⟨bds_nil _, ?_⟩
  rintro e _ _ rfl
  refine ⟨fun h => (by unfold gainV; rw [if_neg fun h' => h (kickE_iff.2 h'.1)]), fun h => ⟨fun h' => (by unfold gainV; rw [if_neg (by omega)]), fun h' => ⟨⟨kickE_iff.1 h, by omega⟩, ?_⟩⟩⟩
  rintro x _ _ rfl
  rfl
theorem rflow_ok : tab.ok 44 := by
  refine Tab.of_ct rfl rfl ⟨_, Try.func44, by decide, rfl⟩ ?_ ctF_det
  refine ct_ok (cx := crflow) (Tab.cx_ok (all_cons rkick_ok (all_cons between_ok all_nil))) Try.func44 (bds := []) (T := trflow) (by kernel_rfl) ?_
  have h1 : crflow.ct 37 = some ctKick := rfl
  unfold trflow
  simp only [VC, allC, List.map_cons, List.map_nil, List.length_cons, List.length_nil, List.getElem?_cons_zero, List.getElem?_cons_succ, List.cons.injEq, C.i.injEq, C.b.injEq, and_true, true_and, forall_const, kindsOf_nil, kindsOf_lf, kindsOf_agg, kindsOf_box, boxKinds_nil, boxKinds_lf, boxKinds_agg, boxKinds_box, List.append_nil, List.cons_append, List.nil_append, den_cmp_le, den_cmp_lt, den_cmp_eq, den_cmp_ne, den_cmp_le', den_cmp_lt', den_cmp_eq', den_cmp_ne', den_and, den_and', den_or, den_or', den_not, den_not', den_blit, den_of, ev_var, at_0, at_1, at_2, at_3, at_4, at_5, at_6, at_7, at_skip, c_int, c_bool, c_arr, c_cnt, c_vec, ev_nil, ev_join, ev_sub3, loc_s, int_i, bool_b, rows_s, cs_nil, cs_cons, E.den_lit, E.den_var, E.den_add, E.den_sub, E.den_mul, E.den_quo, E.den_rem, E.den_max, E.den_min, E.den_len, E.den_wr, E.den_cell, h1, ctFlow, ctKick, ctF, kickSh]
  intro r _ _ g _ _ n _ _
  refine ⟨bds_nil _, ?_⟩
  rintro e _ _ rfl
  refine ⟨fun h => (by unfold flowV; rw [if_neg fun h' => h (kickE_iff.2 h'.1)]), fun h => ⟨fun h' => (by unfold flowV; rw [if_neg (by omega)]), fun h' => ?_⟩⟩
  have hk := kickE_iff.1 h
  have hk' := hk
  unfold KOk at hk'
  have m := mul_bd (a := n) (b := g) (A := 20000) (B := 4096) (by omega) (by omega) (by omega) (by omega)
  repeat (refine And.intro (by omega) ?_)
  unfold flowV; rw [if_pos ⟨hk, by omega, by omega⟩]
theorem rgain_ok : tab.ok 45 := by
  refine Tab.of_ct rfl rfl ⟨_, Try.func45, by decide, rfl⟩ ?_ ctF_det
  refine ct_ok (cx := crgain) (Tab.cx_ok (all_cons rkick_ok (all_cons between_ok all_nil))) Try.func45 (bds := []) (T := trgain) (by kernel_rfl) ?_
  have h1 : crgain.ct 37 = some ctKick := rfl
  unfold trgain
  simp only [VC, allC, List.map_cons, List.map_nil, List.length_cons, List.length_nil, List.getElem?_cons_zero, List.getElem?_cons_succ, List.cons.injEq, C.i.injEq, C.b.injEq, and_true, true_and, forall_const, kindsOf_nil, kindsOf_lf, kindsOf_agg, kindsOf_box, boxKinds_nil, boxKinds_lf, boxKinds_agg, boxKinds_box, List.append_nil, List.cons_append, List.nil_append, den_cmp_le, den_cmp_lt, den_cmp_eq, den_cmp_ne, den_cmp_le', den_cmp_lt', den_cmp_eq', den_cmp_ne', den_and, den_and', den_or, den_or', den_not, den_not', den_blit, den_of, ev_var, at_0, at_1, at_2, at_3, at_4, at_5, at_6, at_7, at_skip, c_int, c_bool, c_arr, c_cnt, c_vec, ev_nil, ev_join, ev_sub3, loc_s, int_i, bool_b, rows_s, cs_nil, cs_cons, E.den_lit, E.den_var, E.den_add, E.den_sub, E.den_mul, E.den_quo, E.den_rem, E.den_max, E.den_min, E.den_len, E.den_wr, E.den_cell, h1, ctGain, ctKick, ctF, kickSh]
  intro r _ _ g _ _ n _ _
  refine ⟨bds_nil _, ?_⟩
  rintro e _ _ rfl
  refine ⟨fun h => (by unfold gainV; rw [if_neg fun h' => h (kickE_iff.2 h'.1)]), fun h => ⟨fun h' => (by unfold gainV; rw [if_neg (by omega)]), fun h' => ?_⟩⟩
  have hk := kickE_iff.1 h
  obtain ⟨m1, m2, m3, m4, m5⟩ := gain_facts hk (n := n) (by omega) (by omega)
  rw [m3]
  repeat (refine And.intro (by omega) ?_)
  unfold gainV; rw [if_pos ⟨hk, by omega, by omega⟩]
theorem rsays_ok : tab.ok 78 := by
  refine Tab.of_ct rfl rfl ⟨_, Try.func78, by decide, rfl⟩ ?_ ctF_det
  refine ct_ok (cx := crsays) (Tab.cx_ok (all_cons rflow_ok (all_cons rgain_ok all_nil))) Try.func78 (bds := []) (T := trsays) (by kernel_rfl) ?_
  have h1 : crsays.ct 44 = some ctFlow := rfl
  have h2 : crsays.ct 45 = some ctGain := rfl
  unfold trsays
  simp only [VC, allC, List.map_cons, List.map_nil, List.length_cons, List.length_nil, List.getElem?_cons_zero, List.getElem?_cons_succ, List.cons.injEq, C.i.injEq, C.b.injEq, and_true, true_and, forall_const, kindsOf_nil, kindsOf_lf, kindsOf_agg, kindsOf_box, boxKinds_nil, boxKinds_lf, boxKinds_agg, boxKinds_box, List.append_nil, List.cons_append, List.nil_append, den_cmp_le, den_cmp_lt, den_cmp_eq, den_cmp_ne, den_cmp_le', den_cmp_lt', den_cmp_eq', den_cmp_ne', den_and, den_and', den_or, den_or', den_not, den_not', den_blit, den_of, ev_var, at_0, at_1, at_2, at_3, at_4, at_5, at_6, at_7, at_skip, c_int, c_bool, c_arr, c_cnt, c_vec, ev_nil, ev_join, ev_sub3, loc_s, int_i, bool_b, rows_s, cs_nil, cs_cons, E.den_lit, E.den_var, E.den_add, E.den_sub, E.den_mul, E.den_quo, E.den_rem, E.den_max, E.den_min, E.den_len, E.den_wr, E.den_cell, h1, h2, ctSays, ctFlow, ctGain, ctF, kickSh, sensSh]
  intro ch _ _ pe _ _ de _ _ no _ _ st _ _ lo _ _ li _ _ ho _ _ r _ _ g _ _ n _ _
  refine ⟨bds_nil _, fun h => ?_, fun h => ?_⟩
  · rintro x _ _ rfl; unfold saysV; rw [if_pos h]
  · rintro x _ _ rfl; unfold saysV; rw [if_neg h]
theorem mul_abs {a b A B : Int} (h1 : -A ≤ a) (h2 : a ≤ A) (h3 : 0 ≤ b) (h4 : b ≤ B) : -(A * B) ≤ a * b ∧ a * b ≤ A * B := by
  have h5 : A * b ≤ A * B := Int.mul_le_mul_of_nonneg_left h4 (by omega)
  have h6 : a * b ≤ A * b := Int.mul_le_mul_of_nonneg_right h2 h3
  have h7 : -A * b ≤ a * b := Int.mul_le_mul_of_nonneg_right h1 h3
  rw [Int.neg_mul] at h7
  omega
theorem sensE_iff {ch pe de no st lo li ho : Int} : sensE ch pe de no st lo li ho = 0 ↔ (ch = 1 ∨ ch = 2) ∧ SOk pe de no st lo li ho := by
  unfold sensE
  split
  · split <;> simp_all
  · simp_all
theorem saysV_bd {ch r g n : Int} : 0 ≤ saysV ch r g n ∧ saysV ch r g n ≤ 1154744320000 := by
  unfold saysV
  split
  · unfold gainV
    split
    · rename_i h
      obtain ⟨m1, m2, m3, m4, m5⟩ := gain_facts h.1 h.2.1 h.2.2
      omega
    · omega
  · unfold flowV
    split
    · rename_i h
      obtain ⟨hk, h0, h1⟩ := h
      unfold KOk at hk
      have m := mul_bd (a := n) (b := g) (A := 20000) (B := 4096) (by omega) (by omega) (by omega) (by omega)
      omega
    · omega
theorem valueV_no {ch pe de no st lo li ho r g n e : Int} (h : ¬ (sensE ch pe de no st lo li ho = 0 ∧ KOk r g ∧ -no ≤ e ∧ e ≤ no ∧ n ≤ 20000)) : 0 = valueV ch pe de no st lo li ho r g n e := by unfold valueV; rw [if_neg h]
theorem valueV_yes {ch pe de no st lo li ho r g n e : Int} (h1 : sensE ch pe de no st lo li ho = 0) (h2 : KOk r g) (h3 : -no ≤ e) (h4 : e ≤ no) (h5 : n ≤ 20000) : saysV ch r g n + e * st = valueV ch pe de no st lo li ho r g n e := by unfold valueV; rw [if_pos ⟨h1, h2, h3, h4, h5⟩]
theorem rvalue_ok : tab.ok 47 := by
  refine Tab.of_ct rfl rfl ⟨_, Try.func47, by decide, rfl⟩ ?_ ctF_det
  refine ct_ok (cx := crvalue) (Tab.cx_ok (all_cons rsens_ok (all_cons rkick_ok (all_cons between_ok (all_cons rsays_ok all_nil))))) Try.func47 (bds := []) (T := trvalue) (by kernel_rfl) ?_
  have h1 : crvalue.ct 41 = some ctSens := rfl
  have h2 : crvalue.ct 37 = some ctKick := rfl
  have h3 : crvalue.ct 78 = some ctSays := rfl
  unfold trvalue
  simp only [VC, allC, List.map_cons, List.map_nil, List.length_cons, List.length_nil, List.getElem?_cons_zero, List.getElem?_cons_succ, List.cons.injEq, C.i.injEq, C.b.injEq, and_true, true_and, forall_const, kindsOf_nil, kindsOf_lf, kindsOf_agg, kindsOf_box, boxKinds_nil, boxKinds_lf, boxKinds_agg, boxKinds_box, List.append_nil, List.cons_append, List.nil_append, den_cmp_le, den_cmp_lt, den_cmp_eq, den_cmp_ne, den_cmp_le', den_cmp_lt', den_cmp_eq', den_cmp_ne', den_and, den_and', den_or, den_or', den_not, den_not', den_blit, den_of, ev_var, at_0, at_1, at_2, at_3, at_4, at_5, at_6, at_7, at_skip, c_int, c_bool, c_arr, c_cnt, c_vec, ev_nil, ev_join, ev_sub3, loc_s, int_i, bool_b, rows_s, cs_nil, cs_cons, E.den_lit, E.den_var, E.den_add, E.den_sub, E.den_mul, E.den_quo, E.den_rem, E.den_max, E.den_min, E.den_len, E.den_wr, E.den_cell, h1, h2, h3, ctValue, ctSens, ctKick, ctSays, ctF, kickSh, sensSh]
  intro ch _ _ pe _ _ de _ _ no _ _ st _ _ lo _ _ li _ _ ho _ _ r _ _ g _ _ n _ _ e _ _
  refine ⟨bds_nil _, ?_⟩
  rintro x _ _ hx
  subst hx
  refine ⟨fun h => valueV_no fun h' => h h'.1, fun hs => ?_⟩
  obtain ⟨-, hso⟩ := sensE_iff.1 hs
  unfold SOk at hso
  rintro x _ _ rfl
  refine ⟨fun h => valueV_no fun h' => h (kickE_iff.2 h'.2.1), fun hk => ?_⟩
  refine ⟨by omega, by omega, fun h => valueV_no (by omega), fun h => ⟨fun h' => valueV_no (by omega), fun h' => ?_⟩⟩
  rintro x _ _ rfl
  have b := @saysV_bd ch r g n
  have m := mul_abs (a := e) (b := st) (A := 15) (B := 1048576) (by omega) (by omega) (by omega) (by omega)
  exact ⟨by omega, by omega, by omega, valueV_yes hs (kickE_iff.1 hk) (by omega) (by omega) h'⟩
end Go.Proofs.Ytlbgcjpkegpmlaa
/- What a sensor's channel says: a function, flow or gain with the kick bound. By the kit's walk; then the value of a sample, by the engine. -/
namespace Go.Proofs.Ytlbgcjpkegpmlaa
open Go.RowKit
set_option linter.unusedSimpArgs false
set_option linter.unusedVariables false

theorem says_two (ch pe de no st lo li ho r g : Int) (w : World) (h : ch = 2) :
    Calls Try.prog 77 #[.agg #[.int .i64 ch, .int .i64 pe, .int .i64 de, .int .i64 no, .int .i64 st, .int .i64 lo, .int .i64 li, .int .i64 ho], .agg #[.int .i64 r, .int .i64 g]] w
      fun e w' => e = .returned (.func (Fn.func 67) #[.agg #[.int .i64 r, .int .i64 g]] #[]) ∧ Below w.heap.size w w' := by
  subst h
  go_enter Try.func77, Try.ntmps77
  go_wp2
  go_returns
  refine ⟨rfl, ?_⟩
  repeat' (first | with_reducible exact Below.refl _ _ | with_reducible refine bstep ?_ (by with_reducible assumption) | with_reducible refine balloc ?_ | with_reducible refine bdrew ?_ | with_reducible refine bdrewN ?_ _ | with_reducible refine bset ?_ (by go_size))
theorem says_else (ch pe de no st lo li ho r g : Int) (w : World) (h : ¬ ch = 2) :
    Calls Try.prog 77 #[.agg #[.int .i64 ch, .int .i64 pe, .int .i64 de, .int .i64 no, .int .i64 st, .int .i64 lo, .int .i64 li, .int .i64 ho], .agg #[.int .i64 r, .int .i64 g]] w
      fun e w' => e = .returned (.func (Fn.func 66) #[.agg #[.int .i64 r, .int .i64 g]] #[]) ∧ Below w.heap.size w w' := by
  go_enter Try.func77, Try.ntmps77
  go_wp2
  go_returns
  refine ⟨rfl, ?_⟩
  repeat' (first | with_reducible exact Below.refl _ _ | with_reducible refine bstep ?_ (by with_reducible assumption) | with_reducible refine balloc ?_ | with_reducible refine bdrew ?_ | with_reducible refine bdrewN ?_ _ | with_reducible refine bset ?_ (by go_size))
theorem says_ok : tab.ok 77 := by
  refine Tab.of_sel rfl rfl ⟨_, Try.func77, by decide, rfl⟩ rfl ?_
  intro Γ bd args obs b s1 s2 hn hg ho
  unfold saysS at hg
  split at hg
  · cases hg
    refine ⟨rfl, rfl, fun w => ?_⟩
    rename_i ch pe de no st lo li ho r g
    have hd := B.den_mkCmp hn .eq ch (.lit 2)
    by_cases h : ch.den Γ.ρ = 2
    · have e : (B.mkCmp bd .eq ch (.lit 2)).den Γ.ρ = true := by rw [hd]; simp [Cmp.den, h, E.den_lit]
      rw [if_pos e]
      exact says_two _ _ _ _ _ _ _ _ _ _ w h
    · have e : ¬ (B.mkCmp bd .eq ch (.lit 2)).den Γ.ρ = true := by rw [hd]; simp [Cmp.den, h, E.den_lit]
      rw [if_neg e]
      exact says_else _ _ _ _ _ _ _ _ _ _ w h
  · cases hg
theorem value_ok : tab.ok 46 := by
  refine Tab.of_ct rfl rfl ⟨_, Try.func46, by decide, rfl⟩ ?_ ctF_det
  refine ct_ok (cx := cvalue) (Tab.cx_ok (all_cons sens_ok (all_cons kick_ok (all_cons within_ok (all_cons says_ok (all_cons flow1_ok (all_cons gain1_ok all_nil))))))) Try.func46 (bds := []) (T := tvalue) (by kernel_rfl) ?_
  have h1 : cvalue.ct 40 = some ctSens := rfl
  have h2 : cvalue.ct 36 = some ctKick := rfl
  have h3 : cvalue.ct 67 = some ctFlow1 := rfl
  have h4 : cvalue.ct 66 = some ctGain1 := rfl
  unfold tvalue
  simp only [VC, allC, List.map_cons, List.map_nil, List.length_cons, List.length_nil, List.getElem?_cons_zero, List.getElem?_cons_succ, List.cons.injEq, C.i.injEq, C.b.injEq, and_true, true_and, forall_const, kindsOf_nil, kindsOf_lf, kindsOf_agg, kindsOf_box, boxKinds_nil, boxKinds_lf, boxKinds_agg, boxKinds_box, List.append_nil, List.cons_append, List.nil_append, den_cmp_le, den_cmp_lt, den_cmp_eq, den_cmp_ne, den_cmp_le', den_cmp_lt', den_cmp_eq', den_cmp_ne', den_and, den_and', den_or, den_or', den_not, den_not', den_blit, den_of, ev_var, at_0, at_1, at_2, at_3, at_4, at_5, at_6, at_7, at_skip, c_int, c_bool, c_arr, c_cnt, c_vec, ev_nil, ev_join, ev_sub3, loc_s, int_i, bool_b, rows_s, cs_nil, cs_cons, E.den_lit, E.den_var, E.den_add, E.den_sub, E.den_mul, E.den_quo, E.den_rem, E.den_max, E.den_min, E.den_len, E.den_wr, E.den_cell, h1, h2, h3, h4, ctValue, ctSens, ctKick, ctFlow1, ctGain1, ctF, kickSh, sensSh]
  intro ch _ _ pe _ _ de _ _ no _ _ st _ _ lo _ _ li _ _ ho _ _ r _ _ g _ _ n _ _ e _ _
  refine ⟨bds_nil _, ?_⟩
  rintro x _ _ hx
  subst hx
  refine ⟨fun h => valueV_no fun h' => h h'.1, fun hs => ?_⟩
  obtain ⟨hch, hso⟩ := sensE_iff.1 hs
  unfold SOk at hso
  rintro x _ _ rfl
  refine ⟨fun h => valueV_no fun h' => h (kickE_iff.2 h'.2.1), fun hk => ?_⟩
  have hk' := kickE_iff.1 hk
  have b := @saysV_bd ch r g n
  refine ⟨by omega, by omega, fun h => valueV_no (by omega), fun h => ⟨fun h' => valueV_no (by omega), fun h' => ?_⟩⟩
  have m := mul_abs (a := e) (b := st) (A := 15) (B := 1048576) (by omega) (by omega) (by omega) (by omega)
  have hv := valueV_yes (e := e) hs hk' (by omega) (by omega) h'
  refine ⟨by omega, fun hc => ⟨⟨hk', h'⟩, ?_⟩, fun hc => ⟨⟨hk', h'⟩, ?_⟩⟩
  · have he : saysV ch r g n = flowV r g n := by unfold saysV; rw [if_neg (by omega)]
    rw [he] at b hv
    rintro x _ _ rfl
    exact ⟨by omega, by omega, hv⟩
  · have he : saysV ch r g n = gainV r g n := by unfold saysV; rw [if_pos (by omega)]
    rw [he] at b hv
    rintro x _ _ rfl
    exact ⟨by omega, by omega, hv⟩
theorem checks_ok (awake_ok : tab.ok 19) : CtOK Try.prog 8 (ctLaw [kickSh, kicksSh, sensSh, .lf (.arr 23), .lf .int, .lf .int]) := by
  refine ct_ok (cx := cchecks) (Tab.cx_ok (all_cons kick_ok (all_cons rkick_ok (all_cons kicks_ok (all_cons rkicks_ok (all_cons sens_ok (all_cons rsens_ok (all_cons sensors_ok (all_cons rsensors_ok (all_cons flow_ok (all_cons rflow_ok (all_cons gain_ok (all_cons rgain_ok (all_cons value_ok (all_cons rvalue_ok (all_cons awake_ok all_nil)))))))))))))))) Try.func8 (bds := []) (T := tchecks) (by kernel_rfl) ?_
  have h1 : cchecks.ct 36 = some ctKick := rfl
  have h2 : cchecks.ct 37 = some ctKick := rfl
  have h3 : cchecks.ct 38 = some ctKicks := rfl
  have h4 : cchecks.ct 39 = some ctKicks := rfl
  have h5 : cchecks.ct 40 = some ctSens := rfl
  have h6 : cchecks.ct 41 = some ctSens := rfl
  have h7 : cchecks.ct 42 = some ctSensors := rfl
  have h8 : cchecks.ct 43 = some ctSensors := rfl
  have h9 : cchecks.ct 24 = some ctFlow := rfl
  have h10 : cchecks.ct 44 = some ctFlow := rfl
  have h11 : cchecks.ct 23 = some ctGain := rfl
  have h12 : cchecks.ct 45 = some ctGain := rfl
  have h13 : cchecks.ct 46 = some ctValue := rfl
  have h14 : cchecks.ct 47 = some ctValue := rfl
  have h15 : cchecks.ct 19 = some ctAwake := rfl
  unfold tchecks
  simp only [VC, allC, List.map_cons, List.map_nil, List.length_cons, List.length_nil, List.getElem?_cons_zero, List.getElem?_cons_succ, List.cons.injEq, C.i.injEq, C.b.injEq, and_true, true_and, forall_const, kindsOf_nil, kindsOf_lf, kindsOf_agg, kindsOf_box, boxKinds_nil, boxKinds_lf, boxKinds_agg, boxKinds_box, List.append_nil, List.cons_append, List.nil_append, den_cmp_le, den_cmp_lt, den_cmp_eq, den_cmp_ne, den_cmp_le', den_cmp_lt', den_cmp_eq', den_cmp_ne', den_and, den_and', den_or, den_or', den_not, den_not', den_blit, den_of, ev_var, at_0, at_1, at_2, at_3, at_4, at_5, at_6, at_7, at_skip, c_int, c_bool, c_arr, c_cnt, c_vec, ev_nil, ev_join, ev_sub3, loc_s, int_i, bool_b, rows_s, cs_nil, cs_cons, E.den_lit, E.den_var, E.den_add, E.den_sub, E.den_mul, E.den_quo, E.den_rem, E.den_max, E.den_min, E.den_len, E.den_wr, E.den_cell, ctLaw, h1, h2, h3, h4, h5, h6, h7, h8, h9, h10, h11, h12, h13, h14, h15, ctKick, ctKicks, ctSens, ctSensors, ctFlow, ctGain, ctValue, ctAwake, ctF, kickSh, kicksSh, sensSh]
  intro r _ _ g _ _ xa _ _ xb _ _ xc _ _ xd _ _ s0 _ _ s1 _ _ s2 _ _ s3 _ _ s4 _ _ s5 _ _ s6 _ _ s7 _ _ v rows d _ _ n _ _ e0 _ _
  refine ⟨bds_nil _, fun h => fun t ht => ht, fun h => ?_⟩
  rintro x _ _ hx y _ _ hy
  have e := hx.trans hy.symm
  clear hx hy
  unfold tchecks_7
  simp only [VC, allC, List.map_cons, List.map_nil, List.length_cons, List.length_nil, List.getElem?_cons_zero, List.getElem?_cons_succ, List.cons.injEq, C.i.injEq, C.b.injEq, and_true, true_and, forall_const, kindsOf_nil, kindsOf_lf, kindsOf_agg, kindsOf_box, boxKinds_nil, boxKinds_lf, boxKinds_agg, boxKinds_box, List.append_nil, List.cons_append, List.nil_append, den_cmp_le, den_cmp_lt, den_cmp_eq, den_cmp_ne, den_cmp_le', den_cmp_lt', den_cmp_eq', den_cmp_ne', den_and, den_and', den_or, den_or', den_not, den_not', den_blit, den_of, ev_var, at_0, at_1, at_2, at_3, at_4, at_5, at_6, at_7, at_skip, c_int, c_bool, c_arr, c_cnt, c_vec, ev_nil, ev_join, ev_sub3, loc_s, int_i, bool_b, rows_s, cs_nil, cs_cons, E.den_lit, E.den_var, E.den_add, E.den_sub, E.den_mul, E.den_quo, E.den_rem, E.den_max, E.den_min, E.den_len, E.den_wr, E.den_cell, h1, h2, h3, h4, h5, h6, h7, h8, h9, h10, h11, h12, h13, h14, h15, ctKick, ctKicks, ctSens, ctSensors, ctFlow, ctGain, ctValue, ctAwake, ctF, kickSh, kicksSh, sensSh]
  refine ⟨fun h => absurd e h, fun _ => ?_⟩
  rintro x _ _ hx y _ _ hy
  have e := hx.trans hy.symm
  clear hx hy
  unfold tchecks_6
  simp only [VC, allC, List.map_cons, List.map_nil, List.length_cons, List.length_nil, List.getElem?_cons_zero, List.getElem?_cons_succ, List.cons.injEq, C.i.injEq, C.b.injEq, and_true, true_and, forall_const, kindsOf_nil, kindsOf_lf, kindsOf_agg, kindsOf_box, boxKinds_nil, boxKinds_lf, boxKinds_agg, boxKinds_box, List.append_nil, List.cons_append, List.nil_append, den_cmp_le, den_cmp_lt, den_cmp_eq, den_cmp_ne, den_cmp_le', den_cmp_lt', den_cmp_eq', den_cmp_ne', den_and, den_and', den_or, den_or', den_not, den_not', den_blit, den_of, ev_var, at_0, at_1, at_2, at_3, at_4, at_5, at_6, at_7, at_skip, c_int, c_bool, c_arr, c_cnt, c_vec, ev_nil, ev_join, ev_sub3, loc_s, int_i, bool_b, rows_s, cs_nil, cs_cons, E.den_lit, E.den_var, E.den_add, E.den_sub, E.den_mul, E.den_quo, E.den_rem, E.den_max, E.den_min, E.den_len, E.den_wr, E.den_cell, h1, h2, h3, h4, h5, h6, h7, h8, h9, h10, h11, h12, h13, h14, h15, ctKick, ctKicks, ctSens, ctSensors, ctFlow, ctGain, ctValue, ctAwake, ctF, kickSh, kicksSh, sensSh]
  refine ⟨fun h => absurd e h, fun _ => ?_⟩
  rintro x _ _ hx
  unfold tchecks_5
  simp only [VC, allC, List.map_cons, List.map_nil, List.length_cons, List.length_nil, List.getElem?_cons_zero, List.getElem?_cons_succ, List.cons.injEq, C.i.injEq, C.b.injEq, and_true, true_and, forall_const, kindsOf_nil, kindsOf_lf, kindsOf_agg, kindsOf_box, boxKinds_nil, boxKinds_lf, boxKinds_agg, boxKinds_box, List.append_nil, List.cons_append, List.nil_append, den_cmp_le, den_cmp_lt, den_cmp_eq, den_cmp_ne, den_cmp_le', den_cmp_lt', den_cmp_eq', den_cmp_ne', den_and, den_and', den_or, den_or', den_not, den_not', den_blit, den_of, ev_var, at_0, at_1, at_2, at_3, at_4, at_5, at_6, at_7, at_skip, c_int, c_bool, c_arr, c_cnt, c_vec, ev_nil, ev_join, ev_sub3, loc_s, int_i, bool_b, rows_s, cs_nil, cs_cons, E.den_lit, E.den_var, E.den_add, E.den_sub, E.den_mul, E.den_quo, E.den_rem, E.den_max, E.den_min, E.den_len, E.den_wr, E.den_cell, h1, h2, h3, h4, h5, h6, h7, h8, h9, h10, h11, h12, h13, h14, h15, ctKick, ctKicks, ctSens, ctSensors, ctFlow, ctGain, ctValue, ctAwake, ctF, kickSh, kicksSh, sensSh]
  rintro y _ _ hy
  have e := hx.trans hy.symm
  clear hx hy
  refine ⟨fun h => absurd e h, fun _ => ?_⟩
  rintro x _ _ hx y _ _ hy
  have e := hx.trans hy.symm
  clear hx hy
  unfold tchecks_4
  simp only [VC, allC, List.map_cons, List.map_nil, List.length_cons, List.length_nil, List.getElem?_cons_zero, List.getElem?_cons_succ, List.cons.injEq, C.i.injEq, C.b.injEq, and_true, true_and, forall_const, kindsOf_nil, kindsOf_lf, kindsOf_agg, kindsOf_box, boxKinds_nil, boxKinds_lf, boxKinds_agg, boxKinds_box, List.append_nil, List.cons_append, List.nil_append, den_cmp_le, den_cmp_lt, den_cmp_eq, den_cmp_ne, den_cmp_le', den_cmp_lt', den_cmp_eq', den_cmp_ne', den_and, den_and', den_or, den_or', den_not, den_not', den_blit, den_of, ev_var, at_0, at_1, at_2, at_3, at_4, at_5, at_6, at_7, at_skip, c_int, c_bool, c_arr, c_cnt, c_vec, ev_nil, ev_join, ev_sub3, loc_s, int_i, bool_b, rows_s, cs_nil, cs_cons, E.den_lit, E.den_var, E.den_add, E.den_sub, E.den_mul, E.den_quo, E.den_rem, E.den_max, E.den_min, E.den_len, E.den_wr, E.den_cell, h1, h2, h3, h4, h5, h6, h7, h8, h9, h10, h11, h12, h13, h14, h15, ctKick, ctKicks, ctSens, ctSensors, ctFlow, ctGain, ctValue, ctAwake, ctF, kickSh, kicksSh, sensSh]
  refine ⟨fun h => absurd e h, fun _ => ?_⟩
  rintro x _ _ hx y _ _ hy
  have e := hx.trans hy.symm
  clear hx hy
  unfold tchecks_3
  simp only [VC, allC, List.map_cons, List.map_nil, List.length_cons, List.length_nil, List.getElem?_cons_zero, List.getElem?_cons_succ, List.cons.injEq, C.i.injEq, C.b.injEq, and_true, true_and, forall_const, kindsOf_nil, kindsOf_lf, kindsOf_agg, kindsOf_box, boxKinds_nil, boxKinds_lf, boxKinds_agg, boxKinds_box, List.append_nil, List.cons_append, List.nil_append, den_cmp_le, den_cmp_lt, den_cmp_eq, den_cmp_ne, den_cmp_le', den_cmp_lt', den_cmp_eq', den_cmp_ne', den_and, den_and', den_or, den_or', den_not, den_not', den_blit, den_of, ev_var, at_0, at_1, at_2, at_3, at_4, at_5, at_6, at_7, at_skip, c_int, c_bool, c_arr, c_cnt, c_vec, ev_nil, ev_join, ev_sub3, loc_s, int_i, bool_b, rows_s, cs_nil, cs_cons, E.den_lit, E.den_var, E.den_add, E.den_sub, E.den_mul, E.den_quo, E.den_rem, E.den_max, E.den_min, E.den_len, E.den_wr, E.den_cell, h1, h2, h3, h4, h5, h6, h7, h8, h9, h10, h11, h12, h13, h14, h15, ctKick, ctKicks, ctSens, ctSensors, ctFlow, ctGain, ctValue, ctAwake, ctF, kickSh, kicksSh, sensSh]
  refine ⟨fun _ => ?_, fun h => absurd e h⟩
  rintro x _ _ hx y _ _ hy
  have e := hx.trans hy.symm
  clear hx hy
  unfold tchecks_2
  simp only [VC, allC, List.map_cons, List.map_nil, List.length_cons, List.length_nil, List.getElem?_cons_zero, List.getElem?_cons_succ, List.cons.injEq, C.i.injEq, C.b.injEq, and_true, true_and, forall_const, kindsOf_nil, kindsOf_lf, kindsOf_agg, kindsOf_box, boxKinds_nil, boxKinds_lf, boxKinds_agg, boxKinds_box, List.append_nil, List.cons_append, List.nil_append, den_cmp_le, den_cmp_lt, den_cmp_eq, den_cmp_ne, den_cmp_le', den_cmp_lt', den_cmp_eq', den_cmp_ne', den_and, den_and', den_or, den_or', den_not, den_not', den_blit, den_of, ev_var, at_0, at_1, at_2, at_3, at_4, at_5, at_6, at_7, at_skip, c_int, c_bool, c_arr, c_cnt, c_vec, ev_nil, ev_join, ev_sub3, loc_s, int_i, bool_b, rows_s, cs_nil, cs_cons, E.den_lit, E.den_var, E.den_add, E.den_sub, E.den_mul, E.den_quo, E.den_rem, E.den_max, E.den_min, E.den_len, E.den_wr, E.den_cell, h1, h2, h3, h4, h5, h6, h7, h8, h9, h10, h11, h12, h13, h14, h15, ctKick, ctKicks, ctSens, ctSensors, ctFlow, ctGain, ctValue, ctAwake, ctF, kickSh, kicksSh, sensSh]
  refine ⟨fun _ => ?_, fun h => absurd e h⟩
  rintro x _ _ hx
  unfold tchecks_1
  simp only [VC, allC, List.map_cons, List.map_nil, List.length_cons, List.length_nil, List.getElem?_cons_zero, List.getElem?_cons_succ, List.cons.injEq, C.i.injEq, C.b.injEq, and_true, true_and, forall_const, kindsOf_nil, kindsOf_lf, kindsOf_agg, kindsOf_box, boxKinds_nil, boxKinds_lf, boxKinds_agg, boxKinds_box, List.append_nil, List.cons_append, List.nil_append, den_cmp_le, den_cmp_lt, den_cmp_eq, den_cmp_ne, den_cmp_le', den_cmp_lt', den_cmp_eq', den_cmp_ne', den_and, den_and', den_or, den_or', den_not, den_not', den_blit, den_of, ev_var, at_0, at_1, at_2, at_3, at_4, at_5, at_6, at_7, at_skip, c_int, c_bool, c_arr, c_cnt, c_vec, ev_nil, ev_join, ev_sub3, loc_s, int_i, bool_b, rows_s, cs_nil, cs_cons, E.den_lit, E.den_var, E.den_add, E.den_sub, E.den_mul, E.den_quo, E.den_rem, E.den_max, E.den_min, E.den_len, E.den_wr, E.den_cell, h1, h2, h3, h4, h5, h6, h7, h8, h9, h10, h11, h12, h13, h14, h15, ctKick, ctKicks, ctSens, ctSensors, ctFlow, ctGain, ctValue, ctAwake, ctF, kickSh, kicksSh, sensSh]
  rintro y _ _ hy
  have e := hx.trans hy.symm
  clear hx hy
  refine ⟨fun _ => ?_, fun h => absurd e h⟩
  exact fun t ht => ht
end Go.Proofs.Ytlbgcjpkegpmlaa
/- Sensors and sets of kicks made of numbers; the latest alarm. -/
namespace Go.Proofs.Ytlbgcjpkegpmlaa
open Go.RowKit
set_option linter.unusedSimpArgs false
set_option linter.unusedVariables false

theorem kicksof_ok : tab.ok 48 := by
  refine Tab.of_ct rfl rfl ⟨_, Try.func48, by decide, rfl⟩ ?_ (fun h => by cases h)
  refine ct_ok (cx := ckicksof) (Tab.cx_ok (all_cons next_ok (all_cons kickof_ok all_nil))) Try.func48 (bds := []) (T := tkicksof) (by kernel_rfl) ?_
  have hn : ckicksof.ct 26 = some ctNext := rfl
  have hk : ckicksof.ct 20 = some ctKickOf := rfl
  unfold tkicksof tkicksof_2 tkicksof_1
  simp only [VC, allC, List.map_cons, List.map_nil, List.length_cons, List.length_nil, List.getElem?_cons_zero, List.getElem?_cons_succ, List.cons.injEq, C.i.injEq, C.b.injEq, and_true, true_and, forall_const, kindsOf_nil, kindsOf_lf, kindsOf_agg, kindsOf_box, boxKinds_nil, boxKinds_lf, boxKinds_agg, boxKinds_box, List.append_nil, List.cons_append, List.nil_append, den_cmp_le, den_cmp_lt, den_cmp_eq, den_cmp_ne, den_cmp_le', den_cmp_lt', den_cmp_eq', den_cmp_ne', den_and, den_and', den_or, den_or', den_not, den_not', den_blit, den_of, ev_var, at_0, at_1, at_2, at_3, at_4, at_5, at_6, at_7, at_skip, c_int, c_bool, c_arr, c_cnt, c_vec, ev_nil, ev_join, ev_sub3, loc_s, int_i, bool_b, rows_s, cs_nil, cs_cons, E.den_lit, E.den_var, E.den_add, E.den_sub, E.den_mul, E.den_quo, E.den_rem, E.den_max, E.den_min, E.den_len, E.den_wr, E.den_cell, hn, hk, ctKicksOf, ctKickOf, ctNext, atPre, ringSh, kicksSh]
  rintro v rows d hty hsm at_ a1 a2 ⟨p1, p2⟩
  refine ⟨bds_nil _, by omega, ?_⟩
  rintro x0 _ _ y0 _ _ v0 rows0 d0 _ _ at0 _ _ ⟨x1, x2, y1, y2, rfl, rfl, rfl⟩
  refine ⟨by omega, ?_⟩
  rintro z0 _ _ v1 rows1 d1 _ _ at1 _ _ ⟨z1, z2, rfl, rfl, rfl⟩
  refine ⟨by omega, by omega, ?_⟩
  rintro u0 _ _ v2 rows2 d2 _ _ at2 _ _ ⟨u1, u2, rfl, rfl, rfl⟩
  repeat (refine And.intro (by omega) ?_)
  exact ⟨rfl, rfl, by omega⟩
theorem sensorof_ok : tab.ok 25 := by
  refine Tab.of_ct rfl rfl ⟨_, Try.func25, by decide, rfl⟩ ?_ (fun h => by cases h)
  refine ct_ok (cx := csensorof) (Tab.cx_ok (all_cons next_ok all_nil)) Try.func25 (bds := []) (T := tsensorof) (by kernel_rfl) ?_
  have hn : csensorof.ct 26 = some ctNext := rfl
  unfold tsensorof
  simp only [VC, allC, List.map_cons, List.map_nil, List.length_cons, List.length_nil, List.getElem?_cons_zero, List.getElem?_cons_succ, List.cons.injEq, C.i.injEq, C.b.injEq, and_true, true_and, forall_const, kindsOf_nil, kindsOf_lf, kindsOf_agg, kindsOf_box, boxKinds_nil, boxKinds_lf, boxKinds_agg, boxKinds_box, List.append_nil, List.cons_append, List.nil_append, den_cmp_le, den_cmp_lt, den_cmp_eq, den_cmp_ne, den_cmp_le', den_cmp_lt', den_cmp_eq', den_cmp_ne', den_and, den_and', den_or, den_or', den_not, den_not', den_blit, den_of, ev_var, at_0, at_1, at_2, at_3, at_4, at_5, at_6, at_7, at_skip, c_int, c_bool, c_arr, c_cnt, c_vec, ev_nil, ev_join, ev_sub3, loc_s, int_i, bool_b, rows_s, cs_nil, cs_cons, E.den_lit, E.den_var, E.den_add, E.den_sub, E.den_mul, E.den_quo, E.den_rem, E.den_max, E.den_min, E.den_len, E.den_wr, E.den_cell, hn, ctSensorOf, ctNext, atPre, ringSh, sensSh, SensGood]
  rintro v rows d hty hsm at_ a1 a2 ⟨p1, p2⟩
  refine ⟨bds_nil _, by omega, ?_⟩
  rintro x1 _ _ v0 rows0 d0 _ _ at0 _ _ ⟨l1, u1, rfl, rfl, rfl⟩
  unfold tsensorof_6
  simp only [VC, allC, List.map_cons, List.map_nil, List.length_cons, List.length_nil, List.getElem?_cons_zero, List.getElem?_cons_succ, List.cons.injEq, C.i.injEq, C.b.injEq, and_true, true_and, forall_const, kindsOf_nil, kindsOf_lf, kindsOf_agg, kindsOf_box, boxKinds_nil, boxKinds_lf, boxKinds_agg, boxKinds_box, List.append_nil, List.cons_append, List.nil_append, den_cmp_le, den_cmp_lt, den_cmp_eq, den_cmp_ne, den_cmp_le', den_cmp_lt', den_cmp_eq', den_cmp_ne', den_and, den_and', den_or, den_or', den_not, den_not', den_blit, den_of, ev_var, at_0, at_1, at_2, at_3, at_4, at_5, at_6, at_7, at_skip, c_int, c_bool, c_arr, c_cnt, c_vec, ev_nil, ev_join, ev_sub3, loc_s, int_i, bool_b, rows_s, cs_nil, cs_cons, E.den_lit, E.den_var, E.den_add, E.den_sub, E.den_mul, E.den_quo, E.den_rem, E.den_max, E.den_min, E.den_len, E.den_wr, E.den_cell, hn, ctNext, ringSh]
  repeat (refine And.intro (by omega) ?_)
  rintro x2 _ _ v0 rows0 d0 _ _ at0 _ _ ⟨l2, u2, rfl, rfl, rfl⟩
  unfold tsensorof_5
  simp only [VC, allC, List.map_cons, List.map_nil, List.length_cons, List.length_nil, List.getElem?_cons_zero, List.getElem?_cons_succ, List.cons.injEq, C.i.injEq, C.b.injEq, and_true, true_and, forall_const, kindsOf_nil, kindsOf_lf, kindsOf_agg, kindsOf_box, boxKinds_nil, boxKinds_lf, boxKinds_agg, boxKinds_box, List.append_nil, List.cons_append, List.nil_append, den_cmp_le, den_cmp_lt, den_cmp_eq, den_cmp_ne, den_cmp_le', den_cmp_lt', den_cmp_eq', den_cmp_ne', den_and, den_and', den_or, den_or', den_not, den_not', den_blit, den_of, ev_var, at_0, at_1, at_2, at_3, at_4, at_5, at_6, at_7, at_skip, c_int, c_bool, c_arr, c_cnt, c_vec, ev_nil, ev_join, ev_sub3, loc_s, int_i, bool_b, rows_s, cs_nil, cs_cons, E.den_lit, E.den_var, E.den_add, E.den_sub, E.den_mul, E.den_quo, E.den_rem, E.den_max, E.den_min, E.den_len, E.den_wr, E.den_cell, hn, ctNext, ringSh]
  repeat (refine And.intro (by omega) ?_)
  rintro x3 _ _ v0 rows0 d0 _ _ at0 _ _ ⟨l3, u3, rfl, rfl, rfl⟩
  repeat (refine And.intro (by omega) ?_)
  rintro x4 _ _ v0 rows0 d0 _ _ at0 _ _ ⟨l4, u4, rfl, rfl, rfl⟩
  have m := mul_bd (a := x3) (b := x4) (A := 2) (B := 19) (by omega) (by omega) (by omega) (by omega)
  unfold tsensorof_4
  simp only [VC, allC, List.map_cons, List.map_nil, List.length_cons, List.length_nil, List.getElem?_cons_zero, List.getElem?_cons_succ, List.cons.injEq, C.i.injEq, C.b.injEq, and_true, true_and, forall_const, kindsOf_nil, kindsOf_lf, kindsOf_agg, kindsOf_box, boxKinds_nil, boxKinds_lf, boxKinds_agg, boxKinds_box, List.append_nil, List.cons_append, List.nil_append, den_cmp_le, den_cmp_lt, den_cmp_eq, den_cmp_ne, den_cmp_le', den_cmp_lt', den_cmp_eq', den_cmp_ne', den_and, den_and', den_or, den_or', den_not, den_not', den_blit, den_of, ev_var, at_0, at_1, at_2, at_3, at_4, at_5, at_6, at_7, at_skip, c_int, c_bool, c_arr, c_cnt, c_vec, ev_nil, ev_join, ev_sub3, loc_s, int_i, bool_b, rows_s, cs_nil, cs_cons, E.den_lit, E.den_var, E.den_add, E.den_sub, E.den_mul, E.den_quo, E.den_rem, E.den_max, E.den_min, E.den_len, E.den_wr, E.den_cell, hn, ctNext, ringSh]
  repeat (refine And.intro (by omega) ?_)
  rintro x5 _ _ v0 rows0 d0 _ _ at0 _ _ ⟨l5, u5, rfl, rfl, rfl⟩
  repeat (refine And.intro (by omega) ?_)
  rintro x6 _ _ v0 rows0 d0 _ _ at0 _ _ ⟨l6, u6, rfl, rfl, rfl⟩
  unfold tsensorof_3
  simp only [VC, allC, List.map_cons, List.map_nil, List.length_cons, List.length_nil, List.getElem?_cons_zero, List.getElem?_cons_succ, List.cons.injEq, C.i.injEq, C.b.injEq, and_true, true_and, forall_const, kindsOf_nil, kindsOf_lf, kindsOf_agg, kindsOf_box, boxKinds_nil, boxKinds_lf, boxKinds_agg, boxKinds_box, List.append_nil, List.cons_append, List.nil_append, den_cmp_le, den_cmp_lt, den_cmp_eq, den_cmp_ne, den_cmp_le', den_cmp_lt', den_cmp_eq', den_cmp_ne', den_and, den_and', den_or, den_or', den_not, den_not', den_blit, den_of, ev_var, at_0, at_1, at_2, at_3, at_4, at_5, at_6, at_7, at_skip, c_int, c_bool, c_arr, c_cnt, c_vec, ev_nil, ev_join, ev_sub3, loc_s, int_i, bool_b, rows_s, cs_nil, cs_cons, E.den_lit, E.den_var, E.den_add, E.den_sub, E.den_mul, E.den_quo, E.den_rem, E.den_max, E.den_min, E.den_len, E.den_wr, E.den_cell, hn, ctNext, ringSh]
  repeat (refine And.intro (by omega) ?_)
  rintro x7 _ _ v0 rows0 d0 _ _ at0 _ _ ⟨l7, u7, rfl, rfl, rfl⟩
  repeat (refine And.intro (by omega) ?_)
  rintro x8 _ _ v0 rows0 d0 _ _ at0 _ _ ⟨l8, u8, rfl, rfl, rfl⟩
  unfold tsensorof_2
  simp only [VC, allC, List.map_cons, List.map_nil, List.length_cons, List.length_nil, List.getElem?_cons_zero, List.getElem?_cons_succ, List.cons.injEq, C.i.injEq, C.b.injEq, and_true, true_and, forall_const, kindsOf_nil, kindsOf_lf, kindsOf_agg, kindsOf_box, boxKinds_nil, boxKinds_lf, boxKinds_agg, boxKinds_box, List.append_nil, List.cons_append, List.nil_append, den_cmp_le, den_cmp_lt, den_cmp_eq, den_cmp_ne, den_cmp_le', den_cmp_lt', den_cmp_eq', den_cmp_ne', den_and, den_and', den_or, den_or', den_not, den_not', den_blit, den_of, ev_var, at_0, at_1, at_2, at_3, at_4, at_5, at_6, at_7, at_skip, c_int, c_bool, c_arr, c_cnt, c_vec, ev_nil, ev_join, ev_sub3, loc_s, int_i, bool_b, rows_s, cs_nil, cs_cons, E.den_lit, E.den_var, E.den_add, E.den_sub, E.den_mul, E.den_quo, E.den_rem, E.den_max, E.den_min, E.den_len, E.den_wr, E.den_cell, hn, ctNext, ringSh]
  repeat (refine And.intro (by omega) ?_)
  rintro x9 _ _ v0 rows0 d0 _ _ at0 _ _ ⟨l9, u9, rfl, rfl, rfl⟩
  unfold tsensorof_1
  simp only [VC, allC, List.map_cons, List.map_nil, List.length_cons, List.length_nil, List.getElem?_cons_zero, List.getElem?_cons_succ, List.cons.injEq, C.i.injEq, C.b.injEq, and_true, true_and, forall_const, kindsOf_nil, kindsOf_lf, kindsOf_agg, kindsOf_box, boxKinds_nil, boxKinds_lf, boxKinds_agg, boxKinds_box, List.append_nil, List.cons_append, List.nil_append, den_cmp_le, den_cmp_lt, den_cmp_eq, den_cmp_ne, den_cmp_le', den_cmp_lt', den_cmp_eq', den_cmp_ne', den_and, den_and', den_or, den_or', den_not, den_not', den_blit, den_of, ev_var, at_0, at_1, at_2, at_3, at_4, at_5, at_6, at_7, at_skip, c_int, c_bool, c_arr, c_cnt, c_vec, ev_nil, ev_join, ev_sub3, loc_s, int_i, bool_b, rows_s, cs_nil, cs_cons, E.den_lit, E.den_var, E.den_add, E.den_sub, E.den_mul, E.den_quo, E.den_rem, E.den_max, E.den_min, E.den_len, E.den_wr, E.den_cell, hn, ctNext, ringSh]
  repeat (refine And.intro (by omega) ?_)
  first | omega | (intro hc; repeat (refine And.intro (by omega) ?_); omega)
theorem skOf_mk {a b c d e f g h r q : Int} {l : List C} : skOf (.i a :: .i b :: .i c :: .i d :: .i e :: .i f :: .i g :: .i h :: .i r :: .i q :: l) = ⟨a, b, c, d, e, f, g, h, r, q⟩ := rfl
theorem cell10 {a b c d e f g h r q : C} {n : Int} {l : List C} : cell_ (a :: b :: c :: d :: e :: f :: g :: h :: r :: q :: .i n :: l) 10 = n := rfl
theorem firA_go {ch pe de no st lo li ho r g f a : Int} (h : a ≤ 10000) : firA ⟨ch, pe, de, no, st, lo, li, ho, r, g⟩ f (10001 - a).toNat a =
    if f + a * pe ≤ 10000 then (if li ≤ saysV ch r g (f + a * pe) - no * st then some a else firA ⟨ch, pe, de, no, st, lo, li, ho, r, g⟩ f (10001 - (a + 1)).toNat (a + 1)) else none := by
  rw [show (10001 - a).toNat = (10001 - (a + 1)).toNat + 1 by omega, firA]
theorem firA_end {ch pe de no st lo li ho r g f a : Int} {n : Nat} (h : 10000 < f + a * pe) : firA ⟨ch, pe, de, no, st, lo, li, ho, r, g⟩ f n a = none := by
  cases n with
  | zero => rfl
  | succ n => rw [firA]; exact if_neg (by simp only []; omega)
theorem latL_go {x : SK} {f o p q : Int} (h : f < x.pe) : latL x (x.pe - f).toNat f o p q = match firA x f 10001 0 with
    | none => none
    | some a => if 10000 < tickV x f a then none else if o < tickV x f a then latL x (x.pe - (f + 1)).toNat (f + 1) (tickV x f a) f a else latL x (x.pe - (f + 1)).toNat (f + 1) o p q := by
  rw [show (x.pe - f).toNat = (x.pe - (f + 1)).toNat + 1 by omega, latL]
  cases firA x f 10001 0 <;> rfl
theorem latek_ok : tab.ok 79 := by
  refine Tab.of_ct rfl rfl ⟨_, Try.func79, by decide, rfl⟩ ?_ ctF_det
  refine ct_ok (cx := clatek) (Tab.cx_ok (all_cons says_ok (all_cons flow1_ok (all_cons gain1_ok all_nil)))) Try.func79 (bds := []) (T := tlatek) (by kernel_rfl) ?_
  have h3 : clatek.ct 67 = some ctFlow1 := rfl
  have h4 : clatek.ct 66 = some ctGain1 := rfl
  unfold tlatek
  simp only [VC, allC, List.map_cons, List.map_nil, List.length_cons, List.length_nil, List.getElem?_cons_zero, List.getElem?_cons_succ, List.cons.injEq, C.i.injEq, C.b.injEq, and_true, true_and, forall_const, kindsOf_nil, kindsOf_lf, kindsOf_agg, kindsOf_box, boxKinds_nil, boxKinds_lf, boxKinds_agg, boxKinds_box, List.append_nil, List.cons_append, List.nil_append, den_cmp_le, den_cmp_lt, den_cmp_eq, den_cmp_ne, den_cmp_le', den_cmp_lt', den_cmp_eq', den_cmp_ne', den_and, den_and', den_or, den_or', den_not, den_not', den_blit, den_of, ev_var, at_0, at_1, at_2, at_3, at_4, at_5, at_6, at_7, at_skip, c_int, c_bool, c_arr, c_cnt, c_vec, ev_nil, ev_join, ev_sub3, loc_s, int_i, bool_b, rows_s, cs_nil, cs_cons, E.den_lit, E.den_var, E.den_add, E.den_sub, E.den_mul, E.den_quo, E.den_rem, E.den_max, E.den_min, E.den_len, E.den_wr, E.den_cell, h3, h4, ctLatek, ctFlow1, ctGain1, ctF, kickSh, sensSh, skOf_mk]
  intro ch _ _ pe _ _ de _ _ no _ _ st _ _ lo _ _ li _ _ ho _ _ r _ _ g _ _ hp
  obtain ⟨hs, hk⟩ := hp
  obtain ⟨hch, hso⟩ := sensE_iff.1 hs
  simp only [] at hch hso hk
  unfold SOk at hso
  have mn := mul_bd (a := no) (b := st) (A := 15) (B := 1048576) (by omega) (by omega) (by omega) (by omega)
  have mh := mul_bd (a := ho) (b := lo + 1) (A := 8) (B := 6) (by omega) (by omega) (by omega) (by omega)
  have mh1 : 0 < ho * (lo + 1) := Int.mul_pos (by omega) (by omega)
  have hgo := fun f a (h : a ≤ 10000) => firA_go (ch := ch) (pe := pe) (de := de) (no := no) (st := st) (lo := lo) (li := li) (ho := ho) (r := r) (g := g) (f := f) h
  have hend := fun f a n (h : 10000 < f + a * pe) => firA_end (ch := ch) (pe := pe) (de := de) (no := no) (st := st) (lo := lo) (li := li) (ho := ho) (r := r) (g := g) (n := n) h
  generalize hX : SK.mk ch pe de no st lo li ho r g = X at *
  have epe : X.pe = pe := by rw [← hX]
  have eV : latV X = latL X pe.toNat 0 (-1) 0 0 := by unfold latV; rw [epe]
  have eT : ∀ f a, tickV X f a = f + (a + ho * (lo + 1) - 1) * pe + de := fun f a => by rw [← hX]; rfl
  have lgo := fun f o p q (h : f < pe) => latL_go (x := X) (f := f) (o := o) (p := p) (q := q) (by omega)
  rw [epe] at lgo
  have bd := fun n => @saysV_bd ch r g n
  refine ⟨bds_nil _, fun h2 => ?_, fun h2 => ?_⟩
  · have he : ∀ n, saysV ch r g n = flowV r g n := fun n => by unfold saysV; rw [if_neg (by omega)]
    simp only [he] at hgo bd
    refine ⟨fun xs => match xs with | [_, .i f, .i o, .i p, .i q] => 0 ≤ f ∧ f ≤ pe ∧ latV X = latL X (pe - f).toNat f o p q ∧ -1 ≤ o ∧ o ≤ 10000 | _ => False, fun xs => match xs with | [_, .i f, _, _, _] => (pe - f).toNat | _ => 0, ⟨by omega, by omega, by rw [eV, Int.sub_zero], by omega, by omega⟩, ?_⟩; rintro b f _ _ o _ _ p _ _ q _ _ ⟨f0, f1, hI, o1, o2⟩; refine ⟨fun hf => ?_, fun hf => ?_⟩; rotate_left; (rw [hI, show (pe - f).toNat = 0 by omega]; rfl); refine ⟨fun xs => match xs with | [_, .i a] => 0 ≤ a ∧ a ≤ 10001 ∧ firA X f (10001 - a).toNat a = firA X f 10001 0 | _ => False, fun xs => match xs with | [_, .i a] => (10001 - a).toNat | _ => 0, ⟨by omega, by omega, rfl⟩, ?_⟩; rintro b' a _ _ ⟨a0, a1, hA⟩; have pm := mul_bd (a := a) (b := pe) (A := 10001) (B := 60) (by omega) (by omega) (by omega) (by omega); have pg : a ≤ a * pe := by { have := Int.mul_le_mul_of_nonneg_left (show 1 ≤ pe by omega) a0; omega }; have pt0 := mul_bd (a := a + ho * (lo + 1) - 1) (b := pe) (A := 10100) (B := 60) (by omega) (by omega) (by omega) (by omega); have pt := mul_abs (a := a + ho * (lo + 1) - 1) (b := pe) (A := 10100) (B := 60) (by omega) (by omega) (by omega) (by omega); refine ⟨by omega, by omega, fun hle => ?_, fun hgt => ?_⟩; rotate_left; (rw [hI, lgo f o p q (by omega), ← hA, hend f a _ (by omega)]; rfl); have hg := hgo f a (by omega); rw [if_pos (by omega), hA] at hg; refine ⟨by omega, by omega, by omega, by omega, ⟨hk, by omega⟩, ?_⟩; rintro v _ _ hv; have hb := bd (f + a * pe); rw [← hv] at hb hg; refine ⟨by omega, fun hlt => ?_, fun hge => ?_⟩; (rw [if_neg (by omega)] at hg; exact ⟨by omega, by omega, ⟨by omega, by omega, hg.symm⟩, show (10001 - (a + 1)).toNat < (10001 - a).toNat by omega⟩); rw [if_pos (by omega)] at hg; have et := eT f a; have hl := lgo f o p q (by omega); rw [hg] at hl; simp only [] at hl; rw [et] at hl; refine ⟨by omega, by omega, by omega, by omega, by omega, by omega, by omega, fun hlt => ?_, fun hge => ⟨fun hlt => ?_, fun hge' => ?_⟩⟩; (rw [hI, hl, if_pos hlt]; rfl); (exact ⟨by omega, ⟨by omega, by omega, by rw [hI, hl, if_neg (by omega), if_pos hlt], by omega, by omega⟩, show (pe - (f + 1)).toNat < (pe - f).toNat by omega⟩); (exact ⟨⟨by omega, by omega, by rw [hI, hl, if_neg (by omega), if_neg (by omega)], by omega, by omega⟩, show (pe - (f + 1)).toNat < (pe - f).toNat by omega⟩)
  · have he : ∀ n, saysV ch r g n = gainV r g n := fun n => by unfold saysV; rw [if_pos (by omega)]
    simp only [he] at hgo bd
    refine ⟨fun xs => match xs with | [_, .i f, .i o, .i p, .i q] => 0 ≤ f ∧ f ≤ pe ∧ latV X = latL X (pe - f).toNat f o p q ∧ -1 ≤ o ∧ o ≤ 10000 | _ => False, fun xs => match xs with | [_, .i f, _, _, _] => (pe - f).toNat | _ => 0, ⟨by omega, by omega, by rw [eV, Int.sub_zero], by omega, by omega⟩, ?_⟩; rintro b f _ _ o _ _ p _ _ q _ _ ⟨f0, f1, hI, o1, o2⟩; refine ⟨fun hf => ?_, fun hf => ?_⟩; rotate_left; (rw [hI, show (pe - f).toNat = 0 by omega]; rfl); refine ⟨fun xs => match xs with | [_, .i a] => 0 ≤ a ∧ a ≤ 10001 ∧ firA X f (10001 - a).toNat a = firA X f 10001 0 | _ => False, fun xs => match xs with | [_, .i a] => (10001 - a).toNat | _ => 0, ⟨by omega, by omega, rfl⟩, ?_⟩; rintro b' a _ _ ⟨a0, a1, hA⟩; have pm := mul_bd (a := a) (b := pe) (A := 10001) (B := 60) (by omega) (by omega) (by omega) (by omega); have pg : a ≤ a * pe := by { have := Int.mul_le_mul_of_nonneg_left (show 1 ≤ pe by omega) a0; omega }; have pt0 := mul_bd (a := a + ho * (lo + 1) - 1) (b := pe) (A := 10100) (B := 60) (by omega) (by omega) (by omega) (by omega); have pt := mul_abs (a := a + ho * (lo + 1) - 1) (b := pe) (A := 10100) (B := 60) (by omega) (by omega) (by omega) (by omega); refine ⟨by omega, by omega, fun hle => ?_, fun hgt => ?_⟩; rotate_left; (rw [hI, lgo f o p q (by omega), ← hA, hend f a _ (by omega)]; rfl); have hg := hgo f a (by omega); rw [if_pos (by omega), hA] at hg; refine ⟨by omega, by omega, by omega, by omega, ⟨hk, by omega⟩, ?_⟩; rintro v _ _ hv; have hb := bd (f + a * pe); rw [← hv] at hb hg; refine ⟨by omega, fun hlt => ?_, fun hge => ?_⟩; (rw [if_neg (by omega)] at hg; exact ⟨by omega, by omega, ⟨by omega, by omega, hg.symm⟩, show (10001 - (a + 1)).toNat < (10001 - a).toNat by omega⟩); rw [if_pos (by omega)] at hg; have et := eT f a; have hl := lgo f o p q (by omega); rw [hg] at hl; simp only [] at hl; rw [et] at hl; refine ⟨by omega, by omega, by omega, by omega, by omega, by omega, by omega, fun hlt => ?_, fun hge => ⟨fun hlt => ?_, fun hge' => ?_⟩⟩; (rw [hI, hl, if_pos hlt]; rfl); (exact ⟨by omega, ⟨by omega, by omega, by rw [hI, hl, if_neg (by omega), if_pos hlt], by omega, by omega⟩, show (pe - (f + 1)).toNat < (pe - f).toNat by omega⟩); (exact ⟨⟨by omega, by omega, by rw [hI, hl, if_neg (by omega), if_neg (by omega)], by omega, by omega⟩, show (pe - (f + 1)).toNat < (pe - f).toNat by omega⟩)
end Go.Proofs.Ytlbgcjpkegpmlaa
/- Late, earliest, Latest, Caught. -/
namespace Go.Proofs.Ytlbgcjpkegpmlaa
open Go.RowKit
set_option linter.unusedSimpArgs false
set_option linter.unusedVariables false

theorem latC_some {o p q : Int} {t : Bool} {v : Option (Int × Int × Int)} (h : [C.i o, .i p, .i q, .b t] = latC v) : (t = true → v = some (o, p, q)) ∧ (t = false → v = none ∧ o = 0) := by
  cases v with
  | none => cases h; exact ⟨fun h => (by cases h), fun _ => ⟨rfl, rfl⟩⟩
  | some v => obtain ⟨a, b, c⟩ := v; cases h; exact ⟨fun _ => rfl, fun h => (by cases h)⟩
theorem late_ok : tab.ok 49 := by
  refine Tab.of_ct rfl rfl ⟨_, Try.func49, by decide, rfl⟩ ?_ ctF_det
  refine ct_ok (cx := clate) (Tab.cx_ok (all_cons sens_ok (all_cons kick_ok (all_cons latek_ok all_nil)))) Try.func49 (bds := []) (T := tlate) (by kernel_rfl) ?_
  have h1 : clate.ct 40 = some ctSens := rfl
  have h2 : clate.ct 36 = some ctKick := rfl
  have h3 : clate.ct 79 = some ctLatek := rfl
  unfold tlate
  simp only [VC, allC, List.map_cons, List.map_nil, List.length_cons, List.length_nil, List.getElem?_cons_zero, List.getElem?_cons_succ, List.cons.injEq, C.i.injEq, C.b.injEq, and_true, true_and, forall_const, kindsOf_nil, kindsOf_lf, kindsOf_agg, kindsOf_box, boxKinds_nil, boxKinds_lf, boxKinds_agg, boxKinds_box, List.append_nil, List.cons_append, List.nil_append, den_cmp_le, den_cmp_lt, den_cmp_eq, den_cmp_ne, den_cmp_le', den_cmp_lt', den_cmp_eq', den_cmp_ne', den_and, den_and', den_or, den_or', den_not, den_not', den_blit, den_of, ev_var, at_0, at_1, at_2, at_3, at_4, at_5, at_6, at_7, at_skip, c_int, c_bool, c_arr, c_cnt, c_vec, ev_nil, ev_join, ev_sub3, loc_s, int_i, bool_b, rows_s, cs_nil, cs_cons, E.den_lit, E.den_var, E.den_add, E.den_sub, E.den_mul, E.den_quo, E.den_rem, E.den_max, E.den_min, E.den_len, E.den_wr, E.den_cell, h1, h2, h3, ctLate, ctSens, ctKick, ctLatek, ctWorst, ctF, kickSh, sensSh, skOf_mk]; intro ch _ _ pe _ _ de _ _ no _ _ st _ _ lo _ _ li _ _ ho _ _ r _ _ g _ _; generalize hX : SK.mk ch pe de no st lo li ho r g = X; have hok : SKOk X ↔ sensE ch pe de no st lo li ho = 0 ∧ KOk r g := by { rw [← hX]; exact Iff.rfl }; have no : ¬ SKOk X → latE X = [.i 0, .b false] := fun h => if_neg h; have yes : SKOk X → latE X = (match atO (latV X) with | some o => [.i o, .b true] | none => [.i 0, .b false]) := fun h => if_pos h; refine ⟨bds_nil _, ?_⟩; rintro e _ _ rfl; refine ⟨fun h => (by rw [no fun h' => h (hok.1 h').1]), fun hs => ?_⟩; rintro e _ _ rfl; refine ⟨fun h => (by rw [no fun h' => h (kickE_iff.2 (hok.1 h').2)]), fun hk => ?_⟩; have ok := hok.2 ⟨hs, kickE_iff.1 hk⟩; refine ⟨ok, ?_⟩; rintro o _ _ p _ _ q _ _ t h; obtain ⟨t1, t2⟩ := latC_some h; rw [yes ok]; cases t; (obtain ⟨t3, t4⟩ := t2 rfl; rw [t3, t4]; rfl); (rw [t1 rfl]; rfl)
theorem drop_getD {rows : List (List C)} {k : Nat} (h : k < rows.length) : rows.drop k = rows.getD k [] :: rows.drop (k + 1) := by
  rw [List.drop_eq_getElem_cons h, List.getD_eq_getElem?_getD, List.getElem?_eq_getElem h]
  rfl
theorem min_ok : tab.ok 91 := by
  refine Tab.of_ct rfl rfl ⟨_, Try.func91, by decide, rfl⟩ ?_ ctF_det
  refine ct_ok (cx := cmin) (Tab.cx_ok all_nil) Try.func91 (bds := []) (T := tmin) (by kernel_rfl) ?_
  unfold tmin
  simp only [VC, allC, List.map_cons, List.map_nil, List.length_cons, List.length_nil, List.getElem?_cons_zero, List.getElem?_cons_succ, List.cons.injEq, C.i.injEq, C.b.injEq, and_true, true_and, forall_const, kindsOf_nil, kindsOf_lf, kindsOf_agg, kindsOf_box, boxKinds_nil, boxKinds_lf, boxKinds_agg, boxKinds_box, List.append_nil, List.cons_append, List.nil_append, den_cmp_le, den_cmp_lt, den_cmp_eq, den_cmp_ne, den_cmp_le', den_cmp_lt', den_cmp_eq', den_cmp_ne', den_and, den_and', den_or, den_or', den_not, den_not', den_blit, den_of, ev_var, at_0, at_1, at_2, at_3, at_4, at_5, at_6, at_7, at_skip, c_int, c_bool, c_arr, c_cnt, c_vec, ev_nil, ev_join, ev_sub3, loc_s, int_i, bool_b, rows_s, cs_nil, cs_cons, E.den_lit, E.den_var, E.den_add, E.den_sub, E.den_mul, E.den_quo, E.den_rem, E.den_max, E.den_min, E.den_len, E.den_wr, E.den_cell, ctMin, ctF]
  intro v rows d _ _ hne
  have hpos : 0 < rows.length := List.length_pos_iff.2 hne
  refine ⟨bds_nil _, fun h => by omega, fun h => ⟨by omega, fun xs => match xs with | [.i m, .i i] => 1 ≤ i ∧ i ≤ rows.length ∧ minR rows = minL m (rows.drop i.toNat) | _ => False, fun xs => match xs with | [_, .i i] => ((rows.length : Int) - i).toNat | _ => 0, ⟨by omega, by omega, rfl⟩, ?_⟩⟩
  rintro m _ _ i _ _ ⟨i1, i2, hI⟩
  refine ⟨fun hlt => ⟨by omega, hlt, ⟨by omega, by omega, ?_⟩, show ((rows.length : Int) - (i + 1)).toNat < ((rows.length : Int) - i).toNat by omega⟩, fun hge => ?_⟩
  · rw [hI, drop_getD (by omega), minL, show (i + 1).toNat = i.toNat + 1 by omega]
    rfl
  · rw [hI, show i.toNat = rows.length by omega, List.drop_length]
    rfl
theorem atsL_snoc {r g : Int} {row : List C} : ∀ {l : List (List C)}, atsL r g (l ++ [row]) = atsL r g l ++ (match atO (latV (skR r g row)) with | some o => [[.i o]] | none => [])
  | [] => by
    show atsL r g [row] = [] ++ _
    rw [List.nil_append, atsL]
    cases atO (latV (skR r g row)) <;> rfl
  | x :: l => by
    show atsL r g (x :: (l ++ [row])) = _
    rw [atsL, atsL]
    rw [atsL_snoc (l := l)]
    cases atO (latV (skR r g x)) <;> rfl
theorem atsL_len {r g : Int} : ∀ {l : List (List C)}, (atsL r g l).length ≤ l.length
  | [] => Nat.le_refl _
  | x :: l => by
    rw [atsL]
    have := atsL_len (r := r) (g := g) (l := l)
    cases atO (latV (skR r g x)) <;> simp only [List.length_cons] <;> omega
theorem firstE_all {k : Nat} : ∀ {rows : List (List C)}, firstE rows = 0 → k < rows.length → sensRow (rows.getD k []) = 0 := by
  induction k with
  | zero =>
    intro rows h hl
    cases rows with
    | nil => cases hl
    | cons x l =>
      rw [firstE] at h
      split at h
      · rename_i h0; exact h0
      · exact h
  | succ k ih =>
    intro rows h hl
    cases rows with
    | nil => cases hl
    | cons x l =>
      rw [firstE] at h
      split at h
      · simpa using ih h (by simpa using hl)
      · rename_i h0; exact absurd h h0
theorem take_getD {rows : List (List C)} {k : Nat} (h : k < rows.length) : rows.take (k + 1) = rows.take k ++ [rows.getD k []] := by
  rw [List.take_add_one, List.getD_eq_getElem?_getD, List.getElem?_eq_getElem h]
  rfl
theorem earl_ok : tab.ok 80 := by
  refine Tab.of_ct rfl rfl ⟨_, Try.func80, by decide, rfl⟩ ?_ ctF_det
  refine ct_ok (cx := cearl) (Tab.cx_ok (all_cons latek_ok (all_cons min_ok all_nil))) Try.func80 (bds := []) (T := tearl) (by kernel_rfl) ?_
  have h1 : cearl.ct 79 = some ctLatek := rfl
  have h2 : cearl.ct 91 = some ctMin := rfl
  unfold tearl
  simp only [VC, allC, List.map_cons, List.map_nil, List.length_cons, List.length_nil, List.getElem?_cons_zero, List.getElem?_cons_succ, List.cons.injEq, C.i.injEq, C.b.injEq, and_true, true_and, forall_const, kindsOf_nil, kindsOf_lf, kindsOf_agg, kindsOf_box, boxKinds_nil, boxKinds_lf, boxKinds_agg, boxKinds_box, List.append_nil, List.cons_append, List.nil_append, den_cmp_le, den_cmp_lt, den_cmp_eq, den_cmp_ne, den_cmp_le', den_cmp_lt', den_cmp_eq', den_cmp_ne', den_and, den_and', den_or, den_or', den_not, den_not', den_blit, den_of, ev_var, at_0, at_1, at_2, at_3, at_4, at_5, at_6, at_7, at_skip, c_int, c_bool, c_arr, c_cnt, c_vec, ev_nil, ev_join, ev_sub3, loc_s, int_i, bool_b, rows_s, cs_nil, cs_cons, E.den_lit, E.den_var, E.den_add, E.den_sub, E.den_mul, E.den_quo, E.den_rem, E.den_max, E.den_min, E.den_len, E.den_wr, E.den_cell, h1, h2, ctEarl, ctLatek, ctMin, ctF, kickSh, sensSh, skOf_mk]
  intro v rows d _ _ r _ _ g _ _ hp
  obtain ⟨hl, hs, hk⟩ := hp
  refine ⟨bds_nil _, fun xs => match xs with | [.s _ all, .i i] => 0 ≤ i ∧ i ≤ rows.length ∧ all = atsL r g (rows.take i.toNat) | _ => False, fun xs => match xs with | [_, .i i] => ((rows.length : Int) - i).toNat | _ => 0, ⟨by omega, by omega, rfl⟩, ?_⟩
  rintro u all _ _ _ i _ _ ⟨i0, i1, hI⟩
  refine ⟨fun hlt => ⟨i0, hlt, ⟨?_, hk⟩, ?_⟩, fun hge => ?_⟩
  · have hz : i.toNat < rows.length := by omega
    exact firstE_all hs hz
  · have ht := take_getD (rows := rows) (k := i.toNat) (by omega)
    have hsn := atsL_snoc (r := r) (g := g) (row := rows.getD i.toNat []) (l := rows.take i.toNat)
    have hln := atsL_len (r := r) (g := g) (l := rows.take i.toNat)
    rw [← ht, show i.toNat + 1 = (i + 1).toNat by omega] at hsn
    rw [List.length_take] at hln
    rintro o _ _ p _ _ q _ _ t h
    obtain ⟨t1, t2⟩ := latC_some (v := latV (skR r g (rows.getD i.toNat []))) h
    refine ⟨fun ht => ⟨?_, fun _ => ⟨⟨by omega, by omega, ?_⟩, show ((rows.length : Int) - (i + 1)).toNat < ((rows.length : Int) - i).toNat by omega⟩⟩, fun ht => ⟨⟨by omega, by omega, ?_⟩, show ((rows.length : Int) - (i + 1)).toNat < ((rows.length : Int) - i).toNat by omega⟩⟩
    · rw [hI]; omega
    · rw [hsn, t1 ht, ← hI]; rfl
    · rw [hsn, (t2 ht).1, ← hI]; exact (List.append_nil _).symm
  · rw [show i.toNat = rows.length by omega, List.take_length] at hI
    rw [hI]
    refine ⟨fun h => ?_, fun h => ⟨fun h' => h (by rw [h']; rfl), ?_⟩⟩
    · unfold earlC
      rw [if_pos (List.eq_nil_of_length_eq_zero (by omega))]
    · rintro m _ _ rfl
      unfold earlC
      rw [if_neg (fun h' => h (by rw [h']; rfl))]
theorem sensorsE_zero {rows : List (List C)} (h : sensorsE rows = 0) : rows.length ≠ 0 ∧ rows.length ≤ 4 ∧ firstE rows = 0 := by
  unfold sensorsE at h
  split at h
  · cases h
  · split at h
    · cases h
    · rename_i h1 h2; exact ⟨h1, by omega, h⟩
theorem kicksE_zero {a b c d : Int} (h : kicksE a b c d = 0) : KOk a c ∧ a ≤ b ∧ c ≤ d ∧ KOk b d := by
  unfold kicksE at h
  split at h
  · rename_i h1; exact ⟨h1.2.2.1, h1.1, h1.2.1, h1.2.2.2⟩
  · cases h
theorem latest_ok : tab.ok 50 := by
  refine Tab.of_ct rfl rfl ⟨_, Try.func50, by decide, rfl⟩ ?_ ctF_det
  refine ct_ok (cx := clatest) (Tab.cx_ok (all_cons sensors_ok (all_cons kicks_ok (all_cons least_ok (all_cons earl_ok all_nil))))) Try.func50 (bds := []) (T := tlatest) (by kernel_rfl) ?_
  have h1 : clatest.ct 42 = some ctSensors := rfl
  have h2 : clatest.ct 38 = some ctKicks := rfl
  have h3 : clatest.ct 75 = some ctLeast := rfl
  have h4 : clatest.ct 80 = some ctEarl := rfl
  unfold tlatest
  simp only [VC, allC, List.map_cons, List.map_nil, List.length_cons, List.length_nil, List.getElem?_cons_zero, List.getElem?_cons_succ, List.cons.injEq, C.i.injEq, C.b.injEq, and_true, true_and, forall_const, kindsOf_nil, kindsOf_lf, kindsOf_agg, kindsOf_box, boxKinds_nil, boxKinds_lf, boxKinds_agg, boxKinds_box, List.append_nil, List.cons_append, List.nil_append, den_cmp_le, den_cmp_lt, den_cmp_eq, den_cmp_ne, den_cmp_le', den_cmp_lt', den_cmp_eq', den_cmp_ne', den_and, den_and', den_or, den_or', den_not, den_not', den_blit, den_of, ev_var, at_0, at_1, at_2, at_3, at_4, at_5, at_6, at_7, at_skip, c_int, c_bool, c_arr, c_cnt, c_vec, ev_nil, ev_join, ev_sub3, loc_s, int_i, bool_b, rows_s, cs_nil, cs_cons, E.den_lit, E.den_var, E.den_add, E.den_sub, E.den_mul, E.den_quo, E.den_rem, E.den_max, E.den_min, E.den_len, E.den_wr, E.den_cell, h1, h2, h3, h4, ctLatest, ctSensors, ctKicks, ctLeast, ctEarl, ctF, kickSh, kicksSh]; intro v rows d _ hsm a _ _ b _ _ c _ _ e _ _; refine ⟨bds_nil _, ?_⟩; rintro x _ _ rfl; refine ⟨fun h => (by unfold latestC; rw [if_neg h]), fun hs => ?_⟩; rintro x _ _ rfl; refine ⟨fun h => (by unfold latestC; rw [if_pos hs, if_neg h]), fun hk => ?_⟩; rintro x _ _ y _ _ ⟨rfl, rfl⟩; obtain ⟨s1, s2, s3⟩ := sensorsE_zero hs; refine ⟨⟨by omega, s3, (kicksE_zero hk).1⟩, ?_⟩; rintro m _ _ f _ _ h; rw [h]; unfold latestC; rw [if_pos hs, if_pos hk]
theorem caught_ok : tab.ok 51 := by
  refine Tab.of_ct rfl rfl ⟨_, Try.func51, by decide, rfl⟩ ?_ ctF_det
  refine ct_ok (cx := ccaught) (Tab.cx_ok (all_cons sensors_ok (all_cons kick_ok (all_cons gain_ok (all_cons earl_ok all_nil))))) Try.func51 (bds := []) (T := tcaught) (by kernel_rfl) ?_
  have h1 : ccaught.ct 42 = some ctSensors := rfl
  have h2 : ccaught.ct 36 = some ctKick := rfl
  have h3 : ccaught.ct 23 = some ctGain := rfl
  have h4 : ccaught.ct 80 = some ctEarl := rfl
  unfold tcaught
  simp only [VC, allC, List.map_cons, List.map_nil, List.length_cons, List.length_nil, List.getElem?_cons_zero, List.getElem?_cons_succ, List.cons.injEq, C.i.injEq, C.b.injEq, and_true, true_and, forall_const, kindsOf_nil, kindsOf_lf, kindsOf_agg, kindsOf_box, boxKinds_nil, boxKinds_lf, boxKinds_agg, boxKinds_box, List.append_nil, List.cons_append, List.nil_append, den_cmp_le, den_cmp_lt, den_cmp_eq, den_cmp_ne, den_cmp_le', den_cmp_lt', den_cmp_eq', den_cmp_ne', den_and, den_and', den_or, den_or', den_not, den_not', den_blit, den_of, ev_var, at_0, at_1, at_2, at_3, at_4, at_5, at_6, at_7, at_skip, c_int, c_bool, c_arr, c_cnt, c_vec, ev_nil, ev_join, ev_sub3, loc_s, int_i, bool_b, rows_s, cs_nil, cs_cons, E.den_lit, E.den_var, E.den_add, E.den_sub, E.den_mul, E.den_quo, E.den_rem, E.den_max, E.den_min, E.den_len, E.den_wr, E.den_cell, h1, h2, h3, h4, ctCaught, ctSensors, ctKick, ctGain, ctEarl, ctF, kickSh]; intro v rows d _ hsm r _ _ g _ _; refine ⟨bds_nil _, ?_⟩; rintro x _ _ rfl; refine ⟨fun h => (by unfold caughtC; rw [if_neg h]), fun hs => ?_⟩; rintro x _ _ rfl; refine ⟨fun h => (by unfold caughtC; rw [if_pos hs, if_neg h]), fun hk => ?_⟩; obtain ⟨s1, s2, s3⟩ := sensorsE_zero hs; refine ⟨⟨by omega, s3, kickE_iff.1 hk⟩, ?_⟩; rintro m _ _ f _ _ h; unfold earlC at h; unfold caughtC; rw [if_pos hs, if_pos hk]; by_cases hn : atsL r g rows = []; (rw [if_pos hn] at h ⊢; cases h; exact ⟨fun _ => rfl, fun h => absurd h (by decide)⟩); (rw [if_neg hn] at h ⊢; cases h; exact ⟨fun h => absurd rfl h, fun _ n _ _ hn => (by rw [hn])⟩)
end Go.Proofs.Ytlbgcjpkegpmlaa
/- Which values a sensor may have measured. -/
namespace Go.Proofs.Ytlbgcjpkegpmlaa
open Go.RowKit
set_option linter.unusedSimpArgs false
set_option linter.unusedVariables false

theorem meas_eq {no st ch r g n v : Int} (h : measV no st ch r g n v) : v = saysV ch r g n + (v - saysV ch r g n).tdiv st * st := by
  have h1 := Int.tmod_add_mul_tdiv (v - saysV ch r g n) st
  rw [h.2.1, Int.mul_comm] at h1
  omega
theorem meas_of {no st ch r g n e : Int} (hst : 0 < st) (hn : n ≤ 20000) (h1 : -no ≤ e) (h2 : e ≤ no) : measV no st ch r g n (saysV ch r g n + e * st) := by
  unfold measV
  rw [show saysV ch r g n + e * st - saysV ch r g n = e * st by omega]
  rw [Int.mul_tmod_left, Int.mul_tdiv_cancel _ (by omega)]
  exact ⟨hn, rfl, h1, h2⟩
theorem meas_ok : tab.ok 70 := by
  refine Tab.of_ct rfl rfl ⟨_, Try.func70, by decide, rfl⟩ ?_ ctF_det
  refine ct_ok (cx := cmeas) (Tab.cx_ok (all_cons rvalue_ok all_nil)) Try.func70 (bds := []) (T := tmeas) (by kernel_rfl) ?_
  have h1 : cmeas.ct 47 = some ctValue := rfl
  unfold tmeas
  simp only [VC, allC, List.map_cons, List.map_nil, List.length_cons, List.length_nil, List.getElem?_cons_zero, List.getElem?_cons_succ, List.cons.injEq, C.i.injEq, C.b.injEq, and_true, true_and, forall_const, kindsOf_nil, kindsOf_lf, kindsOf_agg, kindsOf_box, boxKinds_nil, boxKinds_lf, boxKinds_agg, boxKinds_box, List.append_nil, List.cons_append, List.nil_append, den_cmp_le, den_cmp_lt, den_cmp_eq, den_cmp_ne, den_cmp_le', den_cmp_lt', den_cmp_eq', den_cmp_ne', den_and, den_and', den_or, den_or', den_not, den_not', den_blit, den_of, ev_var, at_0, at_1, at_2, at_3, at_4, at_5, at_6, at_7, at_skip, c_int, c_bool, c_arr, c_cnt, c_vec, ev_nil, ev_join, ev_sub3, loc_s, int_i, bool_b, rows_s, cs_nil, cs_cons, E.den_lit, E.den_var, E.den_add, E.den_sub, E.den_mul, E.den_quo, E.den_rem, E.den_max, E.den_min, E.den_len, E.den_wr, E.den_cell, h1, ctMeas, ctValue, ctF, kickSh, sensSh]
  intro ch _ _ pe _ _ de _ _ no _ _ st _ _ lo _ _ li _ _ ho _ _ r _ _ g _ _ n _ _ v _ _ hp
  obtain ⟨⟨hs, hk⟩, n0, n1⟩ := hp
  obtain ⟨hch, hso⟩ := sensE_iff.1 hs
  simp only [] at hch hso hk hs
  unfold SOk at hso
  refine ⟨bds_nil _, by omega, by omega, fun xs => match xs with | [_, .i e] => -no ≤ e ∧ e ≤ no + 1 ∧ (measV no st ch r g n v → e ≤ (v - saysV ch r g n).tdiv st) | _ => False, fun xs => match xs with | [_, .i e] => (no + 1 - e).toNat | _ => 0, ⟨by omega, by omega, fun h => (by have := h.2.2.1; omega)⟩, ?_⟩
  rintro b e _ _ ⟨e0, e1, hI⟩
  have mu : e ≤ no → (no + 1 - (e + 1)).toNat < (no + 1 - e).toNat := fun h => by omega
  refine ⟨fun hle => ⟨fun hn => ?_, fun hn => ?_⟩, fun hgt => ?_⟩
  · rintro x _ _ hx
    rw [← valueV_yes hs hk e0 hle hn] at hx
    refine ⟨fun hv => ?_, fun hv => ⟨by omega, by omega, ⟨by omega, by omega, fun hm => ?_⟩, mu hle⟩⟩
    · have := meas_of (ch := ch) (r := r) (g := g) (n := n) (st := st) (by omega) hn e0 hle
      rw [← hx, hv] at this
      exact (decide_eq_true this).symm
    · have h2 := hI hm
      have h3 := meas_eq hm
      rcases Int.lt_or_eq_of_le h2 with h | h
      · omega
      · rw [← h] at h3; omega
  · exact ⟨by omega, by omega, ⟨by omega, by omega, fun hm => absurd hm.1 (by omega)⟩, mu hle⟩
  · have : ¬ measV no st ch r g n v := fun hm => by
      have := hI hm
      have := hm.2.2.2
      omega
    exact (decide_eq_false this).symm
theorem rposs_ok : tab.ok 30 := by
  refine Tab.of_ct rfl rfl ⟨_, Try.func30, by decide, rfl⟩ ?_ ctF_det
  refine ct_ok (cx := crposs) (Tab.cx_ok (all_cons rsens_ok (all_cons rkick_ok (all_cons between_ok (all_cons meas_ok all_nil))))) Try.func30 (bds := []) (T := trposs) (by kernel_rfl) ?_
  have h1 : crposs.ct 41 = some ctSens := rfl
  have h2 : crposs.ct 37 = some ctKick := rfl
  have h3 : crposs.ct 70 = some ctMeas := rfl
  unfold trposs trposs_1
  simp only [VC, allC, List.map_cons, List.map_nil, List.length_cons, List.length_nil, List.getElem?_cons_zero, List.getElem?_cons_succ, List.cons.injEq, C.i.injEq, C.b.injEq, and_true, true_and, forall_const, kindsOf_nil, kindsOf_lf, kindsOf_agg, kindsOf_box, boxKinds_nil, boxKinds_lf, boxKinds_agg, boxKinds_box, List.append_nil, List.cons_append, List.nil_append, den_cmp_le, den_cmp_lt, den_cmp_eq, den_cmp_ne, den_cmp_le', den_cmp_lt', den_cmp_eq', den_cmp_ne', den_and, den_and', den_or, den_or', den_not, den_not', den_blit, den_of, ev_var, at_0, at_1, at_2, at_3, at_4, at_5, at_6, at_7, at_skip, c_int, c_bool, c_arr, c_cnt, c_vec, ev_nil, ev_join, ev_sub3, loc_s, int_i, bool_b, rows_s, cs_nil, cs_cons, E.den_lit, E.den_var, E.den_add, E.den_sub, E.den_mul, E.den_quo, E.den_rem, E.den_max, E.den_min, E.den_len, E.den_wr, E.den_cell, h1, h2, h3, ctPoss, ctSens, ctKick, ctMeas, ctF, kickSh, sensSh]
  intro ch _ _ pe _ _ de _ _ no _ _ st _ _ lo _ _ li _ _ ho _ _ r _ _ g _ _ begin _ _ v rows d _ hsm
  generalize hX : SK.mk ch pe de no st lo li ho r g = X
  have hok : SKOk X ↔ sensE ch pe de no st lo li ho = 0 ∧ KOk r g := by { rw [← hX]; exact Iff.rfl }
  refine ⟨bds_nil _, ?_⟩
  rintro e _ _ rfl
  refine ⟨fun h => ?_, fun hs => ?_⟩
  · unfold possV; rw [decide_eq_false (fun h' => h (hok.1 h').1)]; rfl
  rintro e _ _ rfl
  refine ⟨fun h => ?_, fun hk => ?_⟩
  · unfold possV; rw [decide_eq_false (fun h' => h (kickE_iff.2 (hok.1 h').2))]; rfl
  have ok := hok.2 ⟨hs, kickE_iff.1 hk⟩
  obtain ⟨hch, hso⟩ := sensE_iff.1 hs
  unfold SOk at hso
  have e1 : ∀ k o, ((C.s v rows).at k o).int = cell_ (rows.getD k []) o := fun _ _ => rfl
  simp only [e1, Int.toNat_zero]
  have pv : possV X begin rows = (decide (0 ≤ begin ∧ begin ≤ 20000 ∧ rows.length ≤ 200) && possL X begin (cell_ (rows.getD 0 []) 0) ((cell_ (rows.getD 0 []) 1).tmod pe) (-1) rows) := by
    unfold possV
    rw [decide_eq_true ok, Bool.true_and, ← hX]
  have hst : ∀ last row, stepV X begin (cell_ (rows.getD 0 []) 0) ((cell_ (rows.getD 0 []) 1).tmod pe) last row ↔ 0 ≤ cell_ row 1 ∧ cell_ row 1 ≤ 40000 ∧ cell_ row 0 = cell_ (rows.getD 0 []) 0 ∧ (cell_ row 1).tmod pe = (cell_ (rows.getD 0 []) 1).tmod pe ∧ 1 ≤ (cell_ row 1).tdiv pe - last ∧ (cell_ row 1).tdiv pe - last ≤ lo + 1 ∧ measV no st ch r g (cell_ row 1 - begin) (cell_ row 2) := fun last row => by rw [← hX]; exact Iff.rfl
  have epe : X.pe = pe := by rw [← hX]
  generalize hse : cell_ (rows.getD 0 []) 0 = se at *
  generalize hph : (cell_ (rows.getD 0 []) 1).tmod pe = ph at *
  refine ⟨fun h => ?_, fun hb => ⟨fun h => ?_, fun hlen => ?_⟩⟩
  · rw [pv, decide_eq_false (by omega)]; rfl
  · rw [pv, decide_eq_false (by omega)]; rfl
  rw [decide_eq_true (by omega), Bool.true_and] at pv
  refine ⟨fun xs => match xs with | [_, .i i] => 0 ≤ i ∧ i ≤ rows.length ∧ possV X begin rows = possL X begin se ph (if 0 < i then (cell_ (rows.getD (i - 1).toNat []) 1).tdiv pe else -1) (rows.drop i.toNat) ∧ (0 < i → 0 ≤ cell_ (rows.getD (i - 1).toNat []) 1 ∧ cell_ (rows.getD (i - 1).toNat []) 1 ≤ 40000) | _ => False, fun xs => match xs with | [_, .i i] => ((rows.length : Int) - i).toNat | _ => 0, ⟨by omega, by omega, by rw [pv]; rfl, fun h => by omega⟩, ?_⟩
  rintro z i _ _ ⟨i0, i1, hI, hL⟩
  refine ⟨fun hlt => ⟨i0, hlt, ?_⟩, fun hge => ?_⟩
  · have hz : i.toNat < rows.length := by omega
    rw [drop_getD hz, possL, epe] at hI
    generalize hrow : rows.getD i.toNat [] = row at *
    generalize hla : (if 0 < i then (cell_ (rows.getD (i - 1).toNat []) 1).tdiv pe else -1) = last at *
    have no_ : ¬ stepV X begin se ph last row → false = possV X begin rows := fun h => by rw [hI, decide_eq_false h]; rfl
    have nx : rows.getD (i + 1 - 1).toNat [] = row := by rw [show (i + 1 - 1).toNat = i.toNat by omega]; exact hrow
    have back : stepV X begin se ph last row → (0 ≤ i + 1 ∧ i + 1 ≤ rows.length ∧ possV X begin rows = possL X begin se ph (if 0 < i + 1 then (cell_ (rows.getD (i + 1 - 1).toNat []) 1).tdiv pe else -1) (rows.drop (i + 1).toNat) ∧ (0 < i + 1 → 0 ≤ cell_ (rows.getD (i + 1 - 1).toNat []) 1 ∧ cell_ (rows.getD (i + 1 - 1).toNat []) 1 ≤ 40000)) ∧ ((rows.length : Int) - (i + 1)).toNat < ((rows.length : Int) - i).toNat := fun h => by
      refine ⟨⟨by omega, by omega, ?_, fun _ => ?_⟩, by omega⟩
      · rw [nx, if_pos (by omega), hI, decide_eq_true h, Bool.true_and, show (i + 1).toNat = i.toNat + 1 by omega]
      · rw [nx]; exact ⟨((hst _ _).1 h).1, ((hst _ _).1 h).2.1⟩
    rw [hst] at no_
    have hst' := hst last row
    have tq : 0 ≤ cell_ row 1 → cell_ row 1 ≤ 40000 → 0 ≤ (cell_ row 1).tdiv pe ∧ (cell_ row 1).tdiv pe ≤ 40000 := fun a b => by
      rw [Int.tdiv_eq_ediv_of_nonneg a]
      have := (ediv_bd (a := cell_ row 1) (b := pe) (by omega)).1 a
      omega
    have fin : ∀ (hpos : stepV X begin se ph last row ↔ measV no st ch r g (cell_ row 1 - begin) (cell_ row 2)) (t : Bool), t = decide (measV no st ch r g (cell_ row 1 - begin) (cell_ row 2)) → (t = false → ¬ stepV X begin se ph last row) ∧ (t = true → stepV X begin se ph last row) := fun hpos t ht => by
      subst ht
      exact ⟨fun h => fun h' => absurd (hpos.1 h') (by simpa using h), fun h => hpos.2 (by simpa using h)⟩
    refine ⟨fun h => no_ fun h' => (by have := h h'.1; have := h'.2.1; omega), fun ht => ?_⟩
    obtain ⟨t0, t1⟩ := ht
    obtain ⟨q0, q1⟩ := tq t0 t1
    refine ⟨by omega, fun h => no_ fun h' => h h'.2.2.1, fun hs1 => ⟨by omega, by omega, by omega, fun h => no_ fun h' => h h'.2.2.2.1, fun hp1 => ⟨fun hpos => ?_, fun hnp => ?_⟩⟩⟩
    · rw [if_pos hpos] at hla
      rw [hla]
      have lq : 0 ≤ last ∧ last ≤ 40000 := by
        obtain ⟨l0, l1⟩ := hL hpos
        rw [← hla, Int.tdiv_eq_ediv_of_nonneg l0]
        have := (ediv_bd (a := cell_ (rows.getD (i - 1).toNat []) 1) (b := pe) (by omega)).1 l0
        omega
      refine ⟨by omega, by omega, by omega, by omega, by omega, by omega, fun h => no_ fun h' => (by have := h'.2.2.2.2.1; omega), fun g1 => ⟨by omega, fun h => no_ fun h' => (by have := h'.2.2.2.2.2.1; omega), fun g2 => ?_⟩⟩
      refine ⟨by omega, by omega, ⟨ok, by omega, by omega⟩, fun t ht => ?_⟩
      have f := fin (hst'.trans ⟨fun h => h.2.2.2.2.2.2, fun h => ⟨t0, t1, hs1, hp1, by omega, by omega, h⟩⟩) t ht
      exact ⟨fun h => no_ fun h' => f.1 h (hst'.2 h'), fun h => back (f.2 h)⟩
    · rw [if_neg (by omega)] at hla
      subst hla
      repeat (refine And.intro (by omega) ?_)
      refine fun g1 => ⟨by omega, fun h => no_ fun h' => (by have := h'.2.2.2.2.2.1; omega), fun g2 => ?_⟩
      refine ⟨by omega, by omega, ⟨ok, by omega, by omega⟩, fun t ht => ?_⟩
      have f := fin (hst'.trans ⟨fun h => h.2.2.2.2.2.2, fun h => ⟨t0, t1, hs1, hp1, by omega, by omega, h⟩⟩) t ht
      exact ⟨fun h => no_ fun h' => f.1 h (hst'.2 h'), fun h => back (f.2 h)⟩
  · rw [show i.toNat = rows.length by omega, List.drop_length] at hI
    rw [hI]; rfl
end Go.Proofs.Ytlbgcjpkegpmlaa
/- Maps with numbers as keys: what a block holds, looked up, written, ranged over. -/
namespace Go.Proofs.Ytlbgcjpkegpmlaa
open Go.RowKit
open Go.ChangeMaps (setBlock heap_setBlock_same heap_setBlock_other)
set_option linter.unusedSimpArgs false
set_option linter.unusedVariables false

abbrev Prs := List (Int × Value)
def valAt : Prs → Int → Value → Value
  | [], _, z => z
  | (j, v) :: l, k, z => if j = k then v else valAt l k z
def putG : Prs → Int → Value → Prs
  | [], k, v => [(k, v)]
  | (j, u) :: l, k, v => if j = k then (k, v) :: l else (j, u) :: putG l k v
theorem valAt_none {k : Int} {z : Value} : ∀ {G : Prs}, (∀ g ∈ G, g.1 ≠ k) → valAt G k z = z
  | [], _ => rfl
  | (j, v) :: l, h => by
    simp only [valAt, if_neg (h (j, v) (by simp))]
    exact valAt_none fun g hg => h g (by simp [hg])
theorem valAt_some {k : Int} {v z : Value} : ∀ {G : Prs}, (G.map (·.1)).Nodup → (k, v) ∈ G → valAt G k z = v
  | [], _, h => by cases h
  | (j, u) :: l, hn, h => by
    simp only [List.map_cons, List.nodup_cons] at hn
    rcases List.mem_cons.1 h with h | h
    · cases h; simp [valAt]
    · have : j ≠ k := fun e => hn.1 (e ▸ List.mem_map_of_mem (f := (·.1)) h)
      simp only [valAt, if_neg this]
      exact valAt_some hn.2 h
theorem putG_none {k : Int} {v : Value} : ∀ {G : Prs}, (∀ g ∈ G, g.1 ≠ k) → putG G k v = G ++ [(k, v)]
  | [], _ => rfl
  | (j, u) :: l, h => by
    simp only [putG, if_neg (h (j, u) (by simp)), List.cons_append]
    rw [putG_none fun g hg => h g (by simp [hg])]
theorem putG_set {k : Int} {v : Value} : ∀ {G : Prs}, (G.map (·.1)).Nodup → ∀ {i : Nat} {u : Value}, G[i]? = some (k, u) → putG G k v = G.set i (k, v)
  | [], _, i, u, h => by simp at h
  | (j, w) :: l, hn, 0, u, h => by simp at h; obtain ⟨rfl, rfl⟩ := h; simp [putG]
  | (j, w) :: l, hn, i + 1, u, h => by
    simp only [List.map_cons, List.nodup_cons] at hn
    have h : l[i]? = some (k, u) := by simpa using h
    have : j ≠ k := fun e => hn.1 (e ▸ List.mem_map_of_mem (f := (·.1)) (List.mem_of_getElem? h))
    simp only [putG, if_neg this, List.set_cons_succ]
    rw [putG_set hn.2 h]
/-- Who stands in the map behind a store. -/
theorem putG_mem {k : Int} {v : Value} : ∀ {G : Prs} {g : Int × Value}, (G.map (·.1)).Nodup → (g ∈ putG G k v ↔ g = (k, v) ∨ (g ∈ G ∧ g.1 ≠ k))
  | [], g, _ => by simp [putG]
  | (j, u) :: l, g, hn => by
    simp only [List.map_cons, List.nodup_cons] at hn
    by_cases e : j = k
    · subst e
      simp only [putG, if_true, List.mem_cons]
      constructor
      · rintro (h | h)
        · exact .inl h
        · exact .inr ⟨.inr h, fun e => hn.1 (e ▸ List.mem_map_of_mem (f := (·.1)) h)⟩
      · rintro (h | ⟨h | h, h'⟩)
        · exact .inl h
        · subst h; exact absurd rfl h'
        · exact .inr h
    · simp only [putG, if_neg e, List.mem_cons, putG_mem hn.2]
      constructor
      · rintro (h | h | h)
        · subst h; exact .inr ⟨.inl rfl, e⟩
        · exact .inl h
        · exact .inr ⟨.inr h.1, h.2⟩
      · rintro (h | ⟨h | h, h'⟩)
        · exact .inr (.inl h)
        · exact .inl h
        · exact .inr (.inr ⟨h, h'⟩)
theorem putG_keys {k : Int} {v : Value} : ∀ {G : Prs}, (G.map (·.1)).Nodup → ((putG G k v).map (·.1)).Nodup
  | [], _ => by simp [putG]
  | (j, u) :: l, hn => by
    have hn' := hn
    simp only [List.map_cons, List.nodup_cons] at hn
    by_cases e : j = k
    · subst e; simpa [putG] using hn'
    · simp only [putG, if_neg e, List.map_cons, List.nodup_cons]
      refine ⟨fun hm => ?_, putG_keys hn.2⟩
      obtain ⟨g, hg, hj⟩ := List.mem_map.1 hm
      rcases (putG_mem hn.2).1 hg with rfl | ⟨hg, -⟩
      · exact e hj.symm
      · exact hn.1 (hj ▸ List.mem_map_of_mem (f := (·.1)) hg)
theorem putG_len {k : Int} {v : Value} : ∀ {G : Prs}, (putG G k v).length ≤ G.length + 1
  | [] => by simp [putG]
  | (j, u) :: l => by
    by_cases e : j = k
    · simp [putG, if_pos e]
    · simp only [putG, if_neg e, List.length_cons]
      have := @putG_len k v l
      omega

def PairsOf (es : Array MapEntry) (G : Prs) : Prop := es.toList.map (fun x => (x.key, x.val)) = G.map fun g => (Value.int .i64 g.1, g.2)
/-- A map's block, by its entries. -/
def MapAt (w : World) (b : Nat) (G : Prs) : Prop := ∃ es clock, w.heap[b]? = some (.map es clock) ∧ es.size ≤ maxLen ∧ MapKept.Stamped es clock ∧ PairsOf es G
theorem PairsOf.nodup {es : Array MapEntry} {G : Prs} {clock : Nat} (h : PairsOf es G) (hs : MapKept.Stamped es clock) : (G.map (·.1)).Nodup := by
  have h1 : es.toList.map (·.key) = G.map fun g => Value.int .i64 g.1 := by
    have := congrArg (List.map Prod.fst) h
    simpa [List.map_map, Function.comp_def] using this
  have h2 := hs.2.2
  rw [h1] at h2
  have e : (G.map fun g => Value.int .i64 g.1) = (G.map (·.1)).map (Value.int .i64) := by simp [List.map_map, Function.comp_def]
  rw [e] at h2
  exact (List.pairwise_map.1 h2).imp fun h e => h (by rw [e])
theorem PairsOf.at {es : Array MapEntry} {G : Prs} (h : PairsOf es G) {j : Nat} {x : MapEntry} (hx : es.toList[j]? = some x) : ∃ g, G[j]? = some g ∧ x.key = .int .i64 g.1 ∧ x.val = g.2 := by
  have := congrArg (fun l => l[j]?) h
  simp only [List.getElem?_map, hx, Option.map_some] at this
  cases hg : G[j]? with
  | none => rw [hg] at this; cases this
  | some g => rw [hg] at this; simp only [Option.map_some, Option.some.injEq, Prod.mk.injEq] at this; exact ⟨g, rfl, this.1, this.2⟩
theorem PairsOf.of {es : Array MapEntry} {G : Prs} (h : PairsOf es G) {j : Nat} {g : Int × Value} (hg : G[j]? = some g) : ∃ x, es.toList[j]? = some x ∧ x.key = .int .i64 g.1 ∧ x.val = g.2 := by
  have := congrArg (fun l => l[j]?) h
  simp only [List.getElem?_map, hg, Option.map_some] at this
  cases hx : es.toList[j]? with
  | none => rw [hx] at this; cases this
  | some x => rw [hx] at this; simp only [Option.map_some, Option.some.injEq, Prod.mk.injEq] at this; exact ⟨x, rfl, this.1, this.2⟩
theorem PairsOf.key {es : Array MapEntry} {G : Prs} (h : PairsOf es G) {x : MapEntry} (hx : x ∈ es.toList) : ∃ g ∈ G, x.key = .int .i64 g.1 ∧ x.val = g.2 := by
  obtain ⟨j, hj, e⟩ := List.getElem_of_mem hx
  obtain ⟨g, hg, h1, h2⟩ := h.at (show es.toList[j]? = some x by rw [List.getElem?_eq_getElem hj, e])
  exact ⟨g, List.mem_of_getElem? hg, h1, h2⟩
section
variable {P : Program} {t k e : TypeId} (ht : P.underlying t = some (.map k e)) (hk : P.underlying k = some (.int .i64)) {w : World} {b : Nat} {G : Prs}
theorem lit_wf {n : Int} (h : -9223372036854775808 ≤ n ∧ n ≤ 9223372036854775807) : (Lit.int .i64 n).wf = true := by
  have e1 : IntKind.i64.min = -9223372036854775808 := rfl
  have e2 : IntKind.i64.max = 9223372036854775807 := rfl
  simp [Lit.wf, e1, e2]
  omega
theorem MapAt.lt (h : MapAt w b G) : b < w.heap.size := by obtain ⟨es, clock, hb, -⟩ := h; exact (Array.getElem?_eq_some_iff.1 hb).1
theorem MapAt.nodup (h : MapAt w b G) : (G.map (·.1)).Nodup := by obtain ⟨es, clock, -, -, hs, hp⟩ := h; exact hp.nodup hs
theorem MapAt.kept {w' : World} (h : MapAt w b G) (hb : w'.heap[b]? = w.heap[b]?) : MapAt w' b G := by obtain ⟨es, clock, h1, h2⟩ := h; exact ⟨es, clock, hb.trans h1, h2⟩
theorem MapAt.made (w : World) : MapAt (w.alloc (.map #[] 0)) w.heap.size [] := ⟨#[], 0, (MapKept.heap_alloc w _).1, by simp, MapKept.stamped_empty 0, rfl⟩
include ht hk
theorem MapAt.look (h : MapAt w b G) (hG : ∀ g ∈ G, -9223372036854775808 ≤ g.1 ∧ g.1 ≤ 9223372036854775807) {n : Int} (hn : -9223372036854775808 ≤ n ∧ n ≤ 9223372036854775807) {z : Value} (hz : (zeroValue e).run P w = .ok z w) : (Instr.lookup t (.map (some b)) (.int .i64 n) false).run P w = .ok (valAt G n z) w := by
  obtain ⟨es, clock, hb, hsz, hst, hp⟩ := h
  have K := Maps.int_keyed hk
  have hkey := Maps.keyOf_int_mk hk (lit_wf hn)
  rcases K.find w hkey es.toList (fun x hx => by
    obtain ⟨g, hg, h1, -⟩ := hp.key hx
    rw [h1]
    exact ⟨_, Maps.keyOf_int_mk hk (lit_wf (hG g hg))⟩) with ⟨h1, h2⟩ | ⟨j, e0, h1, h2, h3⟩
  · rw [valAt_none fun g hg hgn => ?_]
    · simp [Instr.lookup, run_underlying ht, MapKept.run_getObj_map hb, K.check w _ hkey, h1, hz, Result.andThen]
    · obtain ⟨j, hj, ej⟩ := List.getElem_of_mem hg
      obtain ⟨x, hx, hx1, -⟩ := hp.of (show G[j]? = some g by rw [List.getElem?_eq_getElem hj, ej])
      exact h2 x (List.mem_of_getElem? hx) (by rw [hx1, hgn])
  · obtain ⟨g, hg, hg1, hg2⟩ := hp.at h2
    rw [h3] at hg1
    cases hg1
    rw [valAt_some (hp.nodup hst) (show (g.1, e0.val) ∈ G by rw [hg2]; exact List.mem_of_getElem? hg)]
    simp [Instr.lookup, run_underlying ht, MapKept.run_getObj_map hb, K.check w _ hkey, h1, Result.andThen]
theorem MapAt.store (h : MapAt w b G) (hG : ∀ g ∈ G, -9223372036854775808 ≤ g.1 ∧ g.1 ≤ 9223372036854775807) (hroom : G.length < maxLen) {n : Int} (hn : -9223372036854775808 ≤ n ∧ n ≤ 9223372036854775807) (v : Value) :
    ∃ o, (Instr.mapUpdate t (.map (some b)) (.int .i64 n) v).run P w = .ok () (setBlock w b o) ∧ MapAt (setBlock w b o) b (putG G n v) ∧ ∀ i, i ≠ b → (setBlock w b o).heap[i]? = w.heap[i]? := by
  obtain ⟨es, clock, hb, hsz, hst, hp⟩ := h
  have K := Maps.int_keyed hk
  have hkey := Maps.keyOf_int_mk hk (lit_wf hn)
  have hlen : es.size = G.length := by have := congrArg List.length hp; simpa using this
  rcases K.find w hkey es.toList (fun x hx => by
    obtain ⟨g, hg, h1, -⟩ := hp.key hx
    rw [h1]
    exact ⟨_, Maps.keyOf_int_mk hk (lit_wf (hG g hg))⟩) with ⟨h1, h2⟩ | ⟨j, e0, h1, h2, h3⟩
  · refine ⟨.map (es.push ⟨.int .i64 n, v, clock⟩) (clock + 1), ?_, ⟨_, _, heap_setBlock_same hb _, by simp; omega, MapKept.stamped_push hst h2, ?_⟩, fun i hi => heap_setBlock_other hb _ hi⟩
    · simp [Instr.mapUpdate, run_underlying ht, MapKept.run_getObj_map hb, K.check w false hkey, h1, MapKept.run_setObj_map _ hb, Result.andThen, setBlock]
    · rw [putG_none fun g hg hgn => ?_]
      · unfold PairsOf at hp ⊢
        simp [hp]
      · obtain ⟨j, hj, ej⟩ := List.getElem_of_mem hg
        obtain ⟨x, hx, hx1, -⟩ := hp.of (show G[j]? = some g by rw [List.getElem?_eq_getElem hj, ej])
        exact h2 x (List.mem_of_getElem? hx) (by rw [hx1, hgn])
  · have hj : es[j]? = some e0 := by simpa using h2
    obtain ⟨g, hg, hg1, hg2⟩ := hp.at h2
    rw [h3] at hg1
    cases hg1
    refine ⟨.map (es.modify j (fun e' => { e' with key := .int .i64 g.1, val := v })) clock, ?_, ⟨_, _, heap_setBlock_same hb _, by simpa using hsz, MapKept.stamped_modify hst _ _ (fun _ _ => rfl) (fun e' _ he' => by rw [hj] at he'; cases he'; exact h3.symm), ?_⟩, fun i hi => heap_setBlock_other hb _ hi⟩
    · simp [Instr.mapUpdate, run_underlying ht, MapKept.run_getObj_map hb, K.check w false hkey, h1, hj, h3, K.stays w hkey, MapKept.run_setObj_map _ hb, Result.andThen, setBlock]
    · rw [putG_set (hp.nodup hst) (show G[j]? = some (g.1, g.2) from hg)]
      unfold PairsOf at hp ⊢
      have hlist : (es.modify j (fun e' => { e' with key := Value.int .i64 g.1, val := v })).toList = es.toList.set j { e0 with key := .int .i64 g.1, val := v } := by
        rw [Array.toList_modify]
        apply List.ext_getElem?
        intro i
        simp only [List.getElem?_modify, List.getElem?_set]
        by_cases hij : j = i
        · subst hij
          simp only [if_true, h2, Option.map_some]
          have : j < es.toList.length := (List.getElem?_eq_some_iff.1 h2).1
          rw [if_pos (by simpa using this)]
          rfl
        · simp [hij]
      rw [hlist, List.map_set, List.map_set, hp]
omit ht hk in
/-- An iterator over a map: which keys it has handed out. -/
def IterAt (w : World) (r b : Nat) (G : Prs) (seen : List Int) : Prop :=
  ∃ es clock since sn c0, w.heap[b]? = some (.map es clock) ∧ MapKept.Stamped es clock ∧ PairsOf es G ∧ w.heap[r]? = some (.mapIter (some b) since sn c0) ∧ (∀ x ∈ es.toList, x.born < since) ∧ since ≤ c0 ∧ since ≤ clock ∧ ∀ x ∈ es.toList, ∀ g ∈ G, x.key = .int .i64 g.1 → (sn.contains x.born = true ↔ g.1 ∈ seen)
end
section
variable {P : Program} {t k e : TypeId} {w : World} {b r : Nat} {G : Prs} {seen : List Int}
theorem IterAt.kept {w' : World} (h : IterAt w r b G seen) (hb : w'.heap[b]? = w.heap[b]?) (hr : w'.heap[r]? = w.heap[r]?) : IterAt w' r b G seen := by
  obtain ⟨es, clock, since, sn, c0, h1, h2, h3, h4, h5⟩ := h
  exact ⟨es, clock, since, sn, c0, hb.trans h1, h2, h3, hr.trans h4, h5⟩
theorem IterAt.start (ht : P.underlying t = some (.map k e)) (h : MapAt w b G) : ∃ o, (Instr.range t (.map (some b))).run P w = .ok (.pointer (some ⟨w.heap.size, 0, none⟩)) (w.alloc o) ∧ IterAt (w.alloc o) w.heap.size b G [] := by
  obtain ⟨es, clock, hb, hsz, hst, hp⟩ := h
  have hlt : b < w.heap.size := (Array.getElem?_eq_some_iff.1 hb).1
  refine ⟨.mapIter (some b) clock #[] clock, run_range_map w t k e b es clock ht hb, es, clock, clock, #[], clock, (heap_alloc_old w _ hlt).trans hb, hst, hp, heap_alloc_new w _, hst.1, Nat.le_refl _, Nat.le_refl _, fun x hx g hg hxg => by simp⟩
/-- The next round: nothing is left, or some key comes that had not come. -/
theorem IterAt.next (ty : TypeId) (hbr : b ≠ r) (h : IterAt w r b G seen) :
    ((∀ g ∈ G, g.1 ∈ seen) ∧ (Instr.next (.pointer (some ⟨r, 0, none⟩)) false ty).run P w = .ok (.tuple #[.bool false]) w) ∨
    ∃ g ∈ G, g.1 ∉ seen ∧ ∃ w', (Instr.next (.pointer (some ⟨r, 0, none⟩)) false ty).run P w = .ok (.tuple #[.bool true, .int .i64 g.1, g.2]) w' ∧ IterAt w' r b G (g.1 :: seen) ∧
      w'.heap.size = w.heap.size ∧ (∀ i, i ≠ r → w'.heap[i]? = w.heap[i]?) ∧ w'.os = w.os ∧ w'.tape = w.tape ∧ w'.output = w.output ∧
      ∀ u, u.heap[b]? = w'.heap[b]? → u.heap[r]? = w'.heap[r]? → (Instr.entry (.pointer (some ⟨r, 0, none⟩))).run P u = .ok (.tuple #[.int .i64 g.1, g.2]) u := by
  obtain ⟨es, clock, since, sn, c0, hb, hst, hp, hr, hold, hsc, hcl, hseen⟩ := h
  rcases run_next_at (P := P) w ty r b since c0 sn es clock hr hb hold hsc with ⟨h0, hrun⟩ | ⟨x, hx, w1, hw1, hrun⟩
  · refine .inl ⟨fun g hg => ?_, hrun⟩
    obtain ⟨j, hj, ej⟩ := List.getElem_of_mem hg
    obtain ⟨x, hx, hx1, -⟩ := hp.of (show G[j]? = some g by rw [List.getElem?_eq_getElem hj, ej])
    have hxm := List.mem_of_getElem? hx
    exact (hseen x hxm g hg hx1).1 (all_seen es sn h0 x hxm)
  · obtain ⟨hxm, hxs⟩ := mem_left hx
    obtain ⟨g, hg, hg1, hg2⟩ := hp.key hxm
    have hns : g.1 ∉ seen := fun hin => by rw [(hseen x hxm g hg hg1).2 hin] at hxs; cases hxs
    have hr1 : w1.heap[r]? = some (.mapIter (some b) since sn c0) := by rcases hw1 with rfl | rfl <;> exact hr
    have hw1h : w1.heap = w.heap := by rcases hw1 with rfl | rfl <;> rfl
    have hset : ∀ i, i ≠ r → (setBlock w1 r (.mapIter (some b) since (sn.push x.born) clock)).heap[i]? = w.heap[i]? := fun i hi => by
      simp only [setBlock, Array.getElem?_setIfInBounds, if_neg (Ne.symm hi), hw1h]
    have hsame : (setBlock w1 r (.mapIter (some b) since (sn.push x.born) clock)).heap[r]? = some (.mapIter (some b) since (sn.push x.born) clock) := by
      have : r < w1.heap.size := (Array.getElem?_eq_some_iff.1 hr1).1
      simp [setBlock, this]
    refine .inr ⟨g, hg, hns, setBlock w1 r (.mapIter (some b) since (sn.push x.born) clock), by rw [hrun, hg1, hg2], ?_, by simp [setBlock, hw1h], hset, ?_, ?_, ?_, ?_⟩
    · refine ⟨es, clock, since, sn.push x.born, clock, (hset b hbr).trans hb, hst, hp, hsame, hold, hcl, hcl, fun y hy g' hg' hyg => ?_⟩
      · rw [contains_push]
        simp only [Bool.or_eq_true, beq_iff_eq, List.mem_cons]
        rw [hseen y hy g' hg' hyg]
        have hnod := hst.2.1
        constructor
        · rintro (h | h)
          · exact .inr h
          · have := born_inj hnod hy hxm h
            subst this
            rw [hyg] at hg1
            exact .inl (by simpa using hg1)
        · rintro (h | h)
          · have hkk : y.key = x.key := by rw [hyg, hg1, h]
            have hpk : es.toList.Pairwise (fun x y => x.key ≠ y.key) := ((MapKept.stamped_iff es clock).1 hst).2.2
            refine .inr ?_
            rw [entry_eq_of_key hpk hy hxm hkk]
          · exact .inl h
    · rcases hw1 with rfl | rfl <;> rfl
    · rcases hw1 with rfl | rfl <;> rfl
    · rcases hw1 with rfl | rfl <;> rfl
    · intro u hub hur
      rw [← hg1, ← hg2]
      exact run_entry_at u r b since sn es clock x (hur.trans hsame) (hub.trans ((hset b hbr).trans hb)) hxm hst.2.1
end
end Go.Proofs.Ytlbgcjpkegpmlaa
/- Pieces of a code by hand: what a state says where blocks of nobody's have turned. -/
namespace Go.Proofs.Ytlbgcjpkegpmlaa
open Go.RowKit
set_option linter.unusedSimpArgs false
set_option linter.unusedVariables false

section
variable {Γ : Env} {base' : Nat → Nat → Prop}
theorem Lf.den_base (l : Lf) : l.den { Γ with base := base' } = l.den Γ := by cases l <;> rfl
theorem dens_base (l : List Lf) : dens { Γ with base := base' } l = dens Γ l := by
  unfold dens; rw [List.map_congr_left fun x _ => Lf.den_base x]
theorem S0.den_base (s : S0) : s.den { Γ with base := base' } = s.den Γ := by
  cases s with
  | lf l => exact Lf.den_base l
  | agg l => simp only [S0.den, dens_base]
theorem SV.den_base (s : SV) : s.den { Γ with base := base' } = s.den Γ := by
  cases s with
  | one s => exact S0.den_base s
  | tup l => simp only [SV.den]; rw [List.map_congr_left fun x _ => S0.den_base x]
  | fn f l => simp only [SV.den, dens_base]
theorem Lf.ok_base {P : Program} {w : World} {O : Nat → Nat → Prop} {l : Lf} : l.ok P w O { Γ with base := base' } ↔ l.ok P w O Γ := by cases l <;> exact Iff.rfl
theorem S0.ok_base {P : Program} {w : World} {O : Nat → Nat → Prop} {s : S0} : s.ok P w O { Γ with base := base' } ↔ s.ok P w O Γ := ⟨fun h l hl => Lf.ok_base.1 (h l hl), fun h l hl => Lf.ok_base.2 (h l hl)⟩
theorem SV.ok_base {P : Program} {w : World} {O : Nat → Nat → Prop} {s : SV} : s.ok P w O { Γ with base := base' } ↔ s.ok P w O Γ := by
  cases s with
  | one s => exact S0.ok_base
  | tup l => exact ⟨fun h s hs => S0.ok_base.1 (h s hs), fun h s hs => S0.ok_base.2 (h s hs)⟩
  | fn f l => exact ⟨fun h l hl => Lf.ok_base.1 (h l hl), fun h l hl => Lf.ok_base.2 (h l hl)⟩
theorem Hold.base {st : St} {s : Bool} {j b : Nat} : Hold { Γ with base := base' } st s j b ↔ Hold Γ st s j b := by cases s <;> exact Iff.rfl
end
/-- Only blocks that are watched over and nobody's have turned; new ones may be watched over. -/
theorem Sat.hand {P : Program} {F : Nat → Prop} {w0 : World} {Γ : Env} {st : St} {a : Act} {w : World} (h : Sat P F w0 Γ st a w) {w' : World} {F' : Nat → Prop} {base' : Nat → Nat → Prop} (hsz : w.heap.size ≤ w'.heap.size)
    (hblk : ∀ i, i < w.heap.size → ¬ (F i ∧ ∀ o, Γ.base i o) → w'.heap[i]? = w.heap[i]?) (hb2 : ∀ b o, base' b o → Γ.base b o ∨ w.heap.size ≤ b) (hb3 : ∀ b o, base' b o → b < w'.heap.size)
    (hF : ∀ i, F' i → i < w'.heap.size ∧ (F i ∨ w.heap.size ≤ i ∨ ∃ o, ¬ Own Γ st i o)) : Sat P F' w' { Γ with base := base' } st a w' := by
  have hown : ∀ b o, Own { Γ with base := base' } st b o → Own Γ st b o ∨ w.heap.size ≤ b := fun b o hb => by
    rcases Own.iff.1 hb with hb | ⟨s, j, hh⟩
    · exact (hb2 b o hb).imp (fun h => .inl h) id
    · exact .inl ((Hold.base.1 hh).own o)
  have hkeep : ∀ b o, b < w.heap.size → ¬ Own Γ st b o → w'.cell? ⟨b, o, none⟩ = w.cell? ⟨b, o, none⟩ ∧ ¬ Own { Γ with base := base' } st b o := fun b o hlt hno =>
    ⟨World.cell?_of_block (hblk b hlt fun hx => hno (.inl (hx.2 o))), fun ho => (hown b o ho).elim hno fun hge => by omega⟩
  have hnF : ∀ b, b < w.heap.size → ¬ F b → (∀ o, Own Γ st b o) → ¬ F' b := fun b hlt hn ho hf => by
    obtain ⟨-, h1 | h1 | ⟨o, h1⟩⟩ := hF b hf
    · exact hn h1
    · omega
    · exact h1 (ho o)
  refine ⟨fun t sv ht => ?_, h.size, fun b mb hm => ?_, fun i e hi => ?_, fun i e hi => ?_, fun s j s' j' b h1 h2 => h.inj s j s' j' b (Hold.base.1 h1) (Hold.base.1 h2), Keeps.refl _ _, fun i hi => (hF i hi).1, hb3, h.defers, h.len, h.nb, h.num⟩
  · obtain ⟨h1, h2⟩ := h.slots t sv ht
    exact ⟨by rw [SV.den_base]; exact h1, SV.ok_base.2 (SV.ok_keep h2 hsz hkeep)⟩
  · obtain ⟨h1, h2, h3, h4⟩ := h.mem b mb hm
    exact ⟨by rw [dens_base]; exact (hblk _ h1.lt fun hx => h3 hx.1).trans h1, fun l hl => Lf.ok_base.2 (Lf.ok_keep (h2 l hl) hsz hkeep), hnF _ h1.lt h3 fun o => (Hold.mem (Γ := Γ) hm).own o, h4⟩
  · obtain ⟨h1, h2, h3⟩ := h.vec i e hi
    exact ⟨h1.keep hsz hkeep fun b hb => hblk b (h1.lt hb) fun hx => (h3 b hb).1 hx.1, h2, fun b hb => ⟨hnF b (h1.lt hb) (h3 b hb).1 fun o => (Hold.vec (Γ := Γ) hi hb).own o, fun o ho => (hb2 b o ho).elim (fun hx => (h3 b hb).2 o hx) fun hx => by have := h1.lt hb; omega⟩⟩
  · obtain ⟨h1, h2, h3⟩ := h.clo i e hi
    refine ⟨?_, fun s hs => S0.ok_base.2 (S0.ok_keep (h2 s hs) hsz hkeep), fun l hl => Lf.ok_base.2 (Lf.ok_keep (h3 l hl) hsz hkeep)⟩
    rw [List.map_congr_left fun s _ => S0.den_base s, List.map_congr_left fun l _ => Lf.den_base l]
    exact h1
/-- Back to what was watched over first. -/
theorem Sat.back {P : Program} {F F' : Nat → Prop} {w0 w1 : World} {Γ : Env} {st : St} {a : Act} {w : World} {base' : Nat → Nat → Prop} (h : Sat P F' w1 Γ st a w) (hF : ∀ i, F i → F' i) (hk : Keeps F w0 w) (hf : ∀ i, F i → i < w0.heap.size) (hb : ∀ b o, base' b o → Γ.base b o) : Sat P F w0 { Γ with base := base' } st a w := by
  have hown : ∀ b o, Own { Γ with base := base' } st b o → Own Γ st b o := fun b o ho => by
    rcases Own.iff.1 ho with ho | ⟨s, j, hh⟩
    · exact .inl (hb b o ho)
    · exact (Hold.base.1 hh).own o
  have hkeep : ∀ b o, b < w.heap.size → ¬ Own Γ st b o → w.cell? ⟨b, o, none⟩ = w.cell? ⟨b, o, none⟩ ∧ ¬ Own { Γ with base := base' } st b o := fun b o _ hno => ⟨rfl, fun ho => hno (hown b o ho)⟩
  refine ⟨fun t sv ht => ?_, h.size, fun b mb hm => ?_, fun i e hi => ?_, fun i e hi => ?_, fun s j s' j' b h1 h2 => h.inj s j s' j' b (Hold.base.1 h1) (Hold.base.1 h2), hk, hf, fun b o ho => h.base b o (hb b o ho), h.defers, h.len, h.nb, h.num⟩
  · obtain ⟨h1, h2⟩ := h.slots t sv ht
    exact ⟨by rw [SV.den_base]; exact h1, SV.ok_base.2 (SV.ok_keep h2 (Nat.le_refl _) hkeep)⟩
  · obtain ⟨h1, h2, h3, h4⟩ := h.mem b mb hm
    exact ⟨by rw [dens_base]; exact h1, fun l hl => Lf.ok_base.2 (Lf.ok_keep (h2 l hl) (Nat.le_refl _) hkeep), fun hx => h3 (hF _ hx), h4⟩
  · obtain ⟨h1, h2, h3⟩ := h.vec i e hi
    exact ⟨h1.keep (Nat.le_refl _) hkeep fun _ _ => rfl, h2, fun b hb' => ⟨fun hx => (h3 b hb').1 (hF _ hx), fun o ho => (h3 b hb').2 o (hb b o ho)⟩⟩
  · obtain ⟨h1, h2, h3⟩ := h.clo i e hi
    refine ⟨?_, fun s hs => S0.ok_base.2 (S0.ok_keep (h2 s hs) (Nat.le_refl _) hkeep), fun l hl => Lf.ok_base.2 (Lf.ok_keep (h3 l hl) (Nat.le_refl _) hkeep)⟩
    rw [List.map_congr_left fun s _ => S0.den_base s, List.map_congr_left fun l _ => Lf.den_base l]
    exact h1
/-- A piece of a code, by the executor, that ends in a known state. -/
theorem seg_sound {cx : Cx} {R : List C → Prop} {F : Nat → Prop} {w0 : World} (hcx : CxOK cx) {c : Code} {st st1 : St} {ps : List Pl} {ks : List Lk} {k : Ex → St → Option Tree} {T : Tree} (hT : exec cx c { st with lvl := st.lvl + 1 } (joinK st st1 ps ks k) = some T) (hok : joinOk st st1 ps ks = true)
    {Γ : Env} {Ls : List (List C → Prop)} (hl : Ls.length = st.lvl) {I : List C → Prop} (hv : VC cx R T Γ.ρ (Ls ++ [I])) {a : Act} {w : World} (hs : Sat cx.P F w0 Γ st a w) {Q : Exit → Act → World → Prop}
    (hn : ∀ xs Γx a' w', CTy cx.P ks xs → I xs → Γx.ρ = Γ.ρ ++ xs → Ext Γ Γx → Sat cx.P F w0 Γx st1 a' w' → Q .normal a' w')
    (hk : ∀ x st' T' Γ' Ls', x ≠ .nrm → k x st' = some T' → Ext Γ Γ' → Ls'.length = st'.lvl → VC cx R T' Γ'.ρ Ls' → ∀ a w, Sat cx.P F w0 Γ' st' a w → Q x.out a w) : c.wp cx.P Q a w := by
  obtain ⟨c2, c4, c5, c6, c7, c8⟩ := joinOk_spec hok
  have hlen : Γ.ρ.length = st.nx := hs.len
  have hnum1 : Num st1.bds Γ.ρ := by rw [c7]; exact hs.num
  refine exec_sound (R := R) hcx c _ _ T hT Γ (Ls ++ [I]) _ ?_ (by simp [hl]) hv a w (hs.relvl _)
  intro e st' T' Γ' Ls' hk' he' hl' hlen' hv' a' w' hs'
  cases e with
  | ext i => exact hk (.ext i) st' T' Γ' Ls' (by intro h; cases h) hk' he' hlen' hv' a' w' hs'
  | ret => exact hk .ret st' T' Γ' Ls' (by intro h; cases h) hk' he' hlen' hv' a' w' hs'
  | nrm =>
    simp only [joinK, joinEnd] at hk'
    split at hk'
    · rename_i hc
      simp only [Bool.and_eq_true] at hc
      obtain ⟨⟨d1, d2⟩, d3⟩ := hc
      split at hk'
      · rename_i vals hvals
        split at hk'
        · rename_i hks'
          cases hk'
          obtain ⟨hob', hback⟩ := VC.obT hv'
          obtain ⟨l, hl2⟩ := he'.ρ
          obtain ⟨hty', hsat'⟩ := hs'.rebase (st1 := st1) (ρ0 := Γ.ρ) ⟨l, hl2⟩ (by rw [hlen]; exact d1) (by rw [hlen]; exact hvals) hks' hob' (by rw [hlen]; exact c2) (Nat.eq_of_beq_eq_true d3) (Nat.le_of_ble_eq_true d2) (by rw [hlen]; exact c4) hnum1
          have hget : Ls'[st.lvl]? = some I := by
            obtain ⟨m, rfl⟩ := hl'
            rw [List.append_assoc, List.getElem?_append_right (by omega), hl]
            simp
          simp only [VC, hget] at hback
          exact hn _ { Γ' with ρ := Γ.ρ ++ cs_ Γ'.ρ vals, nb := st1.nb } a' w' hty' hback rfl ⟨⟨_, rfl⟩, fun b hb => he'.blk b hb, by rw [hs.nb]; exact c5, he'.base, he'.up⟩ hsat'
        · cases hk'; exact hv'.elim
      · cases hk'; exact hv'.elim
    · cases hk'; exact hv'.elim

/-! Operations by hand -/
section
variable {P : Program} {ops : Array Oper} {Q : Exit → Act → World → Prop} {o : Oper} {rest : List Oper} {a : Act} {w w' : World} {v : Value}
theorem op_val {K : Act → World → Prop} (h : (execOp a.eval o).run P w = .ok (.value v) w') (hk : K (a.put o.dst v) w') : o.wp P a w K Q := by
  unfold Oper.wp; rw [h]; exact hk
theorem list_val (hg : o.guard = none) (h : (execOp a.eval o).run P w = .ok (.value v) w') (hk : wpList P ops Q rest (a.put o.dst v) w') : wpList P ops Q (o :: rest) a w := by
  unfold wpList
  rw [if_pos (by simp [Region.wanted, hg])]
  exact .inl (op_val h hk)
theorem eval_same {d : Nat} (h : d < a.tmps.size) : (a.put (some d) v).eval (.tmp d) = v := by
  simp [Act.put, Act.eval, h]
theorem eval_other {d t : Nat} (h : t ≠ d) : (a.put (some d) v).eval (.tmp t) = a.eval (.tmp t) := by
  simp [Act.put, Act.eval, Array.getElem?_setIfInBounds, Ne.symm h]
theorem put_size {d : Option Tmp} : (a.put d v).tmps.size = a.tmps.size := by cases d <;> simp [Act.put]
end
/-- Known less, otherwise the same; the variables from ρ0 on are new. -/
theorem Sat.less {P : Program} {F : Nat → Prop} {w0 : World} {Γ : Env} {st1 st : St} {a : Act} {w : World} (h : Sat P F w0 Γ st a w) {ρ0 : List C} (hρ : ∃ l, Γ.ρ = ρ0 ++ l) {n : Nat} (hn : ρ0.length = n) {ps : List Pl} {ks : List Lk} {vals : List Lf}
    (h1 : sameRest st1 st n ps = true) (h2 : backPs st1 st n ps = some vals) (h3 : kindsL vals = some ks) (h4 : Obs Γ.ρ (rngL st.bds vals)) (h5 : headWf st1 n ps = true) (h6 : st1.nt = st.nt) (h7 : st1.nb ≤ st.nb) (h8 : st1.nx = n + ks.length) (h9 : st1.bds = []) :
    CTy P ks (cs_ Γ.ρ vals) ∧ Sat P F w0 { Γ with ρ := ρ0 ++ cs_ Γ.ρ vals, nb := st1.nb } st1 a w := by
  subst hn
  refine h.rebase (st1 := st1) hρ h1 h2 h3 h4 h5 h6 h7 h8 ?_
  rw [h9]
  refine ⟨bds_nil _, fun i m => ?_⟩
  obtain ⟨l, e⟩ := hρ
  have := h.num.len
  rw [e] at this
  rcases Nat.lt_or_ge i ρ0.length with hi | hi
  · have h10 := this i m
    rw [at_ext hi] at h10
    exact h10
  · simp [at_, List.getD_eq_getElem?_getD, List.getElem?_eq_none hi, C.small_zero]
end Go.Proofs.Ytlbgcjpkegpmlaa
/- kick.bySensor, its round's drawn region: the samples of a sensor, one more. -/
namespace Go.Proofs.Ytlbgcjpkegpmlaa
open Go.RowKit
open Go.ChangeMaps (setBlock heap_setBlock_same heap_setBlock_other)
set_option linter.unusedSimpArgs false
set_option linter.unusedVariables false

/-- The round's region, and the number of its operations. -/
noncomputable def by5 : Array Oper :=
  match Try.f82.body with
  | some (.seq _ (.seq _ (.seq (.seq _ (.block _ (.loop (.seq _ (.seq _ (.seq (.block _ (.seq _ (.region _ ops _))) _)))))) _))) => ops
  | _ => #[]
theorem by5_size : by5.size = 11 := by kernel_rfl
theorem by5_sel : Region.noSelect by5 = true := by kernel_rfl
theorem closed_none {ops : Array Oper} (n : Nat) : Closed ops (Array.replicate n false) := fun j o ho hj => by rw [getD_replicate_false] at hj; cases hj
def upto (n k : Nat) : Array Bool := ((List.range n).map fun i => decide (i < k)).toArray
section
variable {ops : Array Oper} {Q : Act → World → Prop} {S : World → Prop}
/-- A look at memory, ahead of whatever else. -/
theorem pick_first {i : Nat} {o : Oper} {v : Value} (hsel : Region.noSelect ops = true) (ho : ops[i]? = some o) (hro : readsOnly o = true) (hg : o.guard = none) {n : Nat} {L L' : Array Bool} {a : Act} {w : World} (hc : Closed ops L) (hS : S w) (hr : (Region.ready .any ops L).contains i = true) (hf : Region.free .any ops L i = true) (hL : L.setIfInBounds i true = L')
    (hrun : ∀ w', S w' → (execOp a.eval o).run Try.prog w' = .ok (.value v) w') (h : Closed ops L' → Picks Try.prog ops (fun e a w => e = .normal ∧ Q a w) (Until ops S) n L' (a.put o.dst v) w) : Picks Try.prog ops (fun e a w => e = .normal ∧ Q a w) (Until ops S) (n + 1) L a w := by
  subst hL
  have hr' : i ∈ Region.ready .any ops L := by simpa using hr
  exact Picks.first ho hro hsel (fun c a w h => by cases h.1) _ _ _ _ hc hS (.inl ⟨by simp [Region.wanted, hg], hrun⟩) hr' (Region.free_spec ho hf) (h (hc.set hr'))
/-- The only one that is ready. -/
theorem pick_only {i : Nat} {o : Oper} {v : Value} (ho : ops[i]? = some o) (hg : o.guard = none) {n : Nat} {L L' : Array Bool} {a : Act} {w w' : World} (hc : Closed ops L) (hr : Region.ready .any ops L = [i]) (hL : L.setIfInBounds i true = L')
    (hrun : (execOp a.eval o).run Try.prog w = .ok (.value v) w') (hS : Until ops S L' w') (h : Closed ops L' → Picks Try.prog ops (fun e a w => e = .normal ∧ Q a w) (Until ops S) n L' (a.put o.dst v) w') : Picks Try.prog ops (fun e a w => e = .normal ∧ Q a w) (Until ops S) (n + 1) L a w := by
  subst hL
  refine ⟨fun e => absurd e (by rw [hr]; simp), fun j hj => ?_⟩
  rw [hr] at hj
  simp only [List.mem_cons, List.not_mem_nil, or_false] at hj
  subst hj
  unfold wpOp
  rw [ho]
  simp only []
  rw [if_pos (by simp [Region.wanted, hg])]
  exact .inl (op_val hrun ⟨hS, h (hc.set (by rw [hr]; simp))⟩)
end
end Go.Proofs.Ytlbgcjpkegpmlaa
/- kick.bySensor's drawn region, in whatever order. -/
namespace Go.Proofs.Ytlbgcjpkegpmlaa
open Go.RowKit
open Go.ChangeMaps (setBlock heap_setBlock_same heap_setBlock_other)
set_option linter.unusedSimpArgs false
set_option linter.unusedVariables false

def sam (k t x : Int) : Array Value := #[.int .i64 k, .int .i64 t, .int .i64 x]
theorem kinds_sam : kinds Try.prog 40 = some [.int, .int, .int] := by kernel_rfl
theorem info_sam : ∃ it z, Try.prog.info? 40 = some it ∧ it.zero = some z ∧ it.size = 3 ∧ it.bytes = 24 ∧ z.cells.size = 3 := by
  obtain ⟨it, z, h1, h2, h3⟩ := zeroLf_spec (P := Try.prog) (t := 40) (cs := [.int (.lit 0), .int (.lit 0), .int (.lit 0)]) (by kernel_rfl) ⟨[], fun _ => 0, 0, fun _ _ => False, fun _ => default⟩
  have h4 : (Try.prog.info? 40).map (fun i => (i.size, i.bytes)) = some (3, 24) := by kernel_rfl
  rw [h1] at h4
  simp only [Option.map_some, Option.some.injEq, Prod.mk.injEq] at h4
  exact ⟨it, z, h1, h2, h4.1, h4.2, by rw [h3]; rfl⟩
theorem zero_sams (w : World) : (zeroValue 38).run Try.prog w = .ok (.slice none 0 0) w := by
  obtain ⟨it, z, h1, h2, h3⟩ := zeroLf_spec (P := Try.prog) (t := 38) (cs := [.cst (.slice none 0 0)]) (by kernel_rfl) ⟨[], fun _ => 0, 0, fun _ _ => False, fun _ => default⟩
  simp only [zeroValue, Sem.run_bind, run_typeInfo' h1, h2, Result.andThen_ok]
  have h4 : (Try.prog.info? 38).bind (·.zero) = some (.slice none 0 0) := by kernel_rfl
  rw [h1] at h4
  simp only [Option.bind_some, h2, Option.some.injEq] at h4
  rw [h4]
  rfl
theorem run_field {w : World} {b : Nat} : (Instr.fieldAt 40 (.pointer (some ⟨b, 0, none⟩)) 0).run Try.prog w = .ok (.pointer (some ⟨b, 0, none⟩)) w :=
  run_fieldOff (by kernel_rfl : fieldOff Try.prog 40 0 = some 0) b 0 w
theorem run_build_sam {w : World} {k t x : Int} : (Instr.buildSlice 38 1 #[(0, .agg (sam k t x))]).run Try.prog w = .ok (.slice (some ⟨w.heap.size, 0, none⟩) 1 1) (w.alloc (.cells (sam k t x) 40)) := by
  obtain ⟨it, z, h1, h2, h3, h4, h5⟩ := info_sam
  have hs : sizeIs Try.prog 40 = some 3 := by kernel_rfl
  simp only [Instr.buildSlice, Sem.run_bind, run_underlying Try.underlying38, Result.andThen_ok, run_sizeOf' hs]
  simp [zeroValue, run_typeInfo' h1, h2, Instr.fill, newRow, sam, Value.cells, show Array.range 3 = #[0, 1, 2] from rfl, Array.zipIdx]
theorem run_load_sam {w : World} {b : Nat} {k t x : Int} (hb : Blk w b 40 (sam k t x)) : (Instr.loadAt 40 (.pointer (some ⟨b, 0, none⟩))).run Try.prog w = .ok (.agg (sam k t x)) w := by
  have hp : partS Try.prog 40 [.int (.lit k), .int (.lit t), .int (.lit x)] 0 = some (.agg [.int (.lit k), .int (.lit t), .int (.lit x)]) := by kernel_rfl
  have := run_load_part hp ⟨[], fun _ => 0, 0, fun _ _ => False, fun _ => default⟩ w b 0 (fun j l hl => by
    rcases j with _ | _ | _ | j
    · cases hl; exact hb.cell 0 rfl
    · cases hl; exact hb.cell 1 rfl
    · cases hl; exact hb.cell 2 rfl
    · simp at hl)
  exact this
theorem run_load_int {w : World} {b : Nat} {k t x : Int} (hb : Blk w b 40 (sam k t x)) {ty : TypeId} (hty : ty = 3) : (Instr.loadAt ty (.pointer (some ⟨b, 0, none⟩))).run Try.prog w = .ok (.int .i64 k) w := by
  subst hty
  have hp : partS Try.prog 3 [.int (.lit k), .int (.lit t), .int (.lit x)] 0 = some (.lf (.int (.lit k))) := by kernel_rfl
  have := run_load_part hp ⟨[], fun _ => 0, 0, fun _ _ => False, fun _ => default⟩ w b 0 (fun j l hl => by
    rcases j with _ | _ | _ | j
    · cases hl; exact hb.cell 0 rfl
    · cases hl; exact hb.cell 1 rfl
    · cases hl; exact hb.cell 2 rfl
    · simp at hl)
  exact this
/-- The slots that the region fills, in any values. -/
def fills : List (Tmp × Value) → Act → Act
  | [], a => a
  | (d, v) :: l, a => fills l (a.put (some d) v)
theorem pick_op {ops : Array Oper} {Q : Act → World → Prop} {S : World → Prop} {i : Nat} {op : Op} {d : Tmp} {v : Value} (hsel : Region.noSelect ops = true) (ho : ∃ o, ops[i]? = some o ∧ o.op = op ∧ o.dst = some d ∧ o.guard = none) (hro : ∀ o : Oper, o.op = op → readsOnly o = true) {n : Nat} {L L' : Array Bool} {a : Act} {w : World} (hc : Closed ops L) (hS : S w) (hr : (Region.ready .any ops L).contains i = true) (hf : Region.free .any ops L i = true) (hL : L.setIfInBounds i true = L')
    (hrun : ∀ (o : Oper) w', o.op = op → S w' → (execOp a.eval o).run Try.prog w' = .ok (.value v) w') (h : Closed ops L' → Picks Try.prog ops (fun e a w => e = .normal ∧ Q a w) (Until ops S) n L' (a.put (some d) v) w) : Picks Try.prog ops (fun e a w => e = .normal ∧ Q a w) (Until ops S) (n + 1) L a w := by
  obtain ⟨o, h1, h2, h3, h4⟩ := ho
  exact pick_first hsel h1 (hro o h2) h4 hc hS hr hf hL (fun w' hw => hrun o w' h2 hw) (by rw [h3]; exact h)
theorem pick_one {ops : Array Oper} {Q : Act → World → Prop} {S : World → Prop} {i : Nat} {op : Op} {d : Option Tmp} {v : Value} (ho : ∃ o, ops[i]? = some o ∧ o.op = op ∧ o.dst = d ∧ o.guard = none) {n : Nat} {L L' : Array Bool} {a : Act} {w w' : World} (hc : Closed ops L) (hr : Region.ready .any ops L = [i]) (hL : L.setIfInBounds i true = L')
    (hrun : ∀ o : Oper, o.op = op → (execOp a.eval o).run Try.prog w = .ok (.value v) w') (hS : Until ops S L' w') (h : Closed ops L' → Picks Try.prog ops (fun e a w => e = .normal ∧ Q a w) (Until ops S) n L' (a.put d v) w') : Picks Try.prog ops (fun e a w => e = .normal ∧ Q a w) (Until ops S) (n + 1) L a w := by
  obtain ⟨o, h1, h2, h3, h4⟩ := ho
  exact pick_only h1 h4 hc hr hL (hrun o h2) hS (by rw [h3]; exact h)
theorem pick_skip {ops : Array Oper} {Q : Act → World → Prop} {S : World → Prop} {i : Nat} {op : Op} (ho : ∃ o, ops[i]? = some o ∧ o.op = op ∧ o.guard = none ∧ o.dst = none) {n : Nat} {L L' : Array Bool} {a : Act} {w w' : World} (hc : Closed ops L) (hr : Region.ready .any ops L = [i]) (hL : L.setIfInBounds i true = L')
    (hrun : ∀ o : Oper, o.op = op → (execOp a.eval o).run Try.prog w = .ok .skip w') (hS : Until ops S L' w') (h : Closed ops L' → Picks Try.prog ops (fun e a w => e = .normal ∧ Q a w) (Until ops S) n L' a w') : Picks Try.prog ops (fun e a w => e = .normal ∧ Q a w) (Until ops S) (n + 1) L a w := by
  obtain ⟨o, h1, h2, h3, h4⟩ := ho
  subst hL
  refine ⟨fun e => absurd e (by rw [hr]; simp), fun j hj => ?_⟩
  rw [hr] at hj
  simp only [List.mem_cons, List.not_mem_nil, or_false] at hj
  subst hj
  unfold wpOp
  rw [h1]
  simp only []
  rw [if_pos (by simp [Region.wanted, h3])]
  refine .inl ?_
  unfold Oper.wp
  rw [hrun o h2]
  show Until ops S _ w' ∧ Picks Try.prog ops (fun e a w => e = .normal ∧ Q a w) (Until ops S) n _ (a.put o.dst undef) w'
  rw [h4]
  exact ⟨hS, h (hc.set (by rw [hr]; simp))⟩
theorem bySensor_round {Q : Act → World → Prop} {a : Act} {w : World} {t5 bm : Nat} {k ti x : Int} {G : Prs} {B n : Nat} {us : List Value} (hsz : a.tmps.size = 25) (e3 : a.eval (.tmp 3) = .map (some bm)) (e5 : a.eval (.tmp 5) = .pointer (some ⟨t5, 0, none⟩)) (hb : Blk w t5 40 (sam k ti x)) (hm : MapAt w bm G)
    (hG : ∀ g ∈ G, -9223372036854775808 ≤ g.1 ∧ g.1 ≤ 9223372036854775807) (hroom : G.length < maxLen) (hk : -9223372036854775808 ≤ k ∧ k ≤ 9223372036854775807) (hv : w.ownsRow B 40 3 (valAt G k (.slice none 0 0)) n us) (hB : B ≤ w.heap.size) (hn : n ≤ 1000000)
    (hne : ∀ g, (valAt G k (.slice none 0 0)).ownBlock = some g → g ≠ bm ∧ g ≠ t5)
    (hQ : ∀ (vs : List Value) (v' : Value) (w1 w2 : World) (o : Obj), vs.length = 10 → Below w.heap.size w w1 ∧ w1.heap.size = w.heap.size + 1 → w1.grownBy w2 (valAt G k (.slice none 0 0)).ownBlock → w2.ownsRow B 40 3 v' (n + 1) (us ++ (sam k ti x).toList) → v' ≠ .slice none 0 0 → (v'.ownBlock = (valAt G k (.slice none 0 0)).ownBlock ∨ v'.ownBlock = some w1.heap.size) →
      MapAt (setBlock w2 bm o) bm (putG G k v') → (∀ i, i ≠ bm → (setBlock w2 bm o).heap[i]? = w2.heap[i]?) → Q (fills ([13, 14, 15, 16, 17, 18, 19, 20, 21, 22].zip vs) a) (setBlock w2 bm o)) :
    Picks Try.prog by5 (fun e a w => e = .normal ∧ Q a w) (Until by5 fun w' => Blk w' t5 40 (sam k ti x) ∧ MapAt w' bm G) 11 (upto 11 0) a w := by
  have hc0 : Closed by5 (upto 11 0) := closed_none 11
  have hS : Blk w t5 40 (sam k ti x) ∧ MapAt w bm G := ⟨hb, hm⟩
  refine pick_op (i := 0) (op := .move (.tmp 3)) (d := 13) (v := .map (some bm)) (L' := upto 11 1) by5_sel ⟨_, rfl, rfl, rfl, rfl⟩ (fun o h => by simp [readsOnly, h]) hc0 hS (by kernel_rfl) (by kernel_rfl) (by kernel_rfl) (fun o w' h hw => ?_) fun hc1 => ?_
  · simp [execOp, h, e3]
  refine pick_op (i := 1) (op := .fieldAddr 40 (.tmp 5) 0) (d := 14) (v := .pointer (some ⟨t5, 0, none⟩)) (L' := upto 11 2) by5_sel ⟨_, rfl, rfl, rfl, rfl⟩ (fun o h => by simp [readsOnly, h]) hc1 hS (by kernel_rfl) (by kernel_rfl) (by kernel_rfl) (fun o w' h hw => ?_) fun hc2 => ?_
  · simp [execOp, h, e3, e5, eval_other, eval_same, put_size, hsz, run_field]
  refine pick_op (i := 2) (op := .load 3 (.tmp 14)) (d := 15) (v := .int .i64 k) (L' := upto 11 3) by5_sel ⟨_, rfl, rfl, rfl, rfl⟩ (fun o h => by simp [readsOnly, h]) hc2 hS (by kernel_rfl) (by kernel_rfl) (by kernel_rfl) (fun o w' h hw => ?_) fun hc3 => ?_
  · simp [execOp, h, e3, e5, eval_other, eval_same, put_size, hsz, run_load_int hw.1 rfl]
  refine pick_op (i := 3) (op := .move (.tmp 3)) (d := 16) (v := .map (some bm)) (L' := upto 11 4) by5_sel ⟨_, rfl, rfl, rfl, rfl⟩ (fun o h => by simp [readsOnly, h]) hc3 hS (by kernel_rfl) (by kernel_rfl) (by kernel_rfl) (fun o w' h hw => ?_) fun hc4 => ?_
  · simp [execOp, h, e3, e5, eval_other, eval_same, put_size, hsz]
  refine pick_op (i := 4) (op := .fieldAddr 40 (.tmp 5) 0) (d := 17) (v := .pointer (some ⟨t5, 0, none⟩)) (L' := upto 11 5) by5_sel ⟨_, rfl, rfl, rfl, rfl⟩ (fun o h => by simp [readsOnly, h]) hc4 hS (by kernel_rfl) (by kernel_rfl) (by kernel_rfl) (fun o w' h hw => ?_) fun hc5 => ?_
  · simp [execOp, h, e3, e5, eval_other, eval_same, put_size, hsz, run_field]
  refine pick_op (i := 5) (op := .load 3 (.tmp 17)) (d := 18) (v := .int .i64 k) (L' := upto 11 6) by5_sel ⟨_, rfl, rfl, rfl, rfl⟩ (fun o h => by simp [readsOnly, h]) hc5 hS (by kernel_rfl) (by kernel_rfl) (by kernel_rfl) (fun o w' h hw => ?_) fun hc6 => ?_
  · simp [execOp, h, e3, e5, eval_other, eval_same, put_size, hsz, run_load_int hw.1 rfl]
  refine pick_op (i := 6) (op := .lookup 115 (.tmp 16) (.tmp 18) false) (d := 19) (v := valAt G k (.slice none 0 0)) (L' := upto 11 7) by5_sel ⟨_, rfl, rfl, rfl, rfl⟩ (fun o h => by simp [readsOnly, h]) hc6 hS (by kernel_rfl) (by kernel_rfl) (by kernel_rfl) (fun o w' h hw => ?_) fun hc7 => ?_
  · simp [execOp, h, e3, e5, eval_other, eval_same, put_size, hsz, hw.2.look Try.underlying115 Try.underlying3 hG hk (zero_sams w')]
  refine pick_op (i := 7) (op := .load 40 (.tmp 5)) (d := 20) (v := .agg (sam k ti x)) (L' := upto 11 8) by5_sel ⟨_, rfl, rfl, rfl, rfl⟩ (fun o h => by simp [readsOnly, h]) hc7 hS (by kernel_rfl) (by kernel_rfl) (by kernel_rfl) (fun o w' h hw => ?_) fun hc8 => ?_
  · simp [execOp, h, e3, e5, eval_other, eval_same, put_size, hsz, run_load_sam hw.1]
  refine pick_one (i := 8) (op := .buildSlice 38 1 #[(0, .tmp 20)]) (d := some 21) (v := .slice (some ⟨w.heap.size, 0, none⟩) 1 1) (w' := w.alloc (.cells (sam k ti x) 40)) (L' := upto 11 9) ⟨_, rfl, rfl, rfl, rfl⟩ hc8 (by kernel_rfl) (by kernel_rfl) (fun o h => ?_) (fun _ => ⟨hb.alloc _, hm.kept (heap_alloc_old w _ hm.lt)⟩) fun hc9 => ?_
  · simp [execOp, h, eval_other, eval_same, put_size, hsz]
    rw [run_build_sam]
    rfl
  obtain ⟨o9, ho9, op9, d9, g9⟩ : ∃ o, by5[9]? = some o ∧ o.op = .call { callee := .builtin .append, args := #[.tmp 19, .tmp 21], argTypes := #[38, 38] } ∧ o.dst = some 22 ∧ o.guard = none := ⟨_, rfl, rfl, rfl, rfl⟩
  obtain ⟨it, z, i1, i2, i3, i4, i5⟩ := info_sam
  obtain ⟨v', w2, hrun, hown, hg, hnil, hloc⟩ := run_append_own_at (P := Try.prog) (w.alloc (.cells (sam k ti x) 40)) B 38 o9.type 40 it z 3 24 Try.underlying38 i1 i2 i3 i4 i5 (by omega) (valAt G k (.slice none 0 0)) n us (hv.alloc _) ⟨w.heap.size, 0, none⟩ 1 1 (sam k ti x).toList rfl (fun j u hj => by
    have := (Blk.new w 40 (sam k ti x)).cell j (v := u) (by simpa using hj)
    rw [show (⟨w.heap.size, 0, none⟩ : Addr).add j = ⟨w.heap.size, j, none⟩ from by unfold Addr.add; split <;> simp_all]
    exact this) (fun u hu => by simp [sam] at hu; rcases hu with rfl | rfl | rfl <;> rfl) (by simp only [maxLen]; omega) (by omega) (by show B ≤ (w.heap.push _).size; simp; omega)
  have hb2 : Blk w2 t5 40 (sam k ti x) := by
    refine (hg.block t5 (show t5 < (w.heap.push _).size by simp; have := hb.lt; omega) fun e => ?_).trans (hb.alloc _)
    exact (hne t5 e.symm).2 rfl
  have hm2 : MapAt w2 bm G := by
    refine (hm.kept (heap_alloc_old w _ hm.lt)).kept (hg.block bm (show bm < (w.heap.push _).size by simp; have := hm.lt; omega) fun e => ?_)
    exact (hne bm e.symm).1 rfl
  refine pick_only (i := 9) (L' := upto 11 10) (w' := w2) (v := v') ho9 g9 hc9 (by kernel_rfl) (by kernel_rfl) ?_ (fun _ => ⟨hb2, hm2⟩) fun hc10 => ?_
  · unfold execOp
    rw [op9]
    simp [resolve, invoke, builtin, eval_other, eval_same, put_size, hsz, hrun]
  rw [d9]
  obtain ⟨ob, hst, hm3, hoth⟩ := hm2.store Try.underlying115 Try.underlying3 hG hroom hk v'
  refine pick_skip (i := 10) (op := .mapUpdate 115 (.tmp 13) (.tmp 15) (.tmp 22)) (w' := setBlock w2 bm ob) (L' := upto 11 11) ⟨_, rfl, rfl, rfl, rfl⟩ hc10 (by kernel_rfl) (by kernel_rfl) (fun o h => ?_) (fun h => ?_) fun hc11 => ⟨by kernel_rfl, rfl, ?_⟩
  · simp [execOp, h, eval_other, eval_same, put_size, hsz]
    rw [hst]
    rfl
  · have := h (by kernel_rfl)
    exact absurd this (by decide +kernel)
  · have hnn : v' ≠ .slice none 0 0 := fun e => by have := (hnil.1 e).2; omega
    have := hQ [.map (some bm), .pointer (some ⟨t5, 0, none⟩), .int .i64 k, .map (some bm), .pointer (some ⟨t5, 0, none⟩), .int .i64 k, valAt G k (.slice none 0 0), .agg (sam k ti x), .slice (some ⟨w.heap.size, 0, none⟩) 1 1, v'] v' _ w2 ob rfl ⟨below_alloc w _, by show (w.heap.push _).size = _; simp⟩ hg hown hnn hloc hm3 hoth
    exact this
end Go.Proofs.Ytlbgcjpkegpmlaa
