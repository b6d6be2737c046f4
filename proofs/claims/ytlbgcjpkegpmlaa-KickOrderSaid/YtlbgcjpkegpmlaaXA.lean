/- The chapter's examples, for the table. -/
import Derived.Test.YtlbgcjpkegpmlaaXS
import Derived.Test.YtlbgcjpkegpmlaaH
namespace Go.Proofs.Ytlbgcjpkegpmlaa
open Go.RowKit
theorem awake_ok : tab.ok 19 := by
  refine Tab.of_ct rfl rfl ⟨_, Try.func19, by decide, rfl⟩ ?_ ctF_det
  intro Base w vs cs hB hr _
  match vs, hr with
  | [], hr =>
    refine (awake_any w).mono ?_
    rintro e w' ⟨rfl, hb⟩
    have hv : vecB (kindsOf ctAwake.res) [C.b true] = [] := rfl
    refine ⟨_, [.b true], [], rfl, ⟨[.bool true], rfl, ?_, by rw [hv]; exact List.nodup_nil, fun b hb => (by rw [hv] at hb; cases hb)⟩, rfl, rfl, Keeps.of_below hb fun i hi => hi.1⟩
    exact ⟨[.b true], [], rfl, ⟨.b true, rfl, fun n => (by cases n <;> trivial), true, rfl, rfl⟩, rfl⟩
end Go.Proofs.Ytlbgcjpkegpmlaa
