/- The law KickChecks: for every input the call returns true, and each argument reads afterwards as it read before. The frame is printed by frame.py. -/
import Derived.Test.YtlbgcjpkegpmlaaRows
import Derived.Test.YtlbgcjpkegpmlaaO
import Derived.Test.YtlbgcjpkegpmlaaWChecks
import Derived.ShutString
import Derived.ChangeOld
namespace Go.Proofs.Ytlbgcjpkegpmlaa.lawKickChecks
open Go.ChangeShapes Go.WideShapes Go.ChangeAt Go.RowKit
set_option linter.unusedVariables false

set_option maxRecDepth 100000 in
theorem lifted (os : Os) (started : os.Started) (H : Type) (enc : TypeId × Value → H) :
    ReturnsInHanded {} Try.checked os 8 .any (Rows.kickChecksSpec.pre6 enc Try.prog Try.f8 Rows.kickChecksRow.domain false) (Rows.kickChecksSpec.post enc Try.prog Try.f8 false true false false) := by
  refine returnsInHanded_of_change (C := Try.checked) own started (by kernel_rfl) Try.func8
    (ChangeSpec.witness6 (enc := enc) (C := Try.checked) false ⟨#[], #[.agg #[.int .i64 0, .int .i64 0], .agg #[.int .i64 0, .int .i64 0, .int .i64 0, .int .i64 0], .agg #[.int .i64 0, .int .i64 0, .int .i64 0, .int .i64 0, .int .i64 0, .int .i64 0, .int .i64 0, .int .i64 0], .slice none 0 0, .int .i64 0, .int .i64 0], []⟩ 8 (by kernel_rfl) (by kernel_rfl) (by kernel_rfl) (by kernel_rfl)) ?_
  intro W base args ds gs before hval0 hW hcnd _
  have hval : ∀ (j : Nat) t v, Try.f8.params[j]? = some t → args[j]? = some v → Value.okWide Try.prog W .any base t v := hval0
  have hW' := hW
  obtain ⟨p, q, hA0, hV, rfl, hfz, hnd⟩ := hW
  have hA : DataW.TrodAll enc Try.prog W 0 (fun _ => true) true Try.f8.params.toList args.toList ds p := hA0
  rw [Try.params8] at hA hval
  obtain ⟨v0, vs0, d0, ds0, p0, q0, hargs, rfl, rfl, h0, r0⟩ := trodAll_cons hA
  obtain ⟨v1, vs1, d1, ds1, p1, q1, rfl, rfl, rfl, h1, r1⟩ := trodAll_cons r0
  obtain ⟨v2, vs2, d2, ds2, p2, q2, rfl, rfl, rfl, h2, r2⟩ := trodAll_cons r1
  obtain ⟨v3, vs3, d3, ds3, p3, q3, rfl, rfl, rfl, h3, r3⟩ := trodAll_cons r2
  obtain ⟨v4, vs4, d4, ds4, p4, q4, rfl, rfl, rfl, h4, r4⟩ := trodAll_cons r3
  obtain ⟨v5, vs5, d5, ds5, p5, q5, rfl, rfl, rfl, h5, r5⟩ := trodAll_cons r4
  obtain ⟨rfl, rfl, rfl⟩ := trodAll_nil r5
  obtain rfl : args = #[v0, v1, v2, v3, v4, v5] := by cases args; simp_all
  obtain ⟨rfl, rfl⟩ := trodVars_none hV
  have k0 := h0
  have lt0 : ∀ x ∈ p0, x.block < W.heap.size := by obtain ⟨m, hm⟩ := k0; exact DataW.trod_lt m _ _ _ hm
  obtain ⟨ns0, e0, l0, b0⟩ := open_struct (k := 4) Try.underlying31 (by kernel_rfl) (hval 0 31 v0 rfl rfl) h0
  rw [show Try.prog.cellsOf 31 = 2 from by kernel_rfl] at l0
  obtain ⟨s0_0, s0_1, rfl⟩ := list_len2 l0
  simp only [List.map_cons, List.map_nil] at e0
  subst e0
  have k1 := h1
  have lt1 : ∀ x ∈ p1, x.block < W.heap.size := by obtain ⟨m, hm⟩ := k1; exact DataW.trod_lt m _ _ _ hm
  obtain ⟨ns1, e1, l1, b1⟩ := open_struct (k := 4) Try.underlying61 (by kernel_rfl) (hval 1 61 v1 rfl rfl) h1
  rw [show Try.prog.cellsOf 61 = 4 from by kernel_rfl] at l1
  obtain ⟨s1_0, s1_1, s1_2, s1_3, rfl⟩ := list_len4 l1
  simp only [List.map_cons, List.map_nil] at e1
  subst e1
  have k2 := h2
  have lt2 : ∀ x ∈ p2, x.block < W.heap.size := by obtain ⟨m, hm⟩ := k2; exact DataW.trod_lt m _ _ _ hm
  obtain ⟨ns2, e2, l2, b2⟩ := open_struct (k := 4) Try.underlying23 (by kernel_rfl) (hval 2 23 v2 rfl rfl) h2
  rw [show Try.prog.cellsOf 23 = 8 from by kernel_rfl] at l2
  obtain ⟨s2_0, s2_1, s2_2, s2_3, s2_4, s2_5, s2_6, s2_7, rfl⟩ := list_len8 l2
  simp only [List.map_cons, List.map_nil] at e2
  subst e2
  have k3 := h3
  have lt3 : ∀ x ∈ p3, x.block < W.heap.size := by obtain ⟨m, hm⟩ := k3; exact DataW.trod_lt m _ _ _ hm
  obtain ⟨A3, n3, c3, e3, b3⟩ := open_rows (W := W) (k := 4) Try.underlying62 (by kernel_rfl) (by rw [show Try.prog.cellsOf 23 = 8 from by kernel_rfl]; omega) (hval 3 62 v3 rfl rfl) h3
  rw [show Try.prog.cellsOf 23 = 8 from by kernel_rfl] at b3
  subst e3
  have k4 := h4
  have lt4 : ∀ x ∈ p4, x.block < W.heap.size := by obtain ⟨m, hm⟩ := k4; exact DataW.trod_lt m _ _ _ hm
  obtain ⟨a4, e4, -, -, wf4⟩ := open_int Try.underlying2 (hval 4 2 v4 rfl rfl) h4
  subst e4
  have b4 := wf_bd wf4
  have k5 := h5
  have lt5 : ∀ x ∈ p5, x.block < W.heap.size := by obtain ⟨m, hm⟩ := k5; exact DataW.trod_lt m _ _ _ hm
  obtain ⟨a5, e5, -, -, wf5⟩ := open_int Try.underlying2 (hval 5 2 v5 rfl rfl) h5
  subst e5
  have b5 := wf_bd wf5
  clear hA0 hval0
  refine (walk_KickChecks s0_0 s0_1 s1_0 s1_1 s1_2 s1_3 s2_0 s2_1 s2_2 s2_3 s2_4 s2_5 s2_6 s2_7 A3 n3 c3 a4 a5 W b0 b1 b2 b3 b4 b5).mono fun e W' ⟨he, bel⟩ => ?_
  subst he
  exact ⟨_, rfl, _, _, _, [], _, [], hW', trodAll_mk1 (shut_bool Try.underlying4 _), (trodAll_cons_mk (Below.trod laidOut (by kernel_rfl) (of_decide_eq_true (by kernel_rfl)) k0 bel lt0) (trodAll_cons_mk (Below.trod laidOut (by kernel_rfl) (of_decide_eq_true (by kernel_rfl)) k1 bel lt1) (trodAll_cons_mk (Below.trod laidOut (by kernel_rfl) (of_decide_eq_true (by kernel_rfl)) k2 bel lt2) (trodAll_cons_mk (Below.trod laidOut (by kernel_rfl) (of_decide_eq_true (by kernel_rfl)) k3 bel lt3) (trodAll_cons_mk (Below.trod laidOut (by kernel_rfl) (of_decide_eq_true (by kernel_rfl)) k4 bel lt4) (trodAll_cons_mk (Below.trod laidOut (by kernel_rfl) (of_decide_eq_true (by kernel_rfl)) k5 bel lt5) trodAll_mk0)))))), rfl, bel.frame _, fun h => by cases h⟩

theorem over : Rows.kickChecksRow.holds Try.pinned (OpenSpec.ofChange Rows.kickChecksSpec) :=
  OpenClaim.holds_of_wide 8 Try.f8 rfl rfl rfl rfl rfl rfl rfl ⟨rfl, rfl, rfl, rfl, rfl⟩ rfl rfl rfl rfl rfl (by kernel_rfl) Try.func8 (by kernel_rfl)
    (of_decide_eq_true (by kernel_rfl)) (by unfold Func.isWrapper; first | (rw [if_pos (by decide +kernel)]; kernel_rfl) | (rw [if_neg (by decide +kernel)]; exact ⟨rfl, rfl⟩))
    (fun os started H enc _ => lifted os started H enc)

theorem proved : Rows.KickChecksSaid := over
#print axioms proved
end Go.Proofs.Ytlbgcjpkegpmlaa.lawKickChecks
