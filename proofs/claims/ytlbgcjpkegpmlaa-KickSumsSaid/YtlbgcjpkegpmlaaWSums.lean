/- The walk of KickSums: the gain of a kick is the sum of its flows. -/
import Derived.Test.YtlbgcjpkegpmlaaH
import Derived.Test.YtlbgcjpkegpmlaaI
import Derived.Deep.RegionHeld3
namespace Go.Proofs.Ytlbgcjpkegpmlaa
open Go.RowKit

theorem gain_step (r g : Int) (hk : KickOK r g) (n : Nat) (hn : n < 20000) : gainF r g (n + 1) = gainF r g n + flowF r g n := by
  have h1 : (n : Int) + 1 ≤ 20000 := by omega
  have h2 : (n : Int) ≤ 20000 := by omega
  simp only [gainF, flowF, gainAt, flowAt, hk, h1, h2, true_and, if_true, show ¬ ((n : Int) + 1 < 0) by omega, show ¬ ((n : Int) < 0) by omega, if_false]
  have e : ((n : Int) + 1) * ((n : Int) + 1 - 1) = n * (n - 1) + n * 2 := by
    rw [Int.add_sub_cancel, Int.add_mul, Int.mul_sub, Int.mul_comm (n : Int) 2]; omega
  rw [e, Int.add_mul_ediv_right _ _ (by omega), Int.mul_add, Int.add_mul, Int.mul_comm g (n : Int)]
  omega

theorem keepKick {w w' : World} {b : Nat} {r g : Int} (h : w.cell? ⟨b, 0, none⟩ = some (.int .i64 r) ∧ w.cell? ⟨b, 1, none⟩ = some (.int .i64 g) ∧ b < w.heap.size) (hb : Below w.heap.size w w') :
    w'.cell? ⟨b, 0, none⟩ = some (.int .i64 r) ∧ w'.cell? ⟨b, 1, none⟩ = some (.int .i64 g) ∧ b < w'.heap.size :=
  ⟨(hb.cell (p := ⟨b, 0, none⟩) h.2.2).trans h.1, (hb.cell (p := ⟨b, 1, none⟩) h.2.2).trans h.2.1, Nat.lt_of_lt_of_le h.2.2 hb.size⟩

set_option maxRecDepth 100000 in
theorem walk_KickSums (A : Option Addr) (n c : Nat) (ticks : Int) (w : World) (hN : NumsAt w w.heap.size A n) (hb : -9223372036854775808 ≤ ticks ∧ ticks ≤ 9223372036854775807) :
    Calls Try.prog 4 #[.slice A n c, .int .i64 ticks] w fun e w' => e = .returned (.bool true) ∧ Below w.heap.size w w' := by
  obtain ⟨t1, t2⟩ := hb
  have HN := Lib.hid hN
  clear hN
  go_enter Try.func4, Try.ntmps4
  go_wp2_with fail
  refine (newRing_any A n c _ HN.out).mono ?_
  rintro e w1 ⟨rfl, hr1, hb1, hz1⟩
  go_wp2_with fail
  refine (kickOf_any _ 0 _ hr1 (by omega)).mono ?_
  rintro e w2 ⟨r, g, hr0, hr2, hg0, hg2, rfl, hr3, hg⟩
  have hk : KickOK r g := ⟨hr0, by omega, hg0, by omega⟩
  have hbw : Below w.heap.size w w2 := bgrown hb1 hg (by omega)
  clear hr3 hr1 hb1 hz1 hg
  go_wp2_with fail
  have B := Blk.new w2 31 #[.int .i64 r, .int .i64 g]
  have hbw := balloc (o := .cells #[.int .i64 r, .int .i64 g] 31) hbw
  have hT0 : 0 ≤ ticks % 201 := Int.emod_nonneg _ (by omega)
  have hT1 : ticks % 201 < 201 := Int.emod_lt_of_pos _ (by omega)
  generalize hT : ticks % 201 = T at *
  have HT := Lib.hid hT
  have HK := Lib.hid hk
  clear hT hk
  go_loopg [6, 7] 202 (fun k v6 v7 wx => ∃ j : Nat, k + j = 202 ∧ (j : Int) ≤ T + 1 ∧ v7 = .int .i64 j ∧ v6 = .int .i64 (gainF r g j) ∧ Blk wx w2.heap.size 31 #[.int .i64 r, .int .i64 g] ∧ Below w.heap.size w wx)
  case atStart =>
    refine ⟨0, rfl, by omega, rfl, ?_, B, hbw⟩
    have : gainF r g 0 = 0 := by simp [gainF, gainAt]
    rw [show ((0 : Nat) : Int) = 0 from rfl, this]
  case round =>
    clear B hbw
    obtain ⟨j, hkj, hjT, rfl, rfl, B, hbw⟩ := hrel
    have c0 := B.cell 0 rfl
    have c1 := B.cell 1 rfl
    have hz := B.lt
    by_cases hj : (j : Int) ≤ T
    · have hf : ¬ (flowF r g j < flowF r g 0) := by
        have h2 : (j : Int) ≤ 20000 := by omega
        have := mul_bd (by omega : (0 : Int) ≤ j) h2 hg0 hg2
        simp only [flowF, flowAt, HK.out, h2, show (0 : Int) ≤ 20000 by omega, true_and, if_true, show ¬ ((j : Int) < 0) by omega, show ¬ ((0 : Int) < 0) by omega, if_false]
        omega
      have hs := gain_step r g HK.out j (by omega)
      have hgb : 0 ≤ gainF r g j ∧ gainF r g j ≤ 1154744320000 := by
        unfold gainF
        split
        · exact gain_bd HK.out (by omega)
        · omega
      have hfb : 0 ≤ flowF r g j ∧ flowF r g j ≤ 98697216 := by
        unfold flowF
        split
        · exact flow_bd HK.out (by omega)
        · omega
      obtain ⟨gb1, gb2⟩ := hgb
      obtain ⟨fb1, fb2⟩ := hfb
      have HS := Lib.hid hs
      clear hs
      go_wp2_with fail
      refine (mod64_any ticks 201 _ (by omega) (by omega) t1 t2).mono ?_
      rw [HT.out]
      rintro e wm ⟨rfl, rfl⟩
      go_wp2_with fail
      go_region_held3 (fun w' => w'.cell? ⟨w2.heap.size, 0, none⟩ = some (.int .i64 r) ∧ w'.cell? ⟨w2.heap.size, 1, none⟩ = some (.int .i64 g) ∧ w2.heap.size < w'.heap.size) (first | exact ⟨c0, c1, hz⟩ | (refine keepKick ?_ (by assumption); assumption)) (first | (go_at_call 23; (with_reducible refine (Gain_any r g _ _).mono ?_); rintro e w3 ⟨rfl, hb⟩) | (go_at_call 24; (with_reducible refine (Flow_any r g _ _).mono ?_); rintro e w3 ⟨rfl, hb⟩))
      have hbb : Below wr.heap.size wr w3 := by
        repeat' (first | with_reducible exact Below.refl _ _ | with_reducible refine bstep ?_ (by with_reducible assumption) | with_reducible refine balloc ?_ | with_reducible refine bdrew ?_ | with_reducible refine bdrewN ?_ _ | with_reducible refine bset ?_ (by go_size))
      have B' := B.below hbb
      have c0' := B'.cell 0 rfl
      have c1' := B'.cell 1 rfl
      have hbx := bstep hbw hbb
      clear hbw hbb B c0 c1
      go_wp2_with fail
      refine (Flow_any r g _ _).mono ?_
      rintro e w4 ⟨rfl, hb4⟩
      go_wp2_with fail
      obtain ⟨k, rfl⟩ : ∃ k, gk = k + 1 := ⟨gk - 1, by omega⟩
      go_roundg k
      case measure => omega
      case rel => exact ⟨j + 1, by omega, by omega, by go_num, by rw [show ((j + 1 : Nat) : Int) = (j : Int) + 1 from by omega, HS.out], B'.below hb4, bstep hbx hb4⟩
    · have hj2 : ¬ ((j : Int) ≤ T) := hj
      go_wp2_with fail
      refine (mod64_any ticks 201 _ (by omega) (by omega) t1 t2).mono ?_
      rw [HT.out]
      rintro e wm ⟨rfl, rfl⟩
      go_wp2_with fail
      refine (awake_any _).mono ?_
      rintro e w4 ⟨rfl, hb4⟩
      go_wp2_with fail
      go_ret
      exact ⟨rfl, bstep hbw hb4⟩
end Go.Proofs.Ytlbgcjpkegpmlaa
