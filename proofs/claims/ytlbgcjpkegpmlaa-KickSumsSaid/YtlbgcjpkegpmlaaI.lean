/- The arguments made of numbers: KickOf, SensorOf, KicksOf. -/
import Derived.Test.YtlbgcjpkegpmlaaR
import Derived.Test.YtlbgcjpkegpmlaaS
import Derived.Test.YtlbgcjpkegpmlaaA
namespace Go.Proofs.Ytlbgcjpkegpmlaa
open Go.RowKit

def KickOfP (w : World) (b k : Nat) (e : Ending) (w' : World) : Prop :=
  ∃ r g : Int, 0 ≤ r ∧ r ≤ 9998 ∧ 0 ≤ g ∧ g ≤ 299 ∧ e = .returned (kickV r g) ∧ RingAt w' b (k + 4) ∧ w.grownBy w' (some b)

set_option maxRecDepth 100000 in
theorem kickOf_any (b k : Nat) (w : World) (h : RingAt w b k) (hk : k ≤ 900000000) :
    Calls Try.prog 20 #[.pointer (some ⟨b, 0, none⟩)] w (KickOfP w b k) := by
  have hbw := h.lt
  go_enter Try.func20, Try.ntmps20
  go_wp2_with fail
  refine (next_any b k 3 _ (h.alloc _) (by omega) (by omega) (by omega)).mono ?_
  rintro e w1 ⟨m1, a1, b1, rfl, hr1, g1⟩
  have B := (Blk.new w 31 #[.int .i64 0, .int .i64 0]).grown g1 (by omega)
  have G := gstep (galloc (grefl w b)) g1
  clear g1
  go_wp2_with fail
  refine (next_any b (k + 1) 5000 _ hr1 (by omega) (by omega) (by omega)).mono ?_
  rintro e w2 ⟨m2, a2, b2, rfl, hr2, g2⟩
  have B := B.grown g2 (by omega)
  have G := gstep G g2
  clear g2 hr1
  obtain ⟨p1, p2⟩ := mul_bd a1 (by omega : m1 ≤ 2) a2 (by omega : m2 ≤ 4999)
  go_wp2_with fail
  refine (next_any b (k + 2) 2 _ hr2 (by omega) (by omega) (by omega)).mono ?_
  rintro e w3 ⟨m3, a3, b3, rfl, hr3, g3⟩
  have B := B.grown g3 (by omega)
  have G := gstep G g3
  clear g3 hr2
  go_wp2_with fail
  refine (next_any b (k + 3) 300 _ hr3 (by omega) (by omega) (by omega)).mono ?_
  rintro e w4 ⟨m4, a4, b4, rfl, hr4, g4⟩
  have B := B.grown g4 (by omega)
  have G := gstep G g4
  clear g4 hr3
  obtain ⟨p3, p4⟩ := mul_bd a3 (by omega : m3 ≤ 1) a4 (by omega : m4 ≤ 299)
  have c0 := B.cell 0 rfl
  have c1 := B.cell 1 rfl
  have f0 := B.froz 0
  have f1 := B.froz 1
  go_wp2_with fail
  refine bodyPost_ret (v := kickV (m1 * m2) (m3 * m4)) (by simp [results, Try.results20, go_sem, cell_put_same, c0, c1]) rfl ?_
  exact ⟨m1 * m2, m3 * m4, p1, by omega, p3, by omega, rfl, (hr4.far (by simp; omega) _).far (by simp; omega) _, gset (gset G (by simp)) (by simp)⟩
end Go.Proofs.Ytlbgcjpkegpmlaa
