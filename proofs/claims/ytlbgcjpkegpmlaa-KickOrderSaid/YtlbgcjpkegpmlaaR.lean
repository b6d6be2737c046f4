/- The ring of numbers: moonpoolkit.Mod, Mod64, NewRing, (*Ring).Next. -/
import Derived.Test.YtlbgcjpkegpmlaaProg
import Derived.Test.YtlbgcjpkegpmlaaM
import Derived.WalkKit
import Derived.WalkLawsBesides
import Derived.Lib.Hide
import Derived.Deep.QuietTactic
import Derived.BigQuiet
import Derived.Handy
namespace Go.Proofs.Ytlbgcjpkegpmlaa
open Go.RowKit

theorem tmod_neg (n m : Int) (hm : 1 ≤ m) (hn : n < 0) : -m < n.tmod m ∧ n.tmod m ≤ 0 ∧ n % m = if n.tmod m < 0 then n.tmod m + m else n.tmod m := by
  have h1 := Int.emod_nonneg n (show m ≠ 0 by omega)
  have h2 := Int.emod_lt_of_pos n (show 0 < m by omega)
  rw [Int.tmod_eq_emod]
  by_cases hd : m ∣ n
  · have h0 : n % m = 0 := Int.emod_eq_zero_of_dvd hd
    simp [hd, h0]
    omega
  · have h0 : n % m ≠ 0 := fun e => hd (Int.dvd_of_emod_eq_zero e)
    have h3 : ¬ (0 ≤ n ∨ m ∣ n) := by
      rintro (h | h)
      · omega
      · exact hd h
    rw [if_neg h3]
    split <;> omega

/-- the remainder from 0 to m - 1 -/
theorem mod_any (n m : Int) (w : World) (h : 1 ≤ m) (hm : m ≤ 4611686018427387904) (n1 : -9223372036854775808 ≤ n) (n2 : n ≤ 9223372036854775807) :
    Calls Try.prog 28 #[.int .i64 n, .int .i64 m] w fun e w' => e = .returned (.int .i64 (n % m)) ∧ w = w' := by
  have hm0 : ¬ m = 0 := by omega
  have hmb : (m == 0) = false := by simpa using hm0
  have he := Int.emod_nonneg n hm0
  by_cases hn : 0 ≤ n
  · go_enter Try.func28, Try.ntmps28
    go_wp2
    go_ret
    exact ⟨rfl, rfl⟩
  · obtain ⟨t1, t2, t3⟩ := tmod_neg n m h (by omega)
    have T := Lib.hid t3
    clear t3
    by_cases ht : n.tmod m < 0
    · go_enter Try.func28, Try.ntmps28
      go_wp2
      go_ret
      refine ⟨ret_int ?_, rfl⟩
      rw [T.out, if_pos ht]
    · go_enter Try.func28, Try.ntmps28
      go_wp2
      go_ret
      refine ⟨ret_int ?_, rfl⟩
      rw [T.out, if_neg (by omega)]
theorem mod64_any (n m : Int) (w : World) (h : 1 ≤ m) (hm : m ≤ 4611686018427387904) (n1 : -9223372036854775808 ≤ n) (n2 : n ≤ 9223372036854775807) :
    Calls Try.prog 22 #[.int .i64 n, .int .i64 m] w fun e w' => e = .returned (.int .i64 (n % m)) ∧ w = w' := by
  have hm0 : ¬ m = 0 := by omega
  have hmb : (m == 0) = false := by simpa using hm0
  have he := Int.emod_nonneg n hm0
  by_cases hn : 0 ≤ n
  · go_enter Try.func22, Try.ntmps22
    go_wp2
    go_ret
    exact ⟨rfl, rfl⟩
  · obtain ⟨t1, t2, t3⟩ := tmod_neg n m h (by omega)
    have T := Lib.hid t3
    clear t3
    by_cases ht : n.tmod m < 0
    · go_enter Try.func22, Try.ntmps22
      go_wp2
      go_ret
      refine ⟨ret_int ?_, rfl⟩
      rw [T.out, if_pos ht]
    · go_enter Try.func22, Try.ntmps22
      go_wp2
      go_ret
      refine ⟨ret_int ?_, rfl⟩
      rw [T.out, if_neg (by omega)]

/-- The ring's numbers: a slice that reads, in blocks below block b. -/
def NumsAt (w : World) (b : Nat) (A : Option Addr) (n : Nat) : Prop :=
  n ≤ 9223372036854775807 ∧ (0 < n → ∃ d o, A = some ⟨d, o, none⟩ ∧ d < b ∧ ∀ i, i < n → ∃ x : Int, w.cell? ⟨d, o + i, none⟩ = some (.int .i64 x) ∧ -9223372036854775808 ≤ x ∧ x ≤ 9223372036854775807)
/-- Block b is a ring that has handed out at most k numbers. -/
def RingAt (w : World) (b k : Nat) : Prop :=
  ∃ (A : Option Addr) (n c i : Nat), Blk w b 99 #[.slice A n c, .int .i64 i] ∧ i ≤ k ∧ NumsAt w b A n
theorem NumsAt.keep {w w' : World} {b n : Nat} {A : Option Addr} (h : NumsAt w b A n) (hk : ∀ p : Addr, p.block < b → w'.cell? p = w.cell? p) : NumsAt w' b A n := by
  obtain ⟨h1, h2⟩ := h
  refine ⟨h1, fun hn => ?_⟩
  obtain ⟨d, o, hA, hd, hx⟩ := h2 hn
  refine ⟨d, o, hA, hd, fun i hi => ?_⟩
  obtain ⟨x, hc, hb⟩ := hx i hi
  exact ⟨x, (hk _ hd).trans hc, hb⟩
theorem RingAt.lt {w : World} {b k : Nat} (h : RingAt w b k) : b < w.heap.size := by
  obtain ⟨A, n, c, i, hb, -⟩ := h
  exact hb.lt
theorem RingAt.below {w w' : World} {b k : Nat} (h : RingAt w b k) (hb : Below w.heap.size w w') : RingAt w' b k := by
  obtain ⟨A, n, c, i, h1, h2, h3⟩ := h
  exact ⟨A, n, c, i, h1.below hb, h2, h3.keep fun p hp => hb.cell (by have := h1.lt; omega)⟩
theorem RingAt.alloc {w : World} {b k : Nat} (h : RingAt w b k) (o : Obj) : RingAt (w.alloc o) b k := h.below (balloc (Below.refl _ _))
theorem RingAt.drewN {w : World} {b k : Nat} (h : RingAt w b k) (n : Nat) : RingAt (w.drewN n) b k := h
theorem RingAt.far {w : World} {b k : Nat} (h : RingAt w b k) {p : Addr} (hp : b < p.block) (u : Value) : RingAt (w.setCell p u) b k := by
  obtain ⟨A, n, c, i, h1, h2, h3⟩ := h
  exact ⟨A, n, c, i, h1.far (by omega) _, h2, h3.keep fun q hq => World.cell?_setCell_other w p q u (fun e => by subst e; omega)⟩
theorem RingAt.more {w : World} {b k k' : Nat} (h : RingAt w b k) (hk : k ≤ k') : RingAt w b k' := by
  obtain ⟨A, n, c, i, h1, h2, h3⟩ := h
  exact ⟨A, n, c, i, h1, by omega, h3⟩

theorem RingAt.grown {w w' : World} {b k c : Nat} (h : RingAt w b k) (hg : w.grownBy w' (some c)) (hc : b < c) : RingAt w' b k := by
  obtain ⟨A, n, d, i, h1, h2, h3⟩ := h
  exact ⟨A, n, d, i, (hg.block b h1.lt (by simp; omega)).trans h1, h2, h3.keep fun p hp => World.cell?_of_block (hg.block p.block (by have := h1.lt; omega) (by simp; omega))⟩
theorem Blk.grown {w w' : World} {b c : Nat} {t : TypeId} {cs : Array Value} (h : Blk w b t cs) (hg : w.grownBy w' (some c)) (hc : b ≠ c) : Blk w' b t cs := (hg.block b h.lt (by simp; omega)).trans h
theorem grefl (w : World) (b : Nat) : w.grownBy w (some b) := ⟨rfl, rfl, rfl, Nat.le_refl _, fun _ _ _ => rfl⟩
theorem gstep {w w1 w2 : World} {b : Nat} (h : w.grownBy w1 (some b)) (k : w1.grownBy w2 (some b)) : w.grownBy w2 (some b) :=
  ⟨k.os.trans h.os, k.tape.trans h.tape, k.output.trans h.output, Nat.le_trans h.size k.size, fun i hi hne => (k.block i (Nat.lt_of_lt_of_le hi h.size) hne).trans (h.block i hi hne)⟩
theorem gbelow {w w1 w2 : World} {b : Nat} (h : w.grownBy w1 (some b)) (k : Below w1.heap.size w1 w2) : w.grownBy w2 (some b) :=
  ⟨k.os.trans h.os, k.tape.trans h.tape, k.output.trans h.output, Nat.le_trans h.size k.size, fun i hi hne => (k.block i (Nat.lt_of_lt_of_le hi h.size)).trans (h.block i hi hne)⟩
theorem galloc {w w1 : World} {b : Nat} {o : Obj} (h : w.grownBy w1 (some b)) : w.grownBy (w1.alloc o) (some b) := gbelow h (balloc (Below.refl _ _))
theorem gdrew {w w1 : World} {b : Nat} (h : w.grownBy w1 (some b)) : w.grownBy w1.drew (some b) := gbelow h (bdrew (Below.refl _ _))
theorem gdrewN {w w1 : World} {b : Nat} (h : w.grownBy w1 (some b)) (n : Nat) : w.grownBy (w1.drewN n) (some b) := gbelow h (bdrewN (Below.refl _ _) n)
theorem gset {w w1 : World} {b : Nat} {p : Addr} {u : Value} (h : w.grownBy w1 (some b)) (hp : w.heap.size ≤ p.block) : w.grownBy (w1.setCell p u) (some b) :=
  ⟨h.os, h.tape, h.output, by simpa using h.size, fun i hi hne => (Below.heap_setCell _ _ _ _ (by omega)).trans (h.block i hi hne)⟩
theorem bgrown {w w1 w2 : World} {b : Nat} (h : Below w.heap.size w w1) (k : w1.grownBy w2 (some b)) (hb : w.heap.size ≤ b) : Below w.heap.size w w2 :=
  h.trans ⟨k.os, k.tape, k.output, k.size, fun i hi => k.block i (Nat.lt_of_lt_of_le hi h.size) (by simp; omega)⟩

theorem newRing_any (A : Option Addr) (n c : Nat) (w : World) (h : NumsAt w w.heap.size A n) :
    Calls Try.prog 21 #[.slice A n c] w fun e w' => e = .returned (.pointer (some ⟨w.heap.size, 0, none⟩)) ∧ RingAt w' w.heap.size 0 ∧ Below w.heap.size w w' ∧ w.heap.size < w'.heap.size := by
  have H := Lib.hid h
  clear h
  go_enter Try.func21, Try.ntmps21
  go_wp2
  go_ret
  refine ⟨rfl, ⟨A, n, c, 0, Blk.new _ _ _, Nat.le_refl _, H.out.keep fun p hp => World.cell?_alloc_lt w _ p hp⟩, balloc (Below.refl _ _), by simp⟩

theorem quiet_left {P : Program} {f : FuncId} {args : Array Value} {w : World} {n : Nat} {v : Value}
    (h : Calls P f args (w.drewN n) fun e w' => e = .returned v ∧ w.drewN n = w') : Calls P f args (w.drewN n) fun e w'' => e = .returned v ∧ ∃ m, w'' = w.drewN m :=
  h.mono fun _ _ ⟨he, hm⟩ => ⟨he, n, hm.symm⟩
/-- what Next does: a number below n; the ring alone has turned. -/
def NextP (w : World) (b k : Nat) (n : Int) (e : Ending) (w' : World) : Prop :=
  ∃ m : Int, 0 ≤ m ∧ m < n ∧ e = .returned (.int .i64 m) ∧ RingAt w' b (k + 1) ∧ w.grownBy w' (some b)

set_option maxRecDepth 100000 in
theorem next_any (b k : Nat) (n : Int) (w : World) (h : RingAt w b k) (hk : k ≤ 1000000000) (hn : 1 ≤ n) (hn2 : n ≤ 4611686018427387904) :
    Calls Try.prog 26 #[.pointer (some ⟨b, 0, none⟩), .int .i64 n] w (NextP w b k n) := by
  obtain ⟨A, l, c, i, hB, hi, hl, hx⟩ := h
  have c0 := hB.cell 0 rfl
  have c1 := hB.cell 1 rfl
  have g1 := hB.froz 1
  have hring : RingAt (w.setCell ⟨b, 1, none⟩ (.int .i64 ((i + 1 : Nat) : Int))) b (k + 1) :=
    ⟨A, l, c, i + 1, by simpa using hB.put 1 (.int .i64 ((i + 1 : Nat) : Int)), by omega, (show NumsAt w b A l from ⟨hl, hx⟩).keep fun q hq => World.cell?_setCell_other w _ q _ (fun e => by subst e; simp at hq)⟩
  have hgrow : w.grownBy (w.setCell ⟨b, 1, none⟩ (.int .i64 ((i + 1 : Nat) : Int))) (some b) := ⟨rfl, rfl, rfl, by simp, fun j hj hne => Below.heap_setCell _ _ _ _ (fun e => hne (by rw [e]))⟩
  have HR := Lib.hid hring
  have HG := Lib.hid hgrow
  clear hring hgrow
  have q0 : 0 ≤ ((i : Int) + 1) * 7919 % 10007 := Int.emod_nonneg _ (by omega)
  have q1 : ((i : Int) + 1) * 7919 % 10007 < 10007 := Int.emod_lt_of_pos _ (by omega)
  by_cases hl0 : l = 0
  · subst hl0
    have HX := Lib.hid hx
    clear hx
    go_enter Try.func26, Try.ntmps26
    go_wp2
    go_ret
    exact ⟨_, Int.emod_nonneg _ (by omega), Int.emod_lt_of_pos _ (by omega), rfl, HR.out, HG.out⟩
  · obtain ⟨d, o, rfl, hd, hx⟩ := hx (by omega)
    obtain ⟨j, hj⟩ : ∃ j : Nat, (i + 1) % l = j := ⟨_, rfl⟩
    obtain ⟨q, hq⟩ : ∃ q : Nat, (i + 1) / l = q := ⟨_, rfl⟩
    have hjl : j < l := by rw [← hj]; exact Nat.mod_lt _ (by omega)
    have hql : q ≤ i + 1 := by rw [← hq]; exact Nat.div_le_self _ _
    have ej : ((i : Int) + 1) % (l : Int) = (j : Int) := by rw [← hj]; simp
    have eq : ((i : Int) + 1) / (l : Int) = (q : Int) := by rw [← hq]; simp
    clear hj hq
    obtain ⟨x, hc, x1, x2⟩ := hx j hjl
    clear hx
    have hlp : (0 : Int) < (l : Int) := by omega
    have y0 : 0 ≤ x % 1048576 := Int.emod_nonneg _ (by omega)
    have y1 : x % 1048576 < 1048576 := Int.emod_lt_of_pos _ (by omega)
    obtain ⟨z, hz⟩ : ∃ z : Int, x % 1048576 / (1 + (q : Int)) = z := ⟨_, rfl⟩
    have z0 : 0 ≤ z := by rw [← hz]; exact Int.ediv_nonneg y0 (by omega)
    have z1 : z ≤ 1048576 := by rw [← hz]; exact Int.le_trans (Int.ediv_le_self _ y0) (by omega)
    have hj0 : (0 : Int) ≤ (j : Int) := by omega
    have hj1 : (j : Int) < (l : Int) := by omega
    have w1 : IntKind.i64.wrap (1 + (q : Int)) = 1 + (q : Int) := IntWalk.i64_in _ (by omega)
    have w2 : IntKind.i64.wrap (((i : Int) + 1) * 7919 % 10007 + z) = ((i : Int) + 1) * 7919 % 10007 + z := IntWalk.i64_in _ (by omega)
    have HE := Lib.hid (And.intro ej (And.intro eq (And.intro hz (And.intro w1 w2))))
    clear ej eq hz w1 w2
    go_enter Try.func26, Try.ntmps26
    go_wp2_with fail
    have d0 := (hB.put 1 (.int .i64 ((i : Int) + 1))).cell 0 rfl
    have d1 := (hB.put 1 (.int .i64 ((i : Int) + 1))).cell 1 rfl
    have d2 : (w.setCell ⟨b, 1, none⟩ (.int .i64 ((i : Int) + 1))).cell? ⟨d, o + j, none⟩ = some (.int .i64 x) := (World.cell?_setCell_other w _ _ _ (fun e => by injection e with e; omega)).trans hc
    have hW : w.setCell ⟨b, 1, none⟩ (.int .i64 ((i : Int) + 1)) = w.setCell ⟨b, 1, none⟩ (.int .i64 ((i + 1 : Nat) : Int)) := by simp
    have HR' := HR
    have HG' := HG
    rw [← hW] at HR' HG'
    clear HR HG hW
    generalize w.setCell ⟨b, 1, none⟩ (.int .i64 ((i : Int) + 1)) = W at *
    clear c0 c1 g1 hc hB hd hl
    have hm := fun n : Nat => mod_any x 1048576 (W.drewN n) (by omega) (by omega) x1 x2
    have HM := Lib.hid hm
    obtain ⟨ej, eq, hz, w1, w2⟩ := HE.out
    clear hm x1 x2
    go_quiet ((go_at_call 28; exact quiet_left (HM.out _)))
    clear ej eq hz w1 w2
    go_wp2
    go_ret
    have hg := HG'.out
    exact ⟨_, Int.emod_nonneg _ (by omega), Int.emod_lt_of_pos _ (by omega), rfl, HR'.out.drewN nq, ⟨hg.os, hg.tape, hg.output, hg.size, hg.block⟩⟩
end Go.Proofs.Ytlbgcjpkegpmlaa
