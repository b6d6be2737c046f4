/- The law KickLates: for every input the call returns true, and each argument reads afterwards as it read before. The frame is printed by frame.py. -/
import Derived.Test.YtlbgcjpkegpmlaaLates8
import Derived.Deep.OwnRows
import Derived.KernelRfl
import Derived.Test.YtlbgcjpkegpmlaaRows
import Derived.ShutString
import Derived.ChangeOld
/- A block of n integers, told by a function. -/
namespace Go.Proofs.Ytlbgcjpkegpmlaa
open Go.RowKit

def fcells (n : Nat) (F : Nat → Int) : Array Value := ((List.range n).map fun j => Value.int .i64 (F j)).toArray
/-- Block b holds just the n integers F 0, F 1, .. -/
def FB (w : World) (b : Nat) (t : TypeId) (n : Nat) (F : Nat → Int) : Prop := Blk w b t (fcells n F)
section
variable {w w' : World} {b n : Nat} {t : TypeId} {F G : Nat → Int}
theorem FB.lt (h : FB w b t n F) : b < w.heap.size := Blk.lt h
theorem FB.cell (h : FB w b t n F) (i : Nat) (hi : i < n) : w.cell? ⟨b, i, none⟩ = some (.int .i64 (F i)) := Blk.cell h i (by simp [fcells, hi])
theorem FB.froz (h : FB w b t n F) (i : Nat) : w.frozen? ⟨b, i, none⟩ = false := Blk.froz h i
theorem fcells_congr (h : ∀ j, j < n → F j = G j) : fcells n F = fcells n G := by
  unfold fcells
  rw [List.map_congr_left (fun j hj => by rw [h j (by simpa using hj)])]
theorem FB.congr (h : FB w b t n F) (hg : ∀ j, j < n → F j = G j) : FB w b t n G := by
  unfold FB at h ⊢
  rwa [← fcells_congr hg]
theorem fcells_set (i : Nat) (x : Int) : (fcells n F).setIfInBounds i (.int .i64 x) = fcells n fun j => if j = i then x else F j := by
  apply Array.ext_getElem?
  intro j
  simp only [fcells, List.setIfInBounds_toArray, List.getElem?_toArray, List.getElem?_set, List.length_map, List.length_range, List.getElem?_map]
  by_cases hj : j < n
  · by_cases e : i = j
    · subst e; simp [hj]
    · have e' : ¬ j = i := fun h => e h.symm
      simp [hj, e, e']
  · by_cases e : i = j
    · subst e; simp [hj]
    · simp [hj, e]
theorem FB.put (h : FB w b t n F) (i : Nat) (x : Int) : FB (w.setCell ⟨b, i, none⟩ (.int .i64 x)) b t n fun j => if j = i then x else F j := by
  have := Blk.put h i (.int .i64 x)
  rw [fcells_set] at this
  exact this
theorem FB.far (h : FB w b t n F) {p : Addr} (hp : b ≠ p.block) (u : Value) : FB (w.setCell p u) b t n F := Blk.far h hp u
theorem FB.alloc (h : FB w b t n F) (o : Obj) : FB (w.alloc o) b t n F := Blk.alloc h o
theorem FB.below (h : FB w b t n F) (hb : Below w.heap.size w w') : FB w' b t n F := Blk.below h hb
end
theorem fcells9 (F : Nat → Int) : fcells 9 F = #[.int .i64 (F 0), .int .i64 (F 1), .int .i64 (F 2), .int .i64 (F 3), .int .i64 (F 4), .int .i64 (F 5), .int .i64 (F 6), .int .i64 (F 7), .int .i64 (F 8)] := by
  simp [fcells, List.range, List.range.loop]
theorem FB.new9 (w : World) (t : TypeId) (F : Nat → Int) : FB (w.alloc (.cells #[.int .i64 (F 0), .int .i64 (F 1), .int .i64 (F 2), .int .i64 (F 3), .int .i64 (F 4), .int .i64 (F 5), .int .i64 (F 6), .int .i64 (F 7), .int .i64 (F 8)] t)) w.heap.size t 9 F := by
  rw [← fcells9]; exact Blk.new w t _
theorem FB.cells9 {w : World} {b : Nat} {t : TypeId} {F : Nat → Int} (h : FB w b t 9 F) :
    w.cell? ⟨b, 0, none⟩ = some (.int .i64 (F 0)) ∧ w.cell? ⟨b, 1, none⟩ = some (.int .i64 (F 1)) ∧ w.cell? ⟨b, 2, none⟩ = some (.int .i64 (F 2)) ∧ w.cell? ⟨b, 3, none⟩ = some (.int .i64 (F 3)) ∧ w.cell? ⟨b, 4, none⟩ = some (.int .i64 (F 4)) ∧
    w.cell? ⟨b, 5, none⟩ = some (.int .i64 (F 5)) ∧ w.cell? ⟨b, 6, none⟩ = some (.int .i64 (F 6)) ∧ w.cell? ⟨b, 7, none⟩ = some (.int .i64 (F 7)) ∧ w.cell? ⟨b, 8, none⟩ = some (.int .i64 (F 8)) :=
  ⟨h.cell 0 (by omega), h.cell 1 (by omega), h.cell 2 (by omega), h.cell 3 (by omega), h.cell 4 (by omega), h.cell 5 (by omega), h.cell 6 (by omega), h.cell 7 (by omega), h.cell 8 (by omega)⟩
theorem FB.put9 {w : World} {b : Nat} {t : TypeId} {F G : Nat → Int} (h : FB w b t 9 F) :
    FB (((((((((w.setCell ⟨b, 0, none⟩ (.int .i64 (G 0))).setCell ⟨b, 1, none⟩ (.int .i64 (G 1))).setCell ⟨b, 2, none⟩ (.int .i64 (G 2))).setCell ⟨b, 3, none⟩ (.int .i64 (G 3))).setCell ⟨b, 4, none⟩ (.int .i64 (G 4))).setCell ⟨b, 5, none⟩ (.int .i64 (G 5))).setCell ⟨b, 6, none⟩ (.int .i64 (G 6))).setCell ⟨b, 7, none⟩ (.int .i64 (G 7))).setCell ⟨b, 8, none⟩ (.int .i64 (G 8))) b t 9 G :=
  (((((((((h.put 0 (G 0)).put 1 (G 1)).put 2 (G 2)).put 3 (G 3)).put 4 (G 4)).put 5 (G 5)).put 6 (G 6)).put 7 (G 7)).put 8 (G 8)).congr fun j hj => by
    have : j = 0 ∨ j = 1 ∨ j = 2 ∨ j = 3 ∨ j = 4 ∨ j = 5 ∨ j = 6 ∨ j = 7 ∨ j = 8 := by omega
    rcases this with rfl | rfl | rfl | rfl | rfl | rfl | rfl | rfl | rfl <;> simp
theorem Blk.far9 {w : World} {b c : Nat} {t : TypeId} {cs : Array Value} {x0 x1 x2 x3 x4 x5 x6 x7 x8 : Value} (h : Blk w b t cs) (hc : b ≠ c) :
    Blk (((((((((w.setCell ⟨c, 0, none⟩ x0).setCell ⟨c, 1, none⟩ x1).setCell ⟨c, 2, none⟩ x2).setCell ⟨c, 3, none⟩ x3).setCell ⟨c, 4, none⟩ x4).setCell ⟨c, 5, none⟩ x5).setCell ⟨c, 6, none⟩ x6).setCell ⟨c, 7, none⟩ x7).setCell ⟨c, 8, none⟩ x8) b t cs :=
  ((((((((h.far hc _).far hc _).far hc _).far hc _).far hc _).far hc _).far hc _).far hc _).far hc _
theorem below9 {w w1 : World} {c : Nat} {x0 x1 x2 x3 x4 x5 x6 x7 x8 : Value} (h : Below w.heap.size w w1) (hc : w.heap.size ≤ c) :
    Below w.heap.size w (((((((((w1.setCell ⟨c, 0, none⟩ x0).setCell ⟨c, 1, none⟩ x1).setCell ⟨c, 2, none⟩ x2).setCell ⟨c, 3, none⟩ x3).setCell ⟨c, 4, none⟩ x4).setCell ⟨c, 5, none⟩ x5).setCell ⟨c, 6, none⟩ x6).setCell ⟨c, 7, none⟩ x7).setCell ⟨c, 8, none⟩ x8) :=
  ((((((((h.setCell hc _).setCell hc _).setCell hc _).setCell hc _).setCell hc _).setCell hc _).setCell hc _).setCell hc _).setCell hc _
theorem fcells_made (n : Nat) : madeCells #[.int .i64 0] n = fcells n fun _ => 0 := by
  apply Array.ext_getElem?
  intro i
  by_cases h : i < n
  · simp [madeCells, fcells, h, Nat.mod_one]
  · simp [madeCells, fcells, h]
/-- make of n integers, of whatever type: the block that is made, and that nothing else has turned. -/
theorem make_ints {P : Program} {t e : TypeId} {bytes : Nat} (ht : P.underlying t = some (.slice e)) (hi : (P.info? e).map (fun i => (i.zero, i.size, i.bytes)) = some (some (.int .i64 0), 1, bytes)) (kl kc : IntKind) (n : Nat) (hb : bytes * n ≤ 281474976710656) (hn : n ≤ 9223372036854775807) (w : World) :
    ∃ w', (Instr.makeSlice t (.int kl (n : Int)) (.int kc (n : Int))).run P w = .ok (.slice (some ⟨w.heap.size, 0, none⟩) n n) w' ∧ FB w' w.heap.size e n (fun _ => 0) ∧ Below w.heap.size w w' ∧ w'.heap.size = w.heap.size + 1 :=
  ⟨_, run_make_row' t e (.int .i64 0) bytes ht hi rfl kl kc n hb hn w, by rw [fcells_made]; exact Blk.new w e _, balloc (Below.refl _ _), by simp⟩
end Go.Proofs.Ytlbgcjpkegpmlaa
/- The contract of kick.False. -/
namespace Go.Proofs.Ytlbgcjpkegpmlaa
open Go.RowKit


theorem arr96 : Try.prog.arrayLen 96 = 9 := by kernel_rfl
theorem elem96 (w : World) : (sizeOf (Try.prog.elem 96)).run Try.prog w = .ok 1 w := by kernel_rfl
theorem und96 : Try.prog.underlying 96 = some (.array (Try.prog.arrayLen 96) (Try.prog.elem 96)) := by kernel_rfl
theorem slice96 (q : Nat) (hq : q ≤ 9) (b : Nat) (w : World) : (Instr.sliceAt 96 (.pointer (some ⟨b, 0, none⟩)) none (some (.int .i64 (q : Int))) none).run Try.prog w = .ok (.slice (some ⟨b, 0, none⟩) q 9) w := by
  rw [run_sliceAt_array_h w 96 ⟨b, 0, none⟩ und96 .i64 q (by omega) (by rw [arr96]; omega), elem96, arr96]
  simp [slicedAt, Result.andThen, Addr.add]

set_option maxHeartbeats 2000000 in
set_option maxRecDepth 100000 in
theorem False_ok (ch pe de no st lo li d : Int) (q : Nat) (w : World) (hk : KindOK ⟨ch, pe, de, no, st, lo, li, q⟩) (hs : RangeOK ⟨ch, pe, de, no, st, lo, li, q⟩) (hd1 : 1 ≤ d) (hd2 : d ≤ 12) :
    Calls Try.prog 17 #[.agg #[.int .i64 ch, .int .i64 pe, .int .i64 de, .int .i64 no, .int .i64 st, .int .i64 lo, .int .i64 li, .int .i64 q], .int .i64 d] w fun e w' =>
      e = .returned (.tuple #[.int .i64 (falseP ⟨ch, pe, de, no, st, lo, li, q⟩ d.toNat).1, .int .i64 (falseP ⟨ch, pe, de, no, st, lo, li, q⟩ d.toNat).2, .int .i64 0]) ∧ Below w.heap.size w w' := by
  have HS := Lib.hid (show SenOK ⟨ch, pe, de, no, st, lo, li, q⟩ from ⟨hk, hs⟩)
  have hhi := high_bd hs
  obtain ⟨h1, h2, h3, h4, h5, h6, h7, h8, h9, h10, h11, h12, h13, h14⟩ := hs
  simp only at h1 h2 h3 h4 h5 h6 h7 h8 h9 h10 h11 h12 h13 h14 hhi
  obtain ⟨hh0, hh1⟩ := hhi
  clear hk
  go_enter Try.func17, Try.ntmps17
  go_wp2_with fail
  refine (checkSensor_yes ⟨ch, pe, de, no, st, lo, li, q⟩ _ HS.out).mono ?_
  rintro e w1 ⟨rfl, hb⟩
  have B0 : Blk w1 w.heap.size 23 (senCells ch pe de no st lo li q) := (Blk.new w _ _).below hb
  have hbw : Below w.heap.size w w1 := by
    repeat' (first | with_reducible exact Below.refl _ _ | with_reducible refine bstep ?_ (by with_reducible assumption) | with_reducible refine balloc ?_ | with_reducible refine bdrew ?_ | with_reducible refine bdrewN ?_ _ | with_reducible refine bset ?_ (by go_size))
  obtain ⟨s1, s2, s3, s4, s5, s6, s7⟩ := sen_cells B0
  clear hb
  have hd3 : ¬ (d < 1) := by omega
  have hd4 : ¬ (12 < d) := by omega
  go_wp2_with fail
  -- the high errors
  have HF : Hid (highGo st li (2 * no + 1).toNat (-no) 0 = highF ⟨ch, pe, de, no, st, lo, li, q⟩) := rfl
  go_loopg [9, 10] ((2 * no + 1).toNat) (fun k v9 v10 wx => ∃ x hi : Int, (k : Int) + x = no + 1 ∧ -no ≤ x ∧ 0 ≤ hi ∧ hi + k ≤ 31 ∧ v9 = .int .i64 hi ∧ v10 = .int .i64 x ∧ Hid (highGo st li k x hi = highF ⟨ch, pe, de, no, st, lo, li, q⟩) ∧ w1 = wx)
  case atStart => exact ⟨-no, 0, by omega, by omega, by omega, by omega, rfl, rfl, HF, rfl⟩
  case round =>
    obtain ⟨x, h, hkx, hx1, hhi1, hhi2, rfl, rfl, HG, rfl⟩ := hrel
    clear HF
    cases gk with
    | succ k =>
      have hx : x ≤ no := by omega
      have hxs : -15728640 ≤ x * st ∧ x * st ≤ 31457280 := by
        have e := mul_bd (by omega : 0 ≤ x + 15) (by omega : x + 15 ≤ 30) (by omega : 0 ≤ st) h8
        have e2 := mul_bd (by omega : (0 : Int) ≤ 15) (by omega : (15 : Int) ≤ 15) (by omega : 0 ≤ st) h8
        rw [Int.add_mul] at e
        omega
      obtain ⟨hxs1, hxs2⟩ := hxs
      by_cases hv : li ≤ x * st
      · have HG2 : Hid (highGo st li k (x + 1) (h + 1) = highF ⟨ch, pe, de, no, st, lo, li, q⟩) := by
          show _ = _
          rw [← HG.out]; simp [highGo, hv]
        clear HG
        go_wp2_with fail
        go_roundg k
        case measure => omega
        case rel => exact ⟨x + 1, h + 1, by omega, by omega, by omega, by omega, by go_num, by go_num, HG2, rfl⟩
      · have HG2 : Hid (highGo st li k (x + 1) h = highF ⟨ch, pe, de, no, st, lo, li, q⟩) := by
          show _ = _
          rw [← HG.out]; simp [highGo, hv]
        clear HG
        go_wp2_with fail
        go_roundg k
        case measure => omega
        case rel => exact ⟨x + 1, h, by omega, by omega, by omega, by omega, rfl, by go_num, HG2, rfl⟩
    | zero =>
      have hx : no < x := by omega
      have hh : h = highF ⟨ch, pe, de, no, st, lo, li, q⟩ := HG.out
      rw [← hh] at hh0 hh1
      have HH := Lib.hid hh.symm
      clear hh HG
      have hw1 := B0.lt
      have HG : Hid (falseGo (2 * no + 1) h q d.toNat row0 0 1 = falseP ⟨ch, pe, de, no, st, lo, li, q⟩ d.toNat) := by
        show _ = _
        unfold falseP
        rw [HH.out, Int.toNat_natCast]
      go_wp2_with fail
      -- the rows
      go_loopg [4, 5, 50] (d.toNat) (fun k v4 v5 v50 wx => ∃ (j : Nat) (R : Nat → Int) (al all : Int), k + j = d.toNat ∧ v50 = .int .i64 j ∧ v4 = .int .i64 al ∧ v5 = .int .i64 all ∧ Hid (falseGo (2 * no + 1) h q k R al all = falseP ⟨ch, pe, de, no, st, lo, li, q⟩ d.toNat) ∧ Rows9 (2 * no + 1) h q j R al all ∧
        Blk wx w.heap.size 23 (senCells ch pe de no st lo li q) ∧ FB wx w1.heap.size 96 9 R ∧ Below w.heap.size w wx)
      case atStart =>
        exact ⟨0, row0, 0, 1, rfl, rfl, rfl, rfl, HG, Rows9.start _ _ _ (by omega), B0.alloc _, FB.new9 w1 96 row0, balloc hbw⟩
      case round =>
        clear HG s1 s2 s3 s4 s5 s6 s7
        obtain ⟨j, R, al, all, hkj, rfl, rfl, rfl, HG, HR, B1, F1, hbx⟩ := hrel
        obtain ⟨s1, s2, s3, s4, s5, s6, s7⟩ := sen_cells B1
        have hz0 := B1.lt
        have hz1 := F1.lt
        cases gk with
        | zero =>
          have hjd : ¬ ((j : Int) < d) := by omega
          have HV : Hid ((al, all) = falseP ⟨ch, pe, de, no, st, lo, li, q⟩ d.toNat) := HG.out
          clear HG
          go_wp2_with fail
          go_ret3
          rw [← HV.out]
          exact ⟨rfl, hbx⟩
        | succ k =>
          have hjd : (j : Int) < d := by omega
          have HG2 : Hid (falseGo (2 * no + 1) h q k (stepRow (2 * no + 1) h q R) (al * (2 * no + 1) + R (q - 1) * h) (all * (2 * no + 1)) = falseP ⟨ch, pe, de, no, st, lo, li, q⟩ d.toNat) := HG.out
          clear HG
          have HR2 := HR.step (by omega) hh0 (by omega) (by omega)
          obtain ⟨b1, b2, b3, b4⟩ := HR.small (by omega) (by omega) (by omega)
          obtain ⟨d1, d2⟩ := mul_bd HR.al0 b2 (by omega : 0 ≤ 2 * no + 1) (by omega : 2 * no + 1 ≤ 31)
          obtain ⟨d3, d4⟩ := mul_bd (by have := HR.one; omega : 0 ≤ all) b1 (by omega : 0 ≤ 2 * no + 1) (by omega : 2 * no + 1 ≤ 31)
          obtain ⟨c0, c1, c2, c3, c4, c5, c6, c7, c8⟩ := F1.cells9
          have g0 := F1.froz 0
          have g1 := F1.froz 1
          have g2 := F1.froz 2
          have g3 := F1.froz 3
          have g4 := F1.froz 4
          have g5 := F1.froz 5
          have g6 := F1.froz 6
          have g7 := F1.froz 7
          have g8 := F1.froz 8
          have HB4 := Lib.hid b4
          clear b4
          have hsl := slice96 q (by omega) wr.heap.size
          have hnew : ∀ W' : World, W'.heap.size = wr.heap.size → FB (W'.alloc (.cells #[.int .i64 (R 0), .int .i64 (R 1), .int .i64 (R 2), .int .i64 (R 3), .int .i64 (R 4), .int .i64 (R 5), .int .i64 (R 6), .int .i64 (R 7), .int .i64 (R 8)] 96)) wr.heap.size 96 9 R := fun W' e => by rw [← e]; exact FB.new9 W' 96 R
          have HN := Lib.hid hnew
          clear hnew
          obtain ⟨wo, rfl⟩ : ∃ wo : World, wo = wr := ⟨_, rfl⟩
          go_wp2_with fail
          go_loopg [58] q (fun z v58 wy => ∃ m : Nat, z + m = q ∧ v58 = .int .i64 m ∧ Blk wy w.heap.size 23 (senCells ch pe de no st lo li q) ∧ FB wy wo.heap.size 96 9 R ∧ FB wy w1.heap.size 96 9 (partRow (2 * no + 1) h R m) ∧ Below w.heap.size w wy)
          case atStart =>
            refine ⟨0, rfl, rfl, (B1.far9 (by omega)).alloc _, HN.out _ (by simp), ((F1.put9 (G := fun _ => 0)).alloc _).congr (fun j _ => (partRow_zero _ _ _ j).symm), balloc (below9 hbx (by omega))⟩
          case round =>
            clear HN hsl c0 c1 c2 c3 c4 c5 c6 c7 c8 g0 g1 g2 g3 g4 g5 g6 g7 g8 s1 s2 s3 s4 s5 s6 s7
            obtain ⟨m, hzm, rfl, B2, F2, F3, hby⟩ := hrel
            obtain ⟨s1, s2, s3, s4, s5, s6, s7⟩ := sen_cells B2
            have hz2 := B2.lt
            have hz3 := F3.lt
            have hz4 := F2.lt
            cases gk with
            | zero =>
              obtain rfl : m = q := by omega
              have hlt : ¬ ((m : Int) < (m : Int)) := by omega
              have e0 : partRow (2 * no + 1) h R m m = R (m - 1) * h := by simp [partRow, show ¬ m = 0 from by omega]
              obtain ⟨p1, p2⟩ := mul_bd (HR.pos (m - 1)) (HB4.out (m - 1) (by omega)) hh0 (by omega : h ≤ 31)
              have cm := F3.cell m (by omega)
              rw [e0] at cm
              have gm := F3.froz m
              clear e0
              have HE := Lib.hid HR2
              clear HR2
              go_wp2_with fail
              go_roundg k
              case measure => omega
              case rel =>
                exact ⟨j + 1, stepRow (2 * no + 1) h m R, al * (2 * no + 1) + R (m - 1) * h, all * (2 * no + 1), by omega, by go_num, rfl, rfl, HG2, HE.out, B2.far (by simp; omega) _, (F3.put m 0).congr (fun j _ => partRow_step _ _ _ _ _ (by omega)), bset hby (by simp; omega)⟩
            | succ z =>
              have hlt : (m : Int) < (q : Int) := by omega
              have e0 : partRow (2 * no + 1) h R m 0 = sumTo (fun k => R k * (2 * no + 1 - h)) m := by simp [partRow]
              have e1 : partRow (2 * no + 1) h R m (m + 1) = 0 := by simp [partRow]
              have cm := F2.cell m (by omega)
              have c0 := F3.cell 0 (by omega)
              have c1 := F3.cell (m + 1) (by omega)
              rw [e0] at c0
              rw [e1] at c1
              have g0 := F3.froz 0
              have g1 := F3.froz (m + 1)
              clear e0 e1
              obtain ⟨p1, p2⟩ := mul_bd (HR.pos m) (HB4.out m (by omega)) hh0 (by omega : h ≤ 31)
              obtain ⟨p3, p4⟩ := mul_bd (HR.pos m) (HB4.out m (by omega)) (by omega : 0 ≤ 2 * no + 1 - h) (by omega : 2 * no + 1 - h ≤ 31)
              have p5 : 0 ≤ sumTo (fun k => R k * (2 * no + 1 - h)) m := sumTo_nonneg (fun k => Int.mul_nonneg (HR.pos k) (by omega)) m
              have p6 : sumTo (fun k => R k * (2 * no + 1 - h)) m ≤ 25408476896404831 * 31 := by
                rw [sumTo_mul]
                exact (mul_bd (sumTo_nonneg HR.pos m) (Int.le_trans (sumTo_mono HR.pos (by omega : m ≤ q)) b3) (by omega) (by omega)).2
              generalize hS : sumTo (fun k => R k * (2 * no + 1 - h)) m = S at c0 p5 p6
              have HS2 := Lib.hid hS
              clear hS
              go_wp2_with fail
              go_roundg z
              case measure => omega
              case rel =>
                exact ⟨m + 1, by omega, by go_num, (B2.far (by simp; omega) _).far (by simp; omega) _, (F2.far (by simp; omega) _).far (by simp; omega) _, ((F3.put 0 (S + R m * (2 * no + 1 - h))).put (m + 1) (R m * h)).congr (fun j _ => by rw [← HS2.out]; exact partRow_succ _ _ _ _ _), bset (bset hby (by simp; omega)) (by simp; omega)⟩
end Go.Proofs.Ytlbgcjpkegpmlaa
/- The contract of awake: the chapter's examples hold. -/
namespace Go.Proofs.Ytlbgcjpkegpmlaa
open Go.RowKit

theorem shown_any (w : World) : Calls Try.prog 63 #[] w fun e w' => e = .returned (kickV 1000 100) ∧ Below w.heap.size w w' := by
  go_enter Try.func63, Try.ntmps63
  go_wp2
  go_returns
  refine ⟨rfl, ?_⟩
  repeat' (first | with_reducible exact Below.refl _ _ | with_reducible refine bstep ?_ (by with_reducible assumption) | with_reducible refine balloc ?_ | with_reducible refine bdrew ?_ | with_reducible refine bdrewN ?_ _ | with_reducible refine bset ?_ (by go_size))
theorem pit_any (w : World) : Calls Try.prog 64 #[] w fun e w' => e = .returned (Sen.v ⟨1, 10, 5, 2, 1000, 1, 20000, 2⟩) ∧ Below w.heap.size w w' := by
  go_enter Try.func64, Try.ntmps64
  go_wp2
  go_returns
  refine ⟨rfl, ?_⟩
  repeat' (first | with_reducible exact Below.refl _ _ | with_reducible refine bstep ?_ (by with_reducible assumption) | with_reducible refine balloc ?_ | with_reducible refine bdrew ?_ | with_reducible refine bdrewN ?_ _ | with_reducible refine bset ?_ (by go_size))
theorem flow_any' (w : World) : Calls Try.prog 65 #[] w fun e w' => e = .returned (Sen.v ⟨2, 1, 0, 0, 1, 0, 3000, 1⟩) ∧ Below w.heap.size w w' := by
  go_enter Try.func65, Try.ntmps65
  go_wp2
  go_returns
  refine ⟨rfl, ?_⟩
  repeat' (first | with_reducible exact Below.refl _ _ | with_reducible refine bstep ?_ (by with_reducible assumption) | with_reducible refine balloc ?_ | with_reducible refine bdrew ?_ | with_reducible refine bdrewN ?_ _ | with_reducible refine bset ?_ (by go_size))

theorem late_ex : lateRV ⟨1, 10, 5, 2, 1000, 1, 20000, 2⟩ 1000 100 = .tuple #[.int .i64 58, .bool true] := by
  have h : lateF ⟨1, 10, 5, 2, 1000, 1, 20000, 2⟩ 1000 100 = some (58, 3, 2) := by decide +kernel
  have hs : SenOK ⟨1, 10, 5, 2, 1000, 1, 20000, 2⟩ := by decide
  have hk : KickOK 1000 100 := by decide
  simp [lateRV, lateR, h, hs, hk]
theorem false_ex : falseP ⟨1, 1, 0, 2, 1000, 0, 1000, 2⟩ 3 = (32, 125) := by decide +kernel
theorem gain_ex : gainF 1000 100 3 = 3300 := by decide +kernel

theorem awake_any (w : World) : Calls Try.prog 19 #[] w fun e w' => e = .returned (.bool true) ∧ Below w.heap.size w w' := by
  go_enter Try.func19, Try.ntmps19
  go_wp2_with fail
  refine (pit_any _).mono ?_
  rintro e w1 ⟨rfl, hb1⟩
  go_wp2_with fail
  refine (shown_any _).mono ?_
  rintro e w2 ⟨rfl, hb2⟩
  go_wp2_with fail
  refine (Late_any ⟨1, 10, 5, 2, 1000, 1, 20000, 2⟩ 1000 100 _).mono ?_
  rw [late_ex]
  rintro e w3 ⟨rfl, hb3⟩
  go_wp2_with fail
  refine (False_ok 1 1 0 2 1000 0 1000 3 2 _ (by decide) (by decide) (by omega) (by omega)).mono ?_
  rw [show (3 : Int).toNat = 3 from rfl, show ((2 : Nat) : Int) = 2 from rfl, false_ex]
  rintro e w4 ⟨rfl, hb4⟩
  go_wp2_with fail
  refine (shown_any _).mono ?_
  rintro e w5 ⟨rfl, hb5⟩
  go_wp2_with fail
  refine (Gain_any 1000 100 3 _).mono ?_
  rw [gain_ex]
  rintro e w6 ⟨rfl, hb6⟩
  go_wp2_with fail
  go_ret
  refine ⟨rfl, ?_⟩
  repeat' (first | with_reducible exact Below.refl _ _ | with_reducible refine bstep ?_ (by with_reducible assumption) | with_reducible refine balloc ?_ | with_reducible refine bdrew ?_ | with_reducible refine bdrewN ?_ _ | with_reducible refine bset ?_ (by go_size))
end Go.Proofs.Ytlbgcjpkegpmlaa
/- The chapter's examples, for the table. -/
namespace Go.Proofs.Ytlbgcjpkegpmlaa
open Go.RowKit
theorem awake_ok : tab.ok 19 := by
  refine Tab.of_ct rfl rfl ⟨_, Try.func19, by decide, rfl⟩ ?_ ctF_det
  intro Base w vs cs hB hr _
  match vs, hr with
  | [], hr =>
    refine (awake_any w).mono ?_
    rintro e w' ⟨rfl, hb⟩
    have hv : vecB (kindsOf ctAwake.res) [C.b true] = [] := rfl
    refine ⟨_, [.b true], [], rfl, ⟨[.bool true], rfl, ?_, by rw [hv]; exact List.nodup_nil, fun b hb => (by rw [hv] at hb; cases hb)⟩, rfl, rfl, Keeps.of_below hb fun i hi => hi.1⟩
    exact ⟨[.b true], [], rfl, ⟨.b true, rfl, fun n => (by cases n <;> trivial), true, rfl, rfl⟩, rfl⟩
end Go.Proofs.Ytlbgcjpkegpmlaa
/- The call of KickLates. -/
namespace Go.Proofs.Ytlbgcjpkegpmlaa
open Go.RowKit
theorem kinds_sensor : kinds Try.prog 23 = some (List.replicate 8 .int) := by kernel_rfl
theorem walk_KickLates (s0 s1 s2 s3 s4 s5 s6 s7 r g : Int) (A : Option Addr) (n k : Nat) (xa xb xc xd : Int) (B : Option Addr) (m k' : Nat) (W : World) (hs : ∀ n ∈ [s0, s1, s2, s3, s4, s5, s6, s7], -9223372036854775808 ≤ n ∧ n ≤ 9223372036854775807)
    (hk : ∀ n ∈ [r, g], -9223372036854775808 ≤ n ∧ n ≤ 9223372036854775807) (hl : RowsIn W W.heap.size A n 8) (hx : ∀ n ∈ [xa, xb, xc, xd], -9223372036854775808 ≤ n ∧ n ≤ 9223372036854775807) (hN : NumsAt W W.heap.size B m) :
    Calls Try.prog 13 #[.agg #[.int .i64 s0, .int .i64 s1, .int .i64 s2, .int .i64 s3, .int .i64 s4, .int .i64 s5, .int .i64 s6, .int .i64 s7], .agg #[.int .i64 r, .int .i64 g], .slice A n k, .agg #[.int .i64 xa, .int .i64 xb, .int .i64 xc, .int .i64 xd], .slice B m k'] W
      fun e w' => e = .returned (.bool true) ∧ Below W.heap.size W w' := by
  obtain ⟨rows, hr⟩ := rep_rows (c := k) kinds_sensor hl
  obtain ⟨rows2, hr2⟩ := rep_nums (c := k') hN
  exact law_walk (lates_ok (up_ok awake_ok)) rfl (rep_agg [s0, s1, s2, s3, s4, s5, s6, s7] hs (rep_agg [r, g] hk (rep_arr hr (rep_agg [xa, xb, xc, xd] hx (rep_arr hr2 rfl)))))
end Go.Proofs.Ytlbgcjpkegpmlaa
namespace Go.Proofs.Ytlbgcjpkegpmlaa.lawKickLates
open Go.ChangeShapes Go.WideShapes Go.ChangeAt Go.RowKit
set_option linter.unusedVariables false

set_option maxRecDepth 100000 in
theorem lifted (os : Os) (started : os.Started) (H : Type) (enc : TypeId × Value → H) :
    ReturnsInHanded {} Try.checked os 13 .any (Rows.kickLatesSpec.pre6 enc Try.prog Try.f13 Rows.kickLatesRow.domain false) (Rows.kickLatesSpec.post enc Try.prog Try.f13 false true false false) := by
  refine returnsInHanded_of_change (C := Try.checked) own started (by kernel_rfl) Try.func13
    (ChangeSpec.witness6 (enc := enc) (C := Try.checked) false ⟨#[], #[.agg #[.int .i64 0, .int .i64 0, .int .i64 0, .int .i64 0, .int .i64 0, .int .i64 0, .int .i64 0, .int .i64 0], .agg #[.int .i64 0, .int .i64 0], .slice none 0 0, .agg #[.int .i64 0, .int .i64 0, .int .i64 0, .int .i64 0], .slice none 0 0], []⟩ 8 (by kernel_rfl) (by kernel_rfl) (by kernel_rfl) (by kernel_rfl)) ?_
  intro W base args ds gs before hval0 hW hcnd _
  have hval : ∀ (j : Nat) t v, Try.f13.params[j]? = some t → args[j]? = some v → Value.okWide Try.prog W .any base t v := hval0
  have hW' := hW
  obtain ⟨p, q, hA0, hV, rfl, hfz, hnd⟩ := hW
  have hA : DataW.TrodAll enc Try.prog W 0 (fun _ => true) true Try.f13.params.toList args.toList ds p := hA0
  rw [Try.params13] at hA hval
  obtain ⟨v0, vs0, d0, ds0, p0, q0, hargs, rfl, rfl, h0, r0⟩ := trodAll_cons hA
  obtain ⟨v1, vs1, d1, ds1, p1, q1, rfl, rfl, rfl, h1, r1⟩ := trodAll_cons r0
  obtain ⟨v2, vs2, d2, ds2, p2, q2, rfl, rfl, rfl, h2, r2⟩ := trodAll_cons r1
  obtain ⟨v3, vs3, d3, ds3, p3, q3, rfl, rfl, rfl, h3, r3⟩ := trodAll_cons r2
  obtain ⟨v4, vs4, d4, ds4, p4, q4, rfl, rfl, rfl, h4, r4⟩ := trodAll_cons r3
  obtain ⟨rfl, rfl, rfl⟩ := trodAll_nil r4
  obtain rfl : args = #[v0, v1, v2, v3, v4] := by cases args; simp_all
  obtain ⟨rfl, rfl⟩ := trodVars_none hV
  have k0 := h0
  have lt0 : ∀ x ∈ p0, x.block < W.heap.size := by obtain ⟨m, hm⟩ := k0; exact DataW.trod_lt m _ _ _ hm
  obtain ⟨ns0, e0, l0, b0⟩ := open_struct (k := 4) Try.underlying23 (by kernel_rfl) (hval 0 23 v0 rfl rfl) h0
  rw [show Try.prog.cellsOf 23 = 8 from by kernel_rfl] at l0
  obtain ⟨s0_0, s0_1, s0_2, s0_3, s0_4, s0_5, s0_6, s0_7, rfl⟩ := list_len8 l0
  simp only [List.map_cons, List.map_nil] at e0
  subst e0
  have k1 := h1
  have lt1 : ∀ x ∈ p1, x.block < W.heap.size := by obtain ⟨m, hm⟩ := k1; exact DataW.trod_lt m _ _ _ hm
  obtain ⟨ns1, e1, l1, b1⟩ := open_struct (k := 4) Try.underlying31 (by kernel_rfl) (hval 1 31 v1 rfl rfl) h1
  rw [show Try.prog.cellsOf 31 = 2 from by kernel_rfl] at l1
  obtain ⟨s1_0, s1_1, rfl⟩ := list_len2 l1
  simp only [List.map_cons, List.map_nil] at e1
  subst e1
  have k2 := h2
  have lt2 : ∀ x ∈ p2, x.block < W.heap.size := by obtain ⟨m, hm⟩ := k2; exact DataW.trod_lt m _ _ _ hm
  obtain ⟨A2, n2, c2, e2, b2⟩ := open_rows (W := W) (k := 4) Try.underlying62 (by kernel_rfl) (by rw [show Try.prog.cellsOf 23 = 8 from by kernel_rfl]; omega) (hval 2 62 v2 rfl rfl) h2
  rw [show Try.prog.cellsOf 23 = 8 from by kernel_rfl] at b2
  subst e2
  have k3 := h3
  have lt3 : ∀ x ∈ p3, x.block < W.heap.size := by obtain ⟨m, hm⟩ := k3; exact DataW.trod_lt m _ _ _ hm
  obtain ⟨ns3, e3, l3, b3⟩ := open_struct (k := 4) Try.underlying61 (by kernel_rfl) (hval 3 61 v3 rfl rfl) h3
  rw [show Try.prog.cellsOf 61 = 4 from by kernel_rfl] at l3
  obtain ⟨s3_0, s3_1, s3_2, s3_3, rfl⟩ := list_len4 l3
  simp only [List.map_cons, List.map_nil] at e3
  subst e3
  have k4 := h4
  have lt4 : ∀ x ∈ p4, x.block < W.heap.size := by obtain ⟨m, hm⟩ := k4; exact DataW.trod_lt m _ _ _ hm
  obtain ⟨A4, n4, c4, e4, b4⟩ := open_nums (W := W) Try.underlying29 Try.underlying3 (by kernel_rfl) (hval 4 29 v4 rfl rfl) h4
  subst e4
  clear hA0 hval0
  refine (walk_KickLates s0_0 s0_1 s0_2 s0_3 s0_4 s0_5 s0_6 s0_7 s1_0 s1_1 A2 n2 c2 s3_0 s3_1 s3_2 s3_3 A4 n4 c4 W b0 b1 b2 b3 b4).mono fun e W' ⟨he, bel⟩ => ?_
  subst he
  exact ⟨_, rfl, _, _, _, [], _, [], hW', trodAll_mk1 (shut_bool Try.underlying4 _), (trodAll_cons_mk (Below.trod laidOut (by kernel_rfl) (of_decide_eq_true (by kernel_rfl)) k0 bel lt0) (trodAll_cons_mk (Below.trod laidOut (by kernel_rfl) (of_decide_eq_true (by kernel_rfl)) k1 bel lt1) (trodAll_cons_mk (Below.trod laidOut (by kernel_rfl) (of_decide_eq_true (by kernel_rfl)) k2 bel lt2) (trodAll_cons_mk (Below.trod laidOut (by kernel_rfl) (of_decide_eq_true (by kernel_rfl)) k3 bel lt3) (trodAll_cons_mk (Below.trod laidOut (by kernel_rfl) (of_decide_eq_true (by kernel_rfl)) k4 bel lt4) trodAll_mk0))))), rfl, bel.frame _, fun h => by cases h⟩

theorem over : Rows.kickLatesRow.holds Try.pinned (OpenSpec.ofChange Rows.kickLatesSpec) :=
  OpenClaim.holds_of_wide 13 Try.f13 rfl rfl rfl rfl rfl rfl rfl ⟨rfl, rfl, rfl, rfl, rfl⟩ rfl rfl rfl rfl rfl (by kernel_rfl) Try.func13 (by kernel_rfl)
    (of_decide_eq_true (by kernel_rfl)) (by unfold Func.isWrapper; first | (rw [if_pos (by decide +kernel)]; kernel_rfl) | (rw [if_neg (by decide +kernel)]; exact ⟨rfl, rfl⟩))
    (fun os started H enc _ => lifted os started H enc)

theorem proved : Rows.KickLatesSaid := over
#print axioms proved
end Go.Proofs.Ytlbgcjpkegpmlaa.lawKickLates
