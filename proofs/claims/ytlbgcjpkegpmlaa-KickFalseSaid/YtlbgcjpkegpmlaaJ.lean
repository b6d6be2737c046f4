/- The contract of the reference's False. -/
import Derived.Test.YtlbgcjpkegpmlaaG
import Derived.Test.YtlbgcjpkegpmlaaF
namespace Go.Proofs.Ytlbgcjpkegpmlaa
open Go.RowKit

theorem info2 : (Try.prog.info? 2).map (fun i => (i.zero, i.size, i.bytes)) = some (some (.int .i64 0), 1, 8) := by kernel_rfl

set_option maxHeartbeats 2000000 in
set_option maxRecDepth 100000 in
theorem rFalse_ok (ch pe de no st lo li d : Int) (q : Nat) (w : World) (hk : KindOK ⟨ch, pe, de, no, st, lo, li, q⟩) (hs : RangeOK ⟨ch, pe, de, no, st, lo, li, q⟩) (hd1 : 1 ≤ d) (hd2 : d ≤ 12) :
    Calls Try.prog 18 #[.agg #[.int .i64 ch, .int .i64 pe, .int .i64 de, .int .i64 no, .int .i64 st, .int .i64 lo, .int .i64 li, .int .i64 q], .int .i64 d] w fun e w' =>
      e = .returned (.tuple #[.int .i64 (falseP ⟨ch, pe, de, no, st, lo, li, q⟩ d.toNat).1, .int .i64 (falseP ⟨ch, pe, de, no, st, lo, li, q⟩ d.toNat).2, .int .i64 0]) ∧ Below w.heap.size w w' := by
  have HS := Lib.hid (show SenOK ⟨ch, pe, de, no, st, lo, li, q⟩ from ⟨hk, hs⟩)
  have hhi := high_bd hs
  obtain ⟨h1, h2, h3, h4, h5, h6, h7, h8, h9, h10, h11, h12, h13, h14⟩ := hs
  simp only at h1 h2 h3 h4 h5 h6 h7 h8 h9 h10 h11 h12 h13 h14 hhi
  obtain ⟨hh0, hh1⟩ := hhi
  clear hk
  go_enter Try.func18, Try.ntmps18
  go_wp2_with fail
  refine (rcheckSensor_yes ⟨ch, pe, de, no, st, lo, li, q⟩ _ HS.out).mono ?_
  rintro e w1 ⟨rfl, hb⟩
  have B0 : Blk w1 w.heap.size 23 (senCells ch pe de no st lo li q) := (Blk.new w _ _).below hb
  have hbw : Below w.heap.size w w1 := by
    repeat' (first | with_reducible exact Below.refl _ _ | with_reducible refine bstep ?_ (by with_reducible assumption) | with_reducible refine balloc ?_ | with_reducible refine bdrew ?_ | with_reducible refine bdrewN ?_ _ | with_reducible refine bset ?_ (by go_size))
  obtain ⟨s1, s2, s3, s4, s5, s6, s7⟩ := sen_cells B0
  clear hb
  have hd3 : ¬ (d < 1) := by omega
  have hd4 : ¬ (12 < d) := by omega
  go_wp2_with fail
  have HF : Hid (highGo st li (2 * no + 1).toNat (-no) 0 = highF ⟨ch, pe, de, no, st, lo, li, q⟩) := rfl
  go_loopg [8, 9] ((2 * no + 1).toNat) (fun k v9 v10 wx => ∃ x hi : Int, (k : Int) + x = no + 1 ∧ -no ≤ x ∧ 0 ≤ hi ∧ hi + k ≤ 31 ∧ v9 = .int .i64 hi ∧ v10 = .int .i64 x ∧ Hid (highGo st li k x hi = highF ⟨ch, pe, de, no, st, lo, li, q⟩) ∧ w1 = wx)
  case atStart => exact ⟨-no, 0, by omega, by omega, by omega, by omega, rfl, rfl, HF, rfl⟩
  case round =>
    obtain ⟨x, h, hkx, hx1, hhi1, hhi2, rfl, rfl, HG, rfl⟩ := hrel
    clear HF
    cases gk with
    | succ k =>
      have hx : x ≤ no := by omega
      have hxs : -15728640 ≤ x * st ∧ x * st ≤ 31457280 := by
        have e := mul_bd (by omega : 0 ≤ x + 15) (by omega : x + 15 ≤ 30) (by omega : 0 ≤ st) h8
        have e2 := mul_bd (by omega : (0 : Int) ≤ 15) (by omega : (15 : Int) ≤ 15) (by omega : 0 ≤ st) h8
        rw [Int.add_mul] at e
        omega
      obtain ⟨hxs1, hxs2⟩ := hxs
      by_cases hv : li ≤ x * st
      · have HG2 : Hid (highGo st li k (x + 1) (h + 1) = highF ⟨ch, pe, de, no, st, lo, li, q⟩) := by
          show _ = _
          rw [← HG.out]; simp [highGo, hv]
        clear HG
        go_wp2_with fail
        go_roundg k
        case measure => omega
        case rel => exact ⟨x + 1, h + 1, by omega, by omega, by omega, by omega, by go_num, by go_num, HG2, rfl⟩
      · have HG2 : Hid (highGo st li k (x + 1) h = highF ⟨ch, pe, de, no, st, lo, li, q⟩) := by
          show _ = _
          rw [← HG.out]; simp [highGo, hv]
        clear HG
        go_wp2_with fail
        go_roundg k
        case measure => omega
        case rel => exact ⟨x + 1, h, by omega, by omega, by omega, by omega, rfl, by go_num, HG2, rfl⟩
    | zero =>
      have hx : no < x := by omega
      have hh : h = highF ⟨ch, pe, de, no, st, lo, li, q⟩ := HG.out
      rw [← hh] at hh0 hh1
      have HH := Lib.hid hh.symm
      clear hh HG
      have hw1 := B0.lt
      have HG : Hid (falseGo (2 * no + 1) h q d.toNat row0 0 1 = falseP ⟨ch, pe, de, no, st, lo, li, q⟩ d.toNat) := by
        show _ = _
        unfold falseP
        rw [HH.out, Int.toNat_natCast]
      obtain ⟨wa, hmk, FA, hba, hza⟩ := make_ints Try.underlying97 info2 .i64 .i64 q (by omega) (by omega) w1
      have k0 := FA.cell 0 (by omega)
      have kf := FA.froz 0
      have hq1 : (0 : Int) < (q : Int) := by omega
      have BA := B0.below hba
      have hbwa := bstep hbw hba
      have HZ := Lib.hid hza
      clear hza
      go_wp2_with fail
      have F0 : FB (wa.setCell ⟨w1.heap.size, 0, none⟩ (.int .i64 1)) w1.heap.size 2 q row0 := (FA.put 0 1).congr fun j _ => by simp [row0]
      have BA' : Blk (wa.setCell ⟨w1.heap.size, 0, none⟩ (.int .i64 1)) w.heap.size 23 (senCells ch pe de no st lo li q) := BA.far (by simp; omega) _
      have hbwb := bset (p := ⟨w1.heap.size, 0, none⟩) (u := .int .i64 1) hbwa (by simp; omega)
      clear hmk k0 kf FA BA hbwa s1 s2 s3 s4 s5 s6 s7 hba
      go_loopg [10, 11, 12, 13] (d.toNat) (fun k v10 v11 v12 v13 wx => ∃ (j gb : Nat) (R : Nat → Int) (al all : Int), k + j = d.toNat ∧ v13 = .int .i64 j ∧ v11 = .int .i64 al ∧ v10 = .int .i64 all ∧ v12 = .slice (some ⟨gb, 0, none⟩) q q ∧ Hid (falseGo (2 * no + 1) h q k R al all = falseP ⟨ch, pe, de, no, st, lo, li, q⟩ d.toNat) ∧ Rows9 (2 * no + 1) h q j R al all ∧
        Blk wx w.heap.size 23 (senCells ch pe de no st lo li q) ∧ FB wx gb 2 q R ∧ w.heap.size < gb ∧ Below w.heap.size w wx)
      case atStart =>
        exact ⟨0, w1.heap.size, row0, 0, 1, rfl, rfl, rfl, rfl, rfl, HG, Rows9.start _ _ _ (by omega), BA', F0, hw1, hbwb⟩
      case round =>
        clear HG BA' F0 hbwb
        obtain ⟨j, gb, R, al, all, hkj, rfl, rfl, rfl, rfl, HG, HR, B1, F1, hgb, hbx⟩ := hrel
        obtain ⟨s1, s2, s3, s4, s5, s6, s7⟩ := sen_cells B1
        have hz0 := B1.lt
        have hz1 := F1.lt
        cases gk with
        | zero =>
          have hjd : ¬ ((j : Int) < d) := by omega
          have HV : Hid ((al, all) = falseP ⟨ch, pe, de, no, st, lo, li, q⟩ d.toNat) := HG.out
          clear HG
          go_wp2_with fail
          go_ret3
          rw [← HV.out]
          exact ⟨rfl, hbx⟩
        | succ k =>
          have hjd : (j : Int) < d := by omega
          have HG2 : Hid (falseGo (2 * no + 1) h q k (stepRow (2 * no + 1) h q R) (al * (2 * no + 1) + R (q - 1) * h) (all * (2 * no + 1)) = falseP ⟨ch, pe, de, no, st, lo, li, q⟩ d.toNat) := HG.out
          clear HG
          have HR2 := HR.step (by omega) hh0 (by omega) (by omega)
          obtain ⟨b1, b2, b3, b4⟩ := HR.small (by omega) (by omega) (by omega)
          obtain ⟨d1, d2⟩ := mul_bd HR.al0 b2 (by omega : 0 ≤ 2 * no + 1) (by omega : 2 * no + 1 ≤ 31)
          obtain ⟨d3, d4⟩ := mul_bd (by have := HR.one; omega : 0 ≤ all) b1 (by omega : 0 ≤ 2 * no + 1) (by omega : 2 * no + 1 ≤ 31)
          have HB4 := Lib.hid b4
          clear b4
          obtain ⟨wa, hmk, FA, hba, hza⟩ := make_ints Try.underlying97 info2 .i64 .i64 q (by omega) (by omega) wr
          have BA := B1.below hba
          have F1A := F1.below hba
          have hbwa := bstep hbx hba
          have HZ := Lib.hid hza
          clear hza
          obtain ⟨wo, rfl⟩ : ∃ wo : World, wo = wr := ⟨_, rfl⟩
          go_wp2_with fail
          clear hmk
          go_loopg [11, 16] q (fun z v11 v16 wy => ∃ m : Nat, z + m = q ∧ v16 = .int .i64 m ∧ v11 = .int .i64 (al * (2 * no + 1) + if m = q then R (q - 1) * h else 0) ∧ Blk wy w.heap.size 23 (senCells ch pe de no st lo li q) ∧ FB wy gb 2 q R ∧ FB wy wo.heap.size 2 q (partRow (2 * no + 1) h R m) ∧ Below w.heap.size w wy)
          case atStart =>
            exact ⟨0, rfl, rfl, by rw [if_neg (by omega), Int.add_zero], BA, F1A, FA.congr (fun j _ => (partRow_zero _ _ _ j).symm), hbwa⟩
          case round =>
            clear BA F1A FA hbwa hba s1 s2 s3 s4 s5 s6 s7 B1 F1 hbx
            obtain ⟨m, hzm, rfl, rfl, B2, F2, F3, hby⟩ := hrel
            obtain ⟨s1, s2, s3, s4, s5, s6, s7⟩ := sen_cells B2
            have hz2 := B2.lt
            have hz3 := F3.lt
            have hz4 := F2.lt
            cases gk with
            | zero =>
              obtain rfl : m = q := by omega
              have hlt : ¬ ((m : Int) < (m : Int)) := by omega
              have HE := Lib.hid HR2
              clear HR2
              go_wp2_with fail
              go_roundg k
              case measure => omega
              case rel =>
                exact ⟨j + 1, wo.heap.size, stepRow (2 * no + 1) h m R, al * (2 * no + 1) + R (m - 1) * h, all * (2 * no + 1), by omega, by go_num, by first | rfl | rw [if_pos rfl], rfl, rfl, HG2, HE.out, B2, F3.congr (fun j hj => partRow_full _ _ _ _ _ hj), by omega, hby⟩
            | succ z =>
              have hlt : (m : Int) < (q : Int) := by omega
              have hm0 : (0 : Int) ≤ (m : Int) := by omega
              have hq0 : (0 : Int) < (q : Int) := by omega
              have e0 : partRow (2 * no + 1) h R m 0 = sumTo (fun k => R k * (2 * no + 1 - h)) m := by simp [partRow]
              have e1 : partRow (2 * no + 1) h R m (m + 1) = 0 := by simp [partRow]
              have cm := F2.cell m (by omega)
              have c0 := F3.cell 0 (by omega)
              rw [e0] at c0
              have g0 := F3.froz 0
              obtain ⟨p1, p2⟩ := mul_bd (HR.pos m) (HB4.out m (by omega)) hh0 (by omega : h ≤ 31)
              obtain ⟨p3, p4⟩ := mul_bd (HR.pos m) (HB4.out m (by omega)) (by omega : 0 ≤ 2 * no + 1 - h) (by omega : 2 * no + 1 - h ≤ 31)
              have p5 : 0 ≤ sumTo (fun k => R k * (2 * no + 1 - h)) m := sumTo_nonneg (fun k => Int.mul_nonneg (HR.pos k) (by omega)) m
              have p6 : sumTo (fun k => R k * (2 * no + 1 - h)) m ≤ 25408476896404831 * 31 := by
                rw [sumTo_mul]
                exact (mul_bd (sumTo_nonneg HR.pos m) (Int.le_trans (sumTo_mono HR.pos (by omega : m ≤ q)) b3) (by omega) (by omega)).2
              generalize hS : sumTo (fun k => R k * (2 * no + 1 - h)) m = S at c0 p5 p6
              have HS2 := Lib.hid hS
              have HE1 := Lib.hid e1
              clear hS e0 e1
              have hmq : ¬ m = q := by omega
              rw [if_neg hmq, Int.add_zero]
              have W1 : IntKind.i64.wrap (2 * no + 1 - h) = 2 * no + 1 - h := IntWalk.i64_in _ (by omega)
              have W2 : IntKind.i64.wrap (R m * (2 * no + 1 - h)) = R m * (2 * no + 1 - h) := IntWalk.i64_in _ (by omega)
              have W3 : IntKind.i64.wrap (S + R m * (2 * no + 1 - h)) = S + R m * (2 * no + 1 - h) := IntWalk.i64_in _ (by omega)
              have HW := Lib.hid (And.intro W1 (And.intro W2 W3))
              clear W1 W2 W3
              go_wp2_with fail
              obtain ⟨W1, W2, W3⟩ := HW.out
              go_region
              clear W1 W2 W3
              have B3 : Blk (wr.setCell ⟨wo.heap.size, 0, none⟩ (.int .i64 (S + R m * (2 * no + 1 - h)))).drew w.heap.size 23 (senCells ch pe de no st lo li q) := (B2.far (by simp; omega) _).drew
              have F4 : FB (wr.setCell ⟨wo.heap.size, 0, none⟩ (.int .i64 (S + R m * (2 * no + 1 - h)))).drew gb 2 q R := F2.far (by simp; omega) _
              have F5 : FB (wr.setCell ⟨wo.heap.size, 0, none⟩ (.int .i64 (S + R m * (2 * no + 1 - h)))).drew wo.heap.size 2 q (fun j => if j = 0 then S + R m * (2 * no + 1 - h) else partRow (2 * no + 1) h R m j) := F3.put 0 _
              have hbz : Below w.heap.size w (wr.setCell ⟨wo.heap.size, 0, none⟩ (.int .i64 (S + R m * (2 * no + 1 - h)))).drew := bdrew (bset hby (by simp; omega))
              obtain ⟨t1, t2, t3, t4, t5, t6, t7⟩ := sen_cells B3
              clear s1 s2 s3 s4 s5 s6 s7 g0 c0 cm B2 F2 F3 hby
              by_cases hlast : m + 1 = q
              · have hbq : ((m : Int) + 1 == (q : Int)) = true := by simp; omega
                have cm := F4.cell m (by omega)
                go_wp2_with fail
                go_roundg z
                case measure => omega
                case rel =>
                  refine ⟨m + 1, by omega, by go_num, by rw [if_pos hlast, show q - 1 = m from by omega], B3, F4, F5.congr fun j hj => ?_, hbz⟩
                  have := partRow_succ (2 * no + 1) h R m j
                  rw [HS2.out, if_neg (by omega)] at this
                  exact this
              · have hbq : ((m : Int) + 1 == (q : Int)) = false := by simp; omega
                have cm := F4.cell m (by omega)
                have c1 := F5.cell (m + 1) (by omega)
                have g1 := F5.froz (m + 1)
                simp only [show ¬ m + 1 = 0 from by omega, if_false, HE1.out] at c1
                have hq2 : (m : Int) + 1 < (q : Int) := by omega
                have hm2 : (0 : Int) ≤ (m : Int) + 1 := by omega
                have hm3 : ((m : Int) + 1).toNat = m + 1 := by omega
                have V1 : IntKind.i64.wrap ((m : Int) + 1) = (m : Int) + 1 := IntWalk.i64_in _ (by omega)
                have V2 : IntKind.i64.wrap (R m * h) = R m * h := IntWalk.i64_in _ (by omega)
                go_wp2_with fail
                go_region
                clear V1 V2
                go_wp2_with fail
                go_roundg z
                case measure => omega
                case rel =>
                  refine ⟨m + 1, by omega, by go_num, by rw [if_neg hlast, Int.add_zero], (B3.far (p := ⟨wo.heap.size, m + 1, none⟩) (by simp; omega) (.int .i64 (R m * h))).drew, (F4.far (p := ⟨wo.heap.size, m + 1, none⟩) (by simp; omega) (.int .i64 (R m * h))), (F5.put (m + 1) (R m * h)).congr fun j hj => ?_, bdrew (bset (p := ⟨wo.heap.size, m + 1, none⟩) (u := .int .i64 (R m * h)) hbz (by simp; omega))⟩
                  have := partRow_succ (2 * no + 1) h R m j
                  rw [HS2.out] at this
                  exact this

/-- What False returns, of the program and of the reference, for every sensor and every number of draws. -/
def falseV (s : Sen) (d : Int) : Value := .tuple #[.int .i64 (falseF s d).1, .int .i64 (falseF s d).2.1, .int .i64 (falseF s d).2.2]

set_option maxRecDepth 100000 in
theorem False_any (s : Sen) (d : Int) (w : World) :
    Calls Try.prog 17 #[s.v, .int .i64 d] w fun e w' => e = .returned (falseV s d) ∧ Below w.heap.size w w' := by
  by_cases hs : SenOK s
  · by_cases hd : 1 ≤ d ∧ d ≤ 12
    · have hv : falseV s d = .tuple #[.int .i64 (falseP s d.toNat).1, .int .i64 (falseP s d.toNat).2, .int .i64 0] := by simp [falseV, falseF, hs, hd]
      rw [hv]
      obtain ⟨ch, pe, de, no, st, lo, li, ho⟩ := s
      obtain ⟨hk, hr⟩ := hs
      obtain ⟨q, rfl⟩ : ∃ q : Nat, ho = (q : Int) := ⟨ho.toNat, by have := hr.2.2.2.2.2.2.2.2.2.2.2.2.1; simp only at this; omega⟩
      exact False_ok ch pe de no st lo li d q w hk hr hd.1 hd.2
    · have hv : falseV s d = .tuple #[.int .i64 0, .int .i64 0, .int .i64 2] := by simp [falseV, falseF, hs, hd]
      rw [hv]
      clear hv
      have HS := Lib.hid hs
      clear hs
      have hd2 : d < 1 ∨ (1 ≤ d ∧ 12 < d) := by omega
      clear hd
      rcases hd2 with hd | ⟨hd, hd'⟩
      all_goals
        go_enter Try.func17, Try.ntmps17
        go_wp2_with fail
        refine (checkSensor_yes s _ HS.out).mono ?_
        rintro e w1 ⟨rfl, hb⟩
        go_wp2_with fail
        go_ret3
        refine ⟨rfl, ?_⟩
        repeat' (first | with_reducible exact Below.refl _ _ | with_reducible refine bstep ?_ (by with_reducible assumption) | with_reducible refine balloc ?_ | with_reducible refine bdrew ?_ | with_reducible refine bdrewN ?_ _ | with_reducible refine bset ?_ (by go_size))
  · have hv : falseV s d = .tuple #[.int .i64 0, .int .i64 0, .int .i64 (checkSensor s)] := by simp [falseV, falseF, hs]
    rw [hv]
    clear hv
    rcases notSen hs with hq | ⟨hq, hq2⟩
    · have he : checkSensor s = 4 := by simp [checkSensor, hq]
      rw [he]
      have HQ := Lib.hid hq
      clear hq hs he
      go_enter Try.func17, Try.ntmps17
      go_wp2_with fail
      refine (checkSensor_kind s _ HQ.out).mono ?_
      rintro e w1 ⟨rfl, hb⟩
      go_wp2_with fail
      go_ret3
      refine ⟨rfl, ?_⟩
      repeat' (first | with_reducible exact Below.refl _ _ | with_reducible refine bstep ?_ (by with_reducible assumption) | with_reducible refine balloc ?_ | with_reducible refine bdrew ?_ | with_reducible refine bdrewN ?_ _ | with_reducible refine bset ?_ (by go_size))
    · have he : checkSensor s = 2 := by simp [checkSensor, hq, hq2]
      rw [he]
      have HQ := Lib.hid hq
      have HQ2 := Lib.hid hq2
      clear hq hq2 hs he
      go_enter Try.func17, Try.ntmps17
      go_wp2_with fail
      refine (checkSensor_range s _ HQ.out HQ2.out).mono ?_
      rintro e w1 ⟨rfl, hb⟩
      go_wp2_with fail
      go_ret3
      refine ⟨rfl, ?_⟩
      repeat' (first | with_reducible exact Below.refl _ _ | with_reducible refine bstep ?_ (by with_reducible assumption) | with_reducible refine balloc ?_ | with_reducible refine bdrew ?_ | with_reducible refine bdrewN ?_ _ | with_reducible refine bset ?_ (by go_size))

set_option maxRecDepth 100000 in
theorem rFalse_any (s : Sen) (d : Int) (w : World) :
    Calls Try.prog 18 #[s.v, .int .i64 d] w fun e w' => e = .returned (falseV s d) ∧ Below w.heap.size w w' := by
  by_cases hs : SenOK s
  · by_cases hd : 1 ≤ d ∧ d ≤ 12
    · have hv : falseV s d = .tuple #[.int .i64 (falseP s d.toNat).1, .int .i64 (falseP s d.toNat).2, .int .i64 0] := by simp [falseV, falseF, hs, hd]
      rw [hv]
      obtain ⟨ch, pe, de, no, st, lo, li, ho⟩ := s
      obtain ⟨hk, hr⟩ := hs
      obtain ⟨q, rfl⟩ : ∃ q : Nat, ho = (q : Int) := ⟨ho.toNat, by have := hr.2.2.2.2.2.2.2.2.2.2.2.2.1; simp only at this; omega⟩
      exact rFalse_ok ch pe de no st lo li d q w hk hr hd.1 hd.2
    · have hv : falseV s d = .tuple #[.int .i64 0, .int .i64 0, .int .i64 2] := by simp [falseV, falseF, hs, hd]
      rw [hv]
      clear hv
      have HS := Lib.hid hs
      clear hs
      have hd2 : d < 1 ∨ (1 ≤ d ∧ 12 < d) := by omega
      clear hd
      rcases hd2 with hd | ⟨hd, hd'⟩
      all_goals
        go_enter Try.func18, Try.ntmps18
        go_wp2_with fail
        refine (rcheckSensor_yes s _ HS.out).mono ?_
        rintro e w1 ⟨rfl, hb⟩
        go_wp2_with fail
        go_ret3
        refine ⟨rfl, ?_⟩
        repeat' (first | with_reducible exact Below.refl _ _ | with_reducible refine bstep ?_ (by with_reducible assumption) | with_reducible refine balloc ?_ | with_reducible refine bdrew ?_ | with_reducible refine bdrewN ?_ _ | with_reducible refine bset ?_ (by go_size))
  · have hv : falseV s d = .tuple #[.int .i64 0, .int .i64 0, .int .i64 (checkSensor s)] := by simp [falseV, falseF, hs]
    rw [hv]
    clear hv
    rcases notSen hs with hq | ⟨hq, hq2⟩
    · have he : checkSensor s = 4 := by simp [checkSensor, hq]
      rw [he]
      have HQ := Lib.hid hq
      clear hq hs he
      go_enter Try.func18, Try.ntmps18
      go_wp2_with fail
      refine (rcheckSensor_kind s _ HQ.out).mono ?_
      rintro e w1 ⟨rfl, hb⟩
      go_wp2_with fail
      go_ret3
      refine ⟨rfl, ?_⟩
      repeat' (first | with_reducible exact Below.refl _ _ | with_reducible refine bstep ?_ (by with_reducible assumption) | with_reducible refine balloc ?_ | with_reducible refine bdrew ?_ | with_reducible refine bdrewN ?_ _ | with_reducible refine bset ?_ (by go_size))
    · have he : checkSensor s = 2 := by simp [checkSensor, hq, hq2]
      rw [he]
      have HQ := Lib.hid hq
      have HQ2 := Lib.hid hq2
      clear hq hq2 hs he
      go_enter Try.func18, Try.ntmps18
      go_wp2_with fail
      refine (rcheckSensor_range s _ HQ.out HQ2.out).mono ?_
      rintro e w1 ⟨rfl, hb⟩
      go_wp2_with fail
      go_ret3
      refine ⟨rfl, ?_⟩
      repeat' (first | with_reducible exact Below.refl _ _ | with_reducible refine bstep ?_ (by with_reducible assumption) | with_reducible refine balloc ?_ | with_reducible refine bdrew ?_ | with_reducible refine bdrewN ?_ _ | with_reducible refine bset ?_ (by go_size))
end Go.Proofs.Ytlbgcjpkegpmlaa
