/- The law KickCounts: for every input the call returns true, and each argument reads afterwards as it read before. The frame is printed by frame.py. -/
import Derived.Test.YtlbgcjpkegpmlaaCounts10
import Derived.Deep.LoopGhost
import Derived.Deep.RegionHeld3
import Derived.Deep.OwnRows
import Derived.KernelRfl
import Derived.Test.YtlbgcjpkegpmlaaRows
import Derived.ShutString
import Derived.ChangeOld
/- The contract of kick.late: the search for the first sample that counts, for each phase. Printed by genD.py. -/
namespace Go.Proofs.Ytlbgcjpkegpmlaa
open Go.RowKit

def lateV (s : Sen) (r g : Int) : Value := match lateF s r g with
  | some (t, f, a) => .tuple #[.agg #[.int .i64 t, .int .i64 f, .int .i64 a], .bool true]
  | none => .tuple #[.agg #[.int .i64 0, .int .i64 0, .int .i64 0], .bool false]
theorem lateV_some {s : Sen} {r g t f a : Int} (h : lateF s r g = some (t, f, a)) : lateV s r g = .tuple #[.agg #[.int .i64 t, .int .i64 f, .int .i64 a], .bool true] := by simp [lateV, h]
theorem lateV_none {s : Sen} {r g : Int} (h : lateF s r g = none) : lateV s r g = .tuple #[.agg #[.int .i64 0, .int .i64 0, .int .i64 0], .bool false] := by simp [lateV, h]

def senCells (ch pe de no st lo li ho : Int) : Array Value := #[.int .i64 ch, .int .i64 pe, .int .i64 de, .int .i64 no, .int .i64 st, .int .i64 lo, .int .i64 li, .int .i64 ho]
def outCells (o : Int × Int × Int) : Array Value := #[.int .i64 o.1, .int .i64 o.2.1, .int .i64 o.2.2]
theorem sen_cells {w : World} {b : Nat} {ch pe de no st lo li ho : Int} (h : Blk w b 23 (senCells ch pe de no st lo li ho)) :
    w.cell? ⟨b, 1, none⟩ = some (.int .i64 pe) ∧ w.cell? ⟨b, 2, none⟩ = some (.int .i64 de) ∧ w.cell? ⟨b, 3, none⟩ = some (.int .i64 no) ∧ w.cell? ⟨b, 4, none⟩ = some (.int .i64 st) ∧ w.cell? ⟨b, 5, none⟩ = some (.int .i64 lo) ∧ w.cell? ⟨b, 6, none⟩ = some (.int .i64 li) ∧ w.cell? ⟨b, 7, none⟩ = some (.int .i64 ho) :=
  ⟨h.cell 1 rfl, h.cell 2 rfl, h.cell 3 rfl, h.cell 4 rfl, h.cell 5 rfl, h.cell 6 rfl, h.cell 7 rfl⟩
theorem out_cells {w : World} {b : Nat} {x y z : Int} (h : Blk w b 110 (outCells (x, y, z))) :
    w.cell? ⟨b, 0, none⟩ = some (.int .i64 x) ∧ w.cell? ⟨b, 1, none⟩ = some (.int .i64 y) ∧ w.cell? ⟨b, 2, none⟩ = some (.int .i64 z) ∧ w.frozen? ⟨b, 0, none⟩ = false ∧ w.frozen? ⟨b, 1, none⟩ = false ∧ w.frozen? ⟨b, 2, none⟩ = false :=
  ⟨h.cell 0 rfl, h.cell 1 rfl, h.cell 2 rfl, h.froz 0, h.froz 1, h.froz 2⟩
theorem out_put {w : World} {b : Nat} {o x : Int × Int × Int} (h : Blk w b 110 (outCells o)) :
    Blk (((w.setCell ⟨b, 0, none⟩ (.int .i64 x.1)).setCell ⟨b, 1, none⟩ (.int .i64 x.2.1)).setCell ⟨b, 2, none⟩ (.int .i64 x.2.2)) b 110 (outCells x) := by
  have := ((h.put 0 (.int .i64 x.1)).put 1 (.int .i64 x.2.1)).put 2 (.int .i64 x.2.2)
  simpa [outCells] using this

theorem out_far {w : World} {b c : Nat} {t : TypeId} {cs : Array Value} {x y z : Value} (h : Blk w b t cs) (hc : b ≠ c) :
    Blk (((w.setCell ⟨c, 0, none⟩ x).setCell ⟨c, 1, none⟩ y).setCell ⟨c, 2, none⟩ z) b t cs := ((h.far hc _).far hc _).far hc _
theorem out_below {w w1 : World} {c : Nat} {x y z : Value} (h : Below w.heap.size w w1) (hc : w.heap.size ≤ c) :
    Below w.heap.size w (((w1.setCell ⟨c, 0, none⟩ x).setCell ⟨c, 1, none⟩ y).setCell ⟨c, 2, none⟩ z) := ((h.setCell hc _).setCell hc _).setCell hc _

theorem says_pit (s : Sen) (r g : Int) (w : World) (h : s.ch = 1) :
    Calls Try.prog 77 #[s.v, kickV r g] w fun e w' => e = .returned (.func (Fn.func 66) #[kickV r g] #[]) ∧ Below w.heap.size w w' := by
  obtain ⟨ch, pe, de, no, st, lo, li, ho⟩ := s
  subst h
  go_enter Try.func77, Try.ntmps77
  go_wp2
  go_returns
  refine ⟨rfl, ?_⟩
  repeat' (first | with_reducible exact Below.refl _ _ | with_reducible refine bstep ?_ (by with_reducible assumption) | with_reducible refine balloc ?_ | with_reducible refine bdrew ?_ | with_reducible refine bdrewN ?_ _ | with_reducible refine bset ?_ (by go_size))
theorem says_flow (s : Sen) (r g : Int) (w : World) (h : s.ch = 2) :
    Calls Try.prog 77 #[s.v, kickV r g] w fun e w' => e = .returned (.func (Fn.func 67) #[kickV r g] #[]) ∧ Below w.heap.size w w' := by
  obtain ⟨ch, pe, de, no, st, lo, li, ho⟩ := s
  subst h
  go_enter Try.func77, Try.ntmps77
  go_wp2
  go_returns
  refine ⟨rfl, ?_⟩
  repeat' (first | with_reducible exact Below.refl _ _ | with_reducible refine bstep ?_ (by with_reducible assumption) | with_reducible refine balloc ?_ | with_reducible refine bdrew ?_ | with_reducible refine bdrewN ?_ _ | with_reducible refine bset ?_ (by go_size))


set_option maxHeartbeats 2000000 in
set_option maxRecDepth 100000 in
theorem late_pit (pe de no st lo li ho r g : Int) (w : World) (hs : RangeOK ⟨1, pe, de, no, st, lo, li, ho⟩) (hk : KickOK r g) :
    Calls Try.prog 79 #[.agg #[.int .i64 1, .int .i64 pe, .int .i64 de, .int .i64 no, .int .i64 st, .int .i64 lo, .int .i64 li, .int .i64 ho], kickV r g] w fun e w' => e = .returned (lateV ⟨1, pe, de, no, st, lo, li, ho⟩ r g) ∧ Below w.heap.size w w' := by
  obtain ⟨h1, h2, h3, h4, h5, h6, h7, h8, h9, h10, h11, h12, h13, h14⟩ := hs
  simp only at h1 h2 h3 h4 h5 h6 h7 h8 h9 h10 h11 h12 h13 h14
  obtain ⟨n1, n2⟩ := mul_bd h5 h6 (by omega : 0 ≤ st) h8
  obtain ⟨q1, q2⟩ := mul_bd (by omega : 0 ≤ ho) h14 (by omega : 0 ≤ lo + 1) (by omega : lo + 1 ≤ 6)
  have q0 := mul_one_le h13 (by omega : 1 ≤ lo + 1)
  have HK := Lib.hid hk
  clear hk
  go_enter Try.func79, Try.ntmps79
  go_wp2_with fail
  go_step3
  go_wp2_with (go_at_call 77; refine (says_pit ⟨1, pe, de, no, st, lo, li, ho⟩ r g _ rfl).mono ?_; rintro e w1 ⟨rfl, hb⟩)
  go_step3
  have B0 : Blk w1 w.heap.size 23 (senCells 1 pe de no st lo li ho) := ((((Blk.new w _ _).alloc _).alloc _).alloc _).below hb
  have B2 : Blk w1 (w.heap.size + 1 + 1) 110 (outCells (0, 0, 0)) := by
    have h := ((Blk.new ((w.alloc (.cells #[.int .i64 1, .int .i64 pe, .int .i64 de, .int .i64 no, .int .i64 st, .int .i64 lo, .int .i64 li, .int .i64 ho] 23)).alloc (.cells #[.int .i64 r, .int .i64 g] 31)) 110 (outCells (0, 0, 0))).alloc (.cells (outCells (-1, 0, 0)) 110)).below hb
    simpa using h
  have B3 : Blk w1 (w.heap.size + 1 + 1 + 1) 110 (outCells (-1, 0, 0)) := by
    have h := (Blk.new (((w.alloc (.cells #[.int .i64 1, .int .i64 pe, .int .i64 de, .int .i64 no, .int .i64 st, .int .i64 lo, .int .i64 li, .int .i64 ho] 23)).alloc (.cells #[.int .i64 r, .int .i64 g] 31)).alloc (.cells (outCells (0, 0, 0)) 110)) 110 (outCells (-1, 0, 0))).below hb
    simpa using h
  have hbw : Below w.heap.size w w1 := by
    repeat' (first | with_reducible exact Below.refl _ _ | with_reducible refine bstep ?_ (by with_reducible assumption) | with_reducible refine balloc ?_ | with_reducible refine bdrew ?_ | with_reducible refine bdrewN ?_ _ | with_reducible refine bset ?_ (by go_size))
  obtain ⟨c1, -⟩ := sen_cells B0
  clear hb
  go_wp2_with fail
  go_loopg [17] (pe.toNat) (fun k v17 wx => ∃ (f : Nat) (o : Int × Int × Int), k + f = pe.toNat ∧ v17 = .int .i64 f ∧ Hid (lateGo ⟨1, pe, de, no, st, lo, li, ho⟩ r g k f o = lateF ⟨1, pe, de, no, st, lo, li, ho⟩ r g) ∧
    Blk wx w.heap.size 23 (senCells 1 pe de no st lo li ho) ∧ Blk wx (w.heap.size + 1 + 1) 110 (outCells (0, 0, 0)) ∧ Blk wx (w.heap.size + 1 + 1 + 1) 110 (outCells o) ∧ Below w.heap.size w wx)
  case atStart => exact ⟨0, (-1, 0, 0), rfl, rfl, rfl, B0, B2, B3, hbw⟩
  case round =>
    clear c1 B0 B2 B3 hbw
    obtain ⟨f, ⟨oa, ob, oc⟩, hkf, rfl, HG, B0, B2, B3, hbw⟩ := hrel
    cases gk with
    | zero =>
      have hlt : ¬ ((f : Int) < pe) := by omega
      obtain ⟨k0, k1, k2, -⟩ := out_cells B3
      obtain ⟨e0, e1, e2, f0, f1, f2⟩ := out_cells B2
      have hz := B3.lt
      have HV := Lib.hid (lateV_some (show lateF ⟨1, pe, de, no, st, lo, li, ho⟩ r g = some (oa, ob, oc) from HG.out.symm))
      clear HG
      go_wp2_with fail
      refine bodyPost_ret (v := .tuple #[.agg #[.int .i64 oa, .int .i64 ob, .int .i64 oc], .bool true]) (by simp [results, Try.results79, go_sem, cell_put_same, e0, e1, e2]) rfl ?_
      refine ⟨by rw [HV.out], ?_⟩
      repeat' (first | with_reducible exact Below.refl _ _ | with_reducible refine bstep ?_ (by with_reducible assumption) | with_reducible refine balloc ?_ | with_reducible refine bdrew ?_ | with_reducible refine bdrewN ?_ _ | with_reducible refine bset ?_ (by go_size))
    | succ k =>
      have hlt : (f : Int) < pe := by omega
      go_wp2_with fail
      go_loopg [9] 10001 (fun j v9 wy => ∃ a : Nat, j + a = 10001 ∧ v9 = .int .i64 a ∧ Hid (findA ⟨1, pe, de, no, st, lo, li, ho⟩ r g f j a = firstA ⟨1, pe, de, no, st, lo, li, ho⟩ r g f) ∧
        Blk wy w.heap.size 23 (senCells 1 pe de no st lo li ho) ∧ Blk wy (w.heap.size + 1 + 1) 110 (outCells (0, 0, 0)) ∧ Blk wy (w.heap.size + 1 + 1 + 1) 110 (outCells (oa, ob, oc)) ∧ Below w.heap.size w wy)
      case atStart => exact ⟨0, rfl, rfl, rfl, B0, B2, B3, hbw⟩
      case round =>
        clear B0 B2 B3 hbw
        rename_i wo _ _ _ _ _ _ _
        obtain ⟨a, hja, rfl, HF, B0, B2, B3, hbw⟩ := hrel
        obtain ⟨s1, s2, s3, s4, s5, s6, s7⟩ := sen_cells B0
        obtain ⟨k0, k1, k2, g0, g1, g2⟩ := out_cells B3
        obtain ⟨e0, e1, e2, f0, f1, f2⟩ := out_cells B2
        have hz0 := B0.lt
        have hz := B3.lt
        obtain ⟨p1, p2⟩ := mul_bd (by omega : (0 : Int) ≤ a) (by omega : (a : Int) ≤ 10001) (by omega : 0 ≤ pe) h2
        by_cases hr : (f : Int) + a * pe ≤ 10000
        · have ha1 : (a : Int) * 1 ≤ a * pe := Int.mul_le_mul_of_nonneg_left h1 (by omega)
          have ha2 : (a : Int) ≤ 10000 := by omega
          clear ha1
          have hj : ∃ j', gk = j' + 1 := ⟨gk - 1, by omega⟩
          obtain ⟨j, rfl⟩ := hj
          have hgb := says_bd (s := ⟨1, pe, de, no, st, lo, li, ho⟩) (n := (f : Int) + a * pe) HK.out (by omega)
          have hsay : saysAt ⟨1, pe, de, no, st, lo, li, ho⟩ r g ((f : Int) + a * pe) = gainAt r g ((f : Int) + a * pe) := by simp [saysAt]
          rw [hsay] at hgb
          obtain ⟨hg1, hg2⟩ := hgb
          by_cases hv : li ≤ gainAt r g ((f : Int) + a * pe) - no * st
          · have hfa : firstA ⟨1, pe, de, no, st, lo, li, ho⟩ r g f = some a := by rw [← HF.out]; simp [findA, hr, hsay, hv]
            obtain ⟨m1, m2⟩ := mul_bd (by omega : (0 : Int) ≤ a + ho * (lo + 1) - 1) (by omega : (a : Int) + ho * (lo + 1) - 1 ≤ 10049) (by omega : 0 ≤ pe) h2
            by_cases ht : 10000 < (f : Int) + (a + ho * (lo + 1) - 1) * pe + de
            · have HV := Lib.hid (lateV_none (show lateF ⟨1, pe, de, no, st, lo, li, ho⟩ r g = none by rw [← HG.out]; simp [lateGo, hfa, alarmT, ht]))
              clear HG hfa HF
              go_wp2_with fail
              have hn2 : (f : Int) + a * pe ≤ 20000 := by omega
              have W3 : IntKind.i64.wrap (no * st) = no * st := IntWalk.i64_in _ (by omega)
              have W4 : IntKind.i64.wrap (gainAt r g ((f : Int) + a * pe) - no * st) = gainAt r g ((f : Int) + a * pe) - no * st := IntWalk.i64_in _ (by omega)
              have W1 : IntKind.i64.wrap ((a : Int) * pe) = (a : Int) * pe := IntWalk.i64_in _ (by omega)
              have W2 : IntKind.i64.wrap ((f : Int) + (a : Int) * pe) = (f : Int) + (a : Int) * pe := IntWalk.i64_in _ (by omega)
              go_region_held3 (fun w' => w'.cell? ⟨w.heap.size, 1, none⟩ = some (.int .i64 pe) ∧ w'.cell? ⟨w.heap.size, 3, none⟩ = some (.int .i64 no) ∧ w'.cell? ⟨w.heap.size, 4, none⟩ = some (.int .i64 st) ∧ w'.cell? ⟨w.heap.size, 6, none⟩ = some (.int .i64 li)) (first | exact ⟨s1, s3, s4, s6⟩ | exact ⟨(hc _ _ hz0).trans s1, (hc _ _ hz0).trans s3, (hc _ _ hz0).trans s4, (hc _ _ hz0).trans s6⟩) (first | (go_at_call 66; (with_reducible refine (gain_any r g ((f : Int) + a * pe) _ HK.out hn2).mono ?_); rintro e w2 ⟨rfl, hb⟩; obtain ⟨hc, hf⟩ := bcell hb))
              clear W1 W2 W3 W4
              have B0' := B0.drew.below hb
              have B2' := B2.drew.below hb
              have B3' := B3.drew.below hb
              have hbw' : Below w.heap.size w w2 := by
                repeat' (first | with_reducible exact Below.refl _ _ | with_reducible refine bstep ?_ (by with_reducible assumption) | with_reducible refine balloc ?_ | with_reducible refine bdrew ?_ | with_reducible refine bdrewN ?_ _ | with_reducible refine bset ?_ (by go_size))
              clear s1 s2 s3 s4 s5 s6 s7 k0 k1 k2 g0 g1 g2 e0 e1 e2 f0 f1 f2 hz0 hz B0 B2 B3 hbw hc hf hb
              obtain ⟨s1, s2, s3, s4, s5, s6, s7⟩ := sen_cells B0'
              obtain ⟨k0, k1, k2, g0, g1, g2⟩ := out_cells B3'
              obtain ⟨e0, e1, e2, f0, f1, f2⟩ := out_cells B2'
              have hz0 := B0'.lt
              have hz := B3'.lt
              go_wp2_with fail
              rw [Exit.noGoto_ret]
              refine bodyPost_ret (v := .tuple #[.agg #[.int .i64 0, .int .i64 0, .int .i64 0], .bool false]) (by simp [results, Try.results79, go_sem, cell_put_same, e0, e1, e2]) rfl ?_
              refine ⟨by rw [HV.out], ?_⟩
              repeat' (first | with_reducible exact Below.refl _ _ | with_reducible refine bstep ?_ (by with_reducible assumption) | with_reducible refine balloc ?_ | with_reducible refine bdrew ?_ | with_reducible refine bdrewN ?_ _ | with_reducible refine bset ?_ (by go_size))
            · by_cases hgt : oa < (f : Int) + (a + ho * (lo + 1) - 1) * pe + de
              · have HG2 : Hid (lateGo ⟨1, pe, de, no, st, lo, li, ho⟩ r g k (f + 1) ((f : Int) + (a + ho * (lo + 1) - 1) * pe + de, (f : Int), (a : Int)) = lateF ⟨1, pe, de, no, st, lo, li, ho⟩ r g) := by
                  show _ = _
                  rw [← HG.out]; simp [lateGo, hfa, alarmT, ht, hgt]
                clear HG hfa HF
                go_wp2_with fail
                have hn2 : (f : Int) + a * pe ≤ 20000 := by omega
                have W3 : IntKind.i64.wrap (no * st) = no * st := IntWalk.i64_in _ (by omega)
                have W4 : IntKind.i64.wrap (gainAt r g ((f : Int) + a * pe) - no * st) = gainAt r g ((f : Int) + a * pe) - no * st := IntWalk.i64_in _ (by omega)
                have W1 : IntKind.i64.wrap ((a : Int) * pe) = (a : Int) * pe := IntWalk.i64_in _ (by omega)
                have W2 : IntKind.i64.wrap ((f : Int) + (a : Int) * pe) = (f : Int) + (a : Int) * pe := IntWalk.i64_in _ (by omega)
                go_region_held3 (fun w' => w'.cell? ⟨w.heap.size, 1, none⟩ = some (.int .i64 pe) ∧ w'.cell? ⟨w.heap.size, 3, none⟩ = some (.int .i64 no) ∧ w'.cell? ⟨w.heap.size, 4, none⟩ = some (.int .i64 st) ∧ w'.cell? ⟨w.heap.size, 6, none⟩ = some (.int .i64 li)) (first | exact ⟨s1, s3, s4, s6⟩ | exact ⟨(hc _ _ hz0).trans s1, (hc _ _ hz0).trans s3, (hc _ _ hz0).trans s4, (hc _ _ hz0).trans s6⟩) (first | (go_at_call 66; (with_reducible refine (gain_any r g ((f : Int) + a * pe) _ HK.out hn2).mono ?_); rintro e w2 ⟨rfl, hb⟩; obtain ⟨hc, hf⟩ := bcell hb))
                clear W1 W2 W3 W4
                have B0' := B0.drew.below hb
                have B2' := B2.drew.below hb
                have B3' := B3.drew.below hb
                have hbw' : Below w.heap.size w w2 := by
                  repeat' (first | with_reducible exact Below.refl _ _ | with_reducible refine bstep ?_ (by with_reducible assumption) | with_reducible refine balloc ?_ | with_reducible refine bdrew ?_ | with_reducible refine bdrewN ?_ _ | with_reducible refine bset ?_ (by go_size))
                clear s1 s2 s3 s4 s5 s6 s7 k0 k1 k2 g0 g1 g2 e0 e1 e2 f0 f1 f2 hz0 hz B0 B2 B3 hbw hc hf hb
                obtain ⟨s1, s2, s3, s4, s5, s6, s7⟩ := sen_cells B0'
                obtain ⟨k0, k1, k2, g0, g1, g2⟩ := out_cells B3'
                obtain ⟨e0, e1, e2, f0, f1, f2⟩ := out_cells B2'
                have hz0 := B0'.lt
                have hz := B3'.lt
                go_wp2_with fail
                go_roundg k
                case measure => omega
                case rel => exact ⟨f + 1, ((f : Int) + (a + ho * (lo + 1) - 1) * pe + de, (f : Int), (a : Int)), by omega, by go_num, HG2, out_far B0' (by omega), out_far B2' (by omega), out_put (x := ((f : Int) + (a + ho * (lo + 1) - 1) * pe + de, (f : Int), (a : Int))) B3', out_below hbw' (by omega)⟩
              · have HG2 : Hid (lateGo ⟨1, pe, de, no, st, lo, li, ho⟩ r g k (f + 1) (oa, ob, oc) = lateF ⟨1, pe, de, no, st, lo, li, ho⟩ r g) := by
                  show _ = _
                  rw [← HG.out]; simp [lateGo, hfa, alarmT, ht, hgt]
                clear HG hfa HF
                go_wp2_with fail
                have hn2 : (f : Int) + a * pe ≤ 20000 := by omega
                have W3 : IntKind.i64.wrap (no * st) = no * st := IntWalk.i64_in _ (by omega)
                have W4 : IntKind.i64.wrap (gainAt r g ((f : Int) + a * pe) - no * st) = gainAt r g ((f : Int) + a * pe) - no * st := IntWalk.i64_in _ (by omega)
                have W1 : IntKind.i64.wrap ((a : Int) * pe) = (a : Int) * pe := IntWalk.i64_in _ (by omega)
                have W2 : IntKind.i64.wrap ((f : Int) + (a : Int) * pe) = (f : Int) + (a : Int) * pe := IntWalk.i64_in _ (by omega)
                go_region_held3 (fun w' => w'.cell? ⟨w.heap.size, 1, none⟩ = some (.int .i64 pe) ∧ w'.cell? ⟨w.heap.size, 3, none⟩ = some (.int .i64 no) ∧ w'.cell? ⟨w.heap.size, 4, none⟩ = some (.int .i64 st) ∧ w'.cell? ⟨w.heap.size, 6, none⟩ = some (.int .i64 li)) (first | exact ⟨s1, s3, s4, s6⟩ | exact ⟨(hc _ _ hz0).trans s1, (hc _ _ hz0).trans s3, (hc _ _ hz0).trans s4, (hc _ _ hz0).trans s6⟩) (first | (go_at_call 66; (with_reducible refine (gain_any r g ((f : Int) + a * pe) _ HK.out hn2).mono ?_); rintro e w2 ⟨rfl, hb⟩; obtain ⟨hc, hf⟩ := bcell hb))
                clear W1 W2 W3 W4
                have B0' := B0.drew.below hb
                have B2' := B2.drew.below hb
                have B3' := B3.drew.below hb
                have hbw' : Below w.heap.size w w2 := by
                  repeat' (first | with_reducible exact Below.refl _ _ | with_reducible refine bstep ?_ (by with_reducible assumption) | with_reducible refine balloc ?_ | with_reducible refine bdrew ?_ | with_reducible refine bdrewN ?_ _ | with_reducible refine bset ?_ (by go_size))
                clear s1 s2 s3 s4 s5 s6 s7 k0 k1 k2 g0 g1 g2 e0 e1 e2 f0 f1 f2 hz0 hz B0 B2 B3 hbw hc hf hb
                obtain ⟨s1, s2, s3, s4, s5, s6, s7⟩ := sen_cells B0'
                obtain ⟨k0, k1, k2, g0, g1, g2⟩ := out_cells B3'
                obtain ⟨e0, e1, e2, f0, f1, f2⟩ := out_cells B2'
                have hz0 := B0'.lt
                have hz := B3'.lt
                go_wp2_with fail
                go_roundg k
                case measure => omega
                case rel => exact ⟨f + 1, (oa, ob, oc), by omega, by go_num, HG2, B0', B2', B3', hbw'⟩
          · have HF2 : Hid (findA ⟨1, pe, de, no, st, lo, li, ho⟩ r g f j (a + 1) = firstA ⟨1, pe, de, no, st, lo, li, ho⟩ r g f) := by
              show _ = _
              rw [← HF.out]; simp [findA, hr, hsay, hv]
            clear HF
            go_wp2_with fail
            have hn2 : (f : Int) + a * pe ≤ 20000 := by omega
            have W3 : IntKind.i64.wrap (no * st) = no * st := IntWalk.i64_in _ (by omega)
            have W4 : IntKind.i64.wrap (gainAt r g ((f : Int) + a * pe) - no * st) = gainAt r g ((f : Int) + a * pe) - no * st := IntWalk.i64_in _ (by omega)
            have W1 : IntKind.i64.wrap ((a : Int) * pe) = (a : Int) * pe := IntWalk.i64_in _ (by omega)
            have W2 : IntKind.i64.wrap ((f : Int) + (a : Int) * pe) = (f : Int) + (a : Int) * pe := IntWalk.i64_in _ (by omega)
            go_region_held3 (fun w' => w'.cell? ⟨w.heap.size, 1, none⟩ = some (.int .i64 pe) ∧ w'.cell? ⟨w.heap.size, 3, none⟩ = some (.int .i64 no) ∧ w'.cell? ⟨w.heap.size, 4, none⟩ = some (.int .i64 st) ∧ w'.cell? ⟨w.heap.size, 6, none⟩ = some (.int .i64 li)) (first | exact ⟨s1, s3, s4, s6⟩ | exact ⟨(hc _ _ hz0).trans s1, (hc _ _ hz0).trans s3, (hc _ _ hz0).trans s4, (hc _ _ hz0).trans s6⟩) (first | (go_at_call 66; (with_reducible refine (gain_any r g ((f : Int) + a * pe) _ HK.out hn2).mono ?_); rintro e w2 ⟨rfl, hb⟩; obtain ⟨hc, hf⟩ := bcell hb))
            clear W1 W2 W3 W4
            have B0' := B0.drew.below hb
            have B2' := B2.drew.below hb
            have B3' := B3.drew.below hb
            have hbw' : Below w.heap.size w w2 := by
              repeat' (first | with_reducible exact Below.refl _ _ | with_reducible refine bstep ?_ (by with_reducible assumption) | with_reducible refine balloc ?_ | with_reducible refine bdrew ?_ | with_reducible refine bdrewN ?_ _ | with_reducible refine bset ?_ (by go_size))
            clear s1 s2 s3 s4 s5 s6 s7 k0 k1 k2 g0 g1 g2 e0 e1 e2 f0 f1 f2 hz0 hz B0 B2 B3 hbw hc hf hb
            obtain ⟨s1, s2, s3, s4, s5, s6, s7⟩ := sen_cells B0'
            obtain ⟨k0, k1, k2, g0, g1, g2⟩ := out_cells B3'
            obtain ⟨e0, e1, e2, f0, f1, f2⟩ := out_cells B2'
            have hz0 := B0'.lt
            have hz := B3'.lt
            go_wp2_with fail
            go_roundg j
            case measure => omega
            case rel => exact ⟨a + 1, by omega, by go_num, HF2, B0', B2', B3', hbw'⟩
        · have hfa : firstA ⟨1, pe, de, no, st, lo, li, ho⟩ r g f = none := by
            rw [← HF.out]
            cases gk <;> simp [findA, hr]
          have HV := Lib.hid (lateV_none (show lateF ⟨1, pe, de, no, st, lo, li, ho⟩ r g = none by rw [← HG.out]; simp [lateGo, hfa]))
          clear HG hfa HF
          go_wp2_with fail
          refine bodyPost_ret (v := .tuple #[.agg #[.int .i64 0, .int .i64 0, .int .i64 0], .bool false]) (by simp [results, Try.results79, go_sem, cell_put_same, e0, e1, e2]) rfl ?_
          refine ⟨by rw [HV.out], ?_⟩
          repeat' (first | with_reducible exact Below.refl _ _ | with_reducible refine bstep ?_ (by with_reducible assumption) | with_reducible refine balloc ?_ | with_reducible refine bdrew ?_ | with_reducible refine bdrewN ?_ _ | with_reducible refine bset ?_ (by go_size))

end Go.Proofs.Ytlbgcjpkegpmlaa
/- A block of n integers, told by a function. -/
namespace Go.Proofs.Ytlbgcjpkegpmlaa
open Go.RowKit

def fcells (n : Nat) (F : Nat → Int) : Array Value := ((List.range n).map fun j => Value.int .i64 (F j)).toArray
/-- Block b holds just the n integers F 0, F 1, .. -/
def FB (w : World) (b : Nat) (t : TypeId) (n : Nat) (F : Nat → Int) : Prop := Blk w b t (fcells n F)
section
variable {w w' : World} {b n : Nat} {t : TypeId} {F G : Nat → Int}
theorem FB.lt (h : FB w b t n F) : b < w.heap.size := Blk.lt h
theorem FB.cell (h : FB w b t n F) (i : Nat) (hi : i < n) : w.cell? ⟨b, i, none⟩ = some (.int .i64 (F i)) := Blk.cell h i (by simp [fcells, hi])
theorem FB.froz (h : FB w b t n F) (i : Nat) : w.frozen? ⟨b, i, none⟩ = false := Blk.froz h i
theorem fcells_congr (h : ∀ j, j < n → F j = G j) : fcells n F = fcells n G := by
  unfold fcells
  rw [List.map_congr_left (fun j hj => by rw [h j (by simpa using hj)])]
theorem FB.congr (h : FB w b t n F) (hg : ∀ j, j < n → F j = G j) : FB w b t n G := by
  unfold FB at h ⊢
  rwa [← fcells_congr hg]
theorem fcells_set (i : Nat) (x : Int) : (fcells n F).setIfInBounds i (.int .i64 x) = fcells n fun j => if j = i then x else F j := by
  apply Array.ext_getElem?
  intro j
  simp only [fcells, List.setIfInBounds_toArray, List.getElem?_toArray, List.getElem?_set, List.length_map, List.length_range, List.getElem?_map]
  by_cases hj : j < n
  · by_cases e : i = j
    · subst e; simp [hj]
    · have e' : ¬ j = i := fun h => e h.symm
      simp [hj, e, e']
  · by_cases e : i = j
    · subst e; simp [hj]
    · simp [hj, e]
theorem FB.put (h : FB w b t n F) (i : Nat) (x : Int) : FB (w.setCell ⟨b, i, none⟩ (.int .i64 x)) b t n fun j => if j = i then x else F j := by
  have := Blk.put h i (.int .i64 x)
  rw [fcells_set] at this
  exact this
theorem FB.far (h : FB w b t n F) {p : Addr} (hp : b ≠ p.block) (u : Value) : FB (w.setCell p u) b t n F := Blk.far h hp u
theorem FB.alloc (h : FB w b t n F) (o : Obj) : FB (w.alloc o) b t n F := Blk.alloc h o
theorem FB.below (h : FB w b t n F) (hb : Below w.heap.size w w') : FB w' b t n F := Blk.below h hb
end
theorem fcells9 (F : Nat → Int) : fcells 9 F = #[.int .i64 (F 0), .int .i64 (F 1), .int .i64 (F 2), .int .i64 (F 3), .int .i64 (F 4), .int .i64 (F 5), .int .i64 (F 6), .int .i64 (F 7), .int .i64 (F 8)] := by
  simp [fcells, List.range, List.range.loop]
theorem FB.new9 (w : World) (t : TypeId) (F : Nat → Int) : FB (w.alloc (.cells #[.int .i64 (F 0), .int .i64 (F 1), .int .i64 (F 2), .int .i64 (F 3), .int .i64 (F 4), .int .i64 (F 5), .int .i64 (F 6), .int .i64 (F 7), .int .i64 (F 8)] t)) w.heap.size t 9 F := by
  rw [← fcells9]; exact Blk.new w t _
theorem FB.cells9 {w : World} {b : Nat} {t : TypeId} {F : Nat → Int} (h : FB w b t 9 F) :
    w.cell? ⟨b, 0, none⟩ = some (.int .i64 (F 0)) ∧ w.cell? ⟨b, 1, none⟩ = some (.int .i64 (F 1)) ∧ w.cell? ⟨b, 2, none⟩ = some (.int .i64 (F 2)) ∧ w.cell? ⟨b, 3, none⟩ = some (.int .i64 (F 3)) ∧ w.cell? ⟨b, 4, none⟩ = some (.int .i64 (F 4)) ∧
    w.cell? ⟨b, 5, none⟩ = some (.int .i64 (F 5)) ∧ w.cell? ⟨b, 6, none⟩ = some (.int .i64 (F 6)) ∧ w.cell? ⟨b, 7, none⟩ = some (.int .i64 (F 7)) ∧ w.cell? ⟨b, 8, none⟩ = some (.int .i64 (F 8)) :=
  ⟨h.cell 0 (by omega), h.cell 1 (by omega), h.cell 2 (by omega), h.cell 3 (by omega), h.cell 4 (by omega), h.cell 5 (by omega), h.cell 6 (by omega), h.cell 7 (by omega), h.cell 8 (by omega)⟩
theorem FB.put9 {w : World} {b : Nat} {t : TypeId} {F G : Nat → Int} (h : FB w b t 9 F) :
    FB (((((((((w.setCell ⟨b, 0, none⟩ (.int .i64 (G 0))).setCell ⟨b, 1, none⟩ (.int .i64 (G 1))).setCell ⟨b, 2, none⟩ (.int .i64 (G 2))).setCell ⟨b, 3, none⟩ (.int .i64 (G 3))).setCell ⟨b, 4, none⟩ (.int .i64 (G 4))).setCell ⟨b, 5, none⟩ (.int .i64 (G 5))).setCell ⟨b, 6, none⟩ (.int .i64 (G 6))).setCell ⟨b, 7, none⟩ (.int .i64 (G 7))).setCell ⟨b, 8, none⟩ (.int .i64 (G 8))) b t 9 G :=
  (((((((((h.put 0 (G 0)).put 1 (G 1)).put 2 (G 2)).put 3 (G 3)).put 4 (G 4)).put 5 (G 5)).put 6 (G 6)).put 7 (G 7)).put 8 (G 8)).congr fun j hj => by
    have : j = 0 ∨ j = 1 ∨ j = 2 ∨ j = 3 ∨ j = 4 ∨ j = 5 ∨ j = 6 ∨ j = 7 ∨ j = 8 := by omega
    rcases this with rfl | rfl | rfl | rfl | rfl | rfl | rfl | rfl | rfl <;> simp
theorem Blk.far9 {w : World} {b c : Nat} {t : TypeId} {cs : Array Value} {x0 x1 x2 x3 x4 x5 x6 x7 x8 : Value} (h : Blk w b t cs) (hc : b ≠ c) :
    Blk (((((((((w.setCell ⟨c, 0, none⟩ x0).setCell ⟨c, 1, none⟩ x1).setCell ⟨c, 2, none⟩ x2).setCell ⟨c, 3, none⟩ x3).setCell ⟨c, 4, none⟩ x4).setCell ⟨c, 5, none⟩ x5).setCell ⟨c, 6, none⟩ x6).setCell ⟨c, 7, none⟩ x7).setCell ⟨c, 8, none⟩ x8) b t cs :=
  ((((((((h.far hc _).far hc _).far hc _).far hc _).far hc _).far hc _).far hc _).far hc _).far hc _
theorem below9 {w w1 : World} {c : Nat} {x0 x1 x2 x3 x4 x5 x6 x7 x8 : Value} (h : Below w.heap.size w w1) (hc : w.heap.size ≤ c) :
    Below w.heap.size w (((((((((w1.setCell ⟨c, 0, none⟩ x0).setCell ⟨c, 1, none⟩ x1).setCell ⟨c, 2, none⟩ x2).setCell ⟨c, 3, none⟩ x3).setCell ⟨c, 4, none⟩ x4).setCell ⟨c, 5, none⟩ x5).setCell ⟨c, 6, none⟩ x6).setCell ⟨c, 7, none⟩ x7).setCell ⟨c, 8, none⟩ x8) :=
  ((((((((h.setCell hc _).setCell hc _).setCell hc _).setCell hc _).setCell hc _).setCell hc _).setCell hc _).setCell hc _).setCell hc _
theorem fcells_made (n : Nat) : madeCells #[.int .i64 0] n = fcells n fun _ => 0 := by
  apply Array.ext_getElem?
  intro i
  by_cases h : i < n
  · simp [madeCells, fcells, h, Nat.mod_one]
  · simp [madeCells, fcells, h]
/-- make of n integers, of whatever type: the block that is made, and that nothing else has turned. -/
theorem make_ints {P : Program} {t e : TypeId} {bytes : Nat} (ht : P.underlying t = some (.slice e)) (hi : (P.info? e).map (fun i => (i.zero, i.size, i.bytes)) = some (some (.int .i64 0), 1, bytes)) (kl kc : IntKind) (n : Nat) (hb : bytes * n ≤ 281474976710656) (hn : n ≤ 9223372036854775807) (w : World) :
    ∃ w', (Instr.makeSlice t (.int kl (n : Int)) (.int kc (n : Int))).run P w = .ok (.slice (some ⟨w.heap.size, 0, none⟩) n n) w' ∧ FB w' w.heap.size e n (fun _ => 0) ∧ Below w.heap.size w w' ∧ w'.heap.size = w.heap.size + 1 :=
  ⟨_, run_make_row' t e (.int .i64 0) bytes ht hi rfl kl kc n hb hn w, by rw [fcells_made]; exact Blk.new w e _, balloc (Below.refl _ _), by simp⟩
end Go.Proofs.Ytlbgcjpkegpmlaa
/- The contract of kick.False. -/
namespace Go.Proofs.Ytlbgcjpkegpmlaa
open Go.RowKit


theorem arr96 : Try.prog.arrayLen 96 = 9 := by kernel_rfl
theorem elem96 (w : World) : (sizeOf (Try.prog.elem 96)).run Try.prog w = .ok 1 w := by kernel_rfl
theorem und96 : Try.prog.underlying 96 = some (.array (Try.prog.arrayLen 96) (Try.prog.elem 96)) := by kernel_rfl
theorem slice96 (q : Nat) (hq : q ≤ 9) (b : Nat) (w : World) : (Instr.sliceAt 96 (.pointer (some ⟨b, 0, none⟩)) none (some (.int .i64 (q : Int))) none).run Try.prog w = .ok (.slice (some ⟨b, 0, none⟩) q 9) w := by
  rw [run_sliceAt_array_h w 96 ⟨b, 0, none⟩ und96 .i64 q (by omega) (by rw [arr96]; omega), elem96, arr96]
  simp [slicedAt, Result.andThen, Addr.add]

set_option maxHeartbeats 2000000 in
set_option maxRecDepth 100000 in
theorem False_ok (ch pe de no st lo li d : Int) (q : Nat) (w : World) (hk : KindOK ⟨ch, pe, de, no, st, lo, li, q⟩) (hs : RangeOK ⟨ch, pe, de, no, st, lo, li, q⟩) (hd1 : 1 ≤ d) (hd2 : d ≤ 12) :
    Calls Try.prog 17 #[.agg #[.int .i64 ch, .int .i64 pe, .int .i64 de, .int .i64 no, .int .i64 st, .int .i64 lo, .int .i64 li, .int .i64 q], .int .i64 d] w fun e w' =>
      e = .returned (.tuple #[.int .i64 (falseP ⟨ch, pe, de, no, st, lo, li, q⟩ d.toNat).1, .int .i64 (falseP ⟨ch, pe, de, no, st, lo, li, q⟩ d.toNat).2, .int .i64 0]) ∧ Below w.heap.size w w' := by
  have HS := Lib.hid (show SenOK ⟨ch, pe, de, no, st, lo, li, q⟩ from ⟨hk, hs⟩)
  have hhi := high_bd hs
  obtain ⟨h1, h2, h3, h4, h5, h6, h7, h8, h9, h10, h11, h12, h13, h14⟩ := hs
  simp only at h1 h2 h3 h4 h5 h6 h7 h8 h9 h10 h11 h12 h13 h14 hhi
  obtain ⟨hh0, hh1⟩ := hhi
  clear hk
  go_enter Try.func17, Try.ntmps17
  go_wp2_with fail
  refine (checkSensor_yes ⟨ch, pe, de, no, st, lo, li, q⟩ _ HS.out).mono ?_
  rintro e w1 ⟨rfl, hb⟩
  have B0 : Blk w1 w.heap.size 23 (senCells ch pe de no st lo li q) := (Blk.new w _ _).below hb
  have hbw : Below w.heap.size w w1 := by
    repeat' (first | with_reducible exact Below.refl _ _ | with_reducible refine bstep ?_ (by with_reducible assumption) | with_reducible refine balloc ?_ | with_reducible refine bdrew ?_ | with_reducible refine bdrewN ?_ _ | with_reducible refine bset ?_ (by go_size))
  obtain ⟨s1, s2, s3, s4, s5, s6, s7⟩ := sen_cells B0
  clear hb
  have hd3 : ¬ (d < 1) := by omega
  have hd4 : ¬ (12 < d) := by omega
  go_wp2_with fail
  -- the high errors
  have HF : Hid (highGo st li (2 * no + 1).toNat (-no) 0 = highF ⟨ch, pe, de, no, st, lo, li, q⟩) := rfl
  go_loopg [9, 10] ((2 * no + 1).toNat) (fun k v9 v10 wx => ∃ x hi : Int, (k : Int) + x = no + 1 ∧ -no ≤ x ∧ 0 ≤ hi ∧ hi + k ≤ 31 ∧ v9 = .int .i64 hi ∧ v10 = .int .i64 x ∧ Hid (highGo st li k x hi = highF ⟨ch, pe, de, no, st, lo, li, q⟩) ∧ w1 = wx)
  case atStart => exact ⟨-no, 0, by omega, by omega, by omega, by omega, rfl, rfl, HF, rfl⟩
  case round =>
    obtain ⟨x, h, hkx, hx1, hhi1, hhi2, rfl, rfl, HG, rfl⟩ := hrel
    clear HF
    cases gk with
    | succ k =>
      have hx : x ≤ no := by omega
      have hxs : -15728640 ≤ x * st ∧ x * st ≤ 31457280 := by
        have e := mul_bd (by omega : 0 ≤ x + 15) (by omega : x + 15 ≤ 30) (by omega : 0 ≤ st) h8
        have e2 := mul_bd (by omega : (0 : Int) ≤ 15) (by omega : (15 : Int) ≤ 15) (by omega : 0 ≤ st) h8
        rw [Int.add_mul] at e
        omega
      obtain ⟨hxs1, hxs2⟩ := hxs
      by_cases hv : li ≤ x * st
      · have HG2 : Hid (highGo st li k (x + 1) (h + 1) = highF ⟨ch, pe, de, no, st, lo, li, q⟩) := by
          show _ = _
          rw [← HG.out]; simp [highGo, hv]
        clear HG
        go_wp2_with fail
        go_roundg k
        case measure => omega
        case rel => exact ⟨x + 1, h + 1, by omega, by omega, by omega, by omega, by go_num, by go_num, HG2, rfl⟩
      · have HG2 : Hid (highGo st li k (x + 1) h = highF ⟨ch, pe, de, no, st, lo, li, q⟩) := by
          show _ = _
          rw [← HG.out]; simp [highGo, hv]
        clear HG
        go_wp2_with fail
        go_roundg k
        case measure => omega
        case rel => exact ⟨x + 1, h, by omega, by omega, by omega, by omega, rfl, by go_num, HG2, rfl⟩
    | zero =>
      have hx : no < x := by omega
      have hh : h = highF ⟨ch, pe, de, no, st, lo, li, q⟩ := HG.out
      rw [← hh] at hh0 hh1
      have HH := Lib.hid hh.symm
      clear hh HG
      have hw1 := B0.lt
      have HG : Hid (falseGo (2 * no + 1) h q d.toNat row0 0 1 = falseP ⟨ch, pe, de, no, st, lo, li, q⟩ d.toNat) := by
        show _ = _
        unfold falseP
        rw [HH.out, Int.toNat_natCast]
      go_wp2_with fail
      -- the rows
      go_loopg [4, 5, 50] (d.toNat) (fun k v4 v5 v50 wx => ∃ (j : Nat) (R : Nat → Int) (al all : Int), k + j = d.toNat ∧ v50 = .int .i64 j ∧ v4 = .int .i64 al ∧ v5 = .int .i64 all ∧ Hid (falseGo (2 * no + 1) h q k R al all = falseP ⟨ch, pe, de, no, st, lo, li, q⟩ d.toNat) ∧ Rows9 (2 * no + 1) h q j R al all ∧
        Blk wx w.heap.size 23 (senCells ch pe de no st lo li q) ∧ FB wx w1.heap.size 96 9 R ∧ Below w.heap.size w wx)
      case atStart =>
        exact ⟨0, row0, 0, 1, rfl, rfl, rfl, rfl, HG, Rows9.start _ _ _ (by omega), B0.alloc _, FB.new9 w1 96 row0, balloc hbw⟩
      case round =>
        clear HG s1 s2 s3 s4 s5 s6 s7
        obtain ⟨j, R, al, all, hkj, rfl, rfl, rfl, HG, HR, B1, F1, hbx⟩ := hrel
        obtain ⟨s1, s2, s3, s4, s5, s6, s7⟩ := sen_cells B1
        have hz0 := B1.lt
        have hz1 := F1.lt
        cases gk with
        | zero =>
          have hjd : ¬ ((j : Int) < d) := by omega
          have HV : Hid ((al, all) = falseP ⟨ch, pe, de, no, st, lo, li, q⟩ d.toNat) := HG.out
          clear HG
          go_wp2_with fail
          go_ret3
          rw [← HV.out]
          exact ⟨rfl, hbx⟩
        | succ k =>
          have hjd : (j : Int) < d := by omega
          have HG2 : Hid (falseGo (2 * no + 1) h q k (stepRow (2 * no + 1) h q R) (al * (2 * no + 1) + R (q - 1) * h) (all * (2 * no + 1)) = falseP ⟨ch, pe, de, no, st, lo, li, q⟩ d.toNat) := HG.out
          clear HG
          have HR2 := HR.step (by omega) hh0 (by omega) (by omega)
          obtain ⟨b1, b2, b3, b4⟩ := HR.small (by omega) (by omega) (by omega)
          obtain ⟨d1, d2⟩ := mul_bd HR.al0 b2 (by omega : 0 ≤ 2 * no + 1) (by omega : 2 * no + 1 ≤ 31)
          obtain ⟨d3, d4⟩ := mul_bd (by have := HR.one; omega : 0 ≤ all) b1 (by omega : 0 ≤ 2 * no + 1) (by omega : 2 * no + 1 ≤ 31)
          obtain ⟨c0, c1, c2, c3, c4, c5, c6, c7, c8⟩ := F1.cells9
          have g0 := F1.froz 0
          have g1 := F1.froz 1
          have g2 := F1.froz 2
          have g3 := F1.froz 3
          have g4 := F1.froz 4
          have g5 := F1.froz 5
          have g6 := F1.froz 6
          have g7 := F1.froz 7
          have g8 := F1.froz 8
          have HB4 := Lib.hid b4
          clear b4
          have hsl := slice96 q (by omega) wr.heap.size
          have hnew : ∀ W' : World, W'.heap.size = wr.heap.size → FB (W'.alloc (.cells #[.int .i64 (R 0), .int .i64 (R 1), .int .i64 (R 2), .int .i64 (R 3), .int .i64 (R 4), .int .i64 (R 5), .int .i64 (R 6), .int .i64 (R 7), .int .i64 (R 8)] 96)) wr.heap.size 96 9 R := fun W' e => by rw [← e]; exact FB.new9 W' 96 R
          have HN := Lib.hid hnew
          clear hnew
          obtain ⟨wo, rfl⟩ : ∃ wo : World, wo = wr := ⟨_, rfl⟩
          go_wp2_with fail
          go_loopg [58] q (fun z v58 wy => ∃ m : Nat, z + m = q ∧ v58 = .int .i64 m ∧ Blk wy w.heap.size 23 (senCells ch pe de no st lo li q) ∧ FB wy wo.heap.size 96 9 R ∧ FB wy w1.heap.size 96 9 (partRow (2 * no + 1) h R m) ∧ Below w.heap.size w wy)
          case atStart =>
            refine ⟨0, rfl, rfl, (B1.far9 (by omega)).alloc _, HN.out _ (by simp), ((F1.put9 (G := fun _ => 0)).alloc _).congr (fun j _ => (partRow_zero _ _ _ j).symm), balloc (below9 hbx (by omega))⟩
          case round =>
            clear HN hsl c0 c1 c2 c3 c4 c5 c6 c7 c8 g0 g1 g2 g3 g4 g5 g6 g7 g8 s1 s2 s3 s4 s5 s6 s7
            obtain ⟨m, hzm, rfl, B2, F2, F3, hby⟩ := hrel
            obtain ⟨s1, s2, s3, s4, s5, s6, s7⟩ := sen_cells B2
            have hz2 := B2.lt
            have hz3 := F3.lt
            have hz4 := F2.lt
            cases gk with
            | zero =>
              obtain rfl : m = q := by omega
              have hlt : ¬ ((m : Int) < (m : Int)) := by omega
              have e0 : partRow (2 * no + 1) h R m m = R (m - 1) * h := by simp [partRow, show ¬ m = 0 from by omega]
              obtain ⟨p1, p2⟩ := mul_bd (HR.pos (m - 1)) (HB4.out (m - 1) (by omega)) hh0 (by omega : h ≤ 31)
              have cm := F3.cell m (by omega)
              rw [e0] at cm
              have gm := F3.froz m
              clear e0
              have HE := Lib.hid HR2
              clear HR2
              go_wp2_with fail
              go_roundg k
              case measure => omega
              case rel =>
                exact ⟨j + 1, stepRow (2 * no + 1) h m R, al * (2 * no + 1) + R (m - 1) * h, all * (2 * no + 1), by omega, by go_num, rfl, rfl, HG2, HE.out, B2.far (by simp; omega) _, (F3.put m 0).congr (fun j _ => partRow_step _ _ _ _ _ (by omega)), bset hby (by simp; omega)⟩
            | succ z =>
              have hlt : (m : Int) < (q : Int) := by omega
              have e0 : partRow (2 * no + 1) h R m 0 = sumTo (fun k => R k * (2 * no + 1 - h)) m := by simp [partRow]
              have e1 : partRow (2 * no + 1) h R m (m + 1) = 0 := by simp [partRow]
              have cm := F2.cell m (by omega)
              have c0 := F3.cell 0 (by omega)
              have c1 := F3.cell (m + 1) (by omega)
              rw [e0] at c0
              rw [e1] at c1
              have g0 := F3.froz 0
              have g1 := F3.froz (m + 1)
              clear e0 e1
              obtain ⟨p1, p2⟩ := mul_bd (HR.pos m) (HB4.out m (by omega)) hh0 (by omega : h ≤ 31)
              obtain ⟨p3, p4⟩ := mul_bd (HR.pos m) (HB4.out m (by omega)) (by omega : 0 ≤ 2 * no + 1 - h) (by omega : 2 * no + 1 - h ≤ 31)
              have p5 : 0 ≤ sumTo (fun k => R k * (2 * no + 1 - h)) m := sumTo_nonneg (fun k => Int.mul_nonneg (HR.pos k) (by omega)) m
              have p6 : sumTo (fun k => R k * (2 * no + 1 - h)) m ≤ 25408476896404831 * 31 := by
                rw [sumTo_mul]
                exact (mul_bd (sumTo_nonneg HR.pos m) (Int.le_trans (sumTo_mono HR.pos (by omega : m ≤ q)) b3) (by omega) (by omega)).2
              generalize hS : sumTo (fun k => R k * (2 * no + 1 - h)) m = S at c0 p5 p6
              have HS2 := Lib.hid hS
              clear hS
              go_wp2_with fail
              go_roundg z
              case measure => omega
              case rel =>
                exact ⟨m + 1, by omega, by go_num, (B2.far (by simp; omega) _).far (by simp; omega) _, (F2.far (by simp; omega) _).far (by simp; omega) _, ((F3.put 0 (S + R m * (2 * no + 1 - h))).put (m + 1) (R m * h)).congr (fun j _ => by rw [← HS2.out]; exact partRow_succ _ _ _ _ _), bset (bset hby (by simp; omega)) (by simp; omega)⟩
end Go.Proofs.Ytlbgcjpkegpmlaa
/- kick.False and the examples, for the table; steps where all is known. -/
namespace Go.Proofs.Ytlbgcjpkegpmlaa
open Go.RowKit
set_option linter.unusedSimpArgs false
set_option linter.unusedVariables false

theorem falseGo_bd {n h : Int} {ho : Nat} (hh : 1 ≤ ho) (h0 : 0 ≤ h) (h1 : h ≤ n) (hn : 1 ≤ n) : ∀ {d i : Nat} {R : Nat → Int} {al all : Int}, Rows9 n h ho i R al all → 0 ≤ (falseGo n h ho d R al all).1 ∧ (falseGo n h ho d R al all).1 ≤ (falseGo n h ho d R al all).2 ∧ (falseGo n h ho d R al all).2 ≤ n ^ (i + d)
  | 0, i, R, al, all, hr => by
    have := sumTo_nonneg hr.pos ho
    have := hr.sum
    exact ⟨hr.al0, by show al ≤ all; omega, hr.pow⟩
  | d + 1, i, R, al, all, hr => by
    rw [falseGo, show i + (d + 1) = i + 1 + d by omega]
    exact falseGo_bd hh h0 h1 hn (hr.step hh h0 h1 hn)
theorem falseP_bd {s : Sen} (hs : SenOK s) {d : Nat} (hd : d ≤ 12) : 0 ≤ (falseP s d).1 ∧ (falseP s d).1 ≤ (falseP s d).2 ∧ (falseP s d).2 ≤ 787662783788549761 := by
  obtain ⟨-, hr⟩ := hs
  obtain ⟨hh0, hh1⟩ := high_bd hr
  unfold RangeOK at hr
  have := falseGo_bd (n := 2 * s.no + 1) (h := highF s) (ho := s.ho.toNat) (by omega) hh0 hh1 (by omega) (d := d) (Rows9.start (2 * s.no + 1) (highF s) s.ho.toNat (by omega))
  refine ⟨this.1, this.2.1, Int.le_trans this.2.2 ?_⟩
  refine Int.le_trans (pow_mono (by omega) (show 2 * s.no + 1 ≤ 31 by omega) (0 + d)).1 ?_
  have : ∀ d : Nat, d ≤ 12 → (31 : Int) ^ (0 + d) ≤ 787662783788549761 := by decide
  exact this d hd
theorem lreps_ints {P : Program} {w : World} {O : Nat → Nat → Prop} : ∀ {n : Nat} {us : List Value} {cs : List C}, LReps P w O (List.replicate n .int) us cs → ∃ ns : List Int, ns.length = n ∧ us = ns.map (Value.int .i64) ∧ cs = ns.map .i
  | 0, us, cs, h => by
    match us, cs, h with
    | [], [], _ => exact ⟨[], rfl, rfl, rfl⟩
  | n + 1, us, cs, h => by
    match us, cs, h with
    | u :: us, c :: cs, h =>
      obtain ⟨⟨-, m, rfl, rfl⟩, h2⟩ := h
      obtain ⟨ns, h3, rfl, rfl⟩ := lreps_ints h2
      exact ⟨m :: ns, by simp [h3], rfl, rfl⟩
theorem false_tok : tab4.ok 17 := by
  refine Tab.of_ct rfl rfl ⟨_, Try.func17, by decide, rfl⟩ ?_ ctF_det
  intro Base w vs cs hB hr hpre
  obtain ⟨a0, a1, a2, a3, a4, a5, a6, a7, d, rfl, rfl⟩ : ∃ a0 a1 a2 a3 a4 a5 a6 a7 d : Int, vs = [.agg #[.int .i64 a0, .int .i64 a1, .int .i64 a2, .int .i64 a3, .int .i64 a4, .int .i64 a5, .int .i64 a6, .int .i64 a7], .int .i64 d] ∧ cs = [.i a0, .i a1, .i a2, .i a3, .i a4, .i a5, .i a6, .i a7, .i d] := by
    match vs, hr with
    | [v1, v2], hr =>
      obtain ⟨c1, c2, e, ⟨us, e1, hl⟩, c3, c4, e2, ⟨c, e3, -, m, e4, e5⟩, hn⟩ := hr
      obtain ⟨ns, hlen, rfl, rfl⟩ := lreps_ints (n := 8) hl
      match ns, hlen with
      | [a0, a1, a2, a3, a4, a5, a6, a7], _ =>
        refine ⟨a0, a1, a2, a3, a4, a5, a6, a7, m, ?_, ?_⟩
        · rw [e1, e4]; rfl
        · have hn' : c4 = [] := hn
          rw [e, e2, e3, e5, hn']; rfl
  obtain ⟨hs, d1, d2⟩ := hpre
  have hs' : SenOK ⟨a0, a1, a2, a3, a4, a5, a6, a7⟩ := hs
  have d1' : 1 ≤ d := d1
  have d2' : d ≤ 12 := d2
  obtain ⟨hk, hrg⟩ := hs'
  have h7 : 1 ≤ a7 := by unfold RangeOK at hrg; exact hrg.2.2.2.2.2.2.2.2.2.2.2.2.1
  obtain ⟨q, rfl⟩ : ∃ q : Nat, a7 = q := ⟨a7.toNat, by omega⟩
  obtain ⟨b1, b2, b3⟩ := falseP_bd (s := ⟨a0, a1, a2, a3, a4, a5, a6, q⟩) (d := d.toNat) hs (by omega)
  refine (False_ok a0 a1 a2 a3 a4 a5 a6 d q w hk hrg d1' d2').mono ?_
  rintro e w' ⟨rfl, hb⟩
  have hv : vecB (kindsOf ctFalse.res) [C.i (falseP ⟨a0, a1, a2, a3, a4, a5, a6, q⟩ d.toNat).1, .i (falseP ⟨a0, a1, a2, a3, a4, a5, a6, q⟩ d.toNat).2, .i 0] = [] := rfl
  refine ⟨_, [.i (falseP ⟨a0, a1, a2, a3, a4, a5, a6, q⟩ d.toNat).1, .i (falseP ⟨a0, a1, a2, a3, a4, a5, a6, q⟩ d.toNat).2, .i 0], [], rfl, ⟨[.int .i64 _, .int .i64 _, .int .i64 0], rfl, ?_, by rw [hv]; exact List.nodup_nil, fun b hb => (by rw [hv] at hb; cases hb)⟩, rfl, rfl, Keeps.of_below hb fun i hi => hi.1⟩
  exact rep_lf ⟨by omega, by omega⟩ (rep_lf ⟨by omega, by omega⟩ (rep_lf ⟨by decide, by decide⟩ rfl))
/-! Steps where all is known -/
theorem allC_of {P : Program} : ∀ {ks : List Lk} {p : List C → Prop}, (∀ cs, p cs) → allC P ks p
  | [], p, h => h _
  | .int :: ks, p, h => fun n _ _ => allC_of fun cs => h _
  | .bool :: ks, p, h => fun t => allC_of fun cs => h _
  | .arr t :: ks, p, h => fun v rows d _ _ => allC_of fun cs => h _
  | .vec t :: ks, p, h => fun v rows d _ _ => allC_of fun cs => h _
section
variable {cx : Cx} {R : List C → Prop} {ρ : List C} {Ls : List (List C → Prop)}
theorem VC.pos {b : B} {t e : Tree} (h : b.den ρ = true) (hv : VC cx R t ρ Ls) : VC cx R (.split b t e) ρ Ls := ⟨fun _ => hv, fun h' => by rw [h] at h'; cases h'⟩
theorem VC.neg {b : B} {t e : Tree} (h : b.den ρ = false) (hv : VC cx R e ρ Ls) : VC cx R (.split b t e) ρ Ls := ⟨fun h' => (by rw [h] at h'; cases h'), fun _ => hv⟩
theorem VC.callF {f : Nat} {args : List Lf} {t : Tree} {ai ro : List Sh0} {p : List C → Prop} {g : List C → List C} {out : List C} (hc : cx.ct f = some (ctF ai ro p g)) (hp : p (cs_ ρ args)) (hg : g (cs_ ρ args) = out) (hv : VC cx R t (ρ ++ out) Ls) : VC cx R (.call f args t) ρ Ls := by
  simp only [VC, hc]
  refine ⟨hp, allC_of fun cs hcs => ?_⟩
  have : cs = g (cs_ ρ args) := hcs
  rw [this, hg]
  exact hv
theorem VC.join1 {ks : List Lk} {ws t : Tree} (out : List C) (h1 : VC cx R ws ρ (Ls ++ [fun xs => xs = out])) (h2 : VC cx R t (ρ ++ out) (Ls ++ [fun xs => xs = out])) : VC cx R (.join ks ws t) ρ Ls :=
  ⟨_, h1, allC_of fun cs hcs => by rw [show cs = out from hcs]; exact h2⟩
theorem VC.arr1 {rows : List (List Lf)} {t : Tree} {out : List (List C)} (ho : rows.map (cs_ ρ) = out) (h : ∀ v, VC cx R t (ρ ++ [.s v out]) Ls) : VC cx R (.arr rows t) ρ Ls := fun v => by rw [ho]; exact h v
end
theorem shown_ok : tab4.ok 63 := by
  refine Tab.of_ct rfl rfl ⟨_, Try.func63, by decide, rfl⟩ ?_ ctF_det
  refine ct_ok (cx := cshown) (Tab.cx_ok all_nil) Try.func63 (bds := []) (T := tshown) (by kernel_rfl) ?_
  exact fun _ => ⟨bds_nil _, rfl⟩
theorem pit_ok : tab4.ok 64 := by
  refine Tab.of_ct rfl rfl ⟨_, Try.func64, by decide, rfl⟩ ?_ ctF_det
  refine ct_ok (cx := cpit) (Tab.cx_ok all_nil) Try.func64 (bds := []) (T := tpit) (by kernel_rfl) ?_
  exact fun _ => ⟨bds_nil _, rfl⟩
theorem flows_ok : tab4.ok 65 := by
  refine Tab.of_ct rfl rfl ⟨_, Try.func65, by decide, rfl⟩ ?_ ctF_det
  refine ct_ok (cx := cflows) (Tab.cx_ok all_nil) Try.func65 (bds := []) (T := tflows) (by kernel_rfl) ?_
  exact fun _ => ⟨bds_nil _, rfl⟩
end Go.Proofs.Ytlbgcjpkegpmlaa
/- A slice of integers among the arguments. -/
namespace Go.Proofs.Ytlbgcjpkegpmlaa
open Go.RowKit
theorem kinds_int : kinds Try.prog 3 = some [.int] := by kernel_rfl
theorem rep_nums {W : World} {A : Option Addr} {n c : Nat} (h : NumsAt W W.heap.size A n) : ∃ rows, LRep Try.prog W (fun _ _ => False) (.arr 3) (.slice A n c) (.s (.slice A n c) rows) := by
  obtain ⟨h1, h2⟩ := h
  by_cases hn : n = 0
  · subst hn
    refine ⟨[], fun m => ?_, rfl, .slice A 0 c, [], rfl, 1, fun _ _ => False, fun _ _ h => h.elim, [.int], kinds_int, A, c, rfl, fun h => absurd rfl h⟩
    cases m with
    | zero => trivial
    | succ m => exact ⟨by simp, fun r hr => by cases hr⟩
  · obtain ⟨d, o, rfl, hd, hx⟩ := h2 (by omega)
    let xs : Nat → Int := fun i => if h : i < n then (hx i h).choose else 0
    have hxs : ∀ i, i < n → W.cell? ⟨d, o + i, none⟩ = some (.int .i64 (xs i)) ∧ -9223372036854775808 ≤ xs i ∧ xs i ≤ 9223372036854775807 := fun i hi => by
      have := (hx i hi).choose_spec
      simp only [xs, dif_pos hi]; exact this
    let rows : List (List C) := (List.range n).map fun i => [.i (xs i)]
    have hlen : rows.length = n := by simp [rows]
    refine ⟨rows, fun m => ?_, rfl, .slice (some ⟨d, o, none⟩) n c, rows, rfl, 1, fun b _ => b < W.heap.size, fun b o h => ⟨h, fun h => h⟩, [.int], kinds_int, some ⟨d, o, none⟩, c, by rw [hlen], fun _ => ⟨d, o, rfl, fun i r hi => ?_⟩⟩
    · cases m with
      | zero => trivial
      | succ m =>
        refine ⟨by rw [hlen]; omega, fun r hr c hc => ?_⟩
        obtain ⟨i, hi, rfl⟩ := List.mem_map.1 hr
        rw [List.mem_singleton] at hc
        subst hc
        have := hxs i (List.mem_range.1 hi)
        cases m <;> exact ⟨this.2.1, this.2.2⟩
    · simp only [rows, List.getElem?_map, Option.map_eq_some_iff] at hi
      obtain ⟨k, hk, rfl⟩ := hi
      have hi' : i < n := by
        rcases Nat.lt_or_ge i n with h | h
        · exact h
        · rw [List.getElem?_eq_none (by simpa using h)] at hk; cases hk
      rw [List.getElem?_range hi'] at hk
      cases hk
      refine ⟨rfl, fun j k hj => ?_⟩
      match j, hj with
      | 0, hj =>
        cases hj
        refine ⟨hd, .int .i64 (xs i), .i (xs i), ?_, rfl, xs i, rfl, rfl⟩
        simpa using (hxs i hi').1
theorem rep_arr {W : World} {O : Nat → Nat → Prop} {ss : List Sh0} {vs : List Value} {cs : List C} {t : TypeId} {v : Value} {c : C} {old : Option Nat} (h : LRep Try.prog W O (.arr t) v c) (hr : Reps Try.prog W O old ss vs cs) :
    Reps Try.prog W O old (.lf (.arr t) :: ss) (v :: vs) (c :: cs) :=
  ⟨[_], _, rfl, ⟨_, rfl, h⟩, hr⟩
end Go.Proofs.Ytlbgcjpkegpmlaa
/- A slice of structs of integers among the arguments, opened. -/
namespace Go.Proofs.Ytlbgcjpkegpmlaa
open Go.ChangeShapes Go.WideShapes Go.RowKit Go.Deep
/-- n rows of m integers each, in blocks below b. -/
def RowsIn (w : World) (b : Nat) (A : Option Addr) (n m : Nat) : Prop :=
  n ≤ 9223372036854775807 ∧ (0 < n → ∃ d o, A = some ⟨d, o, none⟩ ∧ d < b ∧ ∀ i, i < n → ∀ j, j < m → ∃ x : Int, w.cell? ⟨d, o + (i * m + j), none⟩ = some (.int .i64 x) ∧ -9223372036854775808 ≤ x ∧ x ≤ 9223372036854775807)
section
variable {H : Type} {enc : TypeId × Value → H} {P : Program} {base : Nat} {spare : Nat → Bool} {held : Bool}
theorem open_rows {r : Reach} {b0 k : Nat} {t e : TypeId} {v : Value} {d : DataW H} {p : List MemPlace} {W : World} (hu : P.underlying t = some (.slice e)) (he : intsB P k e = true) (hc : 0 < P.cellsOf e)
    (hv : Value.okWide P W r b0 t v) (hx : DataW.Trod enc P W base spare held t v d p) :
    ∃ A n c, v = .slice A n c ∧ RowsIn W W.heap.size A n (P.cellsOf e) := by
  obtain ⟨A, n, c, rfl⟩ := okWide_slice hu hv
  refine ⟨A, n, c, rfl, ?_⟩
  obtain ⟨fuel, hf⟩ := hx
  rcases open_slice hu hf with ⟨hcs, _⟩ | ⟨a, len, cap, m, nn, D, Pl, hcs, hb, hl, hm, hmm, _, hx⟩
  · simp [Value.cells] at hcs
    obtain ⟨rfl, rfl, rfl⟩ := hcs
    exact ⟨by omega, fun h => absurd h (by omega)⟩
  · simp [Value.cells] at hcs
    obtain ⟨rfl, rfl, rfl⟩ := hcs
    have hlm : n ≤ m := by rw [hmm]; split <;> omega
    refine ⟨by unfold maxLen at hm; omega, fun hn => ?_⟩
    have each : ∀ i, i < n → ∀ j, j < P.cellsOf e → ∃ x : Int, W.cell? (a.add (i * P.cellsOf e + j)) = some (.int .i64 x) ∧ -9223372036854775808 ≤ x ∧ x ≤ 9223372036854775807 := by
      intro i hi j hj
      obtain ⟨cs', h1, h2⟩ := hx i (by omega)
      obtain ⟨_, hlen, hcell⟩ := World.cells?_some h1
      obtain ⟨_, hints⟩ := ints_of k e nn cs' _ he h2
      obtain ⟨x, hx1, hx2⟩ := hints j (by omega)
      refine ⟨x, ?_, wf_bd hx2⟩
      rw [← hx1, ← hcell j hj, add_add]
    obtain ⟨d, o, s⟩ := a
    obtain ⟨x0, h0, -⟩ := each 0 hn 0 hc
    have hs : s = none := by simpa [Addr.add] using World.cell?_spot h0
    subst hs
    refine ⟨d, o, rfl, ?_, fun i hi j hj => ?_⟩
    · have := World.block_lt_of_cell? _ _ h0
      simpa [Addr.add] using this
    · obtain ⟨x, h1, h2⟩ := each i hi j hj
      exact ⟨x, by rw [← Go.WideShapes.add_plain]; exact h1, h2⟩
end
theorem rep_rows {W : World} {A : Option Addr} {n c m : Nat} {te : TypeId} (hk : kinds Try.prog te = some (List.replicate m .int)) (h : RowsIn W W.heap.size A n m) :
    ∃ rows, LRep Try.prog W (fun _ _ => False) (.arr te) (.slice A n c) (.s (.slice A n c) rows) := by
  obtain ⟨h1, h2⟩ := h
  by_cases hn : n = 0
  · subst hn
    refine ⟨[], fun m => ?_, rfl, .slice A 0 c, [], rfl, 1, fun _ _ => False, fun _ _ h => h.elim, _, hk, A, c, rfl, fun h => absurd rfl h⟩
    cases m with
    | zero => trivial
    | succ m => exact ⟨by simp, fun r hr => by cases hr⟩
  · obtain ⟨d, o, rfl, hd, hx⟩ := h2 (by omega)
    let xs : Nat → Nat → Int := fun i j => if h : i < n ∧ j < m then (hx i h.1 j h.2).choose else 0
    have hxs : ∀ i j, i < n → j < m → W.cell? ⟨d, o + (i * m + j), none⟩ = some (.int .i64 (xs i j)) ∧ -9223372036854775808 ≤ xs i j ∧ xs i j ≤ 9223372036854775807 := fun i j hi hj => by
      have := (hx i hi j hj).choose_spec
      simp only [xs, dif_pos (And.intro hi hj)]; exact this
    let rows : List (List C) := (List.range n).map fun i => (List.range m).map fun j => .i (xs i j)
    have hlen : rows.length = n := by simp [rows]
    refine ⟨rows, fun q => ?_, rfl, .slice (some ⟨d, o, none⟩) n c, rows, rfl, 1, fun b _ => b < W.heap.size, fun b o h => ⟨h, fun h => h⟩, _, hk, some ⟨d, o, none⟩, c, by rw [hlen], fun _ => ⟨d, o, rfl, fun i r hi => ?_⟩⟩
    · cases q with
      | zero => trivial
      | succ q =>
        refine ⟨by rw [hlen]; omega, fun r hr c hc => ?_⟩
        obtain ⟨i, hi, rfl⟩ := List.mem_map.1 hr
        obtain ⟨j, hj, rfl⟩ := List.mem_map.1 hc
        have := hxs i j (List.mem_range.1 hi) (List.mem_range.1 hj)
        cases q <;> exact ⟨this.2.1, this.2.2⟩
    · simp only [rows, List.getElem?_map, Option.map_eq_some_iff] at hi
      obtain ⟨k, hk', rfl⟩ := hi
      have hi' : i < n := by
        rcases Nat.lt_or_ge i n with h | h
        · exact h
        · rw [List.getElem?_eq_none (by simpa using h)] at hk'; cases hk'
      rw [List.getElem?_range hi'] at hk'
      cases hk'
      refine ⟨by simp, fun j k hj => ?_⟩
      have hj' : j < m := by
        rcases Nat.lt_or_ge j m with h | h
        · exact h
        · rw [List.getElem?_eq_none (by simpa using h)] at hj; cases hj
      have hkk : k = .int := by
        have := List.mem_of_getElem? hj
        exact (List.mem_replicate.1 this).2
      subst hkk
      rw [List.length_replicate]
      exact ⟨hd, .int .i64 (xs i j), .i (xs i j), (hxs i j hi' hj').1, by simp [hj'], xs i j, rfl, rfl⟩
end Go.Proofs.Ytlbgcjpkegpmlaa
/- KickCounts, by the table. -/
namespace Go.Proofs.Ytlbgcjpkegpmlaa
open Go.RowKit
set_option linter.unusedSimpArgs false
set_option linter.unusedVariables false

theorem ordFrom_snoc {r : List C} : ∀ {l : List (List C)} {t : Int}, ordFrom t l = true → (∀ s ∈ l, cell_ s 1 < cell_ r 1) → t < cell_ r 1 → ordFrom t (l ++ [r]) = true
  | [], t, _, _, h => by simp [ordFrom, h]
  | s :: l, t, h, hs, _ => by
    rw [ordFrom, Bool.and_eq_true] at h
    rw [List.cons_append, ordFrom, h.1, Bool.true_and]
    exact ordFrom_snoc h.2 (fun x hx => hs x (List.mem_cons_of_mem _ hx)) (hs s (List.mem_cons_self ..))
/-- The samples of a sequence of errors. -/
theorem draw_rows {pe no st : Int} {m : Nat} (hm : 2 * no + 1 = (m : Int)) (hn : 0 ≤ no) (hn2 : no ≤ 2) (hp : 1 ≤ pe) (hp2 : pe ≤ 60) (hs : 0 ≤ st) (hs2 : st ≤ 1000) (i : Int) : ∀ {d : Nat}, d ≤ 5 → ordFrom (-1) (drawR pe no st m i d) = true ∧ ∀ r ∈ drawR pe no st m i d, cell_ r 0 = 0 ∧ 0 ≤ cell_ r 1 ∧ cell_ r 1 < (d : Int) * pe ∧ -2000 ≤ cell_ r 2 ∧ cell_ r 2 ≤ 2000
  | 0, _ => ⟨rfl, fun r h => by cases h⟩
  | d + 1, hd => by
    obtain ⟨h1, h2⟩ := draw_rows hm hn hn2 hp hp2 hs hs2 i (show d ≤ 5 by omega)
    have e0 : cell_ [C.i 0, .i ((d : Int) * pe), .i ((i / (m : Int) ^ d % m - no) * st)] 0 = 0 := rfl
    have e1 : cell_ [C.i 0, .i ((d : Int) * pe), .i ((i / (m : Int) ^ d % m - no) * st)] 1 = (d : Int) * pe := rfl
    have e2 : cell_ [C.i 0, .i ((d : Int) * pe), .i ((i / (m : Int) ^ d % m - no) * st)] 2 = (i / (m : Int) ^ d % m - no) * st := rfl
    have ed : ((d + 1 : Nat) : Int) * pe = (d : Int) * pe + pe := by rw [show ((d + 1 : Nat) : Int) = d + 1 by omega, Int.add_mul]; omega
    have hd0 : 0 ≤ (d : Int) * pe := Int.mul_nonneg (by omega) (by omega)
    have hv : -2000 ≤ (i / (m : Int) ^ d % m - no) * st ∧ (i / (m : Int) ^ d % m - no) * st ≤ 2000 := by
      have a0 := Int.emod_nonneg (i / (m : Int) ^ d) (show (m : Int) ≠ 0 by omega)
      have a1 := Int.emod_lt_of_pos (i / (m : Int) ^ d) (show (0 : Int) < m by omega)
      generalize i / (m : Int) ^ d % m = z at *
      have b1 := Int.mul_le_mul_of_nonneg_right (show z - no ≤ 2 by omega) hs
      have b2 := Int.mul_le_mul_of_nonneg_right (show -2 ≤ z - no by omega) hs
      omega
    rw [drawR]
    refine ⟨ordFrom_snoc h1 (fun s hs' => by rw [e1]; exact (h2 s hs').2.2.1) (by rw [e1]; omega), fun r hr => ?_⟩
    rcases List.mem_append.1 hr with hr | hr
    · have := h2 r hr
      omega
    · rw [List.mem_singleton] at hr
      subst hr
      rw [e0, e1, e2]
      omega
theorem draw_good {pe no st : Int} {m : Nat} (hm : 2 * no + 1 = (m : Int)) (hn : 0 ≤ no) (hn2 : no ≤ 2) (hp : 1 ≤ pe) (hp2 : pe ≤ 60) (hs : 0 ≤ st) (hs2 : st ≤ 1000) (i : Int) {d : Nat} (hd : d ≤ 5) : checkV 1 (drawR pe no st m i d) = 0 ∧ fltS (drawR pe no st m i d) 0 = drawR pe no st m i d := by
  obtain ⟨ho, hr⟩ := draw_rows hm hn hn2 hp hp2 hs hs2 i hd
  have hl : (drawR pe no st m i d).length = d := drawR_len
  have hdp : (d : Int) * pe ≤ 5 * pe := Int.mul_le_mul_of_nonneg_right (by omega) (by omega)
  generalize drawR pe no st m i d = rows at *
  have hf : fltS rows 0 = rows := fltS_self fun r hr' => (hr r hr').1
  have hin : rows.all (inB 1) = true := List.all_eq_true.2 fun r hr' => by unfold inB; rw [(hr r hr').1]; rfl
  refine ⟨checkV_0 (by omega) hin (List.all_eq_true.2 fun r hr' => ?_) ((ord_all hin).2 fun k k0 k1 => ?_), hf⟩
  · have := hr r hr'
    unfold inR
    exact decide_eq_true (by omega)
  · obtain rfl : k = 0 := by omega
    rw [hf]
    exact ordFrom_L ho
theorem pow5 {m d : Nat} (hm : m ≤ 5) (hd : d ≤ 5) : (m : Int) ^ d ≤ 3125 ∧ 0 ≤ (m : Int) ^ d := by
  have h := pow_mono (show (0 : Int) ≤ m by omega) (show (m : Int) ≤ 5 by omega) d
  have : ∀ d : Nat, d ≤ 5 → (5 : Int) ^ d ≤ 3125 := by decide
  exact ⟨Int.le_trans h.1 (this d hd), h.2⟩
theorem shape_ {A B C' D X : Prop} (hB : A → B) (hX : X) : (A → B ∧ (C' → X)) ∧ (D → X) := ⟨fun a => ⟨hB a, fun _ => hX⟩, fun _ => hX⟩
theorem counts_ok (awake_ok : tab4.ok 19) : CtOK Try.prog 12 (ctLaw [.lf (.arr 3), .lf .int, .lf .int]) := by
  refine ct_ok (cx := ccounts) (Tab.cx_ok (all_cons (up4_ok (up3_ok (up_ok newring_ok))) (all_cons (up4_ok (up3_ok (up_ok sensorof_ok))) (all_cons (up4_ok (up3_ok (up_ok mod64_ok))) (all_cons (up4_ok (up3_ok (up_ok mod_ok))) (all_cons false_tok (all_cons (up4_ok (up3_ok (up_ok value_ok))) (all_cons (up4_ok watch_ok) (all_cons awake_ok all_nil))))))))) Try.func12 (bds := []) (T := tcounts) (by kernel_rfl) ?_
  have h1 : ccounts.ct 21 = some ctNewRing := rfl
  have h2 : ccounts.ct 25 = some ctSensorOf := rfl
  have h3 : ccounts.ct 22 = some ctMod := rfl
  have h4 : ccounts.ct 28 = some ctMod := rfl
  have h5 : ccounts.ct 17 = some ctFalse := rfl
  have h6 : ccounts.ct 46 = some ctValue := rfl
  have h7 : ccounts.ct 54 = some ctWatch := rfl
  have h8 : ccounts.ct 19 = some ctAwake := rfl
  unfold tcounts
  simp (config := { maxSteps := 1000000 }) only [VC, allC, List.map_cons, List.map_nil, List.length_cons, List.length_nil, List.getElem?_cons_zero, List.getElem?_cons_succ, List.cons.injEq, C.i.injEq, C.b.injEq, and_true, true_and, forall_const, kindsOf_nil, kindsOf_lf, kindsOf_agg, kindsOf_box, boxKinds_nil, boxKinds_lf, boxKinds_agg, boxKinds_box, List.append_nil, List.cons_append, List.nil_append, den_cmp_le, den_cmp_lt, den_cmp_eq, den_cmp_ne, den_cmp_le', den_cmp_lt', den_cmp_eq', den_cmp_ne', den_and, den_and', den_or, den_or', den_not, den_not', den_blit, den_of, ev_var, at_0, at_1, at_2, at_3, at_4, at_5, at_6, at_7, at_skip, c_int, c_bool, c_arr, c_cnt, c_vec, ev_nil, ev_join, ev_sub3, loc_s, int_i, bool_b, rows_s, cs_nil, cs_cons, E.den_lit, E.den_var, E.den_add, E.den_sub, E.den_mul, E.den_quo, E.den_rem, E.den_max, E.den_min, E.den_len, E.den_wr, E.den_cell, h1, h2, ctLaw, ctNewRing, ctSensorOf, atPre, ctF, sensSh, ringSh]
  intro v1 nums d1 hty1 hsm1 n1 _ _ n2 _ _
  refine ⟨bds_nil _, ?_⟩
  rintro v0 rows0 d0 _ _ at0 _ _ ⟨hc, rfl⟩
  cases hc
  refine ⟨by omega, ?_⟩
  rintro ch _ _ pe _ _ de _ _ no _ _ st _ _ lo _ _ li _ _ ho _ _ v0 rows0 d0 _ _ x _ _ ⟨sq, rfl, rfl, rfl⟩
  unfold SensGood at sq
  obtain ⟨sch, p0, p1, e0, e1, o0, o1, s0, s1, l0, l1, i0, i1, r0, r1⟩ := sq
  unfold tcounts_6
  simp only [VC, allC, List.map_cons, List.map_nil, List.length_cons, List.length_nil, List.getElem?_cons_zero, List.getElem?_cons_succ, List.cons.injEq, C.i.injEq, C.b.injEq, and_true, true_and, forall_const, kindsOf_nil, kindsOf_lf, kindsOf_agg, kindsOf_box, boxKinds_nil, boxKinds_lf, boxKinds_agg, boxKinds_box, List.append_nil, List.cons_append, List.nil_append, den_cmp_le, den_cmp_lt, den_cmp_eq, den_cmp_ne, den_cmp_le', den_cmp_lt', den_cmp_eq', den_cmp_ne', den_and, den_and', den_or, den_or', den_not, den_not', den_blit, den_of, ev_var, at_0, at_1, at_2, at_3, at_4, at_5, at_6, at_7, at_skip, c_int, c_bool, c_arr, c_cnt, c_vec, ev_nil, ev_join, ev_sub3, loc_s, int_i, bool_b, rows_s, cs_nil, cs_cons, E.den_lit, E.den_var, E.den_add, E.den_sub, E.den_mul, E.den_quo, E.den_rem, E.den_max, E.den_min, E.den_len, E.den_wr, E.den_cell, h3, h4, ctMod, ctF, inr]
  have hno : 0 ≤ min no 2 ∧ min no 2 ≤ 2 := by omega
  have hns := mul_bd hno.1 hno.2 (show 0 ≤ st by omega) s1
  have m1 : 0 ≤ n2 % (min no 2 * st + 2) ∧ n2 % (min no 2 * st + 2) < min no 2 * st + 2 := ⟨Int.emod_nonneg _ (by omega), Int.emod_lt_of_pos _ (by omega)⟩
  have m2 : 0 ≤ n1 % 4 ∧ n1 % 4 < 4 := by omega
  refine ⟨by omega, by omega, by omega, by omega, ?_⟩
  rintro y1 _ _ rfl
  refine ⟨by omega, by omega, ?_⟩
  rintro y2 _ _ rfl
  generalize n2 % (min no 2 * st + 2) = u at *
  generalize n1 % 4 = w at *
  obtain ⟨m, hm⟩ : ∃ m : Nat, 2 * min no 2 + 1 = (m : Int) := ⟨(2 * min no 2 + 1).toNat, by omega⟩
  generalize hno' : min no 2 = no' at *
  unfold tcounts_5
  simp only [VC, allC, List.map_cons, List.map_nil, List.length_cons, List.length_nil, List.getElem?_cons_zero, List.getElem?_cons_succ, List.cons.injEq, C.i.injEq, C.b.injEq, and_true, true_and, forall_const, kindsOf_nil, kindsOf_lf, kindsOf_agg, kindsOf_box, boxKinds_nil, boxKinds_lf, boxKinds_agg, boxKinds_box, List.append_nil, List.cons_append, List.nil_append, den_cmp_le, den_cmp_lt, den_cmp_eq, den_cmp_ne, den_cmp_le', den_cmp_lt', den_cmp_eq', den_cmp_ne', den_and, den_and', den_or, den_or', den_not, den_not', den_blit, den_of, ev_var, at_0, at_1, at_2, at_3, at_4, at_5, at_6, at_7, at_skip, c_int, c_bool, c_arr, c_cnt, c_vec, ev_nil, ev_join, ev_sub3, loc_s, int_i, bool_b, rows_s, cs_nil, cs_cons, E.den_lit, E.den_var, E.den_add, E.den_sub, E.den_mul, E.den_quo, E.den_rem, E.den_max, E.den_min, E.den_len, E.den_wr, E.den_cell, h5, ctFalse, ctF, inr, hno']
  have hpre : ∀ q : Int, 1 ≤ q → q ≤ 12 → SenOK (senOf [C.i ch, C.i pe, C.i de, C.i no', C.i st, C.i lo, C.i (1 + u), C.i ho, C.i q]) ∧ 1 ≤ cell_ [C.i ch, C.i pe, C.i de, C.i no', C.i st, C.i lo, C.i (1 + u), C.i ho, C.i q] 8 ∧ cell_ [C.i ch, C.i pe, C.i de, C.i no', C.i st, C.i lo, C.i (1 + u), C.i ho, C.i q] 8 ≤ 12 := fun q q0 q1 => by
    have e8 : cell_ [C.i ch, C.i pe, C.i de, C.i no', C.i st, C.i lo, C.i (1 + u), C.i ho, C.i q] 8 = q := rfl
    rw [e8]
    refine ⟨⟨sch, ?_⟩, q0, q1⟩
    show RangeOK ⟨ch, pe, de, no', st, lo, 1 + u, ho⟩
    unfold RangeOK
    simp only
    omega
  obtain ⟨dn, hdn⟩ : ∃ dn : Nat, 1 + w = (dn : Int) := ⟨(1 + w).toNat, by omega⟩
  have hfp : ∀ (q : Int) (k : Nat), q = (k : Int) → falseP (senOf [C.i ch, C.i pe, C.i de, C.i no', C.i st, C.i lo, C.i (1 + u), C.i ho, C.i q]) (cell_ [C.i ch, C.i pe, C.i de, C.i no', C.i st, C.i lo, C.i (1 + u), C.i ho, C.i q] 8).toNat = (alN pe no' st (1 + u) ho de m k, (m : Int) ^ k) := fun q k hq => by
    have e8 : cell_ [C.i ch, C.i pe, C.i de, C.i no', C.i st, C.i lo, C.i (1 + u), C.i ho, C.i q] 8 = q := rfl
    have es : senOf [C.i ch, C.i pe, C.i de, C.i no', C.i st, C.i lo, C.i (1 + u), C.i ho, C.i q] = ⟨ch, pe, de, no', st, lo, 1 + u, ho⟩ := rfl
    rw [e8, es, hq, Int.toNat_natCast]
    exact falseP_is (s := ⟨ch, pe, de, no', st, lo, 1 + u, ho⟩) hm (by omega) r0 pe de
  have hbd : ∀ k : Nat, k ≤ 12 → 0 ≤ alN pe no' st (1 + u) ho de m k ∧ alN pe no' st (1 + u) ho de m k ≤ (m : Int) ^ k := fun k hk => by
    have h := falseP_bd (s := ⟨ch, pe, de, no', st, lo, 1 + u, ho⟩) (hpre 1 (by omega) (by omega)).1 hk
    rw [falseP_is (s := ⟨ch, pe, de, no', st, lo, 1 + u, ho⟩) hm (by omega) r0 pe de] at h
    exact ⟨h.1, h.2.1⟩
  refine ⟨by omega, by omega, by omega, hpre _ (by omega) (by omega), ?_⟩
  rintro al _ _ all _ _ er _ _ hr
  rw [hfp _ dn hdn] at hr
  obtain ⟨rfl, rfl, rfl, -⟩ := hr
  unfold tcounts_4
  simp only [VC, allC, List.map_cons, List.map_nil, List.length_cons, List.length_nil, List.getElem?_cons_zero, List.getElem?_cons_succ, List.cons.injEq, C.i.injEq, C.b.injEq, and_true, true_and, forall_const, kindsOf_nil, kindsOf_lf, kindsOf_agg, kindsOf_box, boxKinds_nil, boxKinds_lf, boxKinds_agg, boxKinds_box, List.append_nil, List.cons_append, List.nil_append, den_cmp_le, den_cmp_lt, den_cmp_eq, den_cmp_ne, den_cmp_le', den_cmp_lt', den_cmp_eq', den_cmp_ne', den_and, den_and', den_or, den_or', den_not, den_not', den_blit, den_of, ev_var, at_0, at_1, at_2, at_3, at_4, at_5, at_6, at_7, at_skip, c_int, c_bool, c_arr, c_cnt, c_vec, ev_nil, ev_join, ev_sub3, loc_s, int_i, bool_b, rows_s, cs_nil, cs_cons, E.den_lit, E.den_var, E.den_add, E.den_sub, E.den_mul, E.den_quo, E.den_rem, E.den_max, E.den_min, E.den_len, E.den_wr, E.den_cell, h5, ctFalse, ctF, inr, hno']
  refine ⟨by omega, by omega, by omega, hpre _ (by omega) (by omega), ?_⟩
  rintro al2 _ _ all2 _ _ er _ _ hr
  rw [hfp _ (dn + 1) (by omega)] at hr
  obtain ⟨rfl, rfl, rfl, -⟩ := hr
  obtain ⟨b1, b2⟩ := hbd dn (by omega)
  have hp5 := pow5 (m := m) (show m ≤ 5 by omega) (show dn ≤ 5 by omega)
  have hgrow := alN_grow (pe := pe) (no := no') (st := st) (li := 1 + u) (ho := ho) (de := de) (m := m) (d := dn) (by omega) r0
  have hpm := mul_bd hp5.2 hp5.1 (show (0 : Int) ≤ m by omega) (show (m : Int) ≤ 5 by omega)
  have ham := mul_bd b1 (show alN pe no' st (1 + u) ho de m dn ≤ 3125 by omega) (show (0 : Int) ≤ m by omega) (show (m : Int) ≤ 5 by omega)
  have hsen : sensE ch pe de no' st lo (1 + u) ho = 0 := sensE_yes sch (by unfold SOk; omega)
  have k00 : KOk 0 0 := by decide
  have hs00 : saysV ch 0 0 0 = 0 := by
    have : ∀ c : Int, c = 1 ∨ c = 2 → saysV c 0 0 0 = 0 := by rintro c (rfl | rfl) <;> decide
    exact this ch sch
  unfold tcounts_3
  simp (config := { maxSteps := 1000000 }) only [VC, allC, List.map_cons, List.map_nil, List.length_cons, List.length_nil, List.getElem?_cons_zero, List.getElem?_cons_succ, List.cons.injEq, C.i.injEq, C.b.injEq, and_true, true_and, forall_const, kindsOf_nil, kindsOf_lf, kindsOf_agg, kindsOf_box, boxKinds_nil, boxKinds_lf, boxKinds_agg, boxKinds_box, List.append_nil, List.cons_append, List.nil_append, den_cmp_le, den_cmp_lt, den_cmp_eq, den_cmp_ne, den_cmp_le', den_cmp_lt', den_cmp_eq', den_cmp_ne', den_and, den_and', den_or, den_or', den_not, den_not', den_blit, den_of, ev_var, at_0, at_1, at_2, at_3, at_4, at_5, at_6, at_7, at_skip, c_int, c_bool, c_arr, c_cnt, c_vec, ev_nil, ev_join, ev_sub3, loc_s, int_i, bool_b, rows_s, cs_nil, cs_cons, E.den_lit, E.den_var, E.den_add, E.den_sub, E.den_mul, E.den_quo, E.den_rem, E.den_max, E.den_min, E.den_len, E.den_wr, E.den_cell, h6, h7, h8, ctValue, ctWatch, ctAwake, ctF, inr, hno', sensSh, kickSh, hm, Int.pow_succ]
  refine ⟨fun h => absurd rfl h, fun h => absurd rfl h, by omega, by omega, by omega, fun h => absurd rfl h, by omega, by omega, by omega, fun h => by omega, fun _ => ⟨by omega, shape_ (fun hh h0 => absurd (alN_zero (by omega) r0 (hiN_zero hm (by omega) hh)) h0) ?_⟩⟩
  refine ⟨fun xs => match xs with | [_, .i c, .i i] => 0 ≤ i ∧ i ≤ (m : Int) ^ dn ∧ c = sumTo (fun j => one ((alarmL (1 + u) ho de 0 (drawR pe no' st m j dn)).isSome = true)) i.toNat | _ => False, fun xs => match xs with | [_, _, .i i] => ((m : Int) ^ dn - i).toNat | _ => 0, ⟨Int.le_refl _, hp5.2, rfl⟩, ?_⟩
  rintro t c _ _ i _ _ ⟨i0, i1, hc⟩
  refine ⟨fun hlt => ?_, fun hge => ?_⟩
  · refine ⟨fun xs => match xs with | [.s _ rows, .i left, .i k] => 0 ≤ k ∧ k ≤ (dn : Int) ∧ rows = drawR pe no' st m i k.toNat ∧ left = i / (m : Int) ^ k.toNat | _ => False, fun xs => match xs with | [_, _, .i k] => ((dn : Int) - k).toNat | _ => 0, ⟨by omega, by omega, rfl, by simp⟩, ?_⟩
    rintro vr rows dr htr hsr left _ _ k _ _ ⟨k0, k1, rfl, rfl⟩
    have hleft : 0 ≤ i / (m : Int) ^ k.toNat ∧ i / (m : Int) ^ k.toNat ≤ i := ⟨Int.ediv_nonneg i0 (pow5 (m := m) (show m ≤ 5 by omega) (show k.toNat ≤ 5 by omega)).2, Int.ediv_le_self _ i0⟩
    have hkp := mul_bd k0 (show k ≤ 4 by omega) (show 0 ≤ pe by omega) (show pe ≤ 12 by omega)
    have hmod : (i / (m : Int) ^ k.toNat).tmod m = i / (m : Int) ^ k.toNat % m := Int.tmod_eq_emod_of_nonneg hleft.1
    have hz0 := Int.emod_nonneg (i / (m : Int) ^ k.toNat) (show (m : Int) ≠ 0 by omega)
    have hz1 := Int.emod_lt_of_pos (i / (m : Int) ^ k.toNat) (show (0 : Int) < m by omega)
    have hek : (k + 1).toNat = k.toNat + 1 := by omega
    refine ⟨fun hk => ?_, fun hk => ?_⟩
    · have hdiv : (i / (m : Int) ^ k.toNat).tdiv m = i / (m : Int) ^ (k + 1).toNat := by
        rw [Int.tdiv_eq_ediv_of_nonneg hleft.1, hek, Int.pow_succ, Int.ediv_ediv_of_nonneg (pow5 (m := m) (show m ≤ 5 by omega) (show k.toNat ≤ 5 by omega)).2]
      have hd2 : 0 ≤ i / (m : Int) ^ (k + 1).toNat ∧ i / (m : Int) ^ (k + 1).toNat ≤ i := ⟨Int.ediv_nonneg i0 (pow5 (m := m) (show m ≤ 5 by omega) (show (k + 1).toNat ≤ 5 by omega)).2, Int.ediv_le_self _ i0⟩
      rw [hmod, hdiv]
      refine ⟨fun xs => match xs with | [.s _ rows'] => rows' = drawR pe no' st m i (k + 1).toNat | _ => False, ?_, ?_⟩
      · refine ⟨by omega, by omega, by omega, by omega, by omega, by omega, by omega, ?_⟩
        rintro val _ _ rfl
        rw [← valueV_yes (ch := ch) (pe := pe) (de := de) (no := no') (st := st) (lo := lo) (li := 1 + u) (ho := ho) hsen k00 (by omega) (by omega) (by omega), hs00, Int.zero_add]
        unfold tcounts_1
        simp only [VC, allC, List.map_cons, List.map_nil, List.length_cons, List.length_nil, List.getElem?_cons_zero, List.getElem?_cons_succ, List.cons.injEq, C.i.injEq, C.b.injEq, and_true, true_and, forall_const, kindsOf_nil, kindsOf_lf, kindsOf_agg, kindsOf_box, boxKinds_nil, boxKinds_lf, boxKinds_agg, boxKinds_box, List.append_nil, List.cons_append, List.nil_append, den_cmp_le, den_cmp_lt, den_cmp_eq, den_cmp_ne, den_cmp_le', den_cmp_lt', den_cmp_eq', den_cmp_ne', den_and, den_and', den_or, den_or', den_not, den_not', den_blit, den_of, ev_var, at_0, at_1, at_2, at_3, at_4, at_5, at_6, at_7, at_skip, c_int, c_bool, c_arr, c_cnt, c_vec, ev_nil, ev_join, ev_sub3, loc_s, int_i, bool_b, rows_s, cs_nil, cs_cons, E.den_lit, E.den_var, E.den_add, E.den_sub, E.den_mul, E.den_quo, E.den_rem, E.den_max, E.den_min, E.den_len, E.den_wr, E.den_cell, inr]
        have hlen : (drawR pe no' st m i k.toNat).length = k.toNat := drawR_len
        refine ⟨by omega, by simp only [hlen]; omega, ?_⟩
        rw [hek, drawR, Int.toNat_of_nonneg k0, Int.zero_add]
      · rintro vr2 rows2 dr2 _ _ hr2
        refine ⟨by omega, by omega, by omega, by omega, by omega, by omega, by omega, ⟨by omega, by omega, hr2, rfl⟩, ?_⟩
        show ((dn : Int) - (k + 1)).toNat < ((dn : Int) - k).toNat
        omega
    · obtain rfl : k = (dn : Int) := by omega
      rw [Int.toNat_natCast] at *
      refine ⟨by omega, ?_⟩
      intro v30
      rintro s _ _ tt _ _ f e _ _ hw
      obtain ⟨c1, f1⟩ := draw_good (pe := pe) (st := st) hm hno.1 hno.2 p0 (by omega) (by omega) (by omega) i (show dn ≤ 5 by omega)
      rw [watch_one (sen := [[C.i ch, C.i pe, C.i de, C.i no', C.i st, C.i lo, C.i (1 + u), C.i ho]]) rfl hsen c1 f1] at hw
      have hal : alarmOf [C.i ch, C.i pe, C.i de, C.i no', C.i st, C.i lo, C.i (1 + u), C.i ho] (drawR pe no' st m i dn) = alarmL (1 + u) ho de 0 (drawR pe no' st m i dn) := rfl
      rw [hal] at hw
      have ei : (i + 1).toNat = i.toNat + 1 := by omega
      have hmu : ((m : Int) ^ dn - (i + 1)).toNat < ((m : Int) ^ dn - i).toNat := by omega
      have hs1 : sumTo (fun j => one ((alarmL (1 + u) ho de 0 (drawR pe no' st m j dn)).isSome = true)) (i + 1).toNat = c + one ((alarmL (1 + u) ho de 0 (drawR pe no' st m i dn)).isSome = true) := by
        rw [ei, sumTo, ← hc, Int.toNat_of_nonneg i0]
      have hcb : 0 ≤ c ∧ c ≤ i := by
        rw [hc]
        refine ⟨sumTo_nonneg (fun _ => by unfold one; split <;> omega) _, ?_⟩
        have : ∀ n : Nat, sumTo (fun j => one ((alarmL (1 + u) ho de 0 (drawR pe no' st m j dn)).isSome = true)) n ≤ n := fun n => by
          induction n with
          | zero => simp [sumTo]
          | succ n ih =>
            rw [sumTo]
            have : one ((alarmL (1 + u) ho de 0 (drawR pe no' st m (n : Int) dn)).isSome = true) ≤ 1 := by unfold one; split <;> omega
            omega
        have := this i.toNat
        omega
      unfold tcounts_2
      simp only [VC, allC, List.map_cons, List.map_nil, List.length_cons, List.length_nil, List.getElem?_cons_zero, List.getElem?_cons_succ, List.cons.injEq, C.i.injEq, C.b.injEq, and_true, true_and, forall_const, kindsOf_nil, kindsOf_lf, kindsOf_agg, kindsOf_box, boxKinds_nil, boxKinds_lf, boxKinds_agg, boxKinds_box, List.append_nil, List.cons_append, List.nil_append, den_cmp_le, den_cmp_lt, den_cmp_eq, den_cmp_ne, den_cmp_le', den_cmp_lt', den_cmp_eq', den_cmp_ne', den_and, den_and', den_or, den_or', den_not, den_not', den_blit, den_of, ev_var, at_0, at_1, at_2, at_3, at_4, at_5, at_6, at_7, at_skip, c_int, c_bool, c_arr, c_cnt, c_vec, ev_nil, ev_join, ev_sub3, loc_s, int_i, bool_b, rows_s, cs_nil, cs_cons, E.den_lit, E.den_var, E.den_add, E.den_sub, E.den_mul, E.den_quo, E.den_rem, E.den_max, E.den_min, E.den_len, E.den_wr, E.den_cell, inr]
      cases hA : alarmL (1 + u) ho de 0 (drawR pe no' st m i dn) with
      | none =>
        rw [hA] at hw hs1
        cases hw
        have fin : (0 ≤ i + 1 ∧ i + 1 ≤ (m : Int) ^ dn ∧ c = sumTo (fun j => one ((alarmL (1 + u) ho de 0 (drawR pe no' st m j dn)).isSome = true)) (i + 1).toNat) ∧ ((m : Int) ^ dn - (i + 1)).toNat < ((m : Int) ^ dn - i).toNat := ⟨⟨by omega, by omega, by rw [hs1]; simp [one]⟩, hmu⟩
        exact ⟨fun h => absurd rfl h, fun _ => ⟨fun h => absurd h (by simp), fun _ => fin⟩⟩
      | some T =>
        rw [hA] at hw hs1
        cases hw
        refine ⟨fun h => absurd rfl h, fun _ => ⟨fun _ => ⟨by omega, by omega, ⟨by omega, by omega, ?_⟩, hmu⟩, fun h => absurd h (by simp)⟩⟩
        rw [hs1]; simp [one]
  · obtain rfl : i = (m : Int) ^ dn := by omega
    have e : ((m : Int) ^ dn).toNat = (m : Int).toNat ^ dn := by rw [← Int.natCast_pow]; rfl
    rw [e] at hc
    exact ⟨fun _ _ h => h, fun h => absurd hc h⟩
end Go.Proofs.Ytlbgcjpkegpmlaa
/- The contract of kick.late for the other channel, and of kick.Late. Printed by genD.py. -/
namespace Go.Proofs.Ytlbgcjpkegpmlaa
open Go.RowKit

set_option maxHeartbeats 2000000 in
set_option maxRecDepth 100000 in
theorem late_flow (pe de no st lo li ho r g : Int) (w : World) (hs : RangeOK ⟨2, pe, de, no, st, lo, li, ho⟩) (hk : KickOK r g) :
    Calls Try.prog 79 #[.agg #[.int .i64 2, .int .i64 pe, .int .i64 de, .int .i64 no, .int .i64 st, .int .i64 lo, .int .i64 li, .int .i64 ho], kickV r g] w fun e w' => e = .returned (lateV ⟨2, pe, de, no, st, lo, li, ho⟩ r g) ∧ Below w.heap.size w w' := by
  obtain ⟨h1, h2, h3, h4, h5, h6, h7, h8, h9, h10, h11, h12, h13, h14⟩ := hs
  simp only at h1 h2 h3 h4 h5 h6 h7 h8 h9 h10 h11 h12 h13 h14
  obtain ⟨n1, n2⟩ := mul_bd h5 h6 (by omega : 0 ≤ st) h8
  obtain ⟨q1, q2⟩ := mul_bd (by omega : 0 ≤ ho) h14 (by omega : 0 ≤ lo + 1) (by omega : lo + 1 ≤ 6)
  have q0 := mul_one_le h13 (by omega : 1 ≤ lo + 1)
  have HK := Lib.hid hk
  clear hk
  go_enter Try.func79, Try.ntmps79
  go_wp2_with fail
  go_step3
  go_wp2_with (go_at_call 77; refine (says_flow ⟨2, pe, de, no, st, lo, li, ho⟩ r g _ rfl).mono ?_; rintro e w1 ⟨rfl, hb⟩)
  go_step3
  have B0 : Blk w1 w.heap.size 23 (senCells 2 pe de no st lo li ho) := ((((Blk.new w _ _).alloc _).alloc _).alloc _).below hb
  have B2 : Blk w1 (w.heap.size + 1 + 1) 110 (outCells (0, 0, 0)) := by
    have h := ((Blk.new ((w.alloc (.cells #[.int .i64 2, .int .i64 pe, .int .i64 de, .int .i64 no, .int .i64 st, .int .i64 lo, .int .i64 li, .int .i64 ho] 23)).alloc (.cells #[.int .i64 r, .int .i64 g] 31)) 110 (outCells (0, 0, 0))).alloc (.cells (outCells (-1, 0, 0)) 110)).below hb
    simpa using h
  have B3 : Blk w1 (w.heap.size + 1 + 1 + 1) 110 (outCells (-1, 0, 0)) := by
    have h := (Blk.new (((w.alloc (.cells #[.int .i64 2, .int .i64 pe, .int .i64 de, .int .i64 no, .int .i64 st, .int .i64 lo, .int .i64 li, .int .i64 ho] 23)).alloc (.cells #[.int .i64 r, .int .i64 g] 31)).alloc (.cells (outCells (0, 0, 0)) 110)) 110 (outCells (-1, 0, 0))).below hb
    simpa using h
  have hbw : Below w.heap.size w w1 := by
    repeat' (first | with_reducible exact Below.refl _ _ | with_reducible refine bstep ?_ (by with_reducible assumption) | with_reducible refine balloc ?_ | with_reducible refine bdrew ?_ | with_reducible refine bdrewN ?_ _ | with_reducible refine bset ?_ (by go_size))
  obtain ⟨c1, -⟩ := sen_cells B0
  clear hb
  go_wp2_with fail
  go_loopg [17] (pe.toNat) (fun k v17 wx => ∃ (f : Nat) (o : Int × Int × Int), k + f = pe.toNat ∧ v17 = .int .i64 f ∧ Hid (lateGo ⟨2, pe, de, no, st, lo, li, ho⟩ r g k f o = lateF ⟨2, pe, de, no, st, lo, li, ho⟩ r g) ∧
    Blk wx w.heap.size 23 (senCells 2 pe de no st lo li ho) ∧ Blk wx (w.heap.size + 1 + 1) 110 (outCells (0, 0, 0)) ∧ Blk wx (w.heap.size + 1 + 1 + 1) 110 (outCells o) ∧ Below w.heap.size w wx)
  case atStart => exact ⟨0, (-1, 0, 0), rfl, rfl, rfl, B0, B2, B3, hbw⟩
  case round =>
    clear c1 B0 B2 B3 hbw
    obtain ⟨f, ⟨oa, ob, oc⟩, hkf, rfl, HG, B0, B2, B3, hbw⟩ := hrel
    cases gk with
    | zero =>
      have hlt : ¬ ((f : Int) < pe) := by omega
      obtain ⟨k0, k1, k2, -⟩ := out_cells B3
      obtain ⟨e0, e1, e2, f0, f1, f2⟩ := out_cells B2
      have hz := B3.lt
      have HV := Lib.hid (lateV_some (show lateF ⟨2, pe, de, no, st, lo, li, ho⟩ r g = some (oa, ob, oc) from HG.out.symm))
      clear HG
      go_wp2_with fail
      refine bodyPost_ret (v := .tuple #[.agg #[.int .i64 oa, .int .i64 ob, .int .i64 oc], .bool true]) (by simp [results, Try.results79, go_sem, cell_put_same, e0, e1, e2]) rfl ?_
      refine ⟨by rw [HV.out], ?_⟩
      repeat' (first | with_reducible exact Below.refl _ _ | with_reducible refine bstep ?_ (by with_reducible assumption) | with_reducible refine balloc ?_ | with_reducible refine bdrew ?_ | with_reducible refine bdrewN ?_ _ | with_reducible refine bset ?_ (by go_size))
    | succ k =>
      have hlt : (f : Int) < pe := by omega
      go_wp2_with fail
      go_loopg [9] 10001 (fun j v9 wy => ∃ a : Nat, j + a = 10001 ∧ v9 = .int .i64 a ∧ Hid (findA ⟨2, pe, de, no, st, lo, li, ho⟩ r g f j a = firstA ⟨2, pe, de, no, st, lo, li, ho⟩ r g f) ∧
        Blk wy w.heap.size 23 (senCells 2 pe de no st lo li ho) ∧ Blk wy (w.heap.size + 1 + 1) 110 (outCells (0, 0, 0)) ∧ Blk wy (w.heap.size + 1 + 1 + 1) 110 (outCells (oa, ob, oc)) ∧ Below w.heap.size w wy)
      case atStart => exact ⟨0, rfl, rfl, rfl, B0, B2, B3, hbw⟩
      case round =>
        clear B0 B2 B3 hbw
        rename_i wo _ _ _ _ _ _ _
        obtain ⟨a, hja, rfl, HF, B0, B2, B3, hbw⟩ := hrel
        obtain ⟨s1, s2, s3, s4, s5, s6, s7⟩ := sen_cells B0
        obtain ⟨k0, k1, k2, g0, g1, g2⟩ := out_cells B3
        obtain ⟨e0, e1, e2, f0, f1, f2⟩ := out_cells B2
        have hz0 := B0.lt
        have hz := B3.lt
        obtain ⟨p1, p2⟩ := mul_bd (by omega : (0 : Int) ≤ a) (by omega : (a : Int) ≤ 10001) (by omega : 0 ≤ pe) h2
        by_cases hr : (f : Int) + a * pe ≤ 10000
        · have ha1 : (a : Int) * 1 ≤ a * pe := Int.mul_le_mul_of_nonneg_left h1 (by omega)
          have ha2 : (a : Int) ≤ 10000 := by omega
          clear ha1
          have hj : ∃ j', gk = j' + 1 := ⟨gk - 1, by omega⟩
          obtain ⟨j, rfl⟩ := hj
          have hgb := says_bd (s := ⟨2, pe, de, no, st, lo, li, ho⟩) (n := (f : Int) + a * pe) HK.out (by omega)
          have hsay : saysAt ⟨2, pe, de, no, st, lo, li, ho⟩ r g ((f : Int) + a * pe) = flowAt r g ((f : Int) + a * pe) := by simp [saysAt]
          rw [hsay] at hgb
          obtain ⟨hg1, hg2⟩ := hgb
          by_cases hv : li ≤ flowAt r g ((f : Int) + a * pe) - no * st
          · have hfa : firstA ⟨2, pe, de, no, st, lo, li, ho⟩ r g f = some a := by rw [← HF.out]; simp [findA, hr, hsay, hv]
            obtain ⟨m1, m2⟩ := mul_bd (by omega : (0 : Int) ≤ a + ho * (lo + 1) - 1) (by omega : (a : Int) + ho * (lo + 1) - 1 ≤ 10049) (by omega : 0 ≤ pe) h2
            by_cases ht : 10000 < (f : Int) + (a + ho * (lo + 1) - 1) * pe + de
            · have HV := Lib.hid (lateV_none (show lateF ⟨2, pe, de, no, st, lo, li, ho⟩ r g = none by rw [← HG.out]; simp [lateGo, hfa, alarmT, ht]))
              clear HG hfa HF
              go_wp2_with fail
              have hn2 : (f : Int) + a * pe ≤ 20000 := by omega
              have W3 : IntKind.i64.wrap (no * st) = no * st := IntWalk.i64_in _ (by omega)
              have W4 : IntKind.i64.wrap (flowAt r g ((f : Int) + a * pe) - no * st) = flowAt r g ((f : Int) + a * pe) - no * st := IntWalk.i64_in _ (by omega)
              have W1 : IntKind.i64.wrap ((a : Int) * pe) = (a : Int) * pe := IntWalk.i64_in _ (by omega)
              have W2 : IntKind.i64.wrap ((f : Int) + (a : Int) * pe) = (f : Int) + (a : Int) * pe := IntWalk.i64_in _ (by omega)
              go_region_held3 (fun w' => w'.cell? ⟨w.heap.size, 1, none⟩ = some (.int .i64 pe) ∧ w'.cell? ⟨w.heap.size, 3, none⟩ = some (.int .i64 no) ∧ w'.cell? ⟨w.heap.size, 4, none⟩ = some (.int .i64 st) ∧ w'.cell? ⟨w.heap.size, 6, none⟩ = some (.int .i64 li)) (first | exact ⟨s1, s3, s4, s6⟩ | exact ⟨(hc _ _ hz0).trans s1, (hc _ _ hz0).trans s3, (hc _ _ hz0).trans s4, (hc _ _ hz0).trans s6⟩) (first | (go_at_call 67; (with_reducible refine (flow_any r g ((f : Int) + a * pe) _ HK.out hn2).mono ?_); rintro e w2 ⟨rfl, hb⟩; obtain ⟨hc, hf⟩ := bcell hb))
              clear W1 W2 W3 W4
              have B0' := B0.drew.below hb
              have B2' := B2.drew.below hb
              have B3' := B3.drew.below hb
              have hbw' : Below w.heap.size w w2 := by
                repeat' (first | with_reducible exact Below.refl _ _ | with_reducible refine bstep ?_ (by with_reducible assumption) | with_reducible refine balloc ?_ | with_reducible refine bdrew ?_ | with_reducible refine bdrewN ?_ _ | with_reducible refine bset ?_ (by go_size))
              clear s1 s2 s3 s4 s5 s6 s7 k0 k1 k2 g0 g1 g2 e0 e1 e2 f0 f1 f2 hz0 hz B0 B2 B3 hbw hc hf hb
              obtain ⟨s1, s2, s3, s4, s5, s6, s7⟩ := sen_cells B0'
              obtain ⟨k0, k1, k2, g0, g1, g2⟩ := out_cells B3'
              obtain ⟨e0, e1, e2, f0, f1, f2⟩ := out_cells B2'
              have hz0 := B0'.lt
              have hz := B3'.lt
              go_wp2_with fail
              rw [Exit.noGoto_ret]
              refine bodyPost_ret (v := .tuple #[.agg #[.int .i64 0, .int .i64 0, .int .i64 0], .bool false]) (by simp [results, Try.results79, go_sem, cell_put_same, e0, e1, e2]) rfl ?_
              refine ⟨by rw [HV.out], ?_⟩
              repeat' (first | with_reducible exact Below.refl _ _ | with_reducible refine bstep ?_ (by with_reducible assumption) | with_reducible refine balloc ?_ | with_reducible refine bdrew ?_ | with_reducible refine bdrewN ?_ _ | with_reducible refine bset ?_ (by go_size))
            · by_cases hgt : oa < (f : Int) + (a + ho * (lo + 1) - 1) * pe + de
              · have HG2 : Hid (lateGo ⟨2, pe, de, no, st, lo, li, ho⟩ r g k (f + 1) ((f : Int) + (a + ho * (lo + 1) - 1) * pe + de, (f : Int), (a : Int)) = lateF ⟨2, pe, de, no, st, lo, li, ho⟩ r g) := by
                  show _ = _
                  rw [← HG.out]; simp [lateGo, hfa, alarmT, ht, hgt]
                clear HG hfa HF
                go_wp2_with fail
                have hn2 : (f : Int) + a * pe ≤ 20000 := by omega
                have W3 : IntKind.i64.wrap (no * st) = no * st := IntWalk.i64_in _ (by omega)
                have W4 : IntKind.i64.wrap (flowAt r g ((f : Int) + a * pe) - no * st) = flowAt r g ((f : Int) + a * pe) - no * st := IntWalk.i64_in _ (by omega)
                have W1 : IntKind.i64.wrap ((a : Int) * pe) = (a : Int) * pe := IntWalk.i64_in _ (by omega)
                have W2 : IntKind.i64.wrap ((f : Int) + (a : Int) * pe) = (f : Int) + (a : Int) * pe := IntWalk.i64_in _ (by omega)
                go_region_held3 (fun w' => w'.cell? ⟨w.heap.size, 1, none⟩ = some (.int .i64 pe) ∧ w'.cell? ⟨w.heap.size, 3, none⟩ = some (.int .i64 no) ∧ w'.cell? ⟨w.heap.size, 4, none⟩ = some (.int .i64 st) ∧ w'.cell? ⟨w.heap.size, 6, none⟩ = some (.int .i64 li)) (first | exact ⟨s1, s3, s4, s6⟩ | exact ⟨(hc _ _ hz0).trans s1, (hc _ _ hz0).trans s3, (hc _ _ hz0).trans s4, (hc _ _ hz0).trans s6⟩) (first | (go_at_call 67; (with_reducible refine (flow_any r g ((f : Int) + a * pe) _ HK.out hn2).mono ?_); rintro e w2 ⟨rfl, hb⟩; obtain ⟨hc, hf⟩ := bcell hb))
                clear W1 W2 W3 W4
                have B0' := B0.drew.below hb
                have B2' := B2.drew.below hb
                have B3' := B3.drew.below hb
                have hbw' : Below w.heap.size w w2 := by
                  repeat' (first | with_reducible exact Below.refl _ _ | with_reducible refine bstep ?_ (by with_reducible assumption) | with_reducible refine balloc ?_ | with_reducible refine bdrew ?_ | with_reducible refine bdrewN ?_ _ | with_reducible refine bset ?_ (by go_size))
                clear s1 s2 s3 s4 s5 s6 s7 k0 k1 k2 g0 g1 g2 e0 e1 e2 f0 f1 f2 hz0 hz B0 B2 B3 hbw hc hf hb
                obtain ⟨s1, s2, s3, s4, s5, s6, s7⟩ := sen_cells B0'
                obtain ⟨k0, k1, k2, g0, g1, g2⟩ := out_cells B3'
                obtain ⟨e0, e1, e2, f0, f1, f2⟩ := out_cells B2'
                have hz0 := B0'.lt
                have hz := B3'.lt
                go_wp2_with fail
                go_roundg k
                case measure => omega
                case rel => exact ⟨f + 1, ((f : Int) + (a + ho * (lo + 1) - 1) * pe + de, (f : Int), (a : Int)), by omega, by go_num, HG2, out_far B0' (by omega), out_far B2' (by omega), out_put (x := ((f : Int) + (a + ho * (lo + 1) - 1) * pe + de, (f : Int), (a : Int))) B3', out_below hbw' (by omega)⟩
              · have HG2 : Hid (lateGo ⟨2, pe, de, no, st, lo, li, ho⟩ r g k (f + 1) (oa, ob, oc) = lateF ⟨2, pe, de, no, st, lo, li, ho⟩ r g) := by
                  show _ = _
                  rw [← HG.out]; simp [lateGo, hfa, alarmT, ht, hgt]
                clear HG hfa HF
                go_wp2_with fail
                have hn2 : (f : Int) + a * pe ≤ 20000 := by omega
                have W3 : IntKind.i64.wrap (no * st) = no * st := IntWalk.i64_in _ (by omega)
                have W4 : IntKind.i64.wrap (flowAt r g ((f : Int) + a * pe) - no * st) = flowAt r g ((f : Int) + a * pe) - no * st := IntWalk.i64_in _ (by omega)
                have W1 : IntKind.i64.wrap ((a : Int) * pe) = (a : Int) * pe := IntWalk.i64_in _ (by omega)
                have W2 : IntKind.i64.wrap ((f : Int) + (a : Int) * pe) = (f : Int) + (a : Int) * pe := IntWalk.i64_in _ (by omega)
                go_region_held3 (fun w' => w'.cell? ⟨w.heap.size, 1, none⟩ = some (.int .i64 pe) ∧ w'.cell? ⟨w.heap.size, 3, none⟩ = some (.int .i64 no) ∧ w'.cell? ⟨w.heap.size, 4, none⟩ = some (.int .i64 st) ∧ w'.cell? ⟨w.heap.size, 6, none⟩ = some (.int .i64 li)) (first | exact ⟨s1, s3, s4, s6⟩ | exact ⟨(hc _ _ hz0).trans s1, (hc _ _ hz0).trans s3, (hc _ _ hz0).trans s4, (hc _ _ hz0).trans s6⟩) (first | (go_at_call 67; (with_reducible refine (flow_any r g ((f : Int) + a * pe) _ HK.out hn2).mono ?_); rintro e w2 ⟨rfl, hb⟩; obtain ⟨hc, hf⟩ := bcell hb))
                clear W1 W2 W3 W4
                have B0' := B0.drew.below hb
                have B2' := B2.drew.below hb
                have B3' := B3.drew.below hb
                have hbw' : Below w.heap.size w w2 := by
                  repeat' (first | with_reducible exact Below.refl _ _ | with_reducible refine bstep ?_ (by with_reducible assumption) | with_reducible refine balloc ?_ | with_reducible refine bdrew ?_ | with_reducible refine bdrewN ?_ _ | with_reducible refine bset ?_ (by go_size))
                clear s1 s2 s3 s4 s5 s6 s7 k0 k1 k2 g0 g1 g2 e0 e1 e2 f0 f1 f2 hz0 hz B0 B2 B3 hbw hc hf hb
                obtain ⟨s1, s2, s3, s4, s5, s6, s7⟩ := sen_cells B0'
                obtain ⟨k0, k1, k2, g0, g1, g2⟩ := out_cells B3'
                obtain ⟨e0, e1, e2, f0, f1, f2⟩ := out_cells B2'
                have hz0 := B0'.lt
                have hz := B3'.lt
                go_wp2_with fail
                go_roundg k
                case measure => omega
                case rel => exact ⟨f + 1, (oa, ob, oc), by omega, by go_num, HG2, B0', B2', B3', hbw'⟩
          · have HF2 : Hid (findA ⟨2, pe, de, no, st, lo, li, ho⟩ r g f j (a + 1) = firstA ⟨2, pe, de, no, st, lo, li, ho⟩ r g f) := by
              show _ = _
              rw [← HF.out]; simp [findA, hr, hsay, hv]
            clear HF
            go_wp2_with fail
            have hn2 : (f : Int) + a * pe ≤ 20000 := by omega
            have W3 : IntKind.i64.wrap (no * st) = no * st := IntWalk.i64_in _ (by omega)
            have W4 : IntKind.i64.wrap (flowAt r g ((f : Int) + a * pe) - no * st) = flowAt r g ((f : Int) + a * pe) - no * st := IntWalk.i64_in _ (by omega)
            have W1 : IntKind.i64.wrap ((a : Int) * pe) = (a : Int) * pe := IntWalk.i64_in _ (by omega)
            have W2 : IntKind.i64.wrap ((f : Int) + (a : Int) * pe) = (f : Int) + (a : Int) * pe := IntWalk.i64_in _ (by omega)
            go_region_held3 (fun w' => w'.cell? ⟨w.heap.size, 1, none⟩ = some (.int .i64 pe) ∧ w'.cell? ⟨w.heap.size, 3, none⟩ = some (.int .i64 no) ∧ w'.cell? ⟨w.heap.size, 4, none⟩ = some (.int .i64 st) ∧ w'.cell? ⟨w.heap.size, 6, none⟩ = some (.int .i64 li)) (first | exact ⟨s1, s3, s4, s6⟩ | exact ⟨(hc _ _ hz0).trans s1, (hc _ _ hz0).trans s3, (hc _ _ hz0).trans s4, (hc _ _ hz0).trans s6⟩) (first | (go_at_call 67; (with_reducible refine (flow_any r g ((f : Int) + a * pe) _ HK.out hn2).mono ?_); rintro e w2 ⟨rfl, hb⟩; obtain ⟨hc, hf⟩ := bcell hb))
            clear W1 W2 W3 W4
            have B0' := B0.drew.below hb
            have B2' := B2.drew.below hb
            have B3' := B3.drew.below hb
            have hbw' : Below w.heap.size w w2 := by
              repeat' (first | with_reducible exact Below.refl _ _ | with_reducible refine bstep ?_ (by with_reducible assumption) | with_reducible refine balloc ?_ | with_reducible refine bdrew ?_ | with_reducible refine bdrewN ?_ _ | with_reducible refine bset ?_ (by go_size))
            clear s1 s2 s3 s4 s5 s6 s7 k0 k1 k2 g0 g1 g2 e0 e1 e2 f0 f1 f2 hz0 hz B0 B2 B3 hbw hc hf hb
            obtain ⟨s1, s2, s3, s4, s5, s6, s7⟩ := sen_cells B0'
            obtain ⟨k0, k1, k2, g0, g1, g2⟩ := out_cells B3'
            obtain ⟨e0, e1, e2, f0, f1, f2⟩ := out_cells B2'
            have hz0 := B0'.lt
            have hz := B3'.lt
            go_wp2_with fail
            go_roundg j
            case measure => omega
            case rel => exact ⟨a + 1, by omega, by go_num, HF2, B0', B2', B3', hbw'⟩
        · have hfa : firstA ⟨2, pe, de, no, st, lo, li, ho⟩ r g f = none := by
            rw [← HF.out]
            cases gk <;> simp [findA, hr]
          have HV := Lib.hid (lateV_none (show lateF ⟨2, pe, de, no, st, lo, li, ho⟩ r g = none by rw [← HG.out]; simp [lateGo, hfa]))
          clear HG hfa HF
          go_wp2_with fail
          refine bodyPost_ret (v := .tuple #[.agg #[.int .i64 0, .int .i64 0, .int .i64 0], .bool false]) (by simp [results, Try.results79, go_sem, cell_put_same, e0, e1, e2]) rfl ?_
          refine ⟨by rw [HV.out], ?_⟩
          repeat' (first | with_reducible exact Below.refl _ _ | with_reducible refine bstep ?_ (by with_reducible assumption) | with_reducible refine balloc ?_ | with_reducible refine bdrew ?_ | with_reducible refine bdrewN ?_ _ | with_reducible refine bset ?_ (by go_size))

theorem late_any (s : Sen) (r g : Int) (w : World) (hs : SenOK s) (hk : KickOK r g) :
    Calls Try.prog 79 #[s.v, kickV r g] w fun e w' => e = .returned (lateV s r g) ∧ Below w.heap.size w w' := by
  obtain ⟨ch, pe, de, no, st, lo, li, ho⟩ := s
  obtain ⟨hkind, hr⟩ := hs
  rcases hkind with rfl | rfl
  · exact late_pit _ _ _ _ _ _ _ _ _ w hr hk
  · exact late_flow _ _ _ _ _ _ _ _ _ w hr hk

end Go.Proofs.Ytlbgcjpkegpmlaa
/- The contract of kick.Late. -/
namespace Go.Proofs.Ytlbgcjpkegpmlaa
open Go.RowKit

/-- What Late returns, of the program and of the reference. -/
def lateR (s : Sen) (r g : Int) : Int × Bool := if SenOK s ∧ KickOK r g then (match lateF s r g with | some (t, _, _) => (t, true) | none => (0, false)) else (0, false)
def lateRV (s : Sen) (r g : Int) : Value := .tuple #[.int .i64 (lateR s r g).1, .bool (lateR s r g).2]

theorem notSen {s : Sen} (h : ¬ SenOK s) : (¬ KindOK s) ∨ (KindOK s ∧ ¬ RangeOK s) := by
  unfold SenOK at h
  by_cases hk : KindOK s
  · exact .inr ⟨hk, fun hr => h ⟨hk, hr⟩⟩
  · exact .inl hk

theorem Late_any (s : Sen) (r g : Int) (w : World) :
    Calls Try.prog 49 #[s.v, kickV r g] w fun e w' => e = .returned (lateRV s r g) ∧ Below w.heap.size w w' := by
  by_cases hs : SenOK s
  · have HS := Lib.hid hs
    clear hs
    by_cases hk : KickOK r g
    · have HK := Lib.hid hk
      clear hk
      rcases hl : lateF s r g with _ | ⟨t, f, a⟩
      · have hv : lateRV s r g = .tuple #[.int .i64 0, .bool false] := by simp [lateRV, lateR, hl]
        have hV := Lib.hid (lateV_none hl)
        rw [hv]
        clear hv hl
        go_enter Try.func49, Try.ntmps49
        go_wp2_with (first
          | (go_at_call 40; refine (checkSensor_yes s _ HS.out).mono ?_; rintro e w1 ⟨rfl, hb⟩; obtain ⟨hc, hf⟩ := bcell hb; have hz0 : w.heap.size < w1.heap.size := (by have := hb.size; simp at this; omega); have hz1 : w.heap.size + 1 < w1.heap.size := (by have := hb.size; simp at this; omega))
          | (go_at_call 36; refine (checkKick_yes _ _ _ HK.out).mono ?_; rintro e w2 ⟨rfl, hb2⟩; obtain ⟨hc2, hf2⟩ := bcell hb2)
          | (go_at_call 79; refine (late_any s r g _ HS.out HK.out).mono ?_; rw [hV.out]; rintro e w3 ⟨rfl, hb3⟩))
        go_ret2
        refine ⟨rfl, ?_⟩
        repeat' (first | with_reducible exact Below.refl _ _ | with_reducible refine bstep ?_ (by with_reducible assumption) | with_reducible refine balloc ?_ | with_reducible refine bdrew ?_ | with_reducible refine bdrewN ?_ _ | with_reducible refine bset ?_ (by go_size))
      · have hv : lateRV s r g = .tuple #[.int .i64 t, .bool true] := by simp [lateRV, lateR, hl, HS.out, HK.out]
        have hV := Lib.hid (lateV_some hl)
        rw [hv]
        clear hv hl
        go_enter Try.func49, Try.ntmps49
        go_wp2_with (first
          | (go_at_call 40; refine (checkSensor_yes s _ HS.out).mono ?_; rintro e w1 ⟨rfl, hb⟩; obtain ⟨hc, hf⟩ := bcell hb; have hz0 : w.heap.size < w1.heap.size := (by have := hb.size; simp at this; omega); have hz1 : w.heap.size + 1 < w1.heap.size := (by have := hb.size; simp at this; omega))
          | (go_at_call 36; refine (checkKick_yes _ _ _ HK.out).mono ?_; rintro e w2 ⟨rfl, hb2⟩; obtain ⟨hc2, hf2⟩ := bcell hb2)
          | (go_at_call 79; refine (late_any s r g _ HS.out HK.out).mono ?_; rw [hV.out]; rintro e w3 ⟨rfl, hb3⟩))
        go_ret2
        refine ⟨rfl, ?_⟩
        repeat' (first | with_reducible exact Below.refl _ _ | with_reducible refine bstep ?_ (by with_reducible assumption) | with_reducible refine balloc ?_ | with_reducible refine bdrew ?_ | with_reducible refine bdrewN ?_ _ | with_reducible refine bset ?_ (by go_size))
    · have hv : lateRV s r g = .tuple #[.int .i64 0, .bool false] := by simp [lateRV, lateR, hk]
      rw [hv]
      clear hv
      have HK := Lib.hid hk
      clear hk
      go_enter Try.func49, Try.ntmps49
      go_wp2_with (first
        | (go_at_call 40; refine (checkSensor_yes s _ HS.out).mono ?_; rintro e w1 ⟨rfl, hb⟩; obtain ⟨hc, hf⟩ := bcell hb; have hz0 : w.heap.size < w1.heap.size := (by have := hb.size; simp at this; omega); have hz1 : w.heap.size + 1 < w1.heap.size := (by have := hb.size; simp at this; omega))
        | (go_at_call 36; refine (checkKick_no _ _ _ HK.out).mono ?_; rintro e w2 ⟨rfl, hb2⟩; obtain ⟨hc2, hf2⟩ := bcell hb2))
      go_ret2
      refine ⟨rfl, ?_⟩
      repeat' (first | with_reducible exact Below.refl _ _ | with_reducible refine bstep ?_ (by with_reducible assumption) | with_reducible refine balloc ?_ | with_reducible refine bdrew ?_ | with_reducible refine bdrewN ?_ _ | with_reducible refine bset ?_ (by go_size))
  · have hv : lateRV s r g = .tuple #[.int .i64 0, .bool false] := by simp [lateRV, lateR, hs]
    rw [hv]
    clear hv
    rcases notSen hs with hq | ⟨hq, hq2⟩
    · have HQ := Lib.hid hq
      clear hq hs
      go_enter Try.func49, Try.ntmps49
      go_wp2_with (go_at_call 40; refine (checkSensor_kind s _ HQ.out).mono ?_; rintro e w1 ⟨rfl, hb⟩; obtain ⟨hc, hf⟩ := bcell hb)
      go_ret2
      refine ⟨rfl, ?_⟩
      repeat' (first | with_reducible exact Below.refl _ _ | with_reducible refine bstep ?_ (by with_reducible assumption) | with_reducible refine balloc ?_ | with_reducible refine bdrew ?_ | with_reducible refine bdrewN ?_ _ | with_reducible refine bset ?_ (by go_size))
    · have HQ := Lib.hid hq
      have HQ2 := Lib.hid hq2
      clear hq hq2 hs
      go_enter Try.func49, Try.ntmps49
      go_wp2_with (go_at_call 40; refine (checkSensor_range s _ HQ.out HQ2.out).mono ?_; rintro e w1 ⟨rfl, hb⟩; obtain ⟨hc, hf⟩ := bcell hb)
      go_ret2
      refine ⟨rfl, ?_⟩
      repeat' (first | with_reducible exact Below.refl _ _ | with_reducible refine bstep ?_ (by with_reducible assumption) | with_reducible refine balloc ?_ | with_reducible refine bdrew ?_ | with_reducible refine bdrewN ?_ _ | with_reducible refine bset ?_ (by go_size))
end Go.Proofs.Ytlbgcjpkegpmlaa
/- The contract of awake: the chapter's examples hold. -/
namespace Go.Proofs.Ytlbgcjpkegpmlaa
open Go.RowKit

theorem shown_any (w : World) : Calls Try.prog 63 #[] w fun e w' => e = .returned (kickV 1000 100) ∧ Below w.heap.size w w' := by
  go_enter Try.func63, Try.ntmps63
  go_wp2
  go_returns
  refine ⟨rfl, ?_⟩
  repeat' (first | with_reducible exact Below.refl _ _ | with_reducible refine bstep ?_ (by with_reducible assumption) | with_reducible refine balloc ?_ | with_reducible refine bdrew ?_ | with_reducible refine bdrewN ?_ _ | with_reducible refine bset ?_ (by go_size))
theorem pit_any (w : World) : Calls Try.prog 64 #[] w fun e w' => e = .returned (Sen.v ⟨1, 10, 5, 2, 1000, 1, 20000, 2⟩) ∧ Below w.heap.size w w' := by
  go_enter Try.func64, Try.ntmps64
  go_wp2
  go_returns
  refine ⟨rfl, ?_⟩
  repeat' (first | with_reducible exact Below.refl _ _ | with_reducible refine bstep ?_ (by with_reducible assumption) | with_reducible refine balloc ?_ | with_reducible refine bdrew ?_ | with_reducible refine bdrewN ?_ _ | with_reducible refine bset ?_ (by go_size))
theorem flow_any' (w : World) : Calls Try.prog 65 #[] w fun e w' => e = .returned (Sen.v ⟨2, 1, 0, 0, 1, 0, 3000, 1⟩) ∧ Below w.heap.size w w' := by
  go_enter Try.func65, Try.ntmps65
  go_wp2
  go_returns
  refine ⟨rfl, ?_⟩
  repeat' (first | with_reducible exact Below.refl _ _ | with_reducible refine bstep ?_ (by with_reducible assumption) | with_reducible refine balloc ?_ | with_reducible refine bdrew ?_ | with_reducible refine bdrewN ?_ _ | with_reducible refine bset ?_ (by go_size))

theorem late_ex : lateRV ⟨1, 10, 5, 2, 1000, 1, 20000, 2⟩ 1000 100 = .tuple #[.int .i64 58, .bool true] := by
  have h : lateF ⟨1, 10, 5, 2, 1000, 1, 20000, 2⟩ 1000 100 = some (58, 3, 2) := by decide +kernel
  have hs : SenOK ⟨1, 10, 5, 2, 1000, 1, 20000, 2⟩ := by decide
  have hk : KickOK 1000 100 := by decide
  simp [lateRV, lateR, h, hs, hk]
theorem false_ex : falseP ⟨1, 1, 0, 2, 1000, 0, 1000, 2⟩ 3 = (32, 125) := by decide +kernel
theorem gain_ex : gainF 1000 100 3 = 3300 := by decide +kernel

theorem awake_any (w : World) : Calls Try.prog 19 #[] w fun e w' => e = .returned (.bool true) ∧ Below w.heap.size w w' := by
  go_enter Try.func19, Try.ntmps19
  go_wp2_with fail
  refine (pit_any _).mono ?_
  rintro e w1 ⟨rfl, hb1⟩
  go_wp2_with fail
  refine (shown_any _).mono ?_
  rintro e w2 ⟨rfl, hb2⟩
  go_wp2_with fail
  refine (Late_any ⟨1, 10, 5, 2, 1000, 1, 20000, 2⟩ 1000 100 _).mono ?_
  rw [late_ex]
  rintro e w3 ⟨rfl, hb3⟩
  go_wp2_with fail
  refine (False_ok 1 1 0 2 1000 0 1000 3 2 _ (by decide) (by decide) (by omega) (by omega)).mono ?_
  rw [show (3 : Int).toNat = 3 from rfl, show ((2 : Nat) : Int) = 2 from rfl, false_ex]
  rintro e w4 ⟨rfl, hb4⟩
  go_wp2_with fail
  refine (shown_any _).mono ?_
  rintro e w5 ⟨rfl, hb5⟩
  go_wp2_with fail
  refine (Gain_any 1000 100 3 _).mono ?_
  rw [gain_ex]
  rintro e w6 ⟨rfl, hb6⟩
  go_wp2_with fail
  go_ret
  refine ⟨rfl, ?_⟩
  repeat' (first | with_reducible exact Below.refl _ _ | with_reducible refine bstep ?_ (by with_reducible assumption) | with_reducible refine balloc ?_ | with_reducible refine bdrew ?_ | with_reducible refine bdrewN ?_ _ | with_reducible refine bset ?_ (by go_size))
end Go.Proofs.Ytlbgcjpkegpmlaa
/- The chapter's examples, for the table. -/
namespace Go.Proofs.Ytlbgcjpkegpmlaa
open Go.RowKit
theorem awake_ok : tab.ok 19 := by
  refine Tab.of_ct rfl rfl ⟨_, Try.func19, by decide, rfl⟩ ?_ ctF_det
  intro Base w vs cs hB hr _
  match vs, hr with
  | [], hr =>
    refine (awake_any w).mono ?_
    rintro e w' ⟨rfl, hb⟩
    have hv : vecB (kindsOf ctAwake.res) [C.b true] = [] := rfl
    refine ⟨_, [.b true], [], rfl, ⟨[.bool true], rfl, ?_, by rw [hv]; exact List.nodup_nil, fun b hb => (by rw [hv] at hb; cases hb)⟩, rfl, rfl, Keeps.of_below hb fun i hi => hi.1⟩
    exact ⟨[.b true], [], rfl, ⟨.b true, rfl, fun n => (by cases n <;> trivial), true, rfl, rfl⟩, rfl⟩
end Go.Proofs.Ytlbgcjpkegpmlaa
/- The call of KickCounts. -/
namespace Go.Proofs.Ytlbgcjpkegpmlaa
open Go.RowKit
theorem walk_KickCounts (A : Option Addr) (n k : Nat) (a b : Int) (W : World) (hN : NumsAt W W.heap.size A n) (ha : -9223372036854775808 ≤ a ∧ a ≤ 9223372036854775807) (hb : -9223372036854775808 ≤ b ∧ b ≤ 9223372036854775807) :
    Calls Try.prog 12 #[.slice A n k, .int .i64 a, .int .i64 b] W fun e w' => e = .returned (.bool true) ∧ Below W.heap.size W w' := by
  obtain ⟨rows, hr⟩ := rep_nums (c := k) hN
  exact law_walk (counts_ok (up4_ok (up3_ok (up_ok awake_ok)))) rfl (rep_arr hr (rep_lf ha (rep_lf hb rfl)))
end Go.Proofs.Ytlbgcjpkegpmlaa
namespace Go.Proofs.Ytlbgcjpkegpmlaa.lawKickCounts
open Go.ChangeShapes Go.WideShapes Go.ChangeAt Go.RowKit
set_option linter.unusedVariables false

set_option maxRecDepth 100000 in
theorem lifted (os : Os) (started : os.Started) (H : Type) (enc : TypeId × Value → H) :
    ReturnsInHanded {} Try.checked os 12 .any (Rows.kickCountsSpec.pre6 enc Try.prog Try.f12 Rows.kickCountsRow.domain false) (Rows.kickCountsSpec.post enc Try.prog Try.f12 false true false false) := by
  refine returnsInHanded_of_change (C := Try.checked) own started (by kernel_rfl) Try.func12
    (ChangeSpec.witness6 (enc := enc) (C := Try.checked) false ⟨#[], #[.slice none 0 0, .int .i64 0, .int .i64 0], []⟩ 8 (by kernel_rfl) (by kernel_rfl) (by kernel_rfl) (by kernel_rfl)) ?_
  intro W base args ds gs before hval0 hW hcnd _
  have hval : ∀ (j : Nat) t v, Try.f12.params[j]? = some t → args[j]? = some v → Value.okWide Try.prog W .any base t v := hval0
  have hW' := hW
  obtain ⟨p, q, hA0, hV, rfl, hfz, hnd⟩ := hW
  have hA : DataW.TrodAll enc Try.prog W 0 (fun _ => true) true Try.f12.params.toList args.toList ds p := hA0
  rw [Try.params12] at hA hval
  obtain ⟨v0, vs0, d0, ds0, p0, q0, hargs, rfl, rfl, h0, r0⟩ := trodAll_cons hA
  obtain ⟨v1, vs1, d1, ds1, p1, q1, rfl, rfl, rfl, h1, r1⟩ := trodAll_cons r0
  obtain ⟨v2, vs2, d2, ds2, p2, q2, rfl, rfl, rfl, h2, r2⟩ := trodAll_cons r1
  obtain ⟨rfl, rfl, rfl⟩ := trodAll_nil r2
  obtain rfl : args = #[v0, v1, v2] := by cases args; simp_all
  obtain ⟨rfl, rfl⟩ := trodVars_none hV
  have k0 := h0
  have lt0 : ∀ x ∈ p0, x.block < W.heap.size := by obtain ⟨m, hm⟩ := k0; exact DataW.trod_lt m _ _ _ hm
  obtain ⟨A0, n0, c0, e0, b0⟩ := open_nums (W := W) Try.underlying29 Try.underlying3 (by kernel_rfl) (hval 0 29 v0 rfl rfl) h0
  subst e0
  have k1 := h1
  have lt1 : ∀ x ∈ p1, x.block < W.heap.size := by obtain ⟨m, hm⟩ := k1; exact DataW.trod_lt m _ _ _ hm
  obtain ⟨a1, e1, -, -, wf1⟩ := open_int Try.underlying3 (hval 1 3 v1 rfl rfl) h1
  subst e1
  have b1 := wf_bd wf1
  have k2 := h2
  have lt2 : ∀ x ∈ p2, x.block < W.heap.size := by obtain ⟨m, hm⟩ := k2; exact DataW.trod_lt m _ _ _ hm
  obtain ⟨a2, e2, -, -, wf2⟩ := open_int Try.underlying2 (hval 2 2 v2 rfl rfl) h2
  subst e2
  have b2 := wf_bd wf2
  clear hA0 hval0
  refine (walk_KickCounts A0 n0 c0 a1 a2 W b0 b1 b2).mono fun e W' ⟨he, bel⟩ => ?_
  subst he
  exact ⟨_, rfl, _, _, _, [], _, [], hW', trodAll_mk1 (shut_bool Try.underlying4 _), (trodAll_cons_mk (Below.trod laidOut (by kernel_rfl) (of_decide_eq_true (by kernel_rfl)) k0 bel lt0) (trodAll_cons_mk (Below.trod laidOut (by kernel_rfl) (of_decide_eq_true (by kernel_rfl)) k1 bel lt1) (trodAll_cons_mk (Below.trod laidOut (by kernel_rfl) (of_decide_eq_true (by kernel_rfl)) k2 bel lt2) trodAll_mk0))), rfl, bel.frame _, fun h => by cases h⟩

theorem over : Rows.kickCountsRow.holds Try.pinned (OpenSpec.ofChange Rows.kickCountsSpec) :=
  OpenClaim.holds_of_wide 12 Try.f12 rfl rfl rfl rfl rfl rfl rfl ⟨rfl, rfl, rfl, rfl, rfl⟩ rfl rfl rfl rfl rfl (by kernel_rfl) Try.func12 (by kernel_rfl)
    (of_decide_eq_true (by kernel_rfl)) (by unfold Func.isWrapper; first | (rw [if_pos (by decide +kernel)]; kernel_rfl) | (rw [if_neg (by decide +kernel)]; exact ⟨rfl, rfl⟩))
    (fun os started H enc _ => lifted os started H enc)

theorem proved : Rows.KickCountsSaid := over
#print axioms proved
end Go.Proofs.Ytlbgcjpkegpmlaa.lawKickCounts
