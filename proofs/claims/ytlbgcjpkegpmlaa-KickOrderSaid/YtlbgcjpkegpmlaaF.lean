/- The contract of kick.Late. -/
import Derived.Test.YtlbgcjpkegpmlaaE
namespace Go.Proofs.Ytlbgcjpkegpmlaa
open Go.RowKit

/-- What Late returns, of the program and of the reference. -/
def lateR (s : Sen) (r g : Int) : Int × Bool := if SenOK s ∧ KickOK r g then (match lateF s r g with | some (t, _, _) => (t, true) | none => (0, false)) else (0, false)
def lateRV (s : Sen) (r g : Int) : Value := .tuple #[.int .i64 (lateR s r g).1, .bool (lateR s r g).2]

theorem notSen {s : Sen} (h : ¬ SenOK s) : (¬ KindOK s) ∨ (KindOK s ∧ ¬ RangeOK s) := by
  unfold SenOK at h
  by_cases hk : KindOK s
  · exact .inr ⟨hk, fun hr => h ⟨hk, hr⟩⟩
  · exact .inl hk

theorem Late_any (s : Sen) (r g : Int) (w : World) :
    Calls Try.prog 49 #[s.v, kickV r g] w fun e w' => e = .returned (lateRV s r g) ∧ Below w.heap.size w w' := by
  by_cases hs : SenOK s
  · have HS := Lib.hid hs
    clear hs
    by_cases hk : KickOK r g
    · have HK := Lib.hid hk
      clear hk
      rcases hl : lateF s r g with _ | ⟨t, f, a⟩
      · have hv : lateRV s r g = .tuple #[.int .i64 0, .bool false] := by simp [lateRV, lateR, hl]
        have hV := Lib.hid (lateV_none hl)
        rw [hv]
        clear hv hl
        go_enter Try.func49, Try.ntmps49
        go_wp2_with (first
          | (go_at_call 40; refine (checkSensor_yes s _ HS.out).mono ?_; rintro e w1 ⟨rfl, hb⟩; obtain ⟨hc, hf⟩ := bcell hb; have hz0 : w.heap.size < w1.heap.size := (by have := hb.size; simp at this; omega); have hz1 : w.heap.size + 1 < w1.heap.size := (by have := hb.size; simp at this; omega))
          | (go_at_call 36; refine (checkKick_yes _ _ _ HK.out).mono ?_; rintro e w2 ⟨rfl, hb2⟩; obtain ⟨hc2, hf2⟩ := bcell hb2)
          | (go_at_call 79; refine (late_any s r g _ HS.out HK.out).mono ?_; rw [hV.out]; rintro e w3 ⟨rfl, hb3⟩))
        go_ret2
        refine ⟨rfl, ?_⟩
        repeat' (first | with_reducible exact Below.refl _ _ | with_reducible refine bstep ?_ (by with_reducible assumption) | with_reducible refine balloc ?_ | with_reducible refine bdrew ?_ | with_reducible refine bdrewN ?_ _ | with_reducible refine bset ?_ (by go_size))
      · have hv : lateRV s r g = .tuple #[.int .i64 t, .bool true] := by simp [lateRV, lateR, hl, HS.out, HK.out]
        have hV := Lib.hid (lateV_some hl)
        rw [hv]
        clear hv hl
        go_enter Try.func49, Try.ntmps49
        go_wp2_with (first
          | (go_at_call 40; refine (checkSensor_yes s _ HS.out).mono ?_; rintro e w1 ⟨rfl, hb⟩; obtain ⟨hc, hf⟩ := bcell hb; have hz0 : w.heap.size < w1.heap.size := (by have := hb.size; simp at this; omega); have hz1 : w.heap.size + 1 < w1.heap.size := (by have := hb.size; simp at this; omega))
          | (go_at_call 36; refine (checkKick_yes _ _ _ HK.out).mono ?_; rintro e w2 ⟨rfl, hb2⟩; obtain ⟨hc2, hf2⟩ := bcell hb2)
          | (go_at_call 79; refine (late_any s r g _ HS.out HK.out).mono ?_; rw [hV.out]; rintro e w3 ⟨rfl, hb3⟩))
        go_ret2
        refine ⟨rfl, ?_⟩
        repeat' (first | with_reducible exact Below.refl _ _ | with_reducible refine bstep ?_ (by with_reducible assumption) | with_reducible refine balloc ?_ | with_reducible refine bdrew ?_ | with_reducible refine bdrewN ?_ _ | with_reducible refine bset ?_ (by go_size))
    · have hv : lateRV s r g = .tuple #[.int .i64 0, .bool false] := by simp [lateRV, lateR, hk]
      rw [hv]
      clear hv
      have HK := Lib.hid hk
      clear hk
      go_enter Try.func49, Try.ntmps49
      go_wp2_with (first
        | (go_at_call 40; refine (checkSensor_yes s _ HS.out).mono ?_; rintro e w1 ⟨rfl, hb⟩; obtain ⟨hc, hf⟩ := bcell hb; have hz0 : w.heap.size < w1.heap.size := (by have := hb.size; simp at this; omega); have hz1 : w.heap.size + 1 < w1.heap.size := (by have := hb.size; simp at this; omega))
        | (go_at_call 36; refine (checkKick_no _ _ _ HK.out).mono ?_; rintro e w2 ⟨rfl, hb2⟩; obtain ⟨hc2, hf2⟩ := bcell hb2))
      go_ret2
      refine ⟨rfl, ?_⟩
      repeat' (first | with_reducible exact Below.refl _ _ | with_reducible refine bstep ?_ (by with_reducible assumption) | with_reducible refine balloc ?_ | with_reducible refine bdrew ?_ | with_reducible refine bdrewN ?_ _ | with_reducible refine bset ?_ (by go_size))
  · have hv : lateRV s r g = .tuple #[.int .i64 0, .bool false] := by simp [lateRV, lateR, hs]
    rw [hv]
    clear hv
    rcases notSen hs with hq | ⟨hq, hq2⟩
    · have HQ := Lib.hid hq
      clear hq hs
      go_enter Try.func49, Try.ntmps49
      go_wp2_with (go_at_call 40; refine (checkSensor_kind s _ HQ.out).mono ?_; rintro e w1 ⟨rfl, hb⟩; obtain ⟨hc, hf⟩ := bcell hb)
      go_ret2
      refine ⟨rfl, ?_⟩
      repeat' (first | with_reducible exact Below.refl _ _ | with_reducible refine bstep ?_ (by with_reducible assumption) | with_reducible refine balloc ?_ | with_reducible refine bdrew ?_ | with_reducible refine bdrewN ?_ _ | with_reducible refine bset ?_ (by go_size))
    · have HQ := Lib.hid hq
      have HQ2 := Lib.hid hq2
      clear hq hq2 hs
      go_enter Try.func49, Try.ntmps49
      go_wp2_with (go_at_call 40; refine (checkSensor_range s _ HQ.out HQ2.out).mono ?_; rintro e w1 ⟨rfl, hb⟩; obtain ⟨hc, hf⟩ := bcell hb)
      go_ret2
      refine ⟨rfl, ?_⟩
      repeat' (first | with_reducible exact Below.refl _ _ | with_reducible refine bstep ?_ (by with_reducible assumption) | with_reducible refine balloc ?_ | with_reducible refine bdrew ?_ | with_reducible refine bdrewN ?_ _ | with_reducible refine bset ?_ (by go_size))
end Go.Proofs.Ytlbgcjpkegpmlaa
