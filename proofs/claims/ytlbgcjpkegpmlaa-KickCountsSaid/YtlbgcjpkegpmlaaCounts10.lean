/- Texts laid into one: XDJ XS4 X13 Hs XD4 X9 Hr XD5 XD6 XD7 XD8 X10 XD9 XDA XDB X12 A C B. -/
import Derived.Test.YtlbgcjpkegpmlaaCounts9
import Derived.Test.YtlbgcjpkegpmlaaProg
import Derived.WalkKit
import Derived.WalkLawsBesides
import Derived.Lib.Hide
import Derived.Deep.QuietTactic
import Derived.BigQuiet
import Derived.Handy
/- The count of false alarms is the number of sequences of errors that alarm. -/
namespace Go.Proofs.Ytlbgcjpkegpmlaa
open Go.RowKit
set_option linter.unusedSimpArgs false
set_option linter.unusedVariables false

def one (p : Prop) [Decidable p] : Int := if p then 1 else 0
/-- The row count behind samples that do not alarm. -/
def cntL (li : Int) : Int → List (List C) → Int
  | n, [] => n
  | n, r :: l => cntL li (if cell_ r 2 < li then 0 else n + 1) l
theorem alarm_snoc {li ho de : Int} {r : List C} : ∀ {l : List (List C)} {n : Int}, alarmL li ho de n (l ++ [r]) = match alarmL li ho de n l with
    | some t => some t
    | none => if (if cell_ r 2 < li then 0 else cntL li n l + 1) = ho then some (cell_ r 1 + de) else none
  | [], n => by
    rw [List.nil_append, alarmL, alarmL, cntL]
    rfl
  | s :: l, n => by
    rw [List.cons_append, alarmL, alarmL, cntL]
    generalize (if cell_ s 2 < li then (0 : Int) else n + 1) = m
    by_cases h : m = ho
    · rw [if_pos h, if_pos h]
    · rw [if_neg h, if_neg h]
      exact alarm_snoc
theorem cnt_snoc {li : Int} {r : List C} : ∀ {l : List (List C)} {n : Int}, cntL li n (l ++ [r]) = if cell_ r 2 < li then 0 else cntL li n l + 1
  | [], n => rfl
  | s :: l, n => by
    rw [List.cons_append, cntL, cntL]
    exact cnt_snoc
theorem cnt_bd {li ho de : Int} (hh : 1 ≤ ho) : ∀ {l : List (List C)} {n : Int}, 0 ≤ n → n < ho → alarmL li ho de n l = none → 0 ≤ cntL li n l ∧ cntL li n l < ho
  | [], n, h0, h1, _ => ⟨h0, h1⟩
  | s :: l, n, h0, h1, h => by
    rw [alarmL] at h
    rw [cntL]
    have hm : 0 ≤ (if cell_ s 2 < li then (0 : Int) else n + 1) ∧ (if cell_ s 2 < li then (0 : Int) else n + 1) ≤ ho := by split <;> omega
    generalize (if cell_ s 2 < li then (0 : Int) else n + 1) = m at *
    by_cases he : m = ho
    · rw [if_pos he] at h; cases h
    · rw [if_neg he] at h
      exact cnt_bd hh hm.1 (by omega) h
/-- The samples of d errors, that the digits of i say. -/
def drawR (pe no st n : Int) (i : Int) : Nat → List (List C)
  | 0 => []
  | d + 1 => drawR pe no st n i d ++ [[.i 0, .i ((d : Int) * pe), .i ((i / n ^ d % n - no) * st)]]
theorem drawR_len {pe no st n i : Int} : ∀ {d : Nat}, (drawR pe no st n i d).length = d
  | 0 => rfl
  | d + 1 => by rw [drawR, List.length_append, drawR_len]; rfl
theorem sumTo_add {F : Nat → Int} {m : Nat} : ∀ {k : Nat}, sumTo F (m + k) = sumTo F m + sumTo (fun j => F (m + j)) k
  | 0 => by simp [sumTo]
  | k + 1 => by
    rw [show m + (k + 1) = m + k + 1 by omega, sumTo, sumTo, sumTo_add]
    omega
theorem sumTo_two {F : Nat → Int} {m : Nat} : ∀ {k : Nat}, sumTo F (k * m) = sumTo (fun y => sumTo (fun j => F (y * m + j)) m) k
  | 0 => by simp [sumTo]
  | k + 1 => by
    rw [Nat.succ_mul, sumTo_add, sumTo, sumTo_two]
theorem sumTo_plus {F G : Nat → Int} : ∀ {m : Nat}, sumTo (fun k => F k + G k) m = sumTo F m + sumTo G m
  | 0 => rfl
  | m + 1 => by
    simp only [sumTo]
    rw [sumTo_plus]
    omega
theorem sumTo_zero {F : Nat → Int} {m : Nat} (h : ∀ k, k < m → F k = 0) : sumTo F m = 0 := by
  induction m with
  | zero => rfl
  | succ m ih =>
    rw [sumTo, ih fun k hk => h k (by omega), h m (by omega)]
    rfl
theorem sumTo_swap {F : Nat → Nat → Int} {m : Nat} : ∀ {k : Nat}, sumTo (fun y => sumTo (fun j => F y j) m) k = sumTo (fun j => sumTo (fun y => F y j) k) m
  | 0 => by
    simp only [sumTo]
    exact (sumTo_zero fun _ _ => rfl).symm
  | k + 1 => by
    simp only [sumTo]
    rw [sumTo_swap, ← sumTo_plus]
/-- One of the places is hit just once. -/
theorem sumTo_hit {c : Int} : ∀ {m : Nat}, 0 ≤ c → c < m → sumTo (fun k => one (c = (k : Int))) m = 1
  | 0, h0, h => by omega
  | m + 1, h0, h => by
    rw [sumTo]
    by_cases e : c = (m : Int)
    · rw [sumTo_zero fun k hk => by unfold one; rw [if_neg (by omega)]]
      unfold one; rw [if_pos e]; rfl
    · rw [sumTo_hit h0 (by omega)]
      unfold one; rw [if_neg e]; rfl
theorem highGo_sum {st li : Int} : ∀ {k : Nat} {x hi : Int}, highGo st li k x hi = hi + sumTo (fun y => one (li ≤ (x + y) * st)) k
  | 0, x, hi => by simp [highGo, sumTo]
  | k + 1, x, hi => by
    rw [highGo, highGo_sum, show k + 1 = 1 + k by omega, sumTo_add]
    have e1 : sumTo (fun y : Nat => one (li ≤ (x + y) * st)) 1 = if li ≤ x * st then 1 else 0 := by
      simp [sumTo, one]
    have e2 : sumTo (fun j : Nat => one (li ≤ (x + ((1 + j : Nat) : Int)) * st)) k = sumTo (fun y : Nat => one (li ≤ (x + 1 + y) * st)) k := by
      refine sumTo_congr fun j _ => ?_
      have : x + ((1 + j : Nat) : Int) = x + 1 + j := by omega
      rw [this]
    rw [e1, e2]
    split <;> omega
section
variable {pe no st li ho de : Int}
/-- Sequences of d errors that alarm. -/
def alN (pe no st li ho de n : Int) (d : Nat) : Int := sumTo (fun i => one ((alarmL li ho de 0 (drawR pe no st n i d)).isSome = true)) (n.toNat ^ d)
/-- Those that do not, and end with a row of so many. -/
def rwN (pe no st li ho de n : Int) (d : Nat) (k : Nat) : Int := sumTo (fun i => one (alarmL li ho de 0 (drawR pe no st n i d) = none ∧ cntL li 0 (drawR pe no st n i d) = (k : Int))) (n.toNat ^ d)
theorem drawR_mod {n : Int} {m y j : Nat} (hn : n = (m : Int)) (h : 0 < m) : ∀ {d e : Nat}, e ≤ d → drawR pe no st n ((y * m ^ d + j : Nat) : Int) e = drawR pe no st n ((j : Nat) : Int) e
  | d, 0, _ => rfl
  | d, e + 1, he => by
    rw [drawR, drawR, drawR_mod hn h (by omega)]
    subst hn
    have h1 : (y * m ^ d + j) / m ^ e % m = j / m ^ e % m := by
      obtain ⟨c, rfl⟩ : ∃ c, d = e + 1 + c := ⟨d - (e + 1), by omega⟩
      rw [show y * m ^ (e + 1 + c) + j = j + m ^ e * (m * (y * m ^ c)) by rw [Nat.pow_add, Nat.pow_succ]; ac_rfl, Nat.add_mul_div_left _ _ (Nat.pow_pos h), Nat.add_mul_mod_self_left]
    have := congrArg (fun x : Nat => (x : Int)) h1
    simp only [Int.natCast_emod, Int.natCast_ediv, Int.natCast_pow] at this
    rw [this]
theorem drawR_top {n : Int} {m y j d : Nat} (hn : n = (m : Int)) (h : 0 < m) (hy : y < m) (hj : j < m ^ d) : drawR pe no st n ((y * m ^ d + j : Nat) : Int) (d + 1) = drawR pe no st n (j : Int) d ++ [[.i 0, .i ((d : Int) * pe), .i (((y : Int) - no) * st)]] := by
  rw [drawR, drawR_mod hn h (Nat.le_refl _)]
  subst hn
  have h1 : (y * m ^ d + j) / m ^ d % m = y := by
    rw [Nat.add_comm, Nat.mul_comm, Nat.add_mul_div_left _ _ (Nat.pow_pos h), Nat.div_eq_of_lt hj, Nat.zero_add, Nat.mod_eq_of_lt hy]
  have := congrArg (fun x : Nat => (x : Int)) h1
  simp only [Int.natCast_emod, Int.natCast_ediv, Int.natCast_pow] at this
  rw [this]
theorem al_one {l : List (List C)} {r : List C} (hh : 1 ≤ ho) : one ((alarmL li ho de 0 (l ++ [r])).isSome = true) = one ((alarmL li ho de 0 l).isSome = true) + one (li ≤ cell_ r 2) * one (alarmL li ho de 0 l = none ∧ cntL li 0 l = ho - 1) := by
  rw [alarm_snoc]
  cases h : alarmL li ho de 0 l with
  | some t => simp [one]
  | none =>
    simp only []
    by_cases hl : cell_ r 2 < li
    · rw [if_pos hl, if_neg (by omega)]
      simp [one, show ¬ li ≤ cell_ r 2 by omega]
    · rw [if_neg hl]
      by_cases hc : cntL li 0 l + 1 = ho
      · rw [if_pos hc]
        simp [one, show li ≤ cell_ r 2 by omega, show cntL li 0 l = ho - 1 by omega]
      · rw [if_neg hc]
        simp [one, show ¬ cntL li 0 l = ho - 1 by omega]
theorem rw_zero {l : List (List C)} {r : List C} (hh : 1 ≤ ho) : one (alarmL li ho de 0 (l ++ [r]) = none ∧ cntL li 0 (l ++ [r]) = ((0 : Nat) : Int)) = one (¬ li ≤ cell_ r 2) * one (alarmL li ho de 0 l = none) := by
  rw [alarm_snoc, cnt_snoc]
  cases h : alarmL li ho de 0 l with
  | some t => simp [one]
  | none =>
    have hb := cnt_bd hh (Int.le_refl 0) (by omega) h
    simp only []
    by_cases hl : cell_ r 2 < li
    · rw [if_pos hl, if_neg (by omega)]
      simp [one, show ¬ li ≤ cell_ r 2 by omega]
    · rw [if_neg hl]
      simp [one, show li ≤ cell_ r 2 by omega, show ¬ cntL li 0 l + 1 = 0 by omega]
theorem rw_succ {l : List (List C)} {r : List C} {k : Nat} (hh : 1 ≤ ho) : one (alarmL li ho de 0 (l ++ [r]) = none ∧ cntL li 0 (l ++ [r]) = ((k + 1 : Nat) : Int)) = if ((k + 1 : Nat) : Int) < ho then one (li ≤ cell_ r 2) * one (alarmL li ho de 0 l = none ∧ cntL li 0 l = (k : Int)) else 0 := by
  rw [alarm_snoc, cnt_snoc]
  cases h : alarmL li ho de 0 l with
  | some t => simp [one]
  | none =>
    have hb := cnt_bd hh (Int.le_refl 0) (by omega) h
    simp only []
    by_cases hl : cell_ r 2 < li
    · rw [if_pos hl, if_neg (by omega)]
      unfold one
      rw [if_neg (by omega), if_neg (show ¬ li ≤ cell_ r 2 by omega)]
      simp
    · rw [if_neg hl]
      by_cases hc : cntL li 0 l + 1 = ho
      · rw [if_pos hc]
        unfold one
        rw [if_neg (by simp)]
        by_cases hk : ((k + 1 : Nat) : Int) < ho
        · simp [hk, show ¬ cntL li 0 l = (k : Int) by omega]
        · rw [if_neg hk]
      · rw [if_neg hc]
        unfold one
        rw [if_pos (show li ≤ cell_ r 2 by omega)]
        by_cases hk : cntL li 0 l = (k : Int)
        · rw [if_pos (by simp; omega), if_pos (by omega), if_pos (by simp; exact hk)]; rfl
        · rw [if_neg (fun h => by have := h.2; omega)]
          split
          · rw [if_neg (fun h => hk h.2)]; rfl
          · rfl
theorem sumTo_const {c : Int} : ∀ {k : Nat}, sumTo (fun _ => c) k = c * k
  | 0 => by simp [sumTo]
  | k + 1 => by rw [sumTo, sumTo_const, show ((k + 1 : Nat) : Int) = k + 1 by omega, Int.mul_add]; omega
theorem sumTo_mulL {F : Nat → Int} {c : Int} {m : Nat} : sumTo (fun k => c * F k) m = c * sumTo F m := by
  have := sumTo_mul F c m
  rw [Int.mul_comm c]
  rw [← this]
  exact sumTo_congr fun k _ => Int.mul_comm ..
/-- How many errors are high. -/
def hiN (no st li : Int) (m : Nat) : Int := sumTo (fun y => one (li ≤ ((y : Int) - no) * st)) m
theorem hiN_not {no st li : Int} {m : Nat} : sumTo (fun y => one (¬ li ≤ ((y : Int) - no) * st)) m = m - hiN no st li m := by
  have : sumTo (fun y => one (¬ li ≤ ((y : Int) - no) * st) + one (li ≤ ((y : Int) - no) * st)) m = sumTo (fun _ => 1) m := sumTo_congr fun k _ => by
    unfold one
    by_cases h : li ≤ ((k : Int) - no) * st
    · rw [if_neg (by omega), if_pos h]; rfl
    · rw [if_pos h, if_neg h]; rfl
  rw [sumTo_plus, sumTo_const] at this
  unfold hiN
  omega
theorem alN_step {m d : Nat} (hm : 0 < m) (hh : 1 ≤ ho) : alN pe no st li ho de m (d + 1) = alN pe no st li ho de m d * m + rwN pe no st li ho de m d (ho.toNat - 1) * hiN no st li m := by
  unfold alN rwN
  rw [show (m : Int).toNat = m from rfl, Nat.pow_succ, Nat.mul_comm (m ^ d) m, sumTo_two]
  have e : ∀ y, y < m → sumTo (fun j => one ((alarmL li ho de 0 (drawR pe no st m ((y * m ^ d + j : Nat) : Int) (d + 1))).isSome = true)) (m ^ d) =
      sumTo (fun i => one ((alarmL li ho de 0 (drawR pe no st m i d)).isSome = true)) (m ^ d) + one (li ≤ ((y : Int) - no) * st) * sumTo (fun i => one (alarmL li ho de 0 (drawR pe no st m i d) = none ∧ cntL li 0 (drawR pe no st m i d) = ((ho.toNat - 1 : Nat) : Int))) (m ^ d) := fun y hy => by
    rw [← sumTo_mulL, ← sumTo_plus]
    refine sumTo_congr fun j hj => ?_
    rw [drawR_top rfl hm hy hj, al_one hh, show ((ho.toNat - 1 : Nat) : Int) = ho - 1 by omega]
    rfl
  rw [sumTo_congr e, sumTo_plus, sumTo_const, sumTo_mul]
  unfold hiN
  rw [Int.mul_comm (sumTo _ m)]
theorem rwN_step {m d : Nat} (hm : 0 < m) (hh : 1 ≤ ho) : rwN pe no st li ho de m (d + 1) = stepRow m (hiN no st li m) ho.toNat (rwN pe no st li ho de m d) := by
  funext k
  cases k with
  | zero =>
    unfold stepRow
    rw [if_pos rfl, sumTo_mul, ← hiN_not]
    unfold rwN
    rw [show (m : Int).toNat = m from rfl, Nat.pow_succ, Nat.mul_comm (m ^ d) m, sumTo_two, sumTo_swap (k := ho.toNat)]
    have e : ∀ y, y < m → sumTo (fun j => one (alarmL li ho de 0 (drawR pe no st m ((y * m ^ d + j : Nat) : Int) (d + 1)) = none ∧ cntL li 0 (drawR pe no st m ((y * m ^ d + j : Nat) : Int) (d + 1)) = ((0 : Nat) : Int))) (m ^ d) =
        one (¬ li ≤ ((y : Int) - no) * st) * sumTo (fun j => sumTo (fun k => one (alarmL li ho de 0 (drawR pe no st m j d) = none ∧ cntL li 0 (drawR pe no st m j d) = (k : Int))) ho.toNat) (m ^ d) := fun y hy => by
      rw [← sumTo_mulL]
      refine sumTo_congr fun j hj => ?_
      rw [drawR_top rfl hm hy hj, rw_zero hh]
      congr 1
      by_cases hn : alarmL li ho de 0 (drawR pe no st m j d) = none
      · have hb := cnt_bd hh (Int.le_refl 0) (by omega) hn
        have := sumTo_hit (m := ho.toNat) hb.1 (by omega)
        rw [show one (alarmL li ho de 0 (drawR pe no st m j d) = none) = 1 from if_pos hn, ← this]
        exact sumTo_congr fun k _ => by unfold one; simp [hn]
      · rw [show one (alarmL li ho de 0 (drawR pe no st m j d) = none) = 0 from if_neg hn]
        exact (sumTo_zero fun k _ => if_neg fun h => hn h.1).symm
    rw [sumTo_congr e, sumTo_mul, Int.mul_comm]
  | succ k =>
    unfold stepRow
    rw [if_neg (by omega), Nat.add_sub_cancel]
    unfold rwN
    rw [show (m : Int).toNat = m from rfl, Nat.pow_succ, Nat.mul_comm (m ^ d) m, sumTo_two]
    have e : ∀ y, y < m → sumTo (fun j => one (alarmL li ho de 0 (drawR pe no st m ((y * m ^ d + j : Nat) : Int) (d + 1)) = none ∧ cntL li 0 (drawR pe no st m ((y * m ^ d + j : Nat) : Int) (d + 1)) = ((k + 1 : Nat) : Int))) (m ^ d) =
        if k + 1 < ho.toNat then one (li ≤ ((y : Int) - no) * st) * sumTo (fun j => one (alarmL li ho de 0 (drawR pe no st m j d) = none ∧ cntL li 0 (drawR pe no st m j d) = (k : Int))) (m ^ d) else 0 := fun y hy => by
      by_cases hk : k + 1 < ho.toNat
      · rw [if_pos hk, ← sumTo_mulL]
        refine sumTo_congr fun j hj => ?_
        rw [drawR_top rfl hm hy hj, rw_succ hh, if_pos (by omega)]
        rfl
      · rw [if_neg hk]
        refine sumTo_zero fun j hj => ?_
        rw [drawR_top rfl hm hy hj, rw_succ hh, if_neg (by omega)]
    rw [sumTo_congr e]
    by_cases hk : k + 1 < ho.toNat
    · rw [if_pos hk]
      simp only [if_pos hk]
      rw [sumTo_mul, Int.mul_comm]
      rfl
    · rw [if_neg hk]
      simp only [if_neg hk]
      exact sumTo_zero fun _ _ => rfl
theorem falseGo_is {m : Nat} (hm : 0 < m) (hh : 1 ≤ ho) : ∀ {d d0 : Nat}, falseGo m (hiN no st li m) ho.toNat d (rwN pe no st li ho de m d0) (alN pe no st li ho de m d0) ((m : Int) ^ d0) = (alN pe no st li ho de m (d0 + d), (m : Int) ^ (d0 + d))
  | 0, d0 => rfl
  | d + 1, d0 => by
    rw [falseGo, ← rwN_step hm hh, ← alN_step hm hh, ← Int.pow_succ, falseGo_is hm hh, show d0 + 1 + d = d0 + (d + 1) by omega]
end
/-- What False counts. -/
theorem falseP_is {s : Sen} {m d : Nat} (hm : 2 * s.no + 1 = (m : Int)) (h0 : 0 < m) (hh : 1 ≤ s.ho) (pe de : Int) : falseP s d = (alN pe s.no s.st s.li s.ho de m d, (m : Int) ^ d) := by
  have hH : highF s = hiN s.no s.st s.li m := by
    unfold highF hiN
    rw [highGo_sum, Int.zero_add, hm]
    refine sumTo_congr fun y _ => ?_
    rw [show -s.no + (y : Int) = (y : Int) - s.no by omega]
  have hr : rwN pe s.no s.st s.li s.ho de m 0 = row0 := by
    funext k
    unfold rwN row0
    show sumTo _ 1 = _
    simp only [sumTo, drawR, alarmL, cntL, one]
    by_cases h : k = 0
    · subst h; simp
    · rw [if_neg h, if_neg (by omega)]; rfl
  have ha : alN pe s.no s.st s.li s.ho de m 0 = 0 := by
    unfold alN
    show sumTo _ 1 = _
    simp [sumTo, drawR, alarmL, one]
  have := falseGo_is (pe := pe) (no := s.no) (st := s.st) (li := s.li) (ho := s.ho) (de := de) h0 hh (d := d) (d0 := 0)
  rw [hr, ha, Int.pow_zero, Nat.zero_add] at this
  unfold falseP
  rw [hH, hm]
  exact this
/-- Without a high error there is no alarm. -/
theorem alN_zero {pe no st li ho de : Int} {m d : Nat} (hm : 0 < m) (hh : 1 ≤ ho) (h : hiN no st li m = 0) : alN pe no st li ho de m d = 0 := by
  induction d with
  | zero => unfold alN; show sumTo _ 1 = _; simp [sumTo, drawR, alarmL, one]
  | succ d ih => rw [alN_step hm hh, ih, h]; simp
theorem alN_grow {pe no st li ho de : Int} {m d : Nat} (hm : 0 < m) (hh : 1 ≤ ho) : alN pe no st li ho de m d * m ≤ alN pe no st li ho de m (d + 1) := by
  rw [alN_step hm hh]
  have : 0 ≤ rwN pe no st li ho de m d (ho.toNat - 1) * hiN no st li m := Int.mul_nonneg (sumTo_nonneg (fun _ => by unfold one; split <;> omega) _) (sumTo_nonneg (fun _ => by unfold one; split <;> omega) _)
  omega
theorem hiN_zero {no st li : Int} {m : Nat} (hm : 2 * no + 1 = (m : Int)) (hs : 0 ≤ st) (h : no * st < li) : hiN no st li m = 0 := sumTo_zero fun y hy => by
  have := Int.mul_le_mul_of_nonneg_right (show (y : Int) - no ≤ no by omega) hs
  exact if_neg (by omega)
end Go.Proofs.Ytlbgcjpkegpmlaa
/- The table, more of it: false alarms; the chapter's examples. -/
namespace Go.Proofs.Ytlbgcjpkegpmlaa
set_option linter.unusedVariables false

def senOf (cs : List C) : Sen := ⟨cell_ cs 0, cell_ cs 1, cell_ cs 2, cell_ cs 3, cell_ cs 4, cell_ cs 5, cell_ cs 6, cell_ cs 7⟩
def ctFalse : Ct := ctF [sensSh, .lf .int] [.lf .int, .lf .int, .lf .int] (fun cs => SenOK (senOf cs) ∧ 1 ≤ cell_ cs 8 ∧ cell_ cs 8 ≤ 12) (fun cs => [.i (falseP (senOf cs) (cell_ cs 8).toNat).1, .i (falseP (senOf cs) (cell_ cs 8).toNat).2, .i 0])
def ctShown : Ct := ctF [] [kickSh] (fun _ => True) (fun _ => [.i 1000, .i 100])
def ctPit : Ct := ctF [] [sensSh] (fun _ => True) (fun _ => [.i 1, .i 10, .i 5, .i 2, .i 1000, .i 1, .i 20000, .i 2])
def ctFlowS : Ct := ctF [] [sensSh] (fun _ => True) (fun _ => [.i 2, .i 1, .i 0, .i 0, .i 1, .i 0, .i 3000, .i 1])
def tab4 : Tab where
  ct := fun f => match f with
    | 17 => some ctFalse
    | 63 => some ctShown
    | 64 => some ctPit
    | 65 => some ctFlowS
    | f => tab3.ct f
  inl := tab3.inl
  sel := tab3.sel
theorem up4_ok {f : Nat} (h : tab3.ok f) (he : tab4.ct f = tab3.ct f := by rfl) : tab4.ok f :=
  ⟨h.1, fun ct hc => h.2.1 ct (he ▸ hc), h.2.2.1, h.2.2.2⟩
end Go.Proofs.Ytlbgcjpkegpmlaa
/- What is to be shown of each function, as the executor has it. Printed by trees.py. -/
namespace Go.Proofs.Ytlbgcjpkegpmlaa
noncomputable def cslowest : Cx := tab4.only [21, 20, 25, 49, 59, 29, 54, 19] (fun r => match r with
  | 50012 => [.vec 19]
  | _ => []) [] 0 [] (fun r => match r with
  | 50012 => some ([(14, true, [.bool]), (15, true, [.int])], [])
  | _ => none)
def tslowest_1 : Tree :=
  (.join [.bool, .int] (.both (.arr [[(.int (.var 7)), (.int (.var 8)), (.int (.var 9)), (.int (.var 10)), (.int (.var 11)), (.int (.var 12)), (.int (.var 13)), (.int (.var 14))]] (.ob (.cmp .le (.lit 0) (.sub (.len (.var 19)) (.lit 1))) (.ob (.cmp .le (.sub (.len (.var 19)) (.lit 1)) (.len (.var 19))) (.cat (.sub3 (.var 19) (.lit 0) (.sub (.len (.var 19)) (.lit 1)) 0) .nil (.call 54 [(.arr 23 (.var 27)), (.arr 40 (.var 28))] (.back 0 [(.bool (.of (.var 31))), (.int (.var 32))])))))) (.ob (.cmp .le (.lit 0) (.sub (.len (.var 19)) (.lit 1))) (.ob (.cmp .le (.sub (.len (.var 19)) (.lit 1)) (.len (.var 19))) (.cat (.sub3 (.var 19) (.lit 0) (.sub (.len (.var 19)) (.lit 1)) 0) .nil (.arr [[(.int (.var 7)), (.int (.var 8)), (.int (.var 9)), (.int (.var 10)), (.int (.var 11)), (.int (.var 12)), (.int (.var 13)), (.int (.var 14))]] (.call 54 [(.arr 23 (.var 28)), (.arr 40 (.var 27))] (.back 0 [(.bool (.of (.var 31))), (.int (.var 32))]))))))) (.split (.cmp .eq (.var 26) (.lit 0)) (.split (.cmp .eq (.var 28) (.lit 0)) (.split (.of (.var 25)) (.split (.not (.of (.var 27))) (.split (.cmp .eq (.var 24) (.var 17)) (.call 19 [] (.ret [(.bool (.of (.var 29)))])) (.ret [(.bool (.lit false))])) (.ret [(.bool (.lit false))])) (.ret [(.bool (.lit false))])) (.ret [(.bool (.lit false))])) (.ret [(.bool (.lit false))])))
def tslowest_2 : Tree :=
  (.split (.not (.of (.var 21))) (.ret [(.bool (.lit false))]) (.split (.cmp .eq (.len (.var 19)) (.lit 0)) (.ret [(.bool (.lit false))]) (.arr [[(.int (.var 7)), (.int (.var 8)), (.int (.var 9)), (.int (.var 10)), (.int (.var 11)), (.int (.var 12)), (.int (.var 13)), (.int (.var 14))]] (.call 54 [(.arr 23 (.var 22)), (.arr 40 (.var 19))] tslowest_1))))
def tslowest_3 : Tree :=
  (.split (.not (.of (.var 18))) (.split (.not (.of (.var 20))) (.split (.cmp .eq (.len (.var 19)) (.lit 0)) (.call 19 [] (.ret [(.bool (.of (.var 21)))])) (.ret [(.bool (.lit false))])) (.ret [(.bool (.lit false))])) (.split (.not (.of (.var 20))) (.split (.cmp .eq (.len (.var 19)) (.lit 0)) (.call 19 [] (.ret [(.bool (.of (.var 21)))])) (.ret [(.bool (.lit false))])) (.call 29 [(.int (.var 7)), (.int (.var 8)), (.int (.var 9)), (.int (.var 10)), (.int (.var 11)), (.int (.var 12)), (.int (.var 13)), (.int (.var 14)), (.int (.var 3)), (.int (.var 4)), (.int (.lit 0)), (.arr 40 (.var 19))] tslowest_2)))
def tslowest_4 : Tree :=
  (.call 49 [(.int (.var 7)), (.int (.var 8)), (.int (.var 9)), (.int (.var 10)), (.int (.var 11)), (.int (.var 12)), (.int (.var 13)), (.int (.var 14)), (.int (.var 3)), (.int (.var 4))] (.call 59 [(.int (.var 7)), (.int (.var 8)), (.int (.var 9)), (.int (.var 10)), (.int (.var 11)), (.int (.var 12)), (.int (.var 13)), (.int (.var 14)), (.int (.var 3)), (.int (.var 4))] tslowest_3))
def tslowest : Tree :=
  (.call 21 [(.arr 3 (.var 0))] (.call 20 [(.arr 3 (.var 1)), (.int (.var 2))] (.call 25 [(.arr 3 (.var 5)), (.int (.var 6))] tslowest_4)))
noncomputable def cnoticed : Cx := tab4.only [21, 48, 25, 22, 50, 49, 27, 29, 54, 19] (fun _ => []) [] 0 [] (fun _ => none)
def tnoticed_1 : Tree :=
  (.split (.cmp .eq (.var 36) (.lit 0)) (.split (.of (.var 35)) (.ob (.and (.cmp .le (.lit (-9223372036854775808)) (.add (.var 24) (.var 26))) (.cmp .le (.add (.var 24) (.var 26)) (.lit 9223372036854775807))) (.split (.cmp .le (.var 34) (.add (.var 24) (.var 26))) (.call 19 [] (.ret [(.bool (.of (.var 37)))])) (.ret [(.bool (.lit false))]))) (.ret [(.bool (.lit false))])) (.ret [(.bool (.lit false))]))
def tnoticed_2 : Tree :=
  (.split (.not (.of (.var 31))) (.ret [(.bool (.lit false))]) (.split (.cmp .le (.lit 190) (.len (.var 28))) (.call 19 [] (.ret [(.bool (.of (.var 32)))])) (.arr [[(.int (.var 12)), (.int (.var 13)), (.int (.var 14)), (.int (.var 15)), (.int (.var 16)), (.int (.var 17)), (.int (.var 18)), (.int (.var 19))]] (.call 54 [(.arr 23 (.var 32)), (.arr 40 (.var 28))] tnoticed_1))))
def tnoticed_3 : Tree :=
  (.ob (.and (.cmp .le (.lit (-9223372036854775808)) (.add (.var 6) (.var 22))) (.cmp .le (.add (.var 6) (.var 22)) (.lit 9223372036854775807))) (.ob (.and (.cmp .le (.lit (-9223372036854775808)) (.add (.var 8) (.var 23))) (.cmp .le (.add (.var 8) (.var 23)) (.lit 9223372036854775807))) (.call 29 [(.int (.var 12)), (.int (.var 13)), (.int (.var 14)), (.int (.var 15)), (.int (.var 16)), (.int (.var 17)), (.int (.var 18)), (.int (.var 19)), (.int (.add (.var 6) (.var 22))), (.int (.add (.var 8) (.var 23))), (.int (.var 24)), (.arr 40 (.var 28))] tnoticed_2)))
def tnoticed_4 : Tree :=
  (.split (.cmp .eq (.var 27) (.lit 13)) (.call 49 [(.int (.var 12)), (.int (.var 13)), (.int (.var 14)), (.int (.var 15)), (.int (.var 16)), (.int (.var 17)), (.int (.var 18)), (.int (.var 19)), (.int (.var 6)), (.int (.var 8))] (.split (.not (.of (.var 29))) (.call 19 [] (.ret [(.bool (.of (.var 30)))])) (.ret [(.bool (.lit false))]))) (.split (.cmp .ne (.var 27) (.lit 0)) (.ret [(.bool (.lit false))]) (.ob (.and (.cmp .le (.lit (-9223372036854775808)) (.add (.var 24) (.var 26))) (.cmp .le (.add (.var 24) (.var 26)) (.lit 9223372036854775807))) (.ob (.and (.cmp .le (.lit (-9223372036854775808)) (.add (.var 6) (.var 22))) (.cmp .le (.add (.var 6) (.var 22)) (.lit 9223372036854775807))) (.ob (.and (.cmp .le (.lit (-9223372036854775808)) (.add (.var 8) (.var 23))) (.cmp .le (.add (.var 8) (.var 23)) (.lit 9223372036854775807))) (.ob (.and (.cmp .le (.lit (-9223372036854775808)) (.add (.var 24) (.var 26))) (.cmp .le (.add (.var 24) (.var 26)) (.lit 9223372036854775807))) (.call 27 [(.arr 3 (.var 20)), (.int (.var 21)), (.int (.lit 0)), (.int (.var 12)), (.int (.var 13)), (.int (.var 14)), (.int (.var 15)), (.int (.var 16)), (.int (.var 17)), (.int (.var 18)), (.int (.var 19)), (.int (.add (.var 6) (.var 22))), (.int (.add (.var 8) (.var 23))), (.int (.var 24)), (.int (.add (.var 24) (.var 26)))] tnoticed_3)))))))
def tnoticed_5 : Tree :=
  (.arr [[(.int (.var 12)), (.int (.var 13)), (.int (.var 14)), (.int (.var 15)), (.int (.var 16)), (.int (.var 17)), (.int (.var 18)), (.int (.var 19))]] (.call 50 [(.arr 23 (.var 25)), (.int (.var 6)), (.int (.var 7)), (.int (.var 8)), (.int (.var 9))] tnoticed_4))
def tnoticed_6 : Tree :=
  (.ob (.and (.cmp .le (.lit (-9223372036854775808)) (.add (.var 8) (.var 23))) (.cmp .le (.add (.var 8) (.var 23)) (.lit 9223372036854775807))) (.call 22 [(.int (.var 3)), (.int (.lit 60))] tnoticed_5))
def tnoticed_7 : Tree :=
  (.ob (.and (.cmp .le (.lit (-9223372036854775808)) (.add (.var 6) (.var 22))) (.cmp .le (.add (.var 6) (.var 22)) (.lit 9223372036854775807))) (.ob (.and (.cmp .le (.lit (-9223372036854775808)) (.sub (.var 9) (.var 8))) (.cmp .le (.sub (.var 9) (.var 8)) (.lit 9223372036854775807))) (.ob (.and (.cmp .le (.lit (-9223372036854775808)) (.add (.sub (.var 9) (.var 8)) (.lit 1))) (.cmp .le (.add (.sub (.var 9) (.var 8)) (.lit 1)) (.lit 9223372036854775807))) (.ob (.and (.cmp .le (.lit (-9223372036854775808)) (.add (.sub (.var 9) (.var 8)) (.lit 1))) (.cmp .le (.add (.sub (.var 9) (.var 8)) (.lit 1)) (.lit 9223372036854775807))) (.call 22 [(.int (.var 2)), (.int (.add (.sub (.var 9) (.var 8)) (.lit 1)))] tnoticed_6)))))
def tnoticed_8 : Tree :=
  (.ob (.and (.cmp .le (.lit (-9223372036854775808)) (.sub (.var 7) (.var 6))) (.cmp .le (.sub (.var 7) (.var 6)) (.lit 9223372036854775807))) (.ob (.and (.cmp .le (.lit (-9223372036854775808)) (.add (.sub (.var 7) (.var 6)) (.lit 1))) (.cmp .le (.add (.sub (.var 7) (.var 6)) (.lit 1)) (.lit 9223372036854775807))) (.ob (.and (.cmp .le (.lit (-9223372036854775808)) (.add (.sub (.var 7) (.var 6)) (.lit 1))) (.cmp .le (.add (.sub (.var 7) (.var 6)) (.lit 1)) (.lit 9223372036854775807))) (.call 22 [(.int (.var 1)), (.int (.add (.sub (.var 7) (.var 6)) (.lit 1)))] tnoticed_7))))
def tnoticed : Tree :=
  (.call 21 [(.arr 3 (.var 0))] (.call 48 [(.arr 3 (.var 4)), (.int (.var 5))] (.call 25 [(.arr 3 (.var 10)), (.int (.var 11))] tnoticed_8)))
noncomputable def ccounts : Cx := tab4.only [21, 25, 22, 28, 17, 46, 54, 19] (fun r => match r with
  | 50018 => [.vec 27]
  | _ => []) [] 0 [] (fun r => match r with
  | 50018 => some ([(16, true, [.vec 40])], [])
  | _ => none)
def tcounts_1 : Tree :=
  (.ob (.and (.cmp .le (.lit (-9223372036854775808)) (.mul (.var 29) (.var 6))) (.cmp .le (.mul (.var 29) (.var 6)) (.lit 9223372036854775807))) (.arr [[(.int (.lit 0)), (.int (.mul (.var 29) (.var 6))), (.int (.var 30))]] (.ob (.cmp .le (.mul (.add (.len (.var 27)) (.len (.var 31))) (.lit 24)) (.lit 140737488355328)) (.cat (.var 27) (.var 31) (.back 2 [(.cnt 40 (.var 32))])))))
def tcounts_2 : Tree :=
  (.split (.cmp .ne (.var 34) (.lit 0)) (.ret [(.bool (.lit false))]) (.split (.of (.var 33)) (.ob (.and (.cmp .le (.lit (-9223372036854775808)) (.add (.var 24) (.lit 1))) (.cmp .le (.add (.var 24) (.lit 1)) (.lit 9223372036854775807))) (.ob (.and (.cmp .le (.lit (-9223372036854775808)) (.add (.var 24) (.lit 1))) (.cmp .le (.add (.var 24) (.lit 1)) (.lit 9223372036854775807))) (.back 0 [(.bool (.of (.var 23))), (.int (.add (.var 24) (.lit 1))), (.int (.add (.var 25) (.lit 1)))]))) (.back 0 [(.bool (.of (.var 23))), (.int (.var 24)), (.int (.add (.var 25) (.lit 1)))])))
def tcounts_3 : Tree :=
  (.split (.cmp .ne (.var 19) (.lit 0)) (.ret [(.bool (.lit false))]) (.split (.cmp .ne (.var 22) (.lit 0)) (.ret [(.bool (.lit false))]) (.ob (.and (.cmp .le (.lit (-9223372036854775808)) (.mul (.lit 2) (.min (.var 8) (.lit 2)))) (.cmp .le (.mul (.lit 2) (.min (.var 8) (.lit 2))) (.lit 9223372036854775807))) (.ob (.and (.cmp .le (.lit (-9223372036854775808)) (.add (.mul (.lit 2) (.min (.var 8) (.lit 2))) (.lit 1))) (.cmp .le (.add (.mul (.lit 2) (.min (.var 8) (.lit 2))) (.lit 1)) (.lit 9223372036854775807))) (.ob (.and (.cmp .le (.lit (-9223372036854775808)) (.mul (.var 18) (.add (.mul (.lit 2) (.min (.var 8) (.lit 2))) (.lit 1)))) (.cmp .le (.mul (.var 18) (.add (.mul (.lit 2) (.min (.var 8) (.lit 2))) (.lit 1))) (.lit 9223372036854775807))) (.split (.cmp .ne (.var 21) (.mul (.var 18) (.add (.mul (.lit 2) (.min (.var 8) (.lit 2))) (.lit 1)))) (.ret [(.bool (.lit false))]) (.ob (.and (.cmp .le (.lit (-9223372036854775808)) (.mul (.lit 2) (.min (.var 8) (.lit 2)))) (.cmp .le (.mul (.lit 2) (.min (.var 8) (.lit 2))) (.lit 9223372036854775807))) (.ob (.and (.cmp .le (.lit (-9223372036854775808)) (.add (.mul (.lit 2) (.min (.var 8) (.lit 2))) (.lit 1))) (.cmp .le (.add (.mul (.lit 2) (.min (.var 8) (.lit 2))) (.lit 1)) (.lit 9223372036854775807))) (.ob (.and (.cmp .le (.lit (-9223372036854775808)) (.mul (.var 17) (.add (.mul (.lit 2) (.min (.var 8) (.lit 2))) (.lit 1)))) (.cmp .le (.mul (.var 17) (.add (.mul (.lit 2) (.min (.var 8) (.lit 2))) (.lit 1))) (.lit 9223372036854775807))) (.split (.cmp .lt (.var 20) (.mul (.var 17) (.add (.mul (.lit 2) (.min (.var 8) (.lit 2))) (.lit 1)))) (.ret [(.bool (.lit false))]) (.ob (.and (.cmp .le (.lit (-9223372036854775808)) (.mul (.min (.var 8) (.lit 2)) (.var 9))) (.cmp .le (.mul (.min (.var 8) (.lit 2)) (.var 9)) (.lit 9223372036854775807))) (.split (.cmp .lt (.mul (.min (.var 8) (.lit 2)) (.var 9)) (.add (.lit 1) (.var 15))) (.split (.cmp .ne (.var 17) (.lit 0)) (.ret [(.bool (.lit false))]) (.loop [.bool, .int, .int] [(.bool (.lit false)), (.int (.lit 0)), (.int (.lit 0))] (.split (.cmp .lt (.var 25) (.var 18)) (.dfn .nil (.loop [(.vec 40), .int, .int] [(.cnt 40 (.var 26)), (.int (.var 25)), (.int (.lit 0))] (.split (.cmp .lt (.var 29) (.add (.lit 1) (.var 16))) (.join [(.vec 40)] (.ob (.and (.cmp .le (.lit (-9223372036854775808)) (.mul (.var 29) (.var 6))) (.cmp .le (.mul (.var 29) (.var 6)) (.lit 9223372036854775807))) (.ob (.and (.cmp .le (.lit (-9223372036854775808)) (.mul (.lit 2) (.min (.var 8) (.lit 2)))) (.cmp .le (.mul (.lit 2) (.min (.var 8) (.lit 2))) (.lit 9223372036854775807))) (.ob (.and (.cmp .le (.lit (-9223372036854775808)) (.add (.mul (.lit 2) (.min (.var 8) (.lit 2))) (.lit 1))) (.cmp .le (.add (.mul (.lit 2) (.min (.var 8) (.lit 2))) (.lit 1)) (.lit 9223372036854775807))) (.ob (.cmp .ne (.add (.mul (.lit 2) (.min (.var 8) (.lit 2))) (.lit 1)) (.lit 0)) (.ob (.and (.cmp .le (.lit (-9223372036854775808)) (.sub (.rem (.var 28) (.add (.mul (.lit 2) (.min (.var 8) (.lit 2))) (.lit 1))) (.min (.var 8) (.lit 2)))) (.cmp .le (.sub (.rem (.var 28) (.add (.mul (.lit 2) (.min (.var 8) (.lit 2))) (.lit 1))) (.min (.var 8) (.lit 2))) (.lit 9223372036854775807))) (.ob (.and (.cmp .le (.lit (-9223372036854775808)) (.add (.lit 1) (.var 15))) (.cmp .le (.add (.lit 1) (.var 15)) (.lit 9223372036854775807))) (.ob (.and (.cmp .le (.lit (-9223372036854775808)) (.sub (.rem (.var 28) (.add (.mul (.lit 2) (.min (.var 8) (.lit 2))) (.lit 1))) (.min (.var 8) (.lit 2)))) (.cmp .le (.sub (.rem (.var 28) (.add (.mul (.lit 2) (.min (.var 8) (.lit 2))) (.lit 1))) (.min (.var 8) (.lit 2))) (.lit 9223372036854775807))) (.call 46 [(.int (.var 5)), (.int (.var 6)), (.int (.var 7)), (.int (.min (.var 8) (.lit 2))), (.int (.var 9)), (.int (.var 10)), (.int (.add (.lit 1) (.var 15))), (.int (.var 12)), (.int (.lit 0)), (.int (.lit 0)), (.int (.lit 0)), (.int (.sub (.rem (.var 28) (.add (.mul (.lit 2) (.min (.var 8) (.lit 2))) (.lit 1))) (.min (.var 8) (.lit 2))))] tcounts_1)))))))) (.ob (.and (.cmp .le (.lit (-9223372036854775808)) (.mul (.lit 2) (.min (.var 8) (.lit 2)))) (.cmp .le (.mul (.lit 2) (.min (.var 8) (.lit 2))) (.lit 9223372036854775807))) (.ob (.and (.cmp .le (.lit (-9223372036854775808)) (.add (.mul (.lit 2) (.min (.var 8) (.lit 2))) (.lit 1))) (.cmp .le (.add (.mul (.lit 2) (.min (.var 8) (.lit 2))) (.lit 1)) (.lit 9223372036854775807))) (.ob (.cmp .ne (.add (.mul (.lit 2) (.min (.var 8) (.lit 2))) (.lit 1)) (.lit 0)) (.ob (.and (.cmp .le (.lit (-9223372036854775808)) (.quo (.var 28) (.add (.mul (.lit 2) (.min (.var 8) (.lit 2))) (.lit 1)))) (.cmp .le (.quo (.var 28) (.add (.mul (.lit 2) (.min (.var 8) (.lit 2))) (.lit 1))) (.lit 9223372036854775807))) (.ob (.and (.cmp .le (.lit (-9223372036854775808)) (.add (.var 29) (.lit 1))) (.cmp .le (.add (.var 29) (.lit 1)) (.lit 9223372036854775807))) (.ob (.and (.cmp .le (.lit (-9223372036854775808)) (.quo (.var 28) (.add (.mul (.lit 2) (.min (.var 8) (.lit 2))) (.lit 1)))) (.cmp .le (.quo (.var 28) (.add (.mul (.lit 2) (.min (.var 8) (.lit 2))) (.lit 1))) (.lit 9223372036854775807))) (.ob (.and (.cmp .le (.lit (-9223372036854775808)) (.add (.var 29) (.lit 1))) (.cmp .le (.add (.var 29) (.lit 1)) (.lit 9223372036854775807))) (.back 1 [(.cnt 40 (.var 30)), (.int (.quo (.var 28) (.add (.mul (.lit 2) (.min (.var 8) (.lit 2))) (.lit 1)))), (.int (.add (.var 29) (.lit 1)))]))))))))) (.ob (.and (.cmp .le (.lit (-9223372036854775808)) (.add (.lit 1) (.var 15))) (.cmp .le (.add (.lit 1) (.var 15)) (.lit 9223372036854775807))) (.arr [[(.int (.var 5)), (.int (.var 6)), (.int (.var 7)), (.int (.min (.var 8) (.lit 2))), (.int (.var 9)), (.int (.var 10)), (.int (.add (.lit 1) (.var 15))), (.int (.var 12))]] (.call 54 [(.arr 23 (.var 30)), (.arr 40 (.var 27))] tcounts_2)))))) (.split (.cmp .eq (.var 24) (.var 17)) (.call 19 [] (.ret [(.bool (.of (.var 26)))])) (.ret [(.bool (.lit false))]))))) (.loop [.bool, .int, .int] [(.bool (.lit false)), (.int (.lit 0)), (.int (.lit 0))] (.split (.cmp .lt (.var 25) (.var 18)) (.dfn .nil (.loop [(.vec 40), .int, .int] [(.cnt 40 (.var 26)), (.int (.var 25)), (.int (.lit 0))] (.split (.cmp .lt (.var 29) (.add (.lit 1) (.var 16))) (.join [(.vec 40)] (.ob (.and (.cmp .le (.lit (-9223372036854775808)) (.mul (.var 29) (.var 6))) (.cmp .le (.mul (.var 29) (.var 6)) (.lit 9223372036854775807))) (.ob (.and (.cmp .le (.lit (-9223372036854775808)) (.mul (.lit 2) (.min (.var 8) (.lit 2)))) (.cmp .le (.mul (.lit 2) (.min (.var 8) (.lit 2))) (.lit 9223372036854775807))) (.ob (.and (.cmp .le (.lit (-9223372036854775808)) (.add (.mul (.lit 2) (.min (.var 8) (.lit 2))) (.lit 1))) (.cmp .le (.add (.mul (.lit 2) (.min (.var 8) (.lit 2))) (.lit 1)) (.lit 9223372036854775807))) (.ob (.cmp .ne (.add (.mul (.lit 2) (.min (.var 8) (.lit 2))) (.lit 1)) (.lit 0)) (.ob (.and (.cmp .le (.lit (-9223372036854775808)) (.sub (.rem (.var 28) (.add (.mul (.lit 2) (.min (.var 8) (.lit 2))) (.lit 1))) (.min (.var 8) (.lit 2)))) (.cmp .le (.sub (.rem (.var 28) (.add (.mul (.lit 2) (.min (.var 8) (.lit 2))) (.lit 1))) (.min (.var 8) (.lit 2))) (.lit 9223372036854775807))) (.ob (.and (.cmp .le (.lit (-9223372036854775808)) (.add (.lit 1) (.var 15))) (.cmp .le (.add (.lit 1) (.var 15)) (.lit 9223372036854775807))) (.ob (.and (.cmp .le (.lit (-9223372036854775808)) (.sub (.rem (.var 28) (.add (.mul (.lit 2) (.min (.var 8) (.lit 2))) (.lit 1))) (.min (.var 8) (.lit 2)))) (.cmp .le (.sub (.rem (.var 28) (.add (.mul (.lit 2) (.min (.var 8) (.lit 2))) (.lit 1))) (.min (.var 8) (.lit 2))) (.lit 9223372036854775807))) (.call 46 [(.int (.var 5)), (.int (.var 6)), (.int (.var 7)), (.int (.min (.var 8) (.lit 2))), (.int (.var 9)), (.int (.var 10)), (.int (.add (.lit 1) (.var 15))), (.int (.var 12)), (.int (.lit 0)), (.int (.lit 0)), (.int (.lit 0)), (.int (.sub (.rem (.var 28) (.add (.mul (.lit 2) (.min (.var 8) (.lit 2))) (.lit 1))) (.min (.var 8) (.lit 2))))] tcounts_1)))))))) (.ob (.and (.cmp .le (.lit (-9223372036854775808)) (.mul (.lit 2) (.min (.var 8) (.lit 2)))) (.cmp .le (.mul (.lit 2) (.min (.var 8) (.lit 2))) (.lit 9223372036854775807))) (.ob (.and (.cmp .le (.lit (-9223372036854775808)) (.add (.mul (.lit 2) (.min (.var 8) (.lit 2))) (.lit 1))) (.cmp .le (.add (.mul (.lit 2) (.min (.var 8) (.lit 2))) (.lit 1)) (.lit 9223372036854775807))) (.ob (.cmp .ne (.add (.mul (.lit 2) (.min (.var 8) (.lit 2))) (.lit 1)) (.lit 0)) (.ob (.and (.cmp .le (.lit (-9223372036854775808)) (.quo (.var 28) (.add (.mul (.lit 2) (.min (.var 8) (.lit 2))) (.lit 1)))) (.cmp .le (.quo (.var 28) (.add (.mul (.lit 2) (.min (.var 8) (.lit 2))) (.lit 1))) (.lit 9223372036854775807))) (.ob (.and (.cmp .le (.lit (-9223372036854775808)) (.add (.var 29) (.lit 1))) (.cmp .le (.add (.var 29) (.lit 1)) (.lit 9223372036854775807))) (.ob (.and (.cmp .le (.lit (-9223372036854775808)) (.quo (.var 28) (.add (.mul (.lit 2) (.min (.var 8) (.lit 2))) (.lit 1)))) (.cmp .le (.quo (.var 28) (.add (.mul (.lit 2) (.min (.var 8) (.lit 2))) (.lit 1))) (.lit 9223372036854775807))) (.ob (.and (.cmp .le (.lit (-9223372036854775808)) (.add (.var 29) (.lit 1))) (.cmp .le (.add (.var 29) (.lit 1)) (.lit 9223372036854775807))) (.back 1 [(.cnt 40 (.var 30)), (.int (.quo (.var 28) (.add (.mul (.lit 2) (.min (.var 8) (.lit 2))) (.lit 1)))), (.int (.add (.var 29) (.lit 1)))]))))))))) (.ob (.and (.cmp .le (.lit (-9223372036854775808)) (.add (.lit 1) (.var 15))) (.cmp .le (.add (.lit 1) (.var 15)) (.lit 9223372036854775807))) (.arr [[(.int (.var 5)), (.int (.var 6)), (.int (.var 7)), (.int (.min (.var 8) (.lit 2))), (.int (.var 9)), (.int (.var 10)), (.int (.add (.lit 1) (.var 15))), (.int (.var 12))]] (.call 54 [(.arr 23 (.var 30)), (.arr 40 (.var 27))] tcounts_2)))))) (.split (.cmp .eq (.var 24) (.var 17)) (.call 19 [] (.ret [(.bool (.of (.var 26)))])) (.ret [(.bool (.lit false))]))))))))))))))))
def tcounts_4 : Tree :=
  (.ob (.and (.cmp .le (.lit (-9223372036854775808)) (.add (.add (.lit 1) (.var 16)) (.lit 1))) (.cmp .le (.add (.add (.lit 1) (.var 16)) (.lit 1)) (.lit 9223372036854775807))) (.ob (.and (.cmp .le (.lit (-9223372036854775808)) (.add (.lit 1) (.var 15))) (.cmp .le (.add (.lit 1) (.var 15)) (.lit 9223372036854775807))) (.ob (.and (.cmp .le (.lit (-9223372036854775808)) (.add (.add (.lit 1) (.var 16)) (.lit 1))) (.cmp .le (.add (.add (.lit 1) (.var 16)) (.lit 1)) (.lit 9223372036854775807))) (.call 17 [(.int (.var 5)), (.int (.var 6)), (.int (.var 7)), (.int (.min (.var 8) (.lit 2))), (.int (.var 9)), (.int (.var 10)), (.int (.add (.lit 1) (.var 15))), (.int (.var 12)), (.int (.add (.add (.lit 1) (.var 16)) (.lit 1)))] tcounts_3))))
def tcounts_5 : Tree :=
  (.ob (.and (.cmp .le (.lit (-9223372036854775808)) (.add (.lit 1) (.var 16))) (.cmp .le (.add (.lit 1) (.var 16)) (.lit 9223372036854775807))) (.ob (.and (.cmp .le (.lit (-9223372036854775808)) (.add (.lit 1) (.var 15))) (.cmp .le (.add (.lit 1) (.var 15)) (.lit 9223372036854775807))) (.ob (.and (.cmp .le (.lit (-9223372036854775808)) (.add (.lit 1) (.var 16))) (.cmp .le (.add (.lit 1) (.var 16)) (.lit 9223372036854775807))) (.call 17 [(.int (.var 5)), (.int (.var 6)), (.int (.var 7)), (.int (.min (.var 8) (.lit 2))), (.int (.var 9)), (.int (.var 10)), (.int (.add (.lit 1) (.var 15))), (.int (.var 12)), (.int (.add (.lit 1) (.var 16)))] tcounts_4))))
def tcounts_6 : Tree :=
  (.ob (.and (.cmp .le (.lit (-9223372036854775808)) (.mul (.min (.var 8) (.lit 2)) (.var 9))) (.cmp .le (.mul (.min (.var 8) (.lit 2)) (.var 9)) (.lit 9223372036854775807))) (.ob (.and (.cmp .le (.lit (-9223372036854775808)) (.add (.mul (.min (.var 8) (.lit 2)) (.var 9)) (.lit 2))) (.cmp .le (.add (.mul (.min (.var 8) (.lit 2)) (.var 9)) (.lit 2)) (.lit 9223372036854775807))) (.ob (.and (.cmp .le (.lit (-9223372036854775808)) (.add (.mul (.min (.var 8) (.lit 2)) (.var 9)) (.lit 2))) (.cmp .le (.add (.mul (.min (.var 8) (.lit 2)) (.var 9)) (.lit 2)) (.lit 9223372036854775807))) (.call 22 [(.int (.var 2)), (.int (.add (.mul (.min (.var 8) (.lit 2)) (.var 9)) (.lit 2)))] (.ob (.and (.cmp .le (.lit (-9223372036854775808)) (.add (.lit 1) (.var 15))) (.cmp .le (.add (.lit 1) (.var 15)) (.lit 9223372036854775807))) (.call 28 [(.int (.var 1)), (.int (.lit 4))] tcounts_5))))))
def tcounts : Tree :=
  (.call 21 [(.arr 3 (.var 0))] (.call 25 [(.arr 3 (.var 3)), (.int (.var 4))] tcounts_6))
end Go.Proofs.Ytlbgcjpkegpmlaa
/- Codes in parts, by the executor and by hand. -/
namespace Go.Proofs.Ytlbgcjpkegpmlaa
open Go.RowKit
set_option linter.unusedSimpArgs false
set_option linter.unusedVariables false

/-- The way to a part of a code. -/
def nav : List Nat → Code → Code
  | [], c => c
  | n :: l, .seq a b => if n = 0 then nav l a else nav l b
  | n :: l, .cond _ a b => if n = 0 then nav l a else nav l b
  | _ :: l, .block _ c => nav l c
  | _ :: l, .loop c => nav l c
  | _, c => c
def bodyOf (f : Func) : Code := f.body.getD .skip
/-- The first parts, one behind another, and what follows. -/
def heads : Nat → Code → List Code
  | n + 1, .seq a b => a :: heads n b
  | _, _ => []
def pre : List Code → Code → Code
  | [], c => c
  | a :: l, c => .seq a (pre l c)
def execL (cx : Cx) : List Code → St → (Ex → St → Option Tree) → Option Tree
  | [], st, k => k .nrm st
  | a :: l, st, k => exec cx a st fun x st' => match x with
    | .nrm => execL cx l st' k
    | x => k x st'
theorem pre_sound {cx : Cx} {R : List C → Prop} {F : Nat → Prop} {w0 : World} (hcx : CxOK cx) : ∀ (l : List Code) (st : St) (k : Ex → St → Option Tree) (T : Tree), execL cx l st k = some T →
    ∀ (Γ : Env) (Ls : List (List C → Prop)) (c : Code) (Q : Exit → Act → World → Prop), KOK cx R F w0 k Γ Ls (Exit.then (c.wp cx.P Q) Q) → Ls.length = st.lvl → VC cx R T Γ.ρ Ls → ∀ a w, Sat cx.P F w0 Γ st a w → (pre l c).wp cx.P Q a w
  | [], st, k, T, h, Γ, Ls, c, Q, hk, hl, hv, a, w, hs => hk .nrm st T Γ Ls h (Ext.refl _) (List.prefix_refl _) hl hv a w hs
  | b :: l, st, k, T, h, Γ, Ls, c, Q, hk, hl, hv, a, w, hs => by
    refine wp_seq (exec_sound (R := R) (F := F) (w0 := w0) hcx b st _ T h Γ Ls _ ?_ hl hv a w hs)
    intro x st' T' Γ' Ls' hk' he hl' hlen hv' a' w' hs'
    cases x with
    | nrm => exact pre_sound hcx l st' k T' hk' Γ' Ls' c Q (hk.mono he hl') hlen hv' a' w' hs'
    | ret => exact hk .ret st' T' Γ' Ls' hk' he hl' hlen hv' a' w' hs'
    | ext i => exact hk (.ext i) st' T' Γ' Ls' hk' he hl' hlen hv' a' w' hs'
theorem join_KOK {cx : Cx} {R : List C → Prop} {F : Nat → Prop} {w0 : World} {st st1 : St} {ps : List Pl} {ks : List Lk} {k : Ex → St → Option Tree} (hok : joinOk st st1 ps ks = true)
    {Γ : Env} {Ls : List (List C → Prop)} (hl : Ls.length = st.lvl) {I : List C → Prop} {a : Act} {w : World} (hs : Sat cx.P F w0 Γ st a w) {Q : Exit → Act → World → Prop}
    (hn : ∀ xs Γx a' w', CTy cx.P ks xs → I xs → Γx.ρ = Γ.ρ ++ xs → Ext Γ Γx → Sat cx.P F w0 Γx st1 a' w' → Q .normal a' w')
    (hk : ∀ x st' T' Γ' Ls', x ≠ .nrm → k x st' = some T' → Ext Γ Γ' → Ls'.length = st'.lvl → VC cx R T' Γ'.ρ Ls' → ∀ a w, Sat cx.P F w0 Γ' st' a w → Q x.out a w) : KOK cx R F w0 (joinK st st1 ps ks k) Γ (Ls ++ [I]) Q := by
  obtain ⟨c2, c4, c5, c6, c7, c8⟩ := joinOk_spec hok
  have hlen : Γ.ρ.length = st.nx := hs.len
  have hnum1 : Num st1.bds Γ.ρ := by rw [c7]; exact hs.num
  intro e st' T' Γ' Ls' hk' he' hl' hlen' hv' a' w' hs'
  cases e with
  | ext i => exact hk (.ext i) st' T' Γ' Ls' (by intro h; cases h) hk' he' hlen' hv' a' w' hs'
  | ret => exact hk .ret st' T' Γ' Ls' (by intro h; cases h) hk' he' hlen' hv' a' w' hs'
  | nrm =>
    simp only [joinK, joinEnd] at hk'
    split at hk'
    · rename_i hc
      simp only [Bool.and_eq_true] at hc
      obtain ⟨⟨d1, d2⟩, d3⟩ := hc
      split at hk'
      · rename_i vals hvals
        split at hk'
        · rename_i hks'
          cases hk'
          obtain ⟨hob', hback⟩ := VC.obT hv'
          obtain ⟨l, hl2⟩ := he'.ρ
          obtain ⟨hty', hsat'⟩ := hs'.rebase (st1 := st1) (ρ0 := Γ.ρ) ⟨l, hl2⟩ (by rw [hlen]; exact d1) (by rw [hlen]; exact hvals) hks' hob' (by rw [hlen]; exact c2) (Nat.eq_of_beq_eq_true d3) (Nat.le_of_ble_eq_true d2) (by rw [hlen]; exact c4) hnum1
          have hget : Ls'[st.lvl]? = some I := by
            obtain ⟨m, rfl⟩ := hl'
            rw [List.append_assoc, List.getElem?_append_right (by omega), hl]
            simp
          simp only [VC, hget] at hback
          exact hn _ { Γ' with ρ := Γ.ρ ++ cs_ Γ'.ρ vals, nb := st1.nb } a' w' hty' hback rfl ⟨⟨_, rfl⟩, fun b hb => he'.blk b hb, by rw [hs.nb]; exact c5, he'.base, he'.up⟩ hsat'
        · cases hk'; exact hv'.elim
      · cases hk'; exact hv'.elim
    · cases hk'; exact hv'.elim
/-- A code's first parts by the executor, that end in a known state. -/
theorem pre_seg {cx : Cx} {R : List C → Prop} {F : Nat → Prop} {w0 : World} (hcx : CxOK cx) {l : List Code} {c : Code} {st st1 : St} {ps : List Pl} {ks : List Lk} {k : Ex → St → Option Tree} {T : Tree} (hT : execL cx l { st with lvl := st.lvl + 1 } (joinK st st1 ps ks k) = some T) (hok : joinOk st st1 ps ks = true)
    {Γ : Env} {Ls : List (List C → Prop)} (hl : Ls.length = st.lvl) {I : List C → Prop} (hv : VC cx R T Γ.ρ (Ls ++ [I])) {a : Act} {w : World} (hs : Sat cx.P F w0 Γ st a w) {Q : Exit → Act → World → Prop}
    (hn : ∀ xs Γx a' w', CTy cx.P ks xs → I xs → Γx.ρ = Γ.ρ ++ xs → Ext Γ Γx → Sat cx.P F w0 Γx st1 a' w' → c.wp cx.P Q a' w')
    (hk : ∀ x st' T' Γ' Ls', x ≠ .nrm → k x st' = some T' → Ext Γ Γ' → Ls'.length = st'.lvl → VC cx R T' Γ'.ρ Ls' → ∀ a w, Sat cx.P F w0 Γ' st' a w → Q x.out a w) : (pre l c).wp cx.P Q a w := by
  refine pre_sound (R := R) (F := F) (w0 := w0) hcx l _ _ T hT Γ (Ls ++ [I]) c Q (join_KOK hok hl hs (fun xs Γx a' w' h1 h2 h3 h4 h5 => hn xs Γx a' w' h1 h2 h3 h4 h5) fun x st' T' Γ' Ls' hx hk' he hlen hv' a' w' hs' => ?_) (by simp [hl]) hv a w (hs.relvl _)
  have := hk x st' T' Γ' Ls' hx hk' he hlen hv' a' w' hs'
  cases x with
  | nrm => exact absurd rfl hx
  | ret => exact this
  | ext i => exact this
/-- A state of slots and blocks. -/
theorem Sat.bare {P : Program} {F : Nat → Prop} {w0 : World} {Γ : Env} {st : St} {a : Act} {w : World} (h2 : st.vec = []) (h3 : st.clo = []) (hm : ∀ b mb, look st.mem b = some mb → Blk w (Γ.blk b) mb.1 (dens Γ mb.2) ∧ (∀ l ∈ mb.2, ∀ O, l.ok P w O Γ) ∧ ¬ F (Γ.blk b) ∧ b < st.nb)
    (hi : ∀ i j x y, look st.mem i = some x → look st.mem j = some y → Γ.blk i = Γ.blk j → i = j)
    (h4 : ∀ t sv, look st.sl t = some sv → slotV Γ a t = sv.den Γ ∧ sv.ok P w (fun b o => Γ.base b o ∨ ∃ j mb, look st.mem j = some mb ∧ Γ.blk j = b) Γ) (h5 : a.tmps.size = st.nt) (hk : Keeps F w0 w) (h6 : ∀ i, F i → i < w0.heap.size) (h7 : ∀ b o, Γ.base b o → b < w.heap.size)
    (h8 : a.defers = []) (h9 : Γ.ρ.length = st.nx) (h10 : Γ.nb = st.nb) (h11 : st.bds = []) (h12 : Smalls Γ.ρ) : Sat P F w0 Γ st a w := by
  have hown : ∀ b o, Own Γ st b o → Γ.base b o ∨ ∃ j mb, look st.mem j = some mb ∧ Γ.blk j = b := fun b o h => by
    rcases h with h | ⟨j, mb, h, e⟩ | ⟨i, e, h, -⟩
    · exact .inl h
    · exact .inr ⟨j, mb, h, e⟩
    · rw [h2] at h; cases h
  refine ⟨fun t sv ht => ⟨(h4 t sv ht).1, SV.ok_anti (h4 t sv ht).2 hown⟩, h5, fun b mb hb => ?_, fun i e he => ?_, fun i e he => ?_, fun s j s' j' b h1 h2' => ?_, hk, h6, h7, h8, h9, h10, ⟨by rw [h11]; exact bds_nil _, h12⟩⟩
  · obtain ⟨m1, m2, m3, m4⟩ := hm b mb hb
    exact ⟨m1, fun l hl => m2 l hl _, m3, m4⟩
  · rw [h2] at he; cases he
  · rw [h3] at he; cases he
  · rcases h1.inv with ⟨rfl, mb, hb, rfl⟩ | ⟨rfl, e, he, -⟩
    · rcases h2'.inv with ⟨rfl, mb', hb', e'⟩ | ⟨rfl, e, he, -⟩
      · exact ⟨rfl, hi _ _ _ _ hb hb' e'.symm⟩
      · rw [h2] at he; cases he
    · rw [h2] at he; cases he
/-- A call, by hand. -/
theorem op_call {P : Program} {o : Oper} {a : Act} {w : World} {f : FuncId} {args : Array Value} {K : Act → World → Prop} {Q : Exit → Act → World → Prop} (h : (execOp a.eval o).run P w = .ok (.enter f args) w) (hk : Calls P f args w fun e w' => ∃ v, e = .returned v ∧ K (a.put o.dst v) w') : o.wp P a w K Q := by
  unfold Oper.wp
  rw [h]
  refine Calls.mono hk fun e w' he => ?_
  obtain ⟨v, rfl, h⟩ := he
  exact h
theorem list_call {P : Program} {ops : Array Oper} {Q : Exit → Act → World → Prop} {o : Oper} {rest : List Oper} {a : Act} {w : World} {f : FuncId} {args : Array Value} (hg : o.guard = none) (h : (execOp a.eval o).run P w = .ok (.enter f args) w) (hk : Calls P f args w fun e w' => ∃ v, e = .returned v ∧ wpList P ops Q rest (a.put o.dst v) w') : wpList P ops Q (o :: rest) a w := by
  unfold wpList
  rw [if_pos (by simp [Region.wanted, hg])]
  exact .inl (op_call h hk)
/-- What an iterator has not handed out yet. -/
def left : Prs → List Int → Nat
  | [], _ => 0
  | g :: G, seen => (if g.1 ∈ seen then 0 else 1) + left G seen
theorem left_le {k : Int} {seen : List Int} : ∀ {G : Prs}, left G (k :: seen) ≤ left G seen
  | [] => Nat.le_refl _
  | g :: G => by
    have ih := @left_le k seen G
    simp only [left]
    by_cases h : g.1 ∈ seen
    · rw [if_pos h, if_pos (List.mem_cons_of_mem _ h)]; omega
    · rw [if_neg h]; split <;> omega
theorem left_lt {seen : List Int} {g : Int × Value} : ∀ {G : Prs}, g ∈ G → g.1 ∉ seen → left G (g.1 :: seen) < left G seen
  | [], h, _ => by cases h
  | x :: G, h, hn => by
    have hle := @left_le g.1 seen G
    simp only [left]
    rcases List.mem_cons.1 h with rfl | h
    · rw [if_neg hn, if_pos (List.mem_cons_self ..)]; omega
    · have ih := left_lt h hn
      by_cases h : x.1 ∈ seen
      · rw [if_pos h, if_pos (List.mem_cons_of_mem _ h)]; omega
      · rw [if_neg h]; split <;> omega
end Go.Proofs.Ytlbgcjpkegpmlaa
/- kick.check: its states. -/
namespace Go.Proofs.Ytlbgcjpkegpmlaa
open Go.RowKit
set_option linter.unusedSimpArgs false
set_option linter.unusedVariables false

def endK (cx : Cx) (fn : Func) (ct : Ct) : Ex → St → Option Tree := fun x st => match x with
  | .ext _ => none
  | _ => endOf cx fn ct st
def chkSt1 : St := { sl := [(1, some (.one (.lf (.arr 40 (.var 1)))))], mem := [], nt := 41, nb := 0, nx := 2, lvl := 1, bds := [] }
def chkStI : St := { sl := [(6, some (.one (.lf (.arr 40 (.var 2))))), (18, some (.one (.lf (.clo 3))))], mem := [], nt := 41, nb := 0, nx := 4, lvl := 0, bds := [] }
def chkStE : St := { sl := [(18, some (.one (.lf (.clo 3))))], mem := [], nt := 41, nb := 0, nx := 4, lvl := 1, bds := [] }
def chkStZ : St := { sl := [], mem := [], nt := 41, nb := 0, nx := 2, lvl := 0, bds := [] }
theorem creps_rows {w : World} {O : Nat → Nat → Prop} {l : List (List C)} (h : ∀ r ∈ l, r = [.i (cell_ r 0), .i (cell_ r 1), .i (cell_ r 2)] ∧ ∀ j, -9223372036854775808 ≤ cell_ r j ∧ cell_ r j ≤ 9223372036854775807) : CReps Try.prog w O (rowsK l.length [.int, .int, .int]) (cellsV l) l.flatten := by
  have := CReps.rows (P := Try.prog) (w := w) (O := O) (ks := [.int, .int, .int]) (rs := l.map fun r => ((samOf r).toList, r)) (fun r hr => by
    obtain ⟨x, hx, rfl⟩ := List.mem_map.1 hr
    obtain ⟨h1, h2⟩ := h x hx
    have c : ∀ j, CRep Try.prog w O .int (.int .i64 (cell_ x j)) (.i (cell_ x j)) := fun j => ⟨fun n => by cases n <;> exact h2 j, _, rfl, rfl⟩
    show CReps _ _ _ _ (samOf x).toList x
    rw [h1]
    exact ⟨c 0, c 1, c 2, trivial⟩)
  rw [List.length_map, List.flatMap_map, List.flatMap_map] at this
  simpa [cellsV, List.flatMap_id'] using this
end Go.Proofs.Ytlbgcjpkegpmlaa
/- What is to be shown of each function, as the executor has it. Printed by trees.py. -/
namespace Go.Proofs.Ytlbgcjpkegpmlaa
noncomputable def flchk1 : List (Nat × Func) := [(92, Try.f92), (96, Try.f96), (93, Try.f93), (94, Try.f94)]
theorem fxchk1 : ∀ p ∈ flchk1, FnOK p := fns_cons ⟨Try.func92, ⟨_, Try.func92, by decide, rfl⟩⟩ (fns_cons ⟨Try.func96, ⟨_, Try.func96, by decide, rfl⟩⟩ (fns_cons ⟨Try.func93, ⟨_, Try.func93, by decide, rfl⟩⟩ (fns_cons ⟨Try.func94, ⟨_, Try.func94, by decide, rfl⟩⟩ (fns_nil))))
noncomputable def cchk1 : Cx := tab3.only [68] (fun _ => []) flchk1 4 [] (fun _ => none)
def tchk1 : Tree :=
  (.split (.cmp .lt (.lit 200) (.len (.var 1))) (.ret [(.int (.lit 8))]) (.arr [] (.loop [.int, .int] [(.int (.lit 0)), (.int (.lit 0))] (.split (.cmp .lt (.var 4) (.len (.var 1))) (.ob (.cmp .le (.lit 0) (.var 4)) (.ob (.cmp .lt (.var 4) (.len (.var 1))) (.split (.cmp .lt (.cell (.var 1) (.var 4) 0) (.lit 0)) (.ret [(.int (.lit 7))]) (.split (.cmp .le (.var 0) (.cell (.var 1) (.var 4) 0)) (.ret [(.int (.lit 7))]) (.back 1 [(.int (.var 3)), (.int (.add (.var 4) (.lit 1)))]))))) (.loop [.int, .int] [(.int (.lit 0)), (.int (.lit 0))] (.split (.cmp .lt (.var 6) (.len (.var 1))) (.ob (.cmp .le (.lit 0) (.var 6)) (.ob (.cmp .lt (.var 6) (.len (.var 1))) (.split (.not (.and (.cmp .le (.lit 0) (.cell (.var 1) (.var 6) 1)) (.cmp .le (.cell (.var 1) (.var 6) 1) (.lit 1099511627176)))) (.ret [(.int (.lit 2))]) (.split (.not (.and (.cmp .le (.lit (-1125899906842624)) (.cell (.var 1) (.var 6) 2)) (.cmp .le (.cell (.var 1) (.var 6) 2) (.lit 1125899906842624)))) (.ret [(.int (.lit 2))]) (.back 2 [(.int (.var 5)), (.int (.add (.var 6) (.lit 1)))]))))) (.back 0 [])))))))
noncomputable def cchk2 : Cx := tab3.only [] (fun _ => []) [] 0 [] (fun _ => none)
def tchk2 : Tree :=
  (.loop [.int] [(.int (.lit 1))] (.split (.cmp .lt (.var 4) (.len (.var 2))) (.ob (.cmp .le (.lit 0) (.var 4)) (.ob (.cmp .lt (.var 4) (.len (.var 2))) (.ob (.cmp .le (.lit 0) (.sub (.var 4) (.lit 1))) (.ob (.cmp .lt (.sub (.var 4) (.lit 1)) (.len (.var 2))) (.split (.cmp .le (.cell (.var 2) (.var 4) 1) (.cell (.var 2) (.sub (.var 4) (.lit 1)) 1)) (.ret [(.int (.lit 11))]) (.back 1 [(.int (.add (.var 4) (.lit 1)))])))))) (.back 0 [])))
end Go.Proofs.Ytlbgcjpkegpmlaa
/- A loop over a map, by hand. -/
namespace Go.Proofs.Ytlbgcjpkegpmlaa
open Go.RowKit
set_option linter.unusedSimpArgs false
set_option linter.unusedVariables false

/-- What a round's body hands on. -/
def roundQ (J : Act → World → Prop) (Q : Exit → Act → World → Prop) : Exit → Act → World → Prop
  | .normal, a, w => J a w
  | .ret, a, w => Q .ret a w
  | _, _, _ => False
theorem range_loop {P : Program} {b0 b1 idN tI tN cN nt bm r : Nat} {o1 o2 : Oper} {body : Code} {G : Prs} {J : List Int → Act → World → Prop} {Q : Exit → Act → World → Prop}
    (h1 : o1.op = .next (.tmp tI) false) (h1d : o1.dst = some tN) (h1g : o1.guard = none) (h2 : o2.op = .extract (.tmp tN) 0) (h2d : o2.dst = some cN) (h2g : o2.guard = none) (hN : tN < nt) (hC : cN < nt) (hNC : tN ≠ cN) (hbr : bm ≠ r)
    (hJ : ∀ seen a w, J seen a w → IterAt w r bm G seen ∧ a.eval (.tmp tI) = .pointer (some ⟨r, 0, none⟩) ∧ a.tmps.size = nt)
    (hstep : ∀ seen a w g w' v, J seen a w → g ∈ G → g.1 ∉ seen → IterAt w' r bm G (g.1 :: seen) → w'.heap.size = w.heap.size → (∀ i, i ≠ r → w'.heap[i]? = w.heap[i]?) → w'.os = w.os → w'.tape = w.tape → w'.output = w.output →
      (∀ u, u.heap[bm]? = w'.heap[bm]? → u.heap[r]? = w'.heap[r]? → (Instr.entry (.pointer (some ⟨r, 0, none⟩))).run P u = .ok (.tuple #[.int .i64 g.1, g.2]) u) → body.wp P (roundQ (J (g.1 :: seen)) Q) ((a.put (some tN) v).put (some cN) (.bool true)) w')
    (hend : ∀ seen a w v, J seen a w → (∀ g ∈ G, g.1 ∈ seen) → Q .normal ((a.put (some tN) v).put (some cN) (.bool false)) w) {a : Act} {w : World} (h0 : J [] a w) :
    (Code.block b0 (Code.loop (Code.seq (Code.region idN #[o1, o2] false) (Code.seq (Code.cond (.tmp cN) .skip (.exit b0)) (Code.block b1 body))))).wp P Q a w := by
  refine wp_block (wp_loop_ghost (fun n a w => ∃ seen, n = left G seen ∧ J seen a w) (left G []) ⟨[], rfl, h0⟩ ?_)
  rintro n a w ⟨seen, rfl, hj⟩
  obtain ⟨hit, hp, hsz⟩ := hJ seen a w hj
  rcases hit.next (P := P) o1.type hbr with ⟨hall, hrun⟩ | ⟨g, hg, hns, w', hrun, hit', hs', hb', ho', ht', hu', hent⟩
  · refine wp_seq (wp_region_list (list_val h1g (v := .tuple #[.bool false]) (w' := w) (by simp [execOp, h1, hp, hrun]) (list_val h2g (v := .bool false) (w' := w) (by rw [h1d]; simp [execOp, h2, eval_same (show tN < a.tmps.size by omega), Instr.extract]) ?_)))
    show Code.wp _ _ _ _ _
    rw [h1d, h2d]
    refine wp_seq (wp_cond (t := false) (eval_same (by rw [put_size]; omega)) ?_)
    refine wp_exit ?_
    show (if b0 = b0 then Q .normal _ _ else _)
    rw [if_pos rfl]
    exact hend seen a w _ hj hall
  · refine wp_seq (wp_region_list (list_val h1g (v := .tuple #[.bool true, .int .i64 g.1, g.2]) (w' := w') (by simp [execOp, h1, hp, hrun]) (list_val h2g (v := .bool true) (w' := w') (by rw [h1d]; simp [execOp, h2, eval_same (show tN < a.tmps.size by omega), Instr.extract]) ?_)))
    show Code.wp _ _ _ _ _
    rw [h1d, h2d]
    refine wp_seq (wp_cond (t := true) (eval_same (by rw [put_size]; omega)) ?_)
    refine wp_skip ?_
    show Code.wp _ _ _ _ _
    refine wp_block (wp_mono (hstep seen a w g w' (.tuple #[.bool true, .int .i64 g.1, g.2]) hj hg hns hit' hs' hb' ho' ht' hu' hent) ?_)
    intro e a2 w2 hq
    cases e with
    | normal => exact ⟨left G (g.1 :: seen), left_lt hg hns, g.1 :: seen, rfl, hq⟩
    | ret => exact hq
    | exit i => exact hq.elim
    | goto l => exact hq.elim
    | panic c => exact hq.elim
    | outgrown => exact hq.elim
end Go.Proofs.Ytlbgcjpkegpmlaa
/- kick.check. -/
namespace Go.Proofs.Ytlbgcjpkegpmlaa
open Go.RowKit
set_option linter.unusedSimpArgs false
set_option linter.unusedVariables false

theorem Groups.arr {B : Nat} {w : World} {b d : Nat} {v : Value} {rows : List (List C)} {G : Prs} (h : Groups B w b rows G) (hty : TyN Try.prog d 40 rows) (hsm : ∀ n, (C.s v rows).small n) {g : Int × Value} (hg : g ∈ G) {O : Nat → Nat → Prop} (hO : ∀ x, B ≤ x → ∀ o, ¬ O x o) :
    ArrOK Try.prog w O 40 (.s g.2 (fltS rows g.1)) ∧ ∀ n, (C.s g.2 (fltS rows g.1)).small n := by
  obtain ⟨h1, x, hx, hBx, -, -⟩ := h.rows g hg
  have hr : ∀ r ∈ fltS rows g.1, r = [.i (cell_ r 0), .i (cell_ r 1), .i (cell_ r 2)] ∧ ∀ j, -9223372036854775808 ≤ cell_ r j ∧ cell_ r j ≤ 9223372036854775807 := fun r hr => by
    have hm : r ∈ rows := (List.mem_filter.1 hr).1
    obtain ⟨i, hi, hir⟩ := List.getElem_of_mem hm
    have e : rows.getD i [] = r := by simp [List.getD_eq_getElem?_getD, hi, hir]
    have := row3 hty hi
    rw [e] at this
    refine ⟨this, fun j => ?_⟩
    have h2 := C.int_le (C.small_at hsm i j)
    have e2 : ((C.s v rows).at i j).int = cell_ (rows.getD i []) j := rfl
    rw [e2, e] at h2
    exact h2
  have hv : VecOK Try.prog w O 40 g.2 (.s g.2 (fltS rows g.1)) := by
    refine ⟨[.int, .int, .int], cellsV (fltS rows g.1), kinds_sam, ⟨_, rfl⟩, fun r hr' => by rw [(hr r hr').1]; rfl, creps_rows hr, h1.1, h1.2.imp id fun ⟨g', cap, cur, e, _, rest⟩ => ⟨g', cap, cur, e, Nat.zero_le _, rest⟩⟩
  refine ⟨hv.arr (fun _ _ h => h) fun b hb o => hO b (by rw [hx] at hb; cases hb; exact hBx) o, C.small_rows (.inl hsm) (List.length_filter_le _ _) (fun r hr => (List.mem_filter.1 hr).1) _⟩
theorem chk_split : bodyOf Try.f81 = pre (heads 4 (bodyOf Try.f81)) (nav [1, 1, 1, 1] (bodyOf Try.f81)) := by kernel_rfl
theorem chk_tree1 : execL cchk1 (heads 4 (bodyOf Try.f81)) { startOf Try.f81 ctCheckS [] [] with lvl := (startOf Try.f81 ctCheckS [] []).lvl + 1 } (joinK (startOf Try.f81 ctCheckS [] []) chkSt1 [] [] (endK cchk1 Try.f81 ctCheckS)) = some tchk1 := by kernel_rfl
theorem chk_tree2 : exec cchk1 (nav [1, 1, 1, 1, 0, 1, 0, 0, 1, 1, 0, 1] (bodyOf Try.f81)) { chkStI with lvl := chkStI.lvl + 1 } (joinK chkStI chkStE [] [] (endK cchk1 Try.f81 ctCheckS)) = some tchk2 := by kernel_rfl
theorem chk_cx : CxOK cchk1 := Tab.cx_ok (all_cons (up3_ok (up_ok within_ok)) all_nil) fxchk1
/-- What the first part says. -/
theorem chk_vc1 {R : List C → Prop} {n : Int} {v : Value} {rows : List (List C)} (hR : ∀ e, e = checkV n rows → R [.i e]) :
    VC cchk1 R tchk1 [.i n, .s v rows] [fun _ => rows.length ≤ 200 ∧ rows.all (inB n) = true ∧ rows.all inR = true] := by
  unfold tchk1
  simp only [VC, allC, List.map_cons, List.map_nil, List.length_cons, List.length_nil, List.getElem?_cons_zero, List.getElem?_cons_succ, List.cons.injEq, C.i.injEq, C.b.injEq, and_true, true_and, forall_const, kindsOf_nil, kindsOf_lf, kindsOf_agg, kindsOf_box, boxKinds_nil, boxKinds_lf, boxKinds_agg, boxKinds_box, List.append_nil, List.cons_append, List.nil_append, den_cmp_le, den_cmp_lt, den_cmp_eq, den_cmp_ne, den_cmp_le', den_cmp_lt', den_cmp_eq', den_cmp_ne', den_and, den_and', den_or, den_or', den_not, den_not', den_blit, den_of, ev_var, at_0, at_1, at_2, at_3, at_4, at_5, at_6, at_7, at_skip, c_int, c_bool, c_arr, c_cnt, c_vec, ev_nil, ev_join, ev_sub3, loc_s, int_i, bool_b, rows_s, cs_nil, cs_cons, E.den_lit, E.den_var, E.den_add, E.den_sub, E.den_mul, E.den_quo, E.den_rem, E.den_max, E.den_min, E.den_len, E.den_wr, E.den_cell]
  have e2 : ∀ v k o (l : List (List C)), ((C.s v l).at k o).int = cell_ (l.getD k []) o := fun _ _ _ _ => rfl
  simp only [e2]
  refine ⟨fun h => hR _ (checkV_8 h).symm, fun hl => ?_⟩
  refine ⟨fun xs => match xs with | [_, .i i] => 0 ≤ i ∧ i ≤ rows.length ∧ rows.all (inB n) = (rows.drop i.toNat).all (inB n) | _ => False, fun xs => match xs with | [_, .i i] => ((rows.length : Int) - i).toNat | _ => 0, ⟨by omega, by omega, rfl⟩, ?_⟩
  rintro z _ _ i _ _ ⟨i0, i1, hI⟩
  refine ⟨fun hlt => ⟨i0, hlt, ?_⟩, fun hge => ?_⟩
  · have hz : i.toNat < rows.length := by omega
    rw [all_drop hz] at hI
    have hmu : ((rows.length : Int) - (i + 1)).toNat < ((rows.length : Int) - i).toNat := by omega
    generalize hrow : rows.getD i.toNat [] = row at *
    have bad : ¬ (0 ≤ cell_ row 0 ∧ cell_ row 0 < n) → R [.i 7] := fun h => hR _ (by rw [checkV_7 hl (by rw [hI, inB, decide_eq_false h]; rfl)])
    refine ⟨fun h => bad (by omega), fun h0 => ⟨fun h => bad (by omega), fun h2 => ⟨⟨by omega, by omega, ?_⟩, hmu⟩⟩⟩
    rw [hI, inB, decide_eq_true (by omega), Bool.true_and, show (i + 1).toNat = i.toNat + 1 by omega]
  rw [List.drop_eq_nil_of_le (by omega)] at hI
  refine ⟨fun xs => match xs with | [_, .i i] => 0 ≤ i ∧ i ≤ rows.length ∧ rows.all inR = (rows.drop i.toNat).all inR | _ => False, fun xs => match xs with | [_, .i i] => ((rows.length : Int) - i).toNat | _ => 0, ⟨by omega, by omega, rfl⟩, ?_⟩
  rintro z' _ _ j _ _ ⟨j0, j1, hJ⟩
  refine ⟨fun hlt => ⟨j0, hlt, ?_⟩, fun hge => ?_⟩
  · have hz : j.toNat < rows.length := by omega
    rw [all_drop hz] at hJ
    have hmu : ((rows.length : Int) - (j + 1)).toNat < ((rows.length : Int) - j).toNat := by omega
    generalize hrow : rows.getD j.toNat [] = row at *
    have bad : ¬ (0 ≤ cell_ row 1 ∧ cell_ row 1 ≤ 1099511627176 ∧ -1125899906842624 ≤ cell_ row 2 ∧ cell_ row 2 ≤ 1125899906842624) → R [.i 2] := fun h => hR _ (by rw [checkV_2 hl hI (by rw [hJ, inR, decide_eq_false h]; rfl)])
    refine ⟨fun h => bad (by omega), fun h0 => ⟨fun h => bad (by omega), fun h2 => ⟨⟨by omega, by omega, ?_⟩, hmu⟩⟩⟩
    rw [hJ, inR, decide_eq_true (by omega), Bool.true_and, show (j + 1).toNat = j.toNat + 1 by omega]
  rw [List.drop_eq_nil_of_le (by omega)] at hJ
  exact ⟨by omega, hI, hJ⟩
/-- What a round says. -/
theorem chk_vc2 {R : List C → Prop} {n : Int} {v gv : Value} {rows out : List (List C)} {p : C} (hl : out.length ≤ 200) (hR : ordL out = false → R [.i 11]) :
    VC cchk1 R tchk2 [.i n, .s v rows, .s gv out, p] [fun _ => ordL out = true] := by
  unfold tchk2
  simp only [VC, allC, List.map_cons, List.map_nil, List.length_cons, List.length_nil, List.getElem?_cons_zero, List.getElem?_cons_succ, List.cons.injEq, C.i.injEq, C.b.injEq, and_true, true_and, forall_const, kindsOf_nil, kindsOf_lf, kindsOf_agg, kindsOf_box, boxKinds_nil, boxKinds_lf, boxKinds_agg, boxKinds_box, List.append_nil, List.cons_append, List.nil_append, den_cmp_le, den_cmp_lt, den_cmp_eq, den_cmp_ne, den_cmp_le', den_cmp_lt', den_cmp_eq', den_cmp_ne', den_and, den_and', den_or, den_or', den_not, den_not', den_blit, den_of, ev_var, at_0, at_1, at_2, at_3, at_4, at_5, at_6, at_7, at_skip, c_int, c_bool, c_arr, c_cnt, c_vec, ev_nil, ev_join, ev_sub3, loc_s, int_i, bool_b, rows_s, cs_nil, cs_cons, E.den_lit, E.den_var, E.den_add, E.den_sub, E.den_mul, E.den_quo, E.den_rem, E.den_max, E.den_min, E.den_len, E.den_wr, E.den_cell]
  have e2 : ∀ v k o (l : List (List C)), ((C.s v l).at k o).int = cell_ (l.getD k []) o := fun _ _ _ _ => rfl
  simp only [e2]
  refine ⟨fun xs => match xs with | [.i i] => i ≤ 201 ∧ OrdI out i | _ => False, fun xs => match xs with | [.i i] => ((out.length : Int) - i).toNat | _ => 0, ⟨by omega, OrdI.one _⟩, ?_⟩
  rintro m _ _ ⟨m0, hM⟩
  refine ⟨fun hml => ?_, fun hml => hM.end_ hml⟩
  have m1 := hM.1
  refine ⟨by omega, hml, by omega, by omega, fun hle => hR (hM.bad hml hle), fun hgt => ⟨⟨by omega, hM.next hml hgt⟩, ?_⟩⟩
  show ((out.length : Int) - (m + 1)).toNat < ((out.length : Int) - m).toNat
  omega
end Go.Proofs.Ytlbgcjpkegpmlaa
/- kick.check: its contract. -/
namespace Go.Proofs.Ytlbgcjpkegpmlaa
open Go.RowKit
set_option linter.unusedSimpArgs false
set_option linter.unusedVariables false

theorem below_trans {a b c : World} (h : Below a.heap.size a b) (k : Below b.heap.size b c) : Below a.heap.size a c :=
  ⟨k.os.trans h.os, k.tape.trans h.tape, k.output.trans h.output, Nat.le_trans h.size k.size, fun i hi => (k.block i (Nat.lt_of_lt_of_le hi h.size)).trans (h.block i hi)⟩
structure ChkIn (wg : World) (bm : Nat) (rows : List (List C)) (G : Prs) (seen : List Int) (a : Act) (w : World) : Prop where
  it : IterAt w wg.heap.size bm G seen
  s18 : a.eval (.tmp 18) = .pointer (some ⟨wg.heap.size, 0, none⟩)
  size : a.tmps.size = 41
  defers : a.defers = []
  below : Below wg.heap.size wg w
  lt : wg.heap.size < w.heap.size
  ord : ∀ g ∈ G, g.1 ∈ seen → ordL (fltS rows g.1) = true
/-- One round behind the iterator's step. -/
theorem chk_round {F : Nat → Prop} {w0 wp wg : World} {Γ : Env} {n : Int} {v : Value} {rows : List (List C)} {d bm : Nat} {G : Prs} {Q : Exit → Act → World → Prop} {R : List C → Prop}
    (hρ : Γ.ρ = [.i n, .s v rows]) (hnb : Γ.nb = 0) (hsm : ∀ k, (C.s v rows).small k) (hsn : ∀ k, (C.i n).small k) (hty : TyN Try.prog d 40 rows) (hF : ∀ i, F i → i < w0.heap.size) (hb : ∀ b o, Γ.base b o → b < wp.heap.size)
    (hk0 : Keeps F w0 wp) (hpg : Below wp.heap.size wp wg) (hG : Groups wp.heap.size wg bm rows G) (hl : rows.length ≤ 200) (hR : ∀ k, ordL (fltS rows k) = false → (∃ g ∈ G, g.1 = k) → R [.i 11])
    (hk : KOK cchk1 R F w0 (endK cchk1 Try.f81 ctCheckS) Γ [] Q) {seen : List Int} {a : Act} {w w' : World} {g : Int × Value} {u : Value} (hin : ChkIn wg bm rows G seen a w) (hg : g ∈ G) (hit : IterAt w' wg.heap.size bm G (g.1 :: seen)) (hs : w'.heap.size = w.heap.size) (hbl : ∀ i, i ≠ wg.heap.size → w'.heap[i]? = w.heap[i]?) (ho : w'.os = w.os) (ht : w'.tape = w.tape) (hu : w'.output = w.output)
    (hent : ∀ u, u.heap[bm]? = w'.heap[bm]? → u.heap[wg.heap.size]? = w'.heap[wg.heap.size]? → (Instr.entry (.pointer (some ⟨wg.heap.size, 0, none⟩))).run Try.prog u = .ok (.tuple #[.int .i64 g.1, g.2]) u) :
    (nav [1, 1, 1, 1, 0, 1, 0, 0, 1, 1, 0] (bodyOf Try.f81)).wp Try.prog (roundQ (ChkIn wg bm rows G (g.1 :: seen)) Q) ((a.put (some 19) u).put (some 20) (.bool true)) w' := by
  have hbg : Below wg.heap.size wg w' := ⟨ho.trans hin.below.os, ht.trans hin.below.tape, hu.trans hin.below.output, by have := hin.below.size; omega, fun i hi => (hbl i (by omega)).trans (hin.below.block i hi)⟩
  have hbp : Below wp.heap.size wp w' := below_trans hpg hbg
  generalize hb1 : Value.bool true = b1
  have h18 : ((a.put (some 19) u).put (some 20) b1).eval (.tmp 18) = .pointer (some ⟨wg.heap.size, 0, none⟩) := by rw [eval_other (by decide), eval_other (by decide)]; exact hin.s18
  have hsz : ((a.put (some 19) u).put (some 20) b1).tmps.size = 41 := by rw [put_size, put_size]; exact hin.size
  have hdf : ((a.put (some 19) u).put (some 20) b1).defers = [] := by rw [put_defers, put_defers]; exact hin.defers
  generalize (a.put (some 19) u).put (some 20) b1 = a2 at *
  show (Code.seq (Code.region 9 _ _) (nav [1, 1, 1, 1, 0, 1, 0, 0, 1, 1, 0, 1] (bodyOf Try.f81))).wp _ _ _ _
  refine wp_seq (wp_region_list (list_val rfl (v := .tuple #[.int .i64 g.1, g.2]) (w' := w') (by simp [execOp, h18, hent w' rfl rfl]) (list_val rfl (v := g.2) (w' := w') (by simp [execOp, eval_same (show 21 < a2.tmps.size by omega), Instr.extract]) (list_val rfl (v := g.2) (w' := w') (by simp [execOp, eval_same, put_size, hsz]) ?_))))
  show Code.wp _ _ _ _ _
  have h6 : (((a2.put (some 21) (.tuple #[.int .i64 g.1, g.2])).put (some 22) g.2).put (some 6) g.2).eval (.tmp 6) = g.2 := eval_same (by rw [put_size, put_size]; omega)
  have h18' : (((a2.put (some 21) (.tuple #[.int .i64 g.1, g.2])).put (some 22) g.2).put (some 6) g.2).eval (.tmp 18) = .pointer (some ⟨wg.heap.size, 0, none⟩) := by rw [eval_other (by decide), eval_other (by decide), eval_other (by decide)]; exact h18
  have hsz' : (((a2.put (some 21) (.tuple #[.int .i64 g.1, g.2])).put (some 22) g.2).put (some 6) g.2).tmps.size = 41 := by rw [put_size, put_size, put_size]; exact hsz
  have hdf' : (((a2.put (some 21) (.tuple #[.int .i64 g.1, g.2])).put (some 22) g.2).put (some 6) g.2).defers = [] := by rw [put_defers, put_defers, put_defers]; exact hdf
  generalize ((a2.put (some 21) (.tuple #[.int .i64 g.1, g.2])).put (some 22) g.2).put (some 6) g.2 = a3 at *
  obtain ⟨hga, hgs⟩ := (hG.keep hbg).arr hty hsm hg (O := Γ.base) fun x hx o hxo => by have := hb x o hxo; omega
  have hsat : Sat Try.prog (fun i => i < w'.heap.size) w' { Γ with ρ := [.i n, .s v rows, .s g.2 (fltS rows g.1), .s (.pointer (some ⟨wg.heap.size, 0, none⟩)) []] } chkStI a3 w' := by
    refine Sat.bare rfl rfl (fun b mb h => by cases h) (fun i j x y h => by cases h) (fun t sv ht => ?_) hsz' (Keeps.refl _ _) (fun _ h => h) (fun b o h => by have := hb b o h; have := hbp.size; omega) hdf' rfl hnb rfl ?_
    · simp only [chkStI, look] at ht
      split at ht
      · rename_i e; subst e; cases ht; exact ⟨h6, fun l hl => by
          simp only [S0.cells, List.mem_cons, List.not_mem_nil, or_false] at hl; subst hl
          exact hga.keep (Nat.le_refl _) fun b o _ hno => ⟨rfl, fun h => h.elim hno fun ⟨j, mb, h, _⟩ => by cases h⟩⟩
      split at ht
      · rename_i e; subst e; cases ht; exact ⟨h18', fun l hl => by simp only [S0.cells, List.mem_cons, List.not_mem_nil, or_false] at hl; subst hl; rfl⟩
      cases ht
    · have := Smalls.nil.app (cs := [.i n, .s v rows, .s g.2 (fltS rows g.1), .s (.pointer (some ⟨wg.heap.size, 0, none⟩)) []]) (fun c hc => by
        simp only [List.mem_cons, List.not_mem_nil, or_false] at hc
        rcases hc with rfl | rfl | rfl | rfl
        · exact hsn
        · exact hsm
        · exact hgs
        · intro n; cases n <;> simp [C.small])
      simpa using this
  have hlen := @fltS_len rows g.1
  have hext : Ext Γ { Γ with ρ := [.i n, .s v rows, .s g.2 (fltS rows g.1), .s (.pointer (some ⟨wg.heap.size, 0, none⟩)) []] } := ⟨⟨[.s g.2 (fltS rows g.1), .s (.pointer (some ⟨wg.heap.size, 0, none⟩)) []], by rw [hρ]; rfl⟩, fun _ _ => rfl, Nat.le_refl _, rfl, rfl⟩
  refine seg_sound (R := R) chk_cx (Ls := []) (I := fun _ => ordL (fltS rows g.1) = true) chk_tree2 (by kernel_rfl) rfl (chk_vc2 (by omega) fun h => hR _ h ⟨g, hg, rfl⟩) hsat ?_ ?_
  · intro xs Γx a' w2 hxs hI hρ' he hs'
    have hbw : Below w'.heap.size w' w2 := hs'.keeps.below
    have hm := (hG.keep hbg).map.lt
    have h18'' : a'.eval (.tmp 18) = .pointer (some ⟨wg.heap.size, 0, none⟩) := by
      have hx : xs = [] := by cases xs with | nil => rfl | cons x xs => exact hxs.elim
      subst hx
      have := (hs'.slots 18 _ (rfl : look chkStE.sl 18 = some (.one (.lf (.clo 3))))).1
      unfold slotV at this
      rw [if_pos (by decide)] at this
      refine Eq.trans this ?_
      simp only [SV.den, S0.den, Lf.den, hρ']
      rfl
    have hlt := hin.lt
    refine ⟨hit.kept (hbw.block _ hm) (hbw.block _ (by omega)), h18'', hs'.size, hs'.defers, ⟨hbw.os.trans hbg.os, hbw.tape.trans hbg.tape, hbw.output.trans hbg.output, Nat.le_trans hbg.size hbw.size, fun i hi => (hbw.block i (by have := hbg.size; omega)).trans (hbg.block i hi)⟩, by have := hbw.size; omega, fun g' hg' hs => ?_⟩
    rcases List.mem_cons.1 hs with h | h
    · rw [h]; exact hI
    · exact hin.ord g' hg' h
  · intro x st' T' Γ' Ls' hx hk' he hlen' hv' a' w2 hs'
    have hbw : Below w'.heap.size w' w2 := hs'.keeps.below
    have hkF : Keeps F w0 w2 := (hk0.trans (Keeps.of_below hbp fun i hi => by have := hF i hi; have := hk0.size; omega)).trans (Keeps.of_below hbw fun i hi => by have := hF i hi; have := hk0.size; have := hbp.size; omega)
    have := hk x st' T' Γ' Ls' hk' (hext.trans he) (List.nil_prefix) hlen' hv' a' w2 (hs'.back (base' := Γ'.base) (fun i hi => by have := hF i hi; have := hk0.size; have := hbp.size; omega) hkF hF fun _ _ h => h)
    cases x with
    | nrm => exact absurd rfl hx
    | ret => exact this
    | ext i => cases hk'
end Go.Proofs.Ytlbgcjpkegpmlaa
/- kick.check: its contract. -/
namespace Go.Proofs.Ytlbgcjpkegpmlaa
open Go.RowKit
set_option linter.unusedSimpArgs false
set_option linter.unusedVariables false

theorem callable_bySensor : Callable Try.prog 82 := ⟨_, Try.func82, by decide, rfl⟩
/-- From the samples' map on. -/
theorem chk_rest {F : Nat → Prop} {w0 wp : World} {Γ : Env} {n : Int} {v : Value} {rows : List (List C)} {d : Nat} {Q : Exit → Act → World → Prop} {R : List C → Prop}
    (hρ : Γ.ρ = [.i n, .s v rows]) (hnb : Γ.nb = 0) (hsm : ∀ k, (C.s v rows).small k) (hsn : ∀ k, (C.i n).small k) (hty : TyN Try.prog d 40 rows) (hF : ∀ i, F i → i < w0.heap.size) (hb : ∀ b o, Γ.base b o → b < wp.heap.size)
    (hk0 : Keeps F w0 wp) (hl : rows.length ≤ 200) (hA : ArrOK Try.prog wp Γ.base 40 (.s v rows)) (hRb : rows.all (fun r => ordL (fltS rows (cell_ r 0))) = false → R [.i 11]) (hR0 : rows.all (fun r => ordL (fltS rows (cell_ r 0))) = true → R [.i 0])
    (hk : KOK cchk1 R F w0 (endK cchk1 Try.f81 ctCheckS) Γ [] Q) {a : Act} (hsz : a.tmps.size = 41) (hdf : a.defers = []) (h1 : a.eval (.tmp 1) = v) :
    (nav [1, 1, 1, 1] (bodyOf Try.f81)).wp Try.prog Q a wp := by
  have hloc : v = (C.s v rows).loc := by
    obtain ⟨v', rows', e, d', S, hS, hN⟩ := hA
    cases e
    rfl
  show (Code.seq (Code.seq (Code.region 7 _ _) (Code.block 0 (Code.loop (Code.seq (Code.region 8 _ _) (Code.seq (Code.cond (.tmp 20) .skip (.exit 0)) (Code.block 1 (nav [1, 1, 1, 1, 0, 1, 0, 0, 1, 1, 0] (bodyOf Try.f81)))))))) (Code.seq (Code.region 15 _ _) Code.ret)).wp _ _ _ _
  refine wp_seq (wp_seq (wp_region_list (list_val rfl (v := v) (w' := wp) (by simp [execOp, h1]) (list_call rfl (f := 82) (args := #[v]) (by
    simp [execOp, resolve, invoke, eval_same, put_size, hsz, eval_const]
    exact run_callFunc' callable_bySensor _ _) ?_))))
  refine Calls.mono (bySensor_ok (Base := Γ.base) hb ⟨hsm, hloc, hA⟩ (by omega)) fun e wg he => ?_
  obtain ⟨bm, G, rfl, hpg, hbm, hG⟩ := he
  refine ⟨_, rfl, ?_⟩
  obtain ⟨o, hrg, hit⟩ := IterAt.start (P := Try.prog) (t := 115) Try.underlying115 hG.map
  refine list_val rfl (v := .pointer (some ⟨wg.heap.size, 0, none⟩)) (w' := wg.alloc o) (by simp [execOp, eval_same, put_size, hsz, hrg]) ?_
  show Code.wp _ _ _ _ _
  have hord : ∀ seen : List Int, (∀ g ∈ G, g.1 ∈ seen) → (∀ g ∈ G, g.1 ∈ seen → ordL (fltS rows g.1) = true) → rows.all (fun r => ordL (fltS rows (cell_ r 0))) = true := fun seen ha ho => by
    rw [List.all_eq_true]
    intro r hr
    obtain ⟨g, hg, e⟩ := hG.all r hr
    rw [← e]
    exact ho g hg (ha g hg)
  have hRk : ∀ k, ordL (fltS rows k) = false → (∃ g ∈ G, g.1 = k) → R [.i 11] := fun k hk ⟨g, hg, e⟩ => hRb (by
    obtain ⟨r, hr, e'⟩ := hG.has g hg
    cases ha : rows.all (fun r => ordL (fltS rows (cell_ r 0))) with
    | false => rfl
    | true =>
      have : ordL (fltS rows (cell_ r 0)) = true := List.all_eq_true.1 ha r hr
      rw [← e', e, hk] at this
      cases this)
  refine range_loop (nt := 41) (tI := 18) (tN := 19) (cN := 20) (bm := bm) (r := wg.heap.size) (G := G) (J := ChkIn wg bm rows G) rfl rfl rfl rfl rfl rfl (by decide) (by decide) (by decide) (by have := hG.map.lt; omega) (fun seen a w h => ⟨h.it, h.s18, h.size⟩) ?_ ?_ ?_
  · intro seen a2 w2 g w3 u hin hg hns hit' hs hbl ho ht hu hent
    exact wp_mono (chk_round (Q := Q) hρ hnb hsm hsn hty hF hb hk0 hpg hG hl hRk hk hin hg hit' hs hbl ho ht hu hent) fun e a w h => by cases e <;> exact h
  · intro seen a2 w2 u hin hall
    show (Code.seq (Code.region 15 _ _) Code.ret).wp _ _ _ _
    refine wp_seq (wp_region_list (list_val rfl (v := .int .i64 0) (w' := w2) (by simp [execOp, eval_const]) ?_))
    show Code.wp _ _ _ _ _
    refine wp_ret ?_
    have hsz2 : (((a2.put (some 19) u).put (some 20) (.bool false)).put (some 4) (.int .i64 0)).tmps.size = 41 := by rw [put_size, put_size, put_size]; exact hin.size
    have hdf2 : (((a2.put (some 19) u).put (some 20) (.bool false)).put (some 4) (.int .i64 0)).defers = [] := by rw [put_defers, put_defers, put_defers]; exact hin.defers
    have h4 : (((a2.put (some 19) u).put (some 20) (.bool false)).put (some 4) (.int .i64 0)).eval (.tmp 4) = .int .i64 0 := eval_same (by rw [put_size, put_size, hin.size]; omega)
    generalize ((a2.put (some 19) u).put (some 20) (.bool false)).put (some 4) (.int .i64 0) = a4 at *
    have hbp : Below wp.heap.size wp w2 := below_trans hpg hin.below
    refine hk .ret { chkStZ with sl := [(4, some (.one (.lf (.int (.lit 0)))))] } (.ret [.int (.lit 0)]) Γ [] (by kernel_rfl) (Ext.refl _) (List.prefix_refl _) rfl (hR0 (hord seen hall hin.ord)) a4 w2 (Sat.bare rfl rfl (fun b mb h => by cases h) (fun i j x y h => by cases h) (fun t sv ht => ?_) hsz2 (hk0.trans (Keeps.of_below hbp fun i hi => by have := hF i hi; have := hk0.size; omega)) hF (fun b o h => by have := hb b o h; have := hbp.size; omega) hdf2 (by rw [hρ]; rfl) hnb rfl ?_)
    · simp only [look] at ht
      split at ht
      · rename_i e; subst e; cases ht; exact ⟨h4, fun l hl => by simp only [S0.cells, List.mem_cons, List.not_mem_nil, or_false] at hl; subst hl; trivial⟩
      cases ht
    · rw [hρ]
      have := Smalls.nil.app (cs := [.i n, .s v rows]) (fun c hc => by
        simp only [List.mem_cons, List.not_mem_nil, or_false] at hc
        rcases hc with rfl | rfl
        · exact hsn
        · exact hsm)
      simpa using this
  · have hsz1 : ((a.put (some 16) v).put (some 17) (.map (some bm))).tmps.size = 41 := by rw [put_size, put_size]; exact hsz
    refine ⟨hit, eval_same (Nat.lt_of_lt_of_eq (by decide : 18 < 41) hsz1.symm), by rw [put_size]; exact hsz1, by simp only [put_defers]; exact hdf, below_alloc _ _, ?_, fun g _ h => by cases h⟩
    obtain ⟨es, clock, since, sn, c0, h1, h2, h3, h4, h5⟩ := hit
    exact (Array.getElem?_eq_some_iff.1 h4).1
theorem check_ok : tab3.ok 81 := by
  refine Tab.of_ct rfl rfl ⟨_, Try.func81, by decide, rfl⟩ ?_ ctF_det
  refine ct_ok_open (cx := cchk1) (bds := []) chk_cx Try.func81 (c := bodyOf Try.f81) rfl ⟨by decide, by decide, by decide⟩ fun cs hcs _ => ⟨bds_nil _, fun F w0 Γ a w Q hρ hs hk => ?_⟩
  obtain ⟨n, v, rows, d, rfl, hty⟩ : ∃ n v rows d, cs = [.i n, .s v rows] ∧ TyN Try.prog d 40 rows := by
    match cs, hcs with
    | [c1, c2], ⟨⟨_, n, e1⟩, ⟨_, v, rows, d, e2, hty⟩, _⟩ => exact ⟨n, v, rows, d, by rw [e1, e2], hty⟩
  have hsmall := fun c hc => CTy.small hcs (c := c) hc
  rw [chk_split]
  refine pre_seg (R := ctCheckS.post [.i n, .s v rows]) chk_cx (Ls := []) chk_tree1 (by kernel_rfl) rfl (I := fun _ => rows.length ≤ 200 ∧ rows.all (inB n) = true ∧ rows.all inR = true) (by rw [hρ]; exact chk_vc1 fun e he => by rw [he]; exact rfl) hs ?_ ?_
  · intro xs Γx a' wp hxs hI hρ' he hs'
    obtain ⟨hl, hi, hr⟩ := hI
    have hx : xs = [] := by cases xs with | nil => rfl | cons x xs => exact hxs.elim
    subst hx
    rw [List.append_nil, hρ] at hρ'
    have hsl := hs'.slots 1 _ (rfl : look chkSt1.sl 1 = some (.one (.lf (.arr 40 (.var 1)))))
    have h1 : a'.eval (.tmp 1) = v := by
      have := hsl.1
      unfold slotV at this
      rw [if_pos (by decide)] at this
      refine Eq.trans this ?_
      simp only [SV.den, S0.den, Lf.den, ev_var, hρ']
      rfl
    have hA : ArrOK Try.prog wp Γx.base 40 (.s v rows) := by
      have := hsl.2 (.arr 40 (.var 1)) (by simp [S0.cells])
      have h2 : ArrOK Try.prog wp (Own Γx chkSt1) 40 ((E.var 1).ev Γx.ρ) := this
      rw [show (E.var 1).ev Γx.ρ = .s v rows by rw [ev_var, hρ']; rfl] at h2
      exact h2.keep (Nat.le_refl _) fun b o _ hno => ⟨rfl, fun h => hno (.inl h)⟩
    refine chk_rest (Γ := Γx) (R := ctCheckS.post [.i n, .s v rows]) hρ' hs'.nb (hsmall _ (by simp)) (hsmall _ (by simp)) hty hs'.fold (fun b o h => hs'.base b o h) hs'.keeps hl hA (fun h => ?_) (fun h => ?_) (hk.mono he (List.prefix_refl _)) hs'.size hs'.defers h1
    · rw [← checkV_11 (by omega) hi hr h]; exact rfl
    · rw [← checkV_0 (by omega) hi hr h]; exact rfl
  · intro x st' T' Γ' Ls' hx hk' he hlen' hv' a' w' hs'
    exact hk x st' T' Γ' Ls' hk' he (List.nil_prefix) hlen' hv' a' w' hs'
end Go.Proofs.Ytlbgcjpkegpmlaa
/- kick.Watch: its states; the sensors' alarms by kick. -/
namespace Go.Proofs.Ytlbgcjpkegpmlaa
open Go.RowKit
set_option linter.unusedSimpArgs false
set_option linter.unusedVariables false

def watSt1 : St := { sl := [(0, some (.one (.lf (.arr 23 (.var 0))))), (1, some (.one (.lf (.arr 40 (.var 1))))), (4, some (.one (.lf (.ptr 0 0)))), (9, some (.one (.lf (.ptr 1 0)))), (10, some (.one (.lf (.bool (.lit false)))))], mem := [(1, some (81, [.int (.lit 0), .int (.lit 0)])), (0, some (81, [.int (.lit 0), .int (.lit 0)]))], nt := 74, nb := 2, nx := 2, lvl := 1, bds := [] }
def watStI : St := { sl := [(0, some (.one (.lf (.arr 23 (.var 0))))), (4, some (.one (.lf (.ptr 0 0)))), (9, some (.one (.lf (.ptr 1 0)))), (10, some (.one (.lf (.bool (.of (.var 2)))))), (11, some (.one (.lf (.int (.var 5))))), (12, some (.one (.lf (.arr 40 (.var 6))))), (31, some (.one (.lf (.clo 7))))], mem := [(1, some (81, [.int (.var 3), .int (.var 4)])), (0, some (81, [.int (.lit 0), .int (.lit 0)]))], nt := 74, nb := 2, nx := 8, lvl := 0, bds := [] }
def watStE : St := { sl := [(0, some (.one (.lf (.arr 23 (.var 0))))), (4, some (.one (.lf (.ptr 0 0)))), (9, some (.one (.lf (.ptr 1 0)))), (10, some (.one (.lf (.bool (.of (.var 8)))))), (31, some (.one (.lf (.clo 7))))], mem := [(1, some (81, [.int (.var 9), .int (.var 10)])), (0, some (81, [.int (.lit 0), .int (.lit 0)]))], nt := 74, nb := 2, nx := 11, lvl := 1, bds := [] }
def watStF : St := { sl := [(4, some (.one (.lf (.ptr 0 0)))), (9, some (.one (.lf (.ptr 1 0)))), (10, some (.one (.lf (.bool (.of (.var 2))))))], mem := [(1, some (81, [.int (.var 3), .int (.var 4)])), (0, some (81, [.int (.lit 0), .int (.lit 0)]))], nt := 74, nb := 2, nx := 5, lvl := 0, bds := [] }
end Go.Proofs.Ytlbgcjpkegpmlaa
/- What is to be shown of each function, as the executor has it. Printed by trees.py. -/
namespace Go.Proofs.Ytlbgcjpkegpmlaa
noncomputable def cwat1 : Cx := tab3.only [42, 81, 83] (fun _ => []) [] 0 [] (fun _ => none)
def twat1 : Tree :=
  (.call 42 [(.arr 23 (.var 0))] (.split (.cmp .ne (.var 2) (.lit 0)) (.ret [(.int (.lit 0)), (.int (.lit 0)), (.bool (.lit false)), (.int (.var 2))]) (.call 81 [(.int (.len (.var 0))), (.arr 40 (.var 1))] (.split (.cmp .ne (.var 3) (.lit 0)) (.ret [(.int (.lit 0)), (.int (.lit 0)), (.bool (.lit false)), (.int (.var 3))]) (.back 0 [])))))
noncomputable def cwat2 : Cx := tab3.only [42, 81, 83] (fun _ => []) [] 0 [] (fun _ => none)
def twat2 : Tree :=
  (.ob (.cmp .le (.lit 0) (.var 5)) (.ob (.cmp .lt (.var 5) (.len (.var 0))) (.call 83 [(.int (.cell (.var 0) (.var 5) 0)), (.int (.cell (.var 0) (.var 5) 1)), (.int (.cell (.var 0) (.var 5) 2)), (.int (.cell (.var 0) (.var 5) 3)), (.int (.cell (.var 0) (.var 5) 4)), (.int (.cell (.var 0) (.var 5) 5)), (.int (.cell (.var 0) (.var 5) 6)), (.int (.cell (.var 0) (.var 5) 7)), (.arr 40 (.var 6))] (.split (.of (.var 9)) (.split (.not (.of (.var 2))) (.back 0 [(.bool (.lit true)), (.int (.var 5)), (.int (.var 8))]) (.split (.cmp .lt (.var 8) (.var 4)) (.back 0 [(.bool (.lit true)), (.int (.var 5)), (.int (.var 8))]) (.split (.cmp .eq (.var 8) (.var 4)) (.split (.cmp .lt (.var 5) (.var 3)) (.back 0 [(.bool (.lit true)), (.int (.var 5)), (.int (.var 8))]) (.back 0 [(.bool (.of (.var 2))), (.int (.var 3)), (.int (.var 4))])) (.back 0 [(.bool (.of (.var 2))), (.int (.var 3)), (.int (.var 4))])))) (.back 0 [(.bool (.of (.var 2))), (.int (.var 3)), (.int (.var 4))])))))
noncomputable def cwat3 : Cx := tab3.only [42, 81, 83] (fun _ => []) [] 0 [] (fun _ => none)
def twat3 : Tree :=
  (.ret [(.int (.var 3)), (.int (.var 4)), (.bool (.of (.var 2))), (.int (.lit 0))])
end Go.Proofs.Ytlbgcjpkegpmlaa
/- kick.alarms in the table; kick.Watch's parts. -/
namespace Go.Proofs.Ytlbgcjpkegpmlaa
open Go.RowKit
set_option linter.unusedSimpArgs false
set_option linter.unusedVariables false

theorem wat_split : bodyOf Try.f54 = pre (heads 5 (bodyOf Try.f54)) (nav [1, 1, 1, 1, 1] (bodyOf Try.f54)) := by kernel_rfl
theorem wat_tree1 : execL cwat1 (heads 5 (bodyOf Try.f54)) { startOf Try.f54 ctWatch [] [] with lvl := (startOf Try.f54 ctWatch [] []).lvl + 1 } (joinK (startOf Try.f54 ctWatch [] []) watSt1 [] [] (endK cwat1 Try.f54 ctWatch)) = some twat1 := by kernel_rfl
theorem wat_tree2 : exec cwat1 (nav [1, 1, 1, 1, 1, 0, 1, 0, 0, 1, 1, 0, 1] (bodyOf Try.f54)) { watStI with lvl := watStI.lvl + 1 } (joinK watStI watStE [.slot 10, .blk 1] [.bool, .int, .int] fun _ _ => none) = some twat2 := by kernel_rfl
theorem wat_tree3 : exec cwat1 (nav [1, 1, 1, 1, 1, 1] (bodyOf Try.f54)) watStF (endK cwat1 Try.f54 ctWatch) = some twat3 := by kernel_rfl
theorem wat_cx : CxOK cwat1 := Tab.cx_ok (all_cons (up3_ok (up_ok sensors_ok)) (all_cons check_ok (all_cons alarms_ok all_nil)))
theorem wat_vc1 {R : List C → Prop} {sv v : Value} {sens rows : List (List C)} (hR : ∀ e, sensorsE sens ≠ 0 ∨ checkV sens.length rows ≠ 0 → [C.i 0, .i 0, .b false, .i e] = watchV sens rows → R [.i 0, .i 0, .b false, .i e]) :
    VC cwat1 R twat1 [.s sv sens, .s v rows] [fun _ => sensorsE sens = 0 ∧ checkV sens.length rows = 0] := by
  have h1 : cwat1.ct 42 = some ctSensors := rfl
  have h2 : cwat1.ct 81 = some ctCheckS := rfl
  unfold twat1
  simp only [VC, allC, List.map_cons, List.map_nil, List.length_cons, List.length_nil, List.getElem?_cons_zero, List.getElem?_cons_succ, List.cons.injEq, C.i.injEq, C.b.injEq, and_true, true_and, forall_const, kindsOf_nil, kindsOf_lf, kindsOf_agg, kindsOf_box, boxKinds_nil, boxKinds_lf, boxKinds_agg, boxKinds_box, List.append_nil, List.cons_append, List.nil_append, den_cmp_le, den_cmp_lt, den_cmp_eq, den_cmp_ne, den_cmp_le', den_cmp_lt', den_cmp_eq', den_cmp_ne', den_and, den_and', den_or, den_or', den_not, den_not', den_blit, den_of, ev_var, at_0, at_1, at_2, at_3, at_4, at_5, at_6, at_7, at_skip, c_int, c_bool, c_arr, c_cnt, c_vec, ev_nil, ev_join, ev_sub3, loc_s, int_i, bool_b, rows_s, cs_nil, cs_cons, E.den_lit, E.den_var, E.den_add, E.den_sub, E.den_mul, E.den_quo, E.den_rem, E.den_max, E.den_min, E.den_len, E.den_wr, E.den_cell, h1, h2, ctSensors, ctCheckS, ctF]
  rintro e _ _ rfl
  refine ⟨fun h => hR _ (.inl h) (by unfold watchV; rw [if_neg h]), fun hs => ?_⟩
  rintro e _ _ rfl
  exact ⟨fun h => hR _ (.inr h) (by unfold watchV; rw [if_pos hs, if_neg h]), fun hc => ⟨hs, hc⟩⟩
def WatI (o : Option (Int × Int)) (xs : List C) : Prop := match xs with
  | [.b f, .i s, .i t] => watchC o = [.i s, .i t, .b f, .i 0]
  | _ => False
theorem wat_vc2 {R : List C → Prop} {sv v gv : Value} {sens rows : List (List C)} {f : Bool} {s t k : Int} {p : C} {o : Option (Int × Int)} (hs : sensorsE sens = 0) (hl : rows.length ≤ 200) (hir : rows.all inR = true) (k0 : 0 ≤ k) (k1 : k < sens.length) (ho : WatI o [.b f, .i s, .i t]) :
    VC cwat1 R twat2 [.s sv sens, .s v rows, .b f, .i s, .i t, .i k, .s gv (fltS rows k), p] [WatI (better o k (alarmAt sens rows k))] := by
  have h1 : cwat1.ct 83 = some ctAlarms := rfl
  unfold twat2
  simp only [VC, allC, List.map_cons, List.map_nil, List.length_cons, List.length_nil, List.getElem?_cons_zero, List.getElem?_cons_succ, List.cons.injEq, C.i.injEq, C.b.injEq, and_true, true_and, forall_const, kindsOf_nil, kindsOf_lf, kindsOf_agg, kindsOf_box, boxKinds_nil, boxKinds_lf, boxKinds_agg, boxKinds_box, List.append_nil, List.cons_append, List.nil_append, den_cmp_le, den_cmp_lt, den_cmp_eq, den_cmp_ne, den_cmp_le', den_cmp_lt', den_cmp_eq', den_cmp_ne', den_and, den_and', den_or, den_or', den_not, den_not', den_blit, den_of, ev_var, at_0, at_1, at_2, at_3, at_4, at_5, at_6, at_7, at_skip, c_int, c_bool, c_arr, c_cnt, c_vec, ev_nil, ev_join, ev_sub3, loc_s, int_i, bool_b, rows_s, cs_nil, cs_cons, E.den_lit, E.den_var, E.den_add, E.den_sub, E.den_mul, E.den_quo, E.den_rem, E.den_max, E.den_min, E.den_len, E.den_wr, E.den_cell, h1, ctAlarms, ctF, sensSh]
  have e2 : ∀ v k o (l : List (List C)), ((C.s v l).at k o).int = cell_ (l.getD k []) o := fun _ _ _ _ => rfl
  simp only [e2]
  have hz : k.toNat < sens.length := by omega
  have hsa := sens_at hs hz
  have hfl := @fltS_len rows k
  refine ⟨k0, k1, ⟨by omega, by omega, by omega, by omega, fltS_in hir⟩, ?_⟩
  rintro u _ _ is hal
  have hal' : [C.i u, C.b is] = alarmC (alarmAt sens rows k) := hal
  cases ha : alarmAt sens rows k with
  | none =>
    rw [ha] at hal'
    cases hal'
    exact ⟨fun h => (by cases h), fun _ => ho⟩
  | some u' =>
    rw [ha] at hal'
    cases hal'
    cases o with
    | none =>
      have ho' : watchC none = [.i s, .i t, .b f, .i 0] := ho
      cases ho'
      exact ⟨fun _ => ⟨fun _ => rfl, fun h => (by cases h)⟩, fun h => (by cases h)⟩
    | some x =>
      obtain ⟨s', t'⟩ := x
      have ho' : watchC (some (s', t')) = [.i s, .i t, .b f, .i 0] := ho
      cases ho'
      have yes : (u < t ∨ (u = t ∧ k < s)) → WatI (better (some (s, t)) k (some u)) [.b true, .i k, .i u] := fun h => by simp only [better]; rw [if_pos h]; exact rfl
      have no : ¬ (u < t ∨ (u = t ∧ k < s)) → WatI (better (some (s, t)) k (some u)) [.b true, .i s, .i t] := fun h => by simp only [better]; rw [if_neg h]; exact rfl
      exact ⟨fun _ => ⟨fun h => (by cases h), fun _ => ⟨fun hl => yes (.inl hl), fun hl => ⟨fun he => ⟨fun hks => yes (.inr ⟨he, hks⟩), fun hks => no (by omega)⟩, fun he => no (by omega)⟩⟩⟩, fun h => (by cases h)⟩
end Go.Proofs.Ytlbgcjpkegpmlaa
/- kick.Watch: a round. -/
namespace Go.Proofs.Ytlbgcjpkegpmlaa
open Go.RowKit
set_option linter.unusedSimpArgs false
set_option linter.unusedVariables false

abbrev I64 (n : Int) : Prop := -9223372036854775808 ≤ n ∧ n ≤ 9223372036854775807
structure WatIn (wg : World) (bm b4 b9 : Nat) (sv : Value) (sens rows : List (List C)) (G : Prs) (seen : List Int) (a : Act) (w : World) : Prop where
  it : IterAt w wg.heap.size bm G seen
  s31 : a.eval (.tmp 31) = .pointer (some ⟨wg.heap.size, 0, none⟩)
  s0 : a.eval (.tmp 0) = sv
  s4 : a.eval (.tmp 4) = .pointer (some ⟨b4, 0, none⟩)
  s9 : a.eval (.tmp 9) = .pointer (some ⟨b9, 0, none⟩)
  size : a.tmps.size = 74
  defers : a.defers = []
  os : w.os = wg.os
  tape : w.tape = wg.tape
  output : w.output = wg.output
  lt : wg.heap.size < w.heap.size
  blk : ∀ i, i < wg.heap.size → i ≠ b4 → i ≠ b9 → w.heap[i]? = wg.heap[i]?
  blk4 : Blk w b4 81 #[.int .i64 0, .int .i64 0]
  sub : ∀ k ∈ seen, ∃ g ∈ G, g.1 = k
  best : ∃ o f s t, a.eval (.tmp 10) = .bool f ∧ Blk w b9 81 #[.int .i64 s, .int .i64 t] ∧ WatI o [.b f, .i s, .i t] ∧ Best sens rows (fun k => k ∈ seen) o ∧ I64 s ∧ I64 t
/-- What is kept of what was there: all but the two alarms. -/
structure WatKeep (wg w : World) (b4 b9 : Nat) : Prop where
  os : w.os = wg.os
  tape : w.tape = wg.tape
  output : w.output = wg.output
  size : wg.heap.size ≤ w.heap.size
  blk : ∀ i, i < wg.heap.size → i ≠ b4 → i ≠ b9 → w.heap[i]? = wg.heap[i]?
theorem WatKeep.arr {wg w : World} {b4 b9 : Nat} (h : WatKeep wg w b4 b9) {O O' : Nat → Nat → Prop} {t : TypeId} {c : C} (ha : ArrOK Try.prog wg O t c) (h4 : ∀ o, O b4 o) (h9 : ∀ o, O b9 o) (hO : ∀ b o, b < wg.heap.size → O' b o → O b o) : ArrOK Try.prog w O' t c :=
  ha.keep h.size fun b o hb hno => ⟨World.cell?_of_block (h.blk b hb (fun e => hno (e ▸ h4 o)) fun e => hno (e ▸ h9 o)), fun h' => hno (hO b o hb h')⟩
theorem WatKeep.keeps {wg w : World} {b4 b9 : Nat} (h : WatKeep wg w b4 b9) {F : Nat → Prop} (hF : ∀ i, F i → i < wg.heap.size) (h4 : ¬ F b4) (h9 : ¬ F b9) : Keeps F wg w :=
  ⟨h.os, h.tape, h.output, h.size, fun i hi => h.blk i (hF i hi) (fun e => h4 (e ▸ hi)) fun e => h9 (e ▸ hi)⟩
theorem Groups.keepW {B : Nat} {wg w : World} {b b4 b9 : Nat} {l : List (List C)} {G : Prs} (h : Groups B wg b l G) (hk : WatKeep wg w b4 b9) (hb : B ≤ b) (h4 : b4 < B) (h9 : b9 < B) : Groups B w b l G := by
  refine ⟨h.map.kept (hk.blk b h.map.lt (by omega) (by omega)), h.keys, h.len, fun g hg => ?_, h.apart, h.all, h.has⟩
  obtain ⟨h1, x, h2, h3, h4', h5⟩ := h.rows g hg
  refine ⟨⟨h1.1, h1.2.imp id fun ⟨g', cap, cur, e, hB, hc, rest⟩ => ⟨g', cap, cur, e, hB, ?_, rest⟩⟩, x, h2, h3, Nat.lt_of_lt_of_le h4' hk.size, h5⟩
  rw [hk.blk g' (Array.getElem?_eq_some_iff.1 hc).1 (by omega) (by omega)]
  exact hc
theorem wat_round {wp wg : World} {Γ : Env} {sv v : Value} {sens rows : List (List C)} {d bm b4 b9 : Nat} {G : Prs} {Q : Exit → Act → World → Prop} 
    (hnb : Γ.nb = 2) (hb4 : Γ.blk 0 = b4) (hb9 : Γ.blk 1 = b9) (h49 : b4 ≠ b9) (l4 : b4 < wp.heap.size) (l9 : b9 < wp.heap.size) (hsv : ∀ k, (C.s sv sens).small k) (hsm : ∀ k, (C.s v rows).small k) (hty : TyN Try.prog d 40 rows) (hb : ∀ b o, Γ.base b o → b < wp.heap.size)
    (hpg : Below wp.heap.size wp wg) (hbm : wp.heap.size ≤ bm) (hG : Groups wp.heap.size wg bm rows G) (hS : ArrOK Try.prog wg (fun b o => Γ.base b o ∨ b = b4 ∨ b = b9) 23 (.s sv sens))
    (hs0 : sensorsE sens = 0) (hl : rows.length ≤ 200) (hib : rows.all (inB sens.length) = true) (hir : rows.all inR = true)
    {seen : List Int} {a : Act} {w w' : World} {g : Int × Value} {u : Value} (hin : WatIn wg bm b4 b9 sv sens rows G seen a w) (hg : g ∈ G) (hit : IterAt w' wg.heap.size bm G (g.1 :: seen)) (hs : w'.heap.size = w.heap.size) (hbl : ∀ i, i ≠ wg.heap.size → w'.heap[i]? = w.heap[i]?) (ho : w'.os = w.os) (ht : w'.tape = w.tape) (hu : w'.output = w.output)
    (hent : ∀ u, u.heap[bm]? = w'.heap[bm]? → u.heap[wg.heap.size]? = w'.heap[wg.heap.size]? → (Instr.entry (.pointer (some ⟨wg.heap.size, 0, none⟩))).run Try.prog u = .ok (.tuple #[.int .i64 g.1, g.2]) u) :
    (nav [1, 1, 1, 1, 1, 0, 1, 0, 0, 1, 1, 0] (bodyOf Try.f54)).wp Try.prog (roundQ (WatIn wg bm b4 b9 sv sens rows G (g.1 :: seen)) Q) ((a.put (some 32) u).put (some 33) (.bool true)) w' := by
  have hpgs := hpg.size
  have hkw : WatKeep wg w' b4 b9 := ⟨ho.trans hin.os, ht.trans hin.tape, hu.trans hin.output, by have := hin.lt; omega, fun i hi h4 h9 => (hbl i (by omega)).trans (hin.blk i hi h4 h9)⟩
  obtain ⟨o, f, s, t, e10, hB9, hW, hBest, hbs, hbt⟩ := hin.best
  have hB9' : Blk w' b9 81 #[.int .i64 s, .int .i64 t] := (hbl b9 (by omega)).trans hB9
  have hB4' : Blk w' b4 81 #[.int .i64 0, .int .i64 0] := (hbl b4 (by omega)).trans hin.blk4
  generalize hb1 : Value.bool true = b1
  have q : ∀ x, x ≠ 32 → x ≠ 33 → ((a.put (some 32) u).put (some 33) b1).eval (.tmp x) = a.eval (.tmp x) := fun x h1 h2 => by rw [eval_other h2, eval_other h1]
  have h31 := (q 31 (by decide) (by decide)).trans hin.s31
  have h0 := (q 0 (by decide) (by decide)).trans hin.s0
  have h4 := (q 4 (by decide) (by decide)).trans hin.s4
  have h9 := (q 9 (by decide) (by decide)).trans hin.s9
  have h10 := (q 10 (by decide) (by decide)).trans e10
  have hsz : ((a.put (some 32) u).put (some 33) b1).tmps.size = 74 := by rw [put_size, put_size]; exact hin.size
  have hdf : ((a.put (some 32) u).put (some 33) b1).defers = [] := by rw [put_defers, put_defers]; exact hin.defers
  clear q
  generalize (a.put (some 32) u).put (some 33) b1 = a2 at *
  show (Code.seq (Code.region 11 _ _) (nav [1, 1, 1, 1, 1, 0, 1, 0, 0, 1, 1, 0, 1] (bodyOf Try.f54))).wp _ _ _ _
  refine wp_seq (wp_region_list (list_val rfl (v := .tuple #[.int .i64 g.1, g.2]) (w' := w') (by simp [execOp, h31, hent w' rfl rfl]) (list_val rfl (v := .int .i64 g.1) (w' := w') (by simp [execOp, eval_same (show 34 < a2.tmps.size by omega), Instr.extract]) (list_val rfl (v := g.2) (w' := w') (by
    have e : ((a2.put (some 34) (.tuple #[.int .i64 g.1, g.2])).put (some 35) (.int .i64 g.1)).eval (.tmp 34) = .tuple #[.int .i64 g.1, g.2] := by rw [eval_other (by decide)]; exact eval_same (by omega)
    simp [execOp, e, Instr.extract]) (list_val rfl (v := .int .i64 g.1) (w' := w') (by
    have e : (((a2.put (some 34) (.tuple #[.int .i64 g.1, g.2])).put (some 35) (.int .i64 g.1)).put (some 36) g.2).eval (.tmp 35) = .int .i64 g.1 := by rw [eval_other (by decide)]; exact eval_same (by rw [put_size]; omega)
    simp [execOp, e]) (list_val rfl (v := g.2) (w' := w') (by
    have e : ((((a2.put (some 34) (.tuple #[.int .i64 g.1, g.2])).put (some 35) (.int .i64 g.1)).put (some 36) g.2).put (some 11) (.int .i64 g.1)).eval (.tmp 36) = g.2 := by rw [eval_other (by decide)]; exact eval_same (by rw [put_size, put_size]; omega)
    simp [execOp, e]) ?_))))))
  show Code.wp _ _ _ _ _
  have q : ∀ x, x ≠ 34 → x ≠ 35 → x ≠ 36 → x ≠ 11 → x ≠ 12 → (((((a2.put (some 34) (.tuple #[.int .i64 g.1, g.2])).put (some 35) (.int .i64 g.1)).put (some 36) g.2).put (some 11) (.int .i64 g.1)).put (some 12) g.2).eval (.tmp x) = a2.eval (.tmp x) := fun x h1 h2 h3 h4 h5 => by rw [eval_other h5, eval_other h4, eval_other h3, eval_other h2, eval_other h1]
  have g31 := (q 31 (by decide) (by decide) (by decide) (by decide) (by decide)).trans h31
  have g0 := (q 0 (by decide) (by decide) (by decide) (by decide) (by decide)).trans h0
  have g4 := (q 4 (by decide) (by decide) (by decide) (by decide) (by decide)).trans h4
  have g9 := (q 9 (by decide) (by decide) (by decide) (by decide) (by decide)).trans h9
  have g10 := (q 10 (by decide) (by decide) (by decide) (by decide) (by decide)).trans h10
  have g12 : (((((a2.put (some 34) (.tuple #[.int .i64 g.1, g.2])).put (some 35) (.int .i64 g.1)).put (some 36) g.2).put (some 11) (.int .i64 g.1)).put (some 12) g.2).eval (.tmp 12) = g.2 := eval_same (by simp only [put_size]; omega)
  have g11 : (((((a2.put (some 34) (.tuple #[.int .i64 g.1, g.2])).put (some 35) (.int .i64 g.1)).put (some 36) g.2).put (some 11) (.int .i64 g.1)).put (some 12) g.2).eval (.tmp 11) = .int .i64 g.1 := by rw [eval_other (by decide)]; exact eval_same (by simp only [put_size]; omega)
  have hsz' : (((((a2.put (some 34) (.tuple #[.int .i64 g.1, g.2])).put (some 35) (.int .i64 g.1)).put (some 36) g.2).put (some 11) (.int .i64 g.1)).put (some 12) g.2).tmps.size = 74 := by simp only [put_size]; exact hsz
  have hdf' : (((((a2.put (some 34) (.tuple #[.int .i64 g.1, g.2])).put (some 35) (.int .i64 g.1)).put (some 36) g.2).put (some 11) (.int .i64 g.1)).put (some 12) g.2).defers = [] := by simp only [put_defers]; exact hdf
  clear q
  generalize ((((a2.put (some 34) (.tuple #[.int .i64 g.1, g.2])).put (some 35) (.int .i64 g.1)).put (some 36) g.2).put (some 11) (.int .i64 g.1)).put (some 12) g.2 = a3 at *
  have hGk := hG.keepW hkw hbm l4 l9
  obtain ⟨hga, hgs⟩ := hGk.arr hty hsm hg (O := fun b o => Γ.base b o ∨ b = b4 ∨ b = b9) fun x hx o hxo => by
    rcases hxo with h | h | h
    · have := hb x o h; omega
    · omega
    · omega
  have hSk := hkw.arr (O' := fun b o => Γ.base b o ∨ b = b4 ∨ b = b9) hS (fun _ => .inr (.inl rfl)) (fun _ => .inr (.inr rfl)) fun _ _ _ h => h
  have hk : I64 g.1 := hG.keys g hg
  have hkr : 0 ≤ g.1 ∧ g.1 < sens.length := by
    obtain ⟨r, hr, e⟩ := hG.has g hg
    have := List.all_eq_true.1 hib r hr
    rw [e]
    simpa [inB] using this
  have hmem : ∀ b mb, look watStI.mem b = some mb → (b = 1 ∧ mb = (81, [.int (.var 3), .int (.var 4)])) ∨ (b = 0 ∧ mb = (81, [.int (.lit 0), .int (.lit 0)])) := fun b mb h => by
    simp only [watStI, look] at h
    split at h
    · rename_i e; subst e; cases h; exact .inl ⟨rfl, rfl⟩
    split at h
    · rename_i e; subst e; cases h; exact .inr ⟨rfl, rfl⟩
    cases h
  have hw'lt := hin.lt
  have hsat : Sat Try.prog (fun i => i < w'.heap.size ∧ i ≠ b4 ∧ i ≠ b9) w' { Γ with ρ := [.s sv sens, .s v rows, .b f, .i s, .i t, .i g.1, .s g.2 (fltS rows g.1), .s (.pointer (some ⟨wg.heap.size, 0, none⟩)) []] } watStI a3 w' := by
    refine Sat.bare rfl rfl (fun b mb h => ?_) (fun i j x y h1 h2 e => ?_) (fun t sv ht => ?_) hsz' (Keeps.refl _ _) (fun _ h => h.1) (fun b o h => by have := hb b o h; omega) hdf' rfl hnb rfl ?_
    · rcases hmem b mb h with ⟨rfl, rfl⟩ | ⟨rfl, rfl⟩
      · refine ⟨?_, fun l hl O => ?_, fun h => h.2.2 hb9, by decide⟩
        · show Blk w' (Γ.blk 1) _ _
          rw [hb9]; exact hB9'
        · simp only [List.mem_cons, List.not_mem_nil, or_false] at hl
          rcases hl with rfl | rfl <;> trivial
      · refine ⟨?_, fun l hl O => ?_, fun h => h.2.1 hb4, by decide⟩
        · show Blk w' (Γ.blk 0) _ _
          rw [hb4]; exact hB4'
        · simp only [List.mem_cons, List.not_mem_nil, or_false] at hl
          rcases hl with rfl | rfl <;> trivial
    · have e' : Γ.blk i = Γ.blk j := e
      rcases hmem i x h1 with ⟨rfl, -⟩ | ⟨rfl, -⟩ <;> rcases hmem j y h2 with ⟨rfl, -⟩ | ⟨rfl, -⟩
      · rfl
      · exact absurd (hb4.symm.trans (e'.symm.trans hb9)) h49
      · exact absurd (hb4.symm.trans (e'.trans hb9)) h49
      · rfl
    · have hO : ∀ b o, (Γ.base b o ∨ ∃ j mb, look watStI.mem j = some mb ∧ Γ.blk j = b) → (Γ.base b o ∨ b = b4 ∨ b = b9) := fun b o h => by
        rcases h with h | ⟨j, mb, h, e⟩
        · exact .inl h
        · rcases hmem j mb h with ⟨rfl, -⟩ | ⟨rfl, -⟩
          · exact .inr (.inr (e.symm.trans hb9))
          · exact .inr (.inl (e.symm.trans hb4))
      simp only [watStI, look] at ht
      split at ht
      · rename_i e; subst e; cases ht; exact ⟨g0, fun l hl => by
          simp only [S0.cells, List.mem_cons, List.not_mem_nil, or_false] at hl; subst hl
          exact hSk.keep (Nat.le_refl _) fun b o _ hno => ⟨rfl, fun h => hno (hO b o h)⟩⟩
      split at ht
      · rename_i e; subst e; cases ht; exact ⟨by show a3.eval (.tmp 4) = .pointer (some ⟨Γ.blk 0, 0, none⟩); rw [hb4]; exact g4, fun l hl => by simp only [S0.cells, List.mem_cons, List.not_mem_nil, or_false] at hl; subst hl; trivial⟩
      split at ht
      · rename_i e; subst e; cases ht; exact ⟨by show a3.eval (.tmp 9) = .pointer (some ⟨Γ.blk 1, 0, none⟩); rw [hb9]; exact g9, fun l hl => by simp only [S0.cells, List.mem_cons, List.not_mem_nil, or_false] at hl; subst hl; trivial⟩
      split at ht
      · rename_i e; subst e; cases ht; exact ⟨g10, fun l hl => by simp only [S0.cells, List.mem_cons, List.not_mem_nil, or_false] at hl; subst hl; trivial⟩
      split at ht
      · rename_i e; subst e; cases ht; exact ⟨g11, fun l hl => by simp only [S0.cells, List.mem_cons, List.not_mem_nil, or_false] at hl; subst hl; trivial⟩
      split at ht
      · rename_i e; subst e; cases ht; exact ⟨g12, fun l hl => by
          simp only [S0.cells, List.mem_cons, List.not_mem_nil, or_false] at hl; subst hl
          exact hga.keep (Nat.le_refl _) fun b o _ hno => ⟨rfl, fun h => hno (hO b o h)⟩⟩
      split at ht
      · rename_i e; subst e; cases ht; exact ⟨g31, fun l hl => by simp only [S0.cells, List.mem_cons, List.not_mem_nil, or_false] at hl; subst hl; rfl⟩
      cases ht
    · have := Smalls.nil.app (cs := [.s sv sens, .s v rows, .b f, .i s, .i t, .i g.1, .s g.2 (fltS rows g.1), .s (.pointer (some ⟨wg.heap.size, 0, none⟩)) []]) (fun c hc => by
        simp only [List.mem_cons, List.not_mem_nil, or_false] at hc
        rcases hc with rfl | rfl | rfl | rfl | rfl | rfl | rfl | rfl
        · exact hsv
        · exact hsm
        · intro n; cases n <;> simp [C.small]
        · intro n; cases n <;> exact hbs
        · intro n; cases n <;> exact hbt
        · intro n; cases n <;> exact hk
        · exact hgs
        · intro n; cases n <;> simp [C.small])
      simpa using this
  refine seg_sound (R := fun _ => True) wat_cx (Ls := []) (I := WatI (better o g.1 (alarmAt sens rows g.1))) wat_tree2 (by kernel_rfl) rfl (wat_vc2 hs0 hl hir hkr.1 hkr.2 hW) hsat ?_ ?_
  · intro xs Γx a' w2 hxs hI hρ' he hs'
    obtain ⟨f', s', t', rfl, is', it'⟩ : ∃ f' s' t', xs = [.b f', .i s', .i t'] ∧ I64 s' ∧ I64 t' := by
      match xs, hxs with
      | [c1, c2, c3], ⟨⟨_, f', e1⟩, ⟨h2, s', e2⟩, ⟨h3, t', e3⟩, _⟩ => 
        subst e1 e2 e3
        exact ⟨f', s', t', rfl, h2 0, h3 0⟩
    have hkp := hs'.keeps
    have ev : ∀ t sv, t < 1000 → look watStE.sl t = some sv → a'.eval (.tmp t) = sv.den Γx := fun t sv ht hl => by
      have := (hs'.slots t sv hl).1
      unfold slotV at this
      rwa [if_pos ht] at this
    have eb : ∀ j, j < 2 → Γx.blk j = Γ.blk j := fun j hj => he.blk j (by show j < Γ.nb; omega)
    have m1 := (hs'.mem 1 _ (rfl : look watStE.mem 1 = some (81, [.int (.var 9), .int (.var 10)]))).1
    have m0 := (hs'.mem 0 _ (rfl : look watStE.mem 0 = some (81, [.int (.lit 0), .int (.lit 0)]))).1
    rw [eb 1 (by omega), hb9] at m1
    rw [eb 0 (by omega), hb4] at m0
    have hm := hGk.map.lt
    have hbmg := hG.map.lt
    have hks := hkp.size
    refine ⟨hit.kept (hkp.block _ ⟨hm, by omega, by omega⟩) (hkp.block _ ⟨by omega, by omega, by omega⟩), ?_, ?_, ?_, ?_, hs'.size, hs'.defers, hkp.os.trans hkw.os, hkp.tape.trans hkw.tape, hkp.output.trans hkw.output, by omega, fun i hi h4 h9 => (hkp.block i ⟨by omega, h4, h9⟩).trans (hkw.blk i hi h4 h9), m0, fun k hk => ?_, better o g.1 (alarmAt sens rows g.1), f', s', t', ?_, ?_, hI, (hBest.add g.1).congr fun j => by simp, is', it'⟩
    · refine (ev 31 _ (by decide) rfl).trans ?_
      simp only [SV.den, S0.den, Lf.den, hρ']; rfl
    · refine (ev 0 _ (by decide) rfl).trans ?_
      simp only [SV.den, S0.den, Lf.den, ev_var, hρ']
      obtain ⟨v1, r1, e, -⟩ := hS
      cases e; rfl
    · refine (ev 4 _ (by decide) rfl).trans ?_
      simp only [SV.den, S0.den, Lf.den, eb 0 (by omega), hb4]
    · refine (ev 9 _ (by decide) rfl).trans ?_
      simp only [SV.den, S0.den, Lf.den, eb 1 (by omega), hb9]
    · rcases List.mem_cons.1 hk with rfl | hk
      · exact ⟨g, hg, rfl⟩
      · exact hin.sub k hk
    · refine (ev 10 _ (by decide) rfl).trans ?_
      simp only [SV.den, S0.den, Lf.den, hρ']; rfl
    · have : dens Γx [.int (.var 9), .int (.var 10)] = #[.int .i64 s', .int .i64 t'] := by
        unfold dens
        simp only [List.map_cons, List.map_nil, Lf.den, E.den_var, hρ']
        rfl
      rw [this] at m1
      exact m1
  · intro x st' T' Γ' Ls' hx hk' he hlen' hv' a' w2 hs'
    cases hk'
end Go.Proofs.Ytlbgcjpkegpmlaa
/- kick.Watch: its contract. -/
namespace Go.Proofs.Ytlbgcjpkegpmlaa
open Go.RowKit
set_option linter.unusedSimpArgs false
set_option linter.unusedVariables false

theorem alarmAt_none {sens rows : List (List C)} {k : Int} (h : ∀ r ∈ rows, cell_ r 0 ≠ k) : alarmAt sens rows k = none := by
  unfold alarmAt
  rw [fltS_none h]; rfl
theorem wat_rest {F : Nat → Prop} {w0 wp : World} {Γ : Env} {sv v : Value} {sens rows : List (List C)} {d b4 b9 : Nat} {Q : Exit → Act → World → Prop} {R : List C → Prop}
    (hρ : Γ.ρ = [.s sv sens, .s v rows]) (hnb : Γ.nb = 2) (hb4 : Γ.blk 0 = b4) (hb9 : Γ.blk 1 = b9) (h49 : b4 ≠ b9) (l4 : b4 < wp.heap.size) (l9 : b9 < wp.heap.size) (f4 : ¬ F b4) (f9 : ¬ F b9) (hsv : ∀ k, (C.s sv sens).small k) (hsm : ∀ k, (C.s v rows).small k) (hty : TyN Try.prog d 40 rows) (hF : ∀ i, F i → i < w0.heap.size) (hb : ∀ b o, Γ.base b o → b < wp.heap.size)
    (hk0 : Keeps F w0 wp) (hS : ArrOK Try.prog wp (fun b o => Γ.base b o ∨ b = b4 ∨ b = b9) 23 (.s sv sens)) (hA : ArrOK Try.prog wp (fun b o => Γ.base b o ∨ b = b4 ∨ b = b9) 40 (.s v rows)) (hB4 : Blk wp b4 81 #[.int .i64 0, .int .i64 0]) (hB9 : Blk wp b9 81 #[.int .i64 0, .int .i64 0])
    (hs0 : sensorsE sens = 0) (hc0 : checkV sens.length rows = 0) (hR : ∀ s t f, watchC (watchL sens rows sens.length) = [.i s, .i t, .b f, .i 0] → R [.i s, .i t, .b f, .i 0])
    (hk : KOK cwat1 R F w0 (endK cwat1 Try.f54 ctWatch) Γ [] Q) {a : Act} (hsz : a.tmps.size = 74) (hdf : a.defers = []) (h0 : a.eval (.tmp 0) = sv) (h1 : a.eval (.tmp 1) = v) (h4 : a.eval (.tmp 4) = .pointer (some ⟨b4, 0, none⟩)) (h9 : a.eval (.tmp 9) = .pointer (some ⟨b9, 0, none⟩)) (h10 : a.eval (.tmp 10) = .bool false) :
    (nav [1, 1, 1, 1, 1] (bodyOf Try.f54)).wp Try.prog Q a wp := by
  obtain ⟨hl, hib, hir, -⟩ := checkV_ok hc0
  have hloc : v = (C.s v rows).loc := by
    obtain ⟨v', rows', e, d', S, hS, hN⟩ := hA
    cases e
    rfl
  show (Code.seq (Code.seq (Code.region 9 _ _) (Code.block 0 (Code.loop (Code.seq (Code.region 10 _ _) (Code.seq (Code.cond (.tmp 33) .skip (.exit 0)) (Code.block 1 (nav [1, 1, 1, 1, 1, 0, 1, 0, 0, 1, 1, 0] (bodyOf Try.f54)))))))) (nav [1, 1, 1, 1, 1, 1] (bodyOf Try.f54))).wp _ _ _ _
  refine wp_seq (wp_seq (wp_region_list (list_val rfl (v := v) (w' := wp) (by simp [execOp, h1]) (list_call rfl (f := 82) (args := #[v]) (by
    simp [execOp, resolve, invoke, eval_same, put_size, hsz, eval_const]
    exact run_callFunc' callable_bySensor _ _) ?_))))
  refine Calls.mono (bySensor_ok (Base := fun b o => Γ.base b o ∨ b = b4 ∨ b = b9) (fun b o h => by rcases h with h | h | h <;> first | exact hb b o h | omega) ⟨hsm, hloc, hA⟩ (by omega)) fun e wg he => ?_
  obtain ⟨bm, G, rfl, hpg, hbm, hG⟩ := he
  refine ⟨_, rfl, ?_⟩
  obtain ⟨o, hrg, hit⟩ := IterAt.start (P := Try.prog) (t := 115) Try.underlying115 hG.map
  refine list_val rfl (v := .pointer (some ⟨wg.heap.size, 0, none⟩)) (w' := wg.alloc o) (by simp [execOp, eval_same, put_size, hsz, hrg]) ?_
  show Code.wp _ _ _ _ _
  have hpgs := hpg.size
  have hSg : ArrOK Try.prog wg (fun b o => Γ.base b o ∨ b = b4 ∨ b = b9) 23 (.s sv sens) := hS.keep hpg.size fun b o hb' hno => ⟨World.cell?_of_block (hpg.block b hb'), hno⟩
  have hltr : wg.heap.size < (wg.alloc o).heap.size := by
    obtain ⟨es, clock, since, sn, c0, h1, h2, h3, h4, h5⟩ := hit
    exact (Array.getElem?_eq_some_iff.1 h4).1
  have hal : Below wg.heap.size wg (wg.alloc o) := below_alloc _ _
  refine range_loop (nt := 74) (tI := 31) (tN := 32) (cN := 33) (bm := bm) (r := wg.heap.size) (G := G) (J := WatIn wg bm b4 b9 sv sens rows G) rfl rfl rfl rfl rfl rfl (by decide) (by decide) (by decide) (by have := hG.map.lt; omega) (fun seen a w h => ⟨h.it, h.s31, h.size⟩) ?_ ?_ ?_
  · intro seen a2 w2 g w3 u hin hg hns hit' hs hbl ho ht hu hent
    exact wp_mono (wat_round (Q := Q) hnb hb4 hb9 h49 l4 l9 hsv hsm hty hb hpg hbm hG hSg hs0 hl hib hir hin hg hit' hs hbl ho ht hu hent) fun e a w h => by cases e <;> exact h
  · intro seen a2 w2 u hin hall
    show (nav [1, 1, 1, 1, 1, 1] (bodyOf Try.f54)).wp _ _ _ _
    obtain ⟨o2, f, s, t, e10, hBs, hW, hBest, hbs, hbt⟩ := hin.best
    have hbest : o2 = watchL sens rows sens.length := by
      refine Best.uniq (P := fun k => 0 ≤ k ∧ k < (sens.length : Int)) (hBest.more (fun k hk => ?_) fun k hk => ?_) (watchL_best sens.length)
      · obtain ⟨g, hg, rfl⟩ := hin.sub k hk
        obtain ⟨r, hr, e⟩ := hG.has g hg
        have := List.all_eq_true.1 hib r hr
        rw [e]
        simpa [inB] using this
      · by_cases he : ∃ r ∈ rows, cell_ r 0 = k
        · obtain ⟨r, hr, e⟩ := he
          obtain ⟨g, hg, e'⟩ := hG.all r hr
          have := hall g hg
          rw [e', e] at this
          exact .inl this
        · exact .inr (alarmAt_none fun r hr e => he ⟨r, hr, e⟩)
    subst hbest
    have q : ∀ x, x ≠ 32 → x ≠ 33 → ((a2.put (some 32) u).put (some 33) (.bool false)).eval (.tmp x) = a2.eval (.tmp x) := fun x h1 h2 => by rw [eval_other h2, eval_other h1]
    have g4 := (q 4 (by decide) (by decide)).trans hin.s4
    have g9 := (q 9 (by decide) (by decide)).trans hin.s9
    have g10 := (q 10 (by decide) (by decide)).trans e10
    have hsz2 : ((a2.put (some 32) u).put (some 33) (.bool false)).tmps.size = 74 := by rw [put_size, put_size]; exact hin.size
    have hdf2 : ((a2.put (some 32) u).put (some 33) (.bool false)).defers = [] := by rw [put_defers, put_defers]; exact hin.defers
    clear q
    generalize (a2.put (some 32) u).put (some 33) (.bool false) = a4 at *
    have hlt := hin.lt
    have hkw : WatKeep wg w2 b4 b9 := ⟨hin.os, hin.tape, hin.output, by omega, hin.blk⟩
    have hmem : ∀ b mb, look watStF.mem b = some mb → (b = 1 ∧ mb = (81, [.int (.var 3), .int (.var 4)])) ∨ (b = 0 ∧ mb = (81, [.int (.lit 0), .int (.lit 0)])) := fun b mb h => by
      simp only [watStF, look] at h
      split at h
      · rename_i e; subst e; cases h; exact .inl ⟨rfl, rfl⟩
      split at h
      · rename_i e; subst e; cases h; exact .inr ⟨rfl, rfl⟩
      cases h
    have hkF : Keeps F w0 w2 := (hk0.trans (Keeps.of_below hpg fun i hi => by have := hF i hi; have := hk0.size; omega)).trans (hkw.keeps (fun i hi => by have := hF i hi; have := hk0.size; omega) f4 f9)
    have hsat : Sat Try.prog F w0 { Γ with ρ := [.s sv sens, .s v rows, .b f, .i s, .i t] } watStF a4 w2 := by
      refine Sat.bare rfl rfl (fun b mb h => ?_) (fun i j x y h1 h2 e => ?_) (fun t sv ht => ?_) hsz2 hkF hF (fun b o h => by have := hb b o h; omega) hdf2 rfl hnb rfl ?_
      · rcases hmem b mb h with ⟨rfl, rfl⟩ | ⟨rfl, rfl⟩
        · refine ⟨?_, fun l hl O => ?_, ?_, by decide⟩
          · show Blk w2 (Γ.blk 1) _ _
            rw [hb9]; exact hBs
          · simp only [List.mem_cons, List.not_mem_nil, or_false] at hl
            rcases hl with rfl | rfl <;> trivial
          · show ¬ F (Γ.blk 1)
            rw [hb9]; exact f9
        · refine ⟨?_, fun l hl O => ?_, ?_, by decide⟩
          · show Blk w2 (Γ.blk 0) _ _
            rw [hb4]; exact hin.blk4
          · simp only [List.mem_cons, List.not_mem_nil, or_false] at hl
            rcases hl with rfl | rfl <;> trivial
          · show ¬ F (Γ.blk 0)
            rw [hb4]; exact f4
      · have e' : Γ.blk i = Γ.blk j := e
        rcases hmem i x h1 with ⟨rfl, -⟩ | ⟨rfl, -⟩ <;> rcases hmem j y h2 with ⟨rfl, -⟩ | ⟨rfl, -⟩
        · rfl
        · exact absurd (hb4.symm.trans (e'.symm.trans hb9)) h49
        · exact absurd (hb4.symm.trans (e'.trans hb9)) h49
        · rfl
      · simp only [watStF, look] at ht
        split at ht
        · rename_i e; subst e; cases ht; exact ⟨by show a4.eval (.tmp 4) = .pointer (some ⟨Γ.blk 0, 0, none⟩); rw [hb4]; exact g4, fun l hl => by simp only [S0.cells, List.mem_cons, List.not_mem_nil, or_false] at hl; subst hl; trivial⟩
        split at ht
        · rename_i e; subst e; cases ht; exact ⟨by show a4.eval (.tmp 9) = .pointer (some ⟨Γ.blk 1, 0, none⟩); rw [hb9]; exact g9, fun l hl => by simp only [S0.cells, List.mem_cons, List.not_mem_nil, or_false] at hl; subst hl; trivial⟩
        split at ht
        · rename_i e; subst e; cases ht; exact ⟨g10, fun l hl => by simp only [S0.cells, List.mem_cons, List.not_mem_nil, or_false] at hl; subst hl; trivial⟩
        cases ht
      · have := Smalls.nil.app (cs := [.s sv sens, .s v rows, .b f, .i s, .i t]) (fun c hc => by
          simp only [List.mem_cons, List.not_mem_nil, or_false] at hc
          rcases hc with rfl | rfl | rfl | rfl | rfl
          · exact hsv
          · exact hsm
          · intro n; cases n <;> simp [C.small]
          · intro n; cases n <;> exact hbs
          · intro n; cases n <;> exact hbt)
        simpa using this
    have hext : Ext Γ { Γ with ρ := [.s sv sens, .s v rows, .b f, .i s, .i t] } := ⟨⟨[.b f, .i s, .i t], by rw [hρ]; rfl⟩, fun _ _ => rfl, Nat.le_refl _, rfl, rfl⟩
    exact exec_sound (R := R) (F := F) (w0 := w0) wat_cx _ _ _ _ wat_tree3 _ [] _ (hk.mono hext (List.prefix_refl _)) rfl (hR s t f hW) _ _ hsat
  · have hsz1 : ((a.put (some 29) v).put (some 30) (.map (some bm))).tmps.size = 74 := by rw [put_size, put_size]; exact hsz
    have q : ∀ x, x ≠ 29 → x ≠ 30 → x ≠ 31 → (((a.put (some 29) v).put (some 30) (.map (some bm))).put (some 31) (.pointer (some ⟨wg.heap.size, 0, none⟩))).eval (.tmp x) = a.eval (.tmp x) := fun x h1 h2 h3 => by rw [eval_other h3, eval_other h2, eval_other h1]
    have ha : ∀ i, i < wp.heap.size → (wg.alloc o).heap[i]? = wp.heap[i]? := fun i hi => (hal.block i (by omega)).trans (hpg.block i hi)
    exact ⟨hit, eval_same (Nat.lt_of_lt_of_eq (by decide : 31 < 74) hsz1.symm), (q 0 (by decide) (by decide) (by decide)).trans h0, (q 4 (by decide) (by decide) (by decide)).trans h4, (q 9 (by decide) (by decide) (by decide)).trans h9, by rw [put_size]; exact hsz1, by simp only [put_defers]; exact hdf, rfl, rfl, rfl, hltr, fun i hi _ _ => hal.block i hi, (ha b4 l4).trans hB4, fun k hk => by (cases hk),
      none, false, 0, 0, (q 10 (by decide) (by decide) (by decide)).trans h10, (ha b9 l9).trans hB9, rfl, fun k hk => by (cases hk), by decide, by decide⟩
theorem watch_ok : tab3.ok 54 := by
  refine Tab.of_ct rfl rfl ⟨_, Try.func54, by decide, rfl⟩ ?_ ctF_det
  refine ct_ok_open (cx := cwat1) (bds := []) wat_cx Try.func54 (c := bodyOf Try.f54) rfl ⟨by decide, by decide, by decide⟩ fun cs hcs _ => ⟨bds_nil _, fun F w0 Γ a w Q hρ hs hk => ?_⟩
  obtain ⟨sv, sens, v, rows, d, rfl, hty⟩ : ∃ sv sens v rows d, cs = [.s sv sens, .s v rows] ∧ TyN Try.prog d 40 rows := by
    match cs, hcs with
    | [c1, c2], ⟨⟨_, sv, sens, d', e1, _⟩, ⟨_, v, rows, d, e2, hty⟩, _⟩ => exact ⟨sv, sens, v, rows, d, by rw [e1, e2], hty⟩
  have hsmall := fun c hc => CTy.small hcs (c := c) hc
  rw [wat_split]
  refine pre_seg (R := ctWatch.post [.s sv sens, .s v rows]) wat_cx (Ls := []) wat_tree1 (by kernel_rfl) rfl (I := fun _ => sensorsE sens = 0 ∧ checkV sens.length rows = 0) (by rw [hρ]; exact wat_vc1 fun e _ he => he) hs ?_ ?_
  · intro xs Γx a' wp hxs hI hρ' he hs'
    obtain ⟨hs0, hc0⟩ := hI
    have hx : xs = [] := by cases xs with | nil => rfl | cons x xs => exact hxs.elim
    subst hx
    rw [List.append_nil, hρ] at hρ'
    have ev : ∀ t sv, t < 1000 → look watSt1.sl t = some sv → a'.eval (.tmp t) = sv.den Γx := fun t sv ht hl => by
      have := (hs'.slots t sv hl).1
      unfold slotV at this
      rwa [if_pos ht] at this
    have hO : ∀ b o, (Γx.base b o ∨ b = Γx.blk 0 ∨ b = Γx.blk 1) → Own Γx watSt1 b o := fun b o h => by
      rcases h with h | h | h
      · exact .inl h
      · exact .inr (.inl ⟨0, _, rfl, h.symm⟩)
      · exact .inr (.inl ⟨1, _, rfl, h.symm⟩)
    have hS : ArrOK Try.prog wp (fun b o => Γx.base b o ∨ b = Γx.blk 0 ∨ b = Γx.blk 1) 23 (.s sv sens) := by
      have h2 : ArrOK Try.prog wp (Own Γx watSt1) 23 ((E.var 0).ev Γx.ρ) := (hs'.slots 0 _ (rfl : look watSt1.sl 0 = some (.one (.lf (.arr 23 (.var 0)))))).2 (.arr 23 (.var 0)) (by simp [S0.cells])
      rw [show (E.var 0).ev Γx.ρ = .s sv sens by rw [ev_var, hρ']; rfl] at h2
      exact h2.keep (Nat.le_refl _) fun b o _ hno => ⟨rfl, fun h => hno (hO b o h)⟩
    have hA : ArrOK Try.prog wp (fun b o => Γx.base b o ∨ b = Γx.blk 0 ∨ b = Γx.blk 1) 40 (.s v rows) := by
      have h2 : ArrOK Try.prog wp (Own Γx watSt1) 40 ((E.var 1).ev Γx.ρ) := (hs'.slots 1 _ (rfl : look watSt1.sl 1 = some (.one (.lf (.arr 40 (.var 1)))))).2 (.arr 40 (.var 1)) (by simp [S0.cells])
      rw [show (E.var 1).ev Γx.ρ = .s v rows by rw [ev_var, hρ']; rfl] at h2
      exact h2.keep (Nat.le_refl _) fun b o _ hno => ⟨rfl, fun h => hno (hO b o h)⟩
    obtain ⟨m1, -, m1F, -⟩ := hs'.mem 1 _ (rfl : look watSt1.mem 1 = some (81, [.int (.lit 0), .int (.lit 0)]))
    obtain ⟨m0, -, m0F, -⟩ := hs'.mem 0 _ (rfl : look watSt1.mem 0 = some (81, [.int (.lit 0), .int (.lit 0)]))
    have h49 : Γx.blk 0 ≠ Γx.blk 1 := fun e => by
      have := (hs'.inj true 0 true 1 _ (Hold.mem (Γ := Γx) (st := watSt1) (j := 0) rfl) (e ▸ Hold.mem (Γ := Γx) (st := watSt1) (j := 1) rfl)).2
      cases this
    refine wat_rest (Γ := Γx) (R := ctWatch.post [.s sv sens, .s v rows]) hρ' hs'.nb rfl rfl h49 m0.lt m1.lt m0F m1F (hsmall _ (by simp)) (hsmall _ (by simp)) hty hs'.fold (fun b o h => hs'.base b o h) hs'.keeps hS hA m0 m1 hs0 hc0 (fun s t f h => ?_) (hk.mono he (List.prefix_refl _)) hs'.size hs'.defers ?_ ?_ (ev 4 _ (by decide) rfl) (ev 9 _ (by decide) rfl) (ev 10 _ (by decide) rfl)
    · show [C.i s, .i t, .b f, .i 0] = watchV sens rows
      unfold watchV
      rw [if_pos hs0, if_pos hc0, h]
    · refine (ev 0 _ (by decide) rfl).trans ?_
      simp only [SV.den, S0.den, Lf.den, ev_var, hρ']
      obtain ⟨v1, r1, e, -⟩ := hS
      cases e; rfl
    · refine (ev 1 _ (by decide) rfl).trans ?_
      simp only [SV.den, S0.den, Lf.den, ev_var, hρ']
      obtain ⟨v1, r1, e, -⟩ := hA
      cases e; rfl
  · intro x st' T' Γ' Ls' hx hk' he hlen' hv' a' w' hs'
    exact hk x st' T' Γ' Ls' hk' he (List.nil_prefix) hlen' hv' a' w' hs'
end Go.Proofs.Ytlbgcjpkegpmlaa
/- What is to be shown of each function, as the executor has it. Printed by trees.py. -/
namespace Go.Proofs.Ytlbgcjpkegpmlaa
noncomputable def cshown : Cx := tab4.only [] (fun _ => []) [] 0 [] (fun _ => none)
def tshown : Tree :=
  (.ret [(.int (.lit 1000)), (.int (.lit 100))])
noncomputable def cpit : Cx := tab4.only [] (fun _ => []) [] 0 [] (fun _ => none)
def tpit : Tree :=
  (.ret [(.int (.lit 1)), (.int (.lit 10)), (.int (.lit 5)), (.int (.lit 2)), (.int (.lit 1000)), (.int (.lit 1)), (.int (.lit 20000)), (.int (.lit 2))])
noncomputable def cflows : Cx := tab4.only [] (fun _ => []) [] 0 [] (fun _ => none)
def tflows : Tree :=
  (.ret [(.int (.lit 2)), (.int (.lit 1)), (.int (.lit 0)), (.int (.lit 0)), (.int (.lit 1)), (.int (.lit 0)), (.int (.lit 3000)), (.int (.lit 1))])
noncomputable def cknown : Cx := tab4.only [19, 63, 64, 65, 24, 23, 46, 49, 50, 51, 54, 17, 31] (fun _ => []) [] 0 [] (fun r => match r with
  | 50004 => some ([(4, true, [.bool])], [])
  | 50009 => some ([(13, true, [.bool])], [])
  | 50013 => some ([(16, true, [.bool])], [])
  | 50018 => some ([(22, true, [.bool])], [])
  | 50020 => some ([(24, true, [.bool])], [])
  | _ => none)
def tknown_1 : Tree :=
  (.split (.cmp .eq (.var 21) (.lit 1300)) (.call 46 [(.int (.var 3)), (.int (.var 4)), (.int (.var 5)), (.int (.var 6)), (.int (.var 7)), (.int (.var 8)), (.int (.var 9)), (.int (.var 10)), (.int (.var 1)), (.int (.var 2)), (.int (.lit (-1))), (.int (.lit 1))] (.back 0 [(.bool (.cmp .eq (.var 22) (.lit 1000)))])) (.back 0 [(.bool (.lit false))]))
def tknown_2 : Tree :=
  (.split (.cmp .eq (.var 20) (.lit 0)) (.call 46 [(.int (.var 3)), (.int (.var 4)), (.int (.var 5)), (.int (.var 6)), (.int (.var 7)), (.int (.var 8)), (.int (.var 9)), (.int (.var 10)), (.int (.var 1)), (.int (.var 2)), (.int (.lit 3)), (.int (.lit (-2)))] tknown_1) (.back 0 [(.bool (.lit false))]))
def tknown_3 : Tree :=
  (.join [.bool] (.split (.cmp .eq (.var 54) (.lit 0)) (.back 4 [(.bool (.and (.and (.cmp .eq (.var 47) (.lit 10100)) (.cmp .eq (.var 48) (.lit 10100))) (.and (.and (.cmp .eq (.var 49) (.lit 20)) (.cmp .eq (.var 50) (.lit 20))) (.and (.and (.cmp .eq (.var 51) (.lit (-5))) (.cmp .eq (.var 52) (.lit (-5)))) (.cmp .eq (.var 53) (.lit 1))))))]) (.back 4 [(.bool (.lit false))])) (.split (.of (.var 19)) (.split (.of (.var 29)) (.split (.of (.var 39)) (.split (.of (.var 46)) (.ret [(.bool (.of (.var 55)))]) (.ret [(.bool (.lit false))])) (.ret [(.bool (.lit false))])) (.ret [(.bool (.lit false))])) (.ret [(.bool (.lit false))])))
def tknown_4 : Tree :=
  (.join [.bool] (.split (.cmp .eq (.var 40) (.lit 4)) (.split (.cmp .eq (.var 41) (.lit 25)) (.split (.cmp .eq (.var 43) (.lit 0)) (.split (.cmp .eq (.var 44) (.lit 125)) (.split (.cmp .eq (.var 42) (.lit 0)) (.back 3 [(.bool (.cmp .eq (.var 45) (.lit 0)))]) (.back 3 [(.bool (.lit false))])) (.back 3 [(.bool (.lit false))])) (.back 3 [(.bool (.lit false))])) (.back 3 [(.bool (.lit false))])) (.back 3 [(.bool (.lit false))])) (.call 31 [(.int (.lit 100)), (.int (.lit 100)), (.int (.lit 400)), (.int (.lit 400)), (.int (.lit 2000)), (.int (.lit 2000)), (.int (.lit 10)), (.int (.lit 1000)), (.int (.lit 100))] tknown_3))
def tknown_5 : Tree :=
  (.join [.bool] (.split (.cmp .eq (.var 32) (.lit 13)) (.split (.of (.var 37)) (.split (.cmp .eq (.var 38) (.lit 0)) (.back 2 [(.bool (.and (.cmp .eq (.var 35) (.lit 1)) (.cmp .eq (.var 36) (.lit 8))))]) (.back 2 [(.bool (.lit false))])) (.back 2 [(.bool (.lit false))])) (.back 2 [(.bool (.lit false))])) (.call 17 [(.int (.lit 1)), (.int (.lit 1)), (.int (.lit 0)), (.int (.lit 2)), (.int (.lit 1000)), (.int (.lit 0)), (.int (.lit 1000)), (.int (.lit 2)), (.int (.lit 2))] (.call 17 [(.int (.lit 1)), (.int (.lit 1)), (.int (.lit 0)), (.int (.lit 2)), (.int (.lit 1000)), (.int (.lit 0)), (.int (.lit 2001)), (.int (.lit 2)), (.int (.lit 3))] tknown_4)))
def tknown_6 : Tree :=
  (.arr [[(.int (.var 3)), (.int (.var 4)), (.int (.var 5)), (.int (.var 6)), (.int (.var 7)), (.int (.var 8)), (.int (.var 9)), (.int (.var 10))], [(.int (.var 11)), (.int (.var 12)), (.int (.var 13)), (.int (.var 14)), (.int (.var 15)), (.int (.var 16)), (.int (.var 17)), (.int (.var 18))]] (.arr [[(.int (.lit 1)), (.int (.lit 7)), (.int (.lit 2999))], [(.int (.lit 1)), (.int (.lit 8)), (.int (.lit 3000))], [(.int (.lit 1)), (.int (.lit 9)), (.int (.lit 5000))]] (.call 54 [(.arr 23 (.var 33)), (.arr 40 (.var 34))] tknown_5)))
def tknown_7 : Tree :=
  (.join [.bool] (.split (.cmp .eq (.var 20) (.lit 20)) (.split (.of (.var 21)) (.split (.cmp .eq (.var 23) (.lit 20)) (.split (.cmp .eq (.var 24) (.lit 0)) (.split (.cmp .eq (.var 26) (.lit 20)) (.split (.cmp .eq (.var 27) (.lit 39000)) (.back 1 [(.bool (.cmp .eq (.var 28) (.lit 0)))]) (.back 1 [(.bool (.lit false))])) (.back 1 [(.bool (.lit false))])) (.back 1 [(.bool (.lit false))])) (.back 1 [(.bool (.lit false))])) (.back 1 [(.bool (.lit false))])) (.back 1 [(.bool (.lit false))])) (.arr [[(.int (.var 11)), (.int (.var 12)), (.int (.var 13)), (.int (.var 14)), (.int (.var 15)), (.int (.var 16)), (.int (.var 17)), (.int (.var 18))]] (.call 50 [(.arr 23 (.var 30)), (.int (.lit 0)), (.int (.lit 1000)), (.int (.lit 0)), (.int (.lit 100))] tknown_6)))
def tknown_8 : Tree :=
  (.arr [[(.int (.var 3)), (.int (.var 4)), (.int (.var 5)), (.int (.var 6)), (.int (.var 7)), (.int (.var 8)), (.int (.var 9)), (.int (.var 10))], [(.int (.var 11)), (.int (.var 12)), (.int (.var 13)), (.int (.var 14)), (.int (.var 15)), (.int (.var 16)), (.int (.var 17)), (.int (.var 18))]] (.call 51 [(.arr 23 (.var 25)), (.int (.var 1)), (.int (.var 2))] tknown_7))
def tknown_9 : Tree :=
  (.arr [[(.int (.var 3)), (.int (.var 4)), (.int (.var 5)), (.int (.var 6)), (.int (.var 7)), (.int (.var 8)), (.int (.var 9)), (.int (.var 10))], [(.int (.var 11)), (.int (.var 12)), (.int (.var 13)), (.int (.var 14)), (.int (.var 15)), (.int (.var 16)), (.int (.var 17)), (.int (.var 18))]] (.call 50 [(.arr 23 (.var 22)), (.int (.lit 1000)), (.int (.lit 1000)), (.int (.lit 100)), (.int (.lit 100))] tknown_8))
def tknown_10 : Tree :=
  (.join [.bool] (.call 24 [(.int (.var 1)), (.int (.var 2)), (.int (.lit 3))] (.split (.cmp .eq (.var 19) (.lit 1300)) (.call 23 [(.int (.var 1)), (.int (.var 2)), (.int (.lit 0))] tknown_2) (.back 0 [(.bool (.lit false))]))) (.call 49 [(.int (.var 11)), (.int (.var 12)), (.int (.var 13)), (.int (.var 14)), (.int (.var 15)), (.int (.var 16)), (.int (.var 17)), (.int (.var 18)), (.int (.var 1)), (.int (.var 2))] tknown_9))
def tknown : Tree :=
  (.call 19 [] (.split (.not (.of (.var 0))) (.ret [(.bool (.lit false))]) (.call 63 [] (.call 64 [] (.call 65 [] tknown_10)))))
end Go.Proofs.Ytlbgcjpkegpmlaa
/- Contracts of small functions: kick.within, moonpoolref06.between, CheckKick, flows and gains. -/
namespace Go.Proofs.Ytlbgcjpkegpmlaa
open Go.RowKit

/-- kick.within -/
theorem within_any (n lo hi : Int) (w : World) :
    Calls Try.prog 68 #[.int .i64 n, .int .i64 lo, .int .i64 hi] w fun e w' => e = .returned (.bool (decide (lo ≤ n ∧ n ≤ hi))) ∧ w = w' := by
  go_enter Try.func68, Try.ntmps68
  go_wp2
  all_goals go_ret
  all_goals (refine ⟨ret_bool ?_, rfl⟩; simp; omega)
/-- moonpoolref06.between -/
theorem between_any (n lo hi : Int) (w : World) :
    Calls Try.prog 69 #[.int .i64 n, .int .i64 lo, .int .i64 hi] w fun e w' => e = .returned (.bool (decide (lo ≤ n ∧ n ≤ hi))) ∧ w = w' := by
  go_enter Try.func69, Try.ntmps69
  go_wp2
  all_goals go_ret
  all_goals (refine ⟨ret_bool ?_, rfl⟩; simp; omega)
theorem within_yes (n lo hi : Int) (w : World) (h : lo ≤ n) (h' : n ≤ hi) :
    Calls Try.prog 68 #[.int .i64 n, .int .i64 lo, .int .i64 hi] w fun e w' => e = .returned (.bool true) ∧ w = w' :=
  (within_any n lo hi w).mono fun _ _ ⟨he, hw⟩ => ⟨he.trans (ret_bool (by simp [h, h'])), hw⟩
theorem within_no (n lo hi : Int) (w : World) (h : n < lo ∨ hi < n) :
    Calls Try.prog 68 #[.int .i64 n, .int .i64 lo, .int .i64 hi] w fun e w' => e = .returned (.bool false) ∧ w = w' :=
  (within_any n lo hi w).mono fun _ _ ⟨he, hw⟩ => ⟨he.trans (ret_bool (by simp; omega)), hw⟩
theorem between_yes (n lo hi : Int) (w : World) (h : lo ≤ n) (h' : n ≤ hi) :
    Calls Try.prog 69 #[.int .i64 n, .int .i64 lo, .int .i64 hi] w fun e w' => e = .returned (.bool true) ∧ w = w' :=
  (between_any n lo hi w).mono fun _ _ ⟨he, hw⟩ => ⟨he.trans (ret_bool (by simp [h, h'])), hw⟩
theorem between_no (n lo hi : Int) (w : World) (h : n < lo ∨ hi < n) :
    Calls Try.prog 69 #[.int .i64 n, .int .i64 lo, .int .i64 hi] w fun e w' => e = .returned (.bool false) ∧ w = w' :=
  (between_any n lo hi w).mono fun _ _ ⟨he, hw⟩ => ⟨he.trans (ret_bool (by simp; omega)), hw⟩



abbrev kickV (r g : Int) : Value := .agg #[.int .i64 r, .int .i64 g]
abbrev Sen.v (s : Sen) : Value := .agg #[.int .i64 s.ch, .int .i64 s.pe, .int .i64 s.de, .int .i64 s.no, .int .i64 s.st, .int .i64 s.lo, .int .i64 s.li, .int .i64 s.ho]

theorem notKick {r g : Int} (h : ¬ KickOK r g) : r < 0 ∨ (0 ≤ r ∧ 16777216 < r) ∨ (0 ≤ r ∧ r ≤ 16777216 ∧ g < 0) ∨ (0 ≤ r ∧ r ≤ 16777216 ∧ 0 ≤ g ∧ 4096 < g) := by unfold KickOK at h; omega
theorem checkKick_yes (r g : Int) (w : World) (h : KickOK r g) :
    Calls Try.prog 36 #[kickV r g] w fun e w' => e = .returned (.int .i64 0) ∧ Below w.heap.size w w' := by
  obtain ⟨h1, h2, h3, h4⟩ := h
  go_enter Try.func36, Try.ntmps36
  go_wp2
  all_goals go_returns
  all_goals (refine ⟨rfl, ?_⟩; go_grown)
theorem checkKick_no (r g : Int) (w : World) (h : ¬ KickOK r g) :
    Calls Try.prog 36 #[kickV r g] w fun e w' => e = .returned (.int .i64 2) ∧ Below w.heap.size w w' := by
  rcases notKick h with h1 | ⟨h1, h2⟩ | ⟨h1, h2, h3⟩ | ⟨h1, h2, h3, h4⟩
  all_goals
    clear h
    go_enter Try.func36, Try.ntmps36
    go_wp2
    go_returns
    refine ⟨rfl, ?_⟩
    go_grown
theorem rcheckKick_yes (r g : Int) (w : World) (h : KickOK r g) :
    Calls Try.prog 37 #[kickV r g] w fun e w' => e = .returned (.int .i64 0) ∧ Below w.heap.size w w' := by
  obtain ⟨h1, h2, h3, h4⟩ := h
  go_enter Try.func37, Try.ntmps37
  go_wp2
  all_goals go_returns
  all_goals (refine ⟨rfl, ?_⟩; go_grown)
theorem rcheckKick_no (r g : Int) (w : World) (h : ¬ KickOK r g) :
    Calls Try.prog 37 #[kickV r g] w fun e w' => e = .returned (.int .i64 2) ∧ Below w.heap.size w w' := by
  rcases notKick h with h1 | ⟨h1, h2⟩ | ⟨h1, h2, h3⟩ | ⟨h1, h2, h3, h4⟩
  all_goals
    clear h
    go_enter Try.func37, Try.ntmps37
    go_wp2_with (go_at_call 69; first | (refine (between_yes _ _ _ _ (by omega) (by omega)).mono ?_; rintro e w' ⟨rfl, rfl⟩) | (refine (between_no _ _ _ _ (by omega)).mono ?_; rintro e w' ⟨rfl, rfl⟩))
    go_returns
    refine ⟨rfl, ?_⟩
    go_grown

end Go.Proofs.Ytlbgcjpkegpmlaa
/- Contracts of CheckSensor, of the program and of the reference. -/
namespace Go.Proofs.Ytlbgcjpkegpmlaa
open Go.RowKit

theorem checkSensor_yes (s : Sen) (w : World) (h : SenOK s) :
    Calls Try.prog 40 #[s.v] w fun e w' => e = .returned (.int .i64 0) ∧ Below w.heap.size w w' := by
  obtain ⟨hk, h1, h2, h3, h4, h5, h6, h7, h8, h9, h10, h11, h12, h13, h14⟩ := h
  obtain ⟨ch, pe, de, no, st, lo, li, ho⟩ := s
  unfold KindOK at hk
  simp only at hk h1 h2 h3 h4 h5 h6 h7 h8 h9 h10 h11 h12 h13 h14
  rcases hk with rfl | rfl
  all_goals
    go_enter Try.func40, Try.ntmps40
    go_wp2_with (go_at_call 68; refine (within_yes _ _ _ _ (by omega) (by omega)).mono ?_; rintro e w' ⟨rfl, rfl⟩)
    all_goals go_returns
    all_goals (refine ⟨rfl, ?_⟩; go_grown)
theorem checkSensor_kind (s : Sen) (w : World) (h : ¬ KindOK s) :
    Calls Try.prog 40 #[s.v] w fun e w' => e = .returned (.int .i64 4) ∧ Below w.heap.size w w' := by
  obtain ⟨ch, pe, de, no, st, lo, li, ho⟩ := s
  unfold KindOK at h
  simp only at h
  have h1 : (ch != 1) = true := by rw [bne_iff_ne]; omega
  have h2 : (ch != 2) = true := by rw [bne_iff_ne]; omega
  clear h
  go_enter Try.func40, Try.ntmps40
  go_wp2
  all_goals go_returns
  all_goals (refine ⟨rfl, ?_⟩; go_grown)
theorem checkSensor_range (s : Sen) (w : World) (hk : KindOK s) (h : ¬ RangeOK s) :
    Calls Try.prog 40 #[s.v] w fun e w' => e = .returned (.int .i64 2) ∧ Below w.heap.size w w' := by
  obtain ⟨ch, pe, de, no, st, lo, li, ho⟩ := s
  have H := Lib.hid h
  clear h
  unfold KindOK at hk
  simp only at hk
  rcases hk with rfl | rfl
  all_goals
    go_enter Try.func40, Try.ntmps40
    go_wp2_with (go_at_call 68; refine (within_any _ _ _ _).mono ?_; rintro e w' ⟨rfl, rfl⟩)
    all_goals first
      | (exfalso; apply H.out; unfold RangeOK; (try simp at *); omega)
      | (go_returns; refine ⟨rfl, ?_⟩; go_grown)
theorem rcheckSensor_yes (s : Sen) (w : World) (h : SenOK s) :
    Calls Try.prog 41 #[s.v] w fun e w' => e = .returned (.int .i64 0) ∧ Below w.heap.size w w' := by
  obtain ⟨hk, h1, h2, h3, h4, h5, h6, h7, h8, h9, h10, h11, h12, h13, h14⟩ := h
  obtain ⟨ch, pe, de, no, st, lo, li, ho⟩ := s
  unfold KindOK at hk
  simp only at hk h1 h2 h3 h4 h5 h6 h7 h8 h9 h10 h11 h12 h13 h14
  rcases hk with rfl | rfl
  all_goals
    go_enter Try.func41, Try.ntmps41
    go_wp2_with (go_at_call 69; refine (between_yes _ _ _ _ (by omega) (by omega)).mono ?_; rintro e w' ⟨rfl, rfl⟩)
    all_goals go_returns
    all_goals (refine ⟨rfl, ?_⟩; go_grown)
theorem rcheckSensor_kind (s : Sen) (w : World) (h : ¬ KindOK s) :
    Calls Try.prog 41 #[s.v] w fun e w' => e = .returned (.int .i64 4) ∧ Below w.heap.size w w' := by
  obtain ⟨ch, pe, de, no, st, lo, li, ho⟩ := s
  unfold KindOK at h
  simp only at h
  have h1 : (ch != 1) = true := by rw [bne_iff_ne]; omega
  have h2 : (ch != 2) = true := by rw [bne_iff_ne]; omega
  clear h
  go_enter Try.func41, Try.ntmps41
  go_wp2
  all_goals go_returns
  all_goals (refine ⟨rfl, ?_⟩; go_grown)
theorem rcheckSensor_range (s : Sen) (w : World) (hk : KindOK s) (h : ¬ RangeOK s) :
    Calls Try.prog 41 #[s.v] w fun e w' => e = .returned (.int .i64 2) ∧ Below w.heap.size w w' := by
  obtain ⟨ch, pe, de, no, st, lo, li, ho⟩ := s
  have H := Lib.hid h
  clear h
  unfold KindOK at hk
  simp only at hk
  rcases hk with rfl | rfl
  all_goals
    go_enter Try.func41, Try.ntmps41
    go_wp2_with (go_at_call 69; refine (between_any _ _ _ _).mono ?_; rintro e w' ⟨rfl, rfl⟩)
    all_goals first
      | (exfalso; apply H.out; unfold RangeOK; (try simp at *); omega)
      | (go_returns; refine ⟨rfl, ?_⟩; go_grown)

end Go.Proofs.Ytlbgcjpkegpmlaa
/- Contracts of the flows and gains (kick.influx), of kick.Gain, kick.Flow and of the reference's Gain, Flow. -/
namespace Go.Proofs.Ytlbgcjpkegpmlaa
open Go.RowKit

theorem gain_any (r g n : Int) (w : World) (h : KickOK r g) (hn : n ≤ 20000) :
    Calls Try.prog 66 #[kickV r g, .int .i64 n] w fun e w' => e = .returned (.int .i64 (gainAt r g n)) ∧ Below w.heap.size w w' := by
  obtain ⟨h1, h2, h3, h4⟩ := h
  by_cases h0 : n < 0
  · have hv : gainAt r g n = 0 := by simp [gainAt, h0]
    rw [hv]
    clear hv
    go_enter Try.func66, Try.ntmps66
    go_wp2
    go_returns
    refine ⟨rfl, ?_⟩
    repeat' (first | with_reducible exact Below.refl _ _ | with_reducible refine bstep ?_ (by with_reducible assumption) | with_reducible refine balloc ?_ | with_reducible refine bdrew ?_ | with_reducible refine bdrewN ?_ _ | with_reducible refine bset ?_ (by go_size))
  · have hv : gainAt r g n = n * r + g * (n * (n - 1) / 2) := by simp [gainAt, h0]
    rw [hv]
    clear hv
    have hn0 : 0 ≤ n := by omega
    clear h0
    obtain ⟨t1, t2, t3, t4⟩ := tri_bd n hn0 hn
    obtain ⟨b1, b2⟩ := mul_bd hn0 hn h1 h2
    obtain ⟨b3, b4⟩ := mul_bd h3 h4 t3 t4
    go_enter Try.func66, Try.ntmps66
    go_wp2
    go_returns
    refine ⟨rfl, ?_⟩
    repeat' (first | with_reducible exact Below.refl _ _ | with_reducible refine bstep ?_ (by with_reducible assumption) | with_reducible refine balloc ?_ | with_reducible refine bdrew ?_ | with_reducible refine bdrewN ?_ _ | with_reducible refine bset ?_ (by go_size))
theorem flow_any (r g n : Int) (w : World) (h : KickOK r g) (hn : n ≤ 20000) :
    Calls Try.prog 67 #[kickV r g, .int .i64 n] w fun e w' => e = .returned (.int .i64 (flowAt r g n)) ∧ Below w.heap.size w w' := by
  obtain ⟨h1, h2, h3, h4⟩ := h
  by_cases h0 : n < 0
  · have hv : flowAt r g n = 0 := by simp [flowAt, h0]
    rw [hv]
    clear hv
    go_enter Try.func67, Try.ntmps67
    go_wp2
    go_returns
    refine ⟨rfl, ?_⟩
    repeat' (first | with_reducible exact Below.refl _ _ | with_reducible refine bstep ?_ (by with_reducible assumption) | with_reducible refine balloc ?_ | with_reducible refine bdrew ?_ | with_reducible refine bdrewN ?_ _ | with_reducible refine bset ?_ (by go_size))
  · have hv : flowAt r g n = r + n * g := by simp [flowAt, h0]
    rw [hv]
    clear hv
    have hn0 : 0 ≤ n := by omega
    clear h0
    obtain ⟨b3, b4⟩ := mul_bd hn0 hn h3 h4
    go_enter Try.func67, Try.ntmps67
    go_wp2
    go_returns
    refine ⟨rfl, ?_⟩
    repeat' (first | with_reducible exact Below.refl _ _ | with_reducible refine bstep ?_ (by with_reducible assumption) | with_reducible refine balloc ?_ | with_reducible refine bdrew ?_ | with_reducible refine bdrewN ?_ _ | with_reducible refine bset ?_ (by go_size))

theorem Gain_any (r g n : Int) (w : World) :
    Calls Try.prog 23 #[kickV r g, .int .i64 n] w fun e w' => e = .returned (.int .i64 (gainF r g n)) ∧ Below w.heap.size w w' := by
  by_cases hk : KickOK r g
  · by_cases hn : n ≤ 20000
    · have hv : gainF r g n = gainAt r g n := by simp [gainF, hk, hn]
      rw [hv]
      clear hv
      have HK := Lib.hid hk
      clear hk
      go_enter Try.func23, Try.ntmps23
      go_wp2_with (first
        | (go_at_call 36; refine (checkKick_yes _ _ _ HK.out).mono ?_; rintro e w1 ⟨rfl, hb⟩; obtain ⟨hc, hf⟩ := bcell hb)
        | (go_at_call 66; refine (gain_any _ _ _ _ HK.out hn).mono ?_; rintro e w2 ⟨rfl, hb2⟩))
      go_returns
      refine ⟨rfl, ?_⟩
      repeat' (first | with_reducible exact Below.refl _ _ | with_reducible refine bstep ?_ (by with_reducible assumption) | with_reducible refine balloc ?_ | with_reducible refine bdrew ?_ | with_reducible refine bdrewN ?_ _ | with_reducible refine bset ?_ (by go_size))
    · have hv : gainF r g n = 0 := by simp [gainF, hn]
      rw [hv]
      clear hv
      have HK := Lib.hid hk
      clear hk
      have hn' : 20000 < n := by omega
      clear hn
      go_enter Try.func23, Try.ntmps23
      go_wp2_with (first
        | (go_at_call 36; refine (checkKick_yes _ _ _ HK.out).mono ?_; rintro e w1 ⟨rfl, hb⟩; obtain ⟨hc, hf⟩ := bcell hb))
      go_returns
      refine ⟨rfl, ?_⟩
      repeat' (first | with_reducible exact Below.refl _ _ | with_reducible refine bstep ?_ (by with_reducible assumption) | with_reducible refine balloc ?_ | with_reducible refine bdrew ?_ | with_reducible refine bdrewN ?_ _ | with_reducible refine bset ?_ (by go_size))
  · have hv : gainF r g n = 0 := by simp [gainF, hk]
    rw [hv]
    clear hv
    have HK := Lib.hid hk
    clear hk
    go_enter Try.func23, Try.ntmps23
    go_wp2_with (first
      | (go_at_call 36; refine (checkKick_no _ _ _ HK.out).mono ?_; rintro e w1 ⟨rfl, hb⟩; obtain ⟨hc, hf⟩ := bcell hb))
    go_returns
    refine ⟨rfl, ?_⟩
    repeat' (first | with_reducible exact Below.refl _ _ | with_reducible refine bstep ?_ (by with_reducible assumption) | with_reducible refine balloc ?_ | with_reducible refine bdrew ?_ | with_reducible refine bdrewN ?_ _ | with_reducible refine bset ?_ (by go_size))

theorem Flow_any (r g n : Int) (w : World) :
    Calls Try.prog 24 #[kickV r g, .int .i64 n] w fun e w' => e = .returned (.int .i64 (flowF r g n)) ∧ Below w.heap.size w w' := by
  by_cases hk : KickOK r g
  · by_cases hn : n ≤ 20000
    · have hv : flowF r g n = flowAt r g n := by simp [flowF, hk, hn]
      rw [hv]
      clear hv
      have HK := Lib.hid hk
      clear hk
      go_enter Try.func24, Try.ntmps24
      go_wp2_with (first
        | (go_at_call 36; refine (checkKick_yes _ _ _ HK.out).mono ?_; rintro e w1 ⟨rfl, hb⟩; obtain ⟨hc, hf⟩ := bcell hb)
        | (go_at_call 67; refine (flow_any _ _ _ _ HK.out hn).mono ?_; rintro e w2 ⟨rfl, hb2⟩))
      go_returns
      refine ⟨rfl, ?_⟩
      repeat' (first | with_reducible exact Below.refl _ _ | with_reducible refine bstep ?_ (by with_reducible assumption) | with_reducible refine balloc ?_ | with_reducible refine bdrew ?_ | with_reducible refine bdrewN ?_ _ | with_reducible refine bset ?_ (by go_size))
    · have hv : flowF r g n = 0 := by simp [flowF, hn]
      rw [hv]
      clear hv
      have HK := Lib.hid hk
      clear hk
      have hn' : 20000 < n := by omega
      clear hn
      go_enter Try.func24, Try.ntmps24
      go_wp2_with (first
        | (go_at_call 36; refine (checkKick_yes _ _ _ HK.out).mono ?_; rintro e w1 ⟨rfl, hb⟩; obtain ⟨hc, hf⟩ := bcell hb))
      go_returns
      refine ⟨rfl, ?_⟩
      repeat' (first | with_reducible exact Below.refl _ _ | with_reducible refine bstep ?_ (by with_reducible assumption) | with_reducible refine balloc ?_ | with_reducible refine bdrew ?_ | with_reducible refine bdrewN ?_ _ | with_reducible refine bset ?_ (by go_size))
  · have hv : flowF r g n = 0 := by simp [flowF, hk]
    rw [hv]
    clear hv
    have HK := Lib.hid hk
    clear hk
    go_enter Try.func24, Try.ntmps24
    go_wp2_with (first
      | (go_at_call 36; refine (checkKick_no _ _ _ HK.out).mono ?_; rintro e w1 ⟨rfl, hb⟩; obtain ⟨hc, hf⟩ := bcell hb))
    go_returns
    refine ⟨rfl, ?_⟩
    repeat' (first | with_reducible exact Below.refl _ _ | with_reducible refine bstep ?_ (by with_reducible assumption) | with_reducible refine balloc ?_ | with_reducible refine bdrew ?_ | with_reducible refine bdrewN ?_ _ | with_reducible refine bset ?_ (by go_size))

end Go.Proofs.Ytlbgcjpkegpmlaa
