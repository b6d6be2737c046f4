/- Plain definitions of what the functions of layer 6 compute. No program in sight. -/
import Derived.Below
namespace Go.Proofs.Ytlbgcjpkegpmlaa

def KickOK (r g : Int) : Prop := 0 ≤ r ∧ r ≤ 16777216 ∧ 0 ≤ g ∧ g ≤ 4096
instance (r g : Int) : Decidable (KickOK r g) := by unfold KickOK; exact inferInstance

structure Sen where
  ch : Int
  pe : Int
  de : Int
  no : Int
  st : Int
  lo : Int
  li : Int
  ho : Int

def KindOK (s : Sen) : Prop := s.ch = 1 ∨ s.ch = 2
def RangeOK (s : Sen) : Prop := 1 ≤ s.pe ∧ s.pe ≤ 60 ∧ 0 ≤ s.de ∧ s.de ≤ 600 ∧ 0 ≤ s.no ∧ s.no ≤ 15 ∧ 1 ≤ s.st ∧ s.st ≤ 1048576 ∧ 0 ≤ s.lo ∧ s.lo ≤ 5 ∧ 1 ≤ s.li ∧ s.li ≤ 1099511627776 ∧ 1 ≤ s.ho ∧ s.ho ≤ 8
def SenOK (s : Sen) : Prop := KindOK s ∧ RangeOK s
instance (s : Sen) : Decidable (KindOK s) := by unfold KindOK; exact inferInstance
instance (s : Sen) : Decidable (RangeOK s) := by unfold RangeOK; exact inferInstance
instance (s : Sen) : Decidable (SenOK s) := by unfold SenOK; exact inferInstance

def checkSensor (s : Sen) : Int := if KindOK s then (if RangeOK s then 0 else 2) else 4

/-- what flows n ticks after the beginning -/
def flowAt (r g n : Int) : Int := if n < 0 then 0 else r + n * g
/-- what has flowed in n ticks after the beginning -/
def gainAt (r g n : Int) : Int := if n < 0 then 0 else n * r + g * (n * (n - 1) / 2)
def flowF (r g n : Int) : Int := if KickOK r g ∧ n ≤ 20000 then flowAt r g n else 0
def gainF (r g n : Int) : Int := if KickOK r g ∧ n ≤ 20000 then gainAt r g n else 0
def saysAt (s : Sen) (r g n : Int) : Int := if s.ch = 2 then flowAt r g n else gainAt r g n
def valueF (s : Sen) (r g n e : Int) : Int := if SenOK s ∧ KickOK r g ∧ -s.no ≤ e ∧ e ≤ s.no ∧ n ≤ 20000 then saysAt s r g n + e * s.st else 0

theorem mul_bd {a b A B : Int} (h0 : 0 ≤ a) (h1 : a ≤ A) (h2 : 0 ≤ b) (h3 : b ≤ B) : 0 ≤ a * b ∧ a * b ≤ A * B :=
  ⟨Int.mul_nonneg h0 h2, Int.mul_le_mul h1 h3 h2 (Int.le_trans h0 h1)⟩
theorem mul_one_le {a b : Int} (h0 : 1 ≤ a) (h1 : 1 ≤ b) : 1 ≤ a * b := by
  have := Int.mul_le_mul h0 h1 (by omega) (by omega)
  omega
theorem tri_bd (n : Int) (h0 : 0 ≤ n) (h1 : n ≤ 20000) : 0 ≤ n * (n - 1) ∧ n * (n - 1) ≤ 400000000 ∧ 0 ≤ n * (n - 1) / 2 ∧ n * (n - 1) / 2 ≤ 200000000 := by
  rcases Int.lt_or_le 0 n with h | h
  · have := mul_bd (a := n) (b := n - 1) (A := 20000) (B := 20000) h0 h1 (by omega) (by omega)
    omega
  · obtain rfl : n = 0 := by omega
    simp
theorem gain_bd {r g n : Int} (h : KickOK r g) (hn : n ≤ 20000) : 0 ≤ gainAt r g n ∧ gainAt r g n ≤ 1154744320000 := by
  obtain ⟨h1, h2, h3, h4⟩ := h
  unfold gainAt
  split
  · omega
  · obtain ⟨t1, t2, t3, t4⟩ := tri_bd n (by omega) hn
    obtain ⟨b1, b2⟩ := mul_bd (by omega : 0 ≤ n) hn h1 h2
    obtain ⟨b3, b4⟩ := mul_bd h3 h4 t3 t4
    omega
theorem flow_bd {r g n : Int} (h : KickOK r g) (hn : n ≤ 20000) : 0 ≤ flowAt r g n ∧ flowAt r g n ≤ 98697216 := by
  obtain ⟨h1, h2, h3, h4⟩ := h
  unfold flowAt
  split
  · omega
  · obtain ⟨b1, b2⟩ := mul_bd (by omega : 0 ≤ n) hn h3 h4
    omega
theorem says_bd {s : Sen} {r g n : Int} (h : KickOK r g) (hn : n ≤ 20000) : 0 ≤ saysAt s r g n ∧ saysAt s r g n ≤ 1154744320000 := by
  unfold saysAt
  split
  · have := flow_bd h hn; omega
  · exact gain_bd h hn

/-- The least number of a sample, from a on and within so many tries, that is at least the limit in spite of all noise. -/
def findA (s : Sen) (r g f : Int) : Nat → Nat → Option Nat
  | 0, _ => none
  | k + 1, a => if f + a * s.pe ≤ 10000 then (if s.li ≤ saysAt s r g (f + a * s.pe) - s.no * s.st then some a else findA s r g f k (a + 1)) else none
def firstA (s : Sen) (r g f : Int) : Option Nat := findA s r g f 10001 0
def alarmT (s : Sen) (f a : Int) : Int := f + (a + s.ho * (s.lo + 1) - 1) * s.pe + s.de
/-- The latest alarm over the phases from f on, so many of them. -/
def lateGo (s : Sen) (r g : Int) : Nat → Nat → Int × Int × Int → Option (Int × Int × Int)
  | 0, _, o => some o
  | k + 1, f, o => match firstA s r g f with
    | none => none
    | some a => if 10000 < alarmT s f a then none else lateGo s r g k (f + 1) (if o.1 < alarmT s f a then (alarmT s f a, (f : Int), (a : Int)) else o)
def lateF (s : Sen) (r g : Int) : Option (Int × Int × Int) := lateGo s r g s.pe.toNat 0 (-1, 0, 0)

end Go.Proofs.Ytlbgcjpkegpmlaa
