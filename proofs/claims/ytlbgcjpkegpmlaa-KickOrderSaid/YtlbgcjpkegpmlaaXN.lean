/- A slice of integers among the arguments. -/
import Derived.Test.YtlbgcjpkegpmlaaEz
import Derived.Test.YtlbgcjpkegpmlaaR
namespace Go.Proofs.Ytlbgcjpkegpmlaa
open Go.RowKit
theorem kinds_int : kinds Try.prog 3 = some [.int] := by kernel_rfl
theorem rep_nums {W : World} {A : Option Addr} {n c : Nat} (h : NumsAt W W.heap.size A n) : ∃ rows, LRep Try.prog W (fun _ _ => False) (.arr 3) (.slice A n c) (.s (.slice A n c) rows) := by
  obtain ⟨h1, h2⟩ := h
  by_cases hn : n = 0
  · subst hn
    refine ⟨[], fun m => ?_, rfl, .slice A 0 c, [], rfl, 1, fun _ _ => False, fun _ _ h => h.elim, [.int], kinds_int, A, c, rfl, fun h => absurd rfl h⟩
    cases m with
    | zero => trivial
    | succ m => exact ⟨by simp, fun r hr => by cases hr⟩
  · obtain ⟨d, o, rfl, hd, hx⟩ := h2 (by omega)
    let xs : Nat → Int := fun i => if h : i < n then (hx i h).choose else 0
    have hxs : ∀ i, i < n → W.cell? ⟨d, o + i, none⟩ = some (.int .i64 (xs i)) ∧ -9223372036854775808 ≤ xs i ∧ xs i ≤ 9223372036854775807 := fun i hi => by
      have := (hx i hi).choose_spec
      simp only [xs, dif_pos hi]; exact this
    let rows : List (List C) := (List.range n).map fun i => [.i (xs i)]
    have hlen : rows.length = n := by simp [rows]
    refine ⟨rows, fun m => ?_, rfl, .slice (some ⟨d, o, none⟩) n c, rows, rfl, 1, fun b _ => b < W.heap.size, fun b o h => ⟨h, fun h => h⟩, [.int], kinds_int, some ⟨d, o, none⟩, c, by rw [hlen], fun _ => ⟨d, o, rfl, fun i r hi => ?_⟩⟩
    · cases m with
      | zero => trivial
      | succ m =>
        refine ⟨by rw [hlen]; omega, fun r hr c hc => ?_⟩
        obtain ⟨i, hi, rfl⟩ := List.mem_map.1 hr
        rw [List.mem_singleton] at hc
        subst hc
        have := hxs i (List.mem_range.1 hi)
        cases m <;> exact ⟨this.2.1, this.2.2⟩
    · simp only [rows, List.getElem?_map, Option.map_eq_some_iff] at hi
      obtain ⟨k, hk, rfl⟩ := hi
      have hi' : i < n := by
        rcases Nat.lt_or_ge i n with h | h
        · exact h
        · rw [List.getElem?_eq_none (by simpa using h)] at hk; cases hk
      rw [List.getElem?_range hi'] at hk
      cases hk
      refine ⟨rfl, fun j k hj => ?_⟩
      match j, hj with
      | 0, hj =>
        cases hj
        refine ⟨hd, .int .i64 (xs i), .i (xs i), ?_, rfl, xs i, rfl, rfl⟩
        simpa using (hxs i hi').1
theorem rep_arr {W : World} {O : Nat → Nat → Prop} {ss : List Sh0} {vs : List Value} {cs : List C} {t : TypeId} {v : Value} {c : C} {old : Option Nat} (h : LRep Try.prog W O (.arr t) v c) (hr : Reps Try.prog W O old ss vs cs) :
    Reps Try.prog W O old (.lf (.arr t) :: ss) (v :: vs) (c :: cs) :=
  ⟨[_], _, rfl, ⟨_, rfl, h⟩, hr⟩
end Go.Proofs.Ytlbgcjpkegpmlaa
