/- A block of n integers, told by a function. -/
import Derived.Test.YtlbgcjpkegpmlaaM
import Derived.Deep.OwnRows
namespace Go.Proofs.Ytlbgcjpkegpmlaa
open Go.RowKit

def fcells (n : Nat) (F : Nat → Int) : Array Value := ((List.range n).map fun j => Value.int .i64 (F j)).toArray
/-- Block b holds just the n integers F 0, F 1, .. -/
def FB (w : World) (b : Nat) (t : TypeId) (n : Nat) (F : Nat → Int) : Prop := Blk w b t (fcells n F)
section
variable {w w' : World} {b n : Nat} {t : TypeId} {F G : Nat → Int}
theorem FB.lt (h : FB w b t n F) : b < w.heap.size := Blk.lt h
theorem FB.cell (h : FB w b t n F) (i : Nat) (hi : i < n) : w.cell? ⟨b, i, none⟩ = some (.int .i64 (F i)) := Blk.cell h i (by simp [fcells, hi])
theorem FB.froz (h : FB w b t n F) (i : Nat) : w.frozen? ⟨b, i, none⟩ = false := Blk.froz h i
theorem fcells_congr (h : ∀ j, j < n → F j = G j) : fcells n F = fcells n G := by
  unfold fcells
  rw [List.map_congr_left (fun j hj => by rw [h j (by simpa using hj)])]
theorem FB.congr (h : FB w b t n F) (hg : ∀ j, j < n → F j = G j) : FB w b t n G := by
  unfold FB at h ⊢
  rwa [← fcells_congr hg]
theorem fcells_set (i : Nat) (x : Int) : (fcells n F).setIfInBounds i (.int .i64 x) = fcells n fun j => if j = i then x else F j := by
  apply Array.ext_getElem?
  intro j
  simp only [fcells, List.setIfInBounds_toArray, List.getElem?_toArray, List.getElem?_set, List.length_map, List.length_range, List.getElem?_map]
  by_cases hj : j < n
  · by_cases e : i = j
    · subst e; simp [hj]
    · have e' : ¬ j = i := fun h => e h.symm
      simp [hj, e, e']
  · by_cases e : i = j
    · subst e; simp [hj]
    · simp [hj, e]
theorem FB.put (h : FB w b t n F) (i : Nat) (x : Int) : FB (w.setCell ⟨b, i, none⟩ (.int .i64 x)) b t n fun j => if j = i then x else F j := by
  have := Blk.put h i (.int .i64 x)
  rw [fcells_set] at this
  exact this
theorem FB.far (h : FB w b t n F) {p : Addr} (hp : b ≠ p.block) (u : Value) : FB (w.setCell p u) b t n F := Blk.far h hp u
theorem FB.alloc (h : FB w b t n F) (o : Obj) : FB (w.alloc o) b t n F := Blk.alloc h o
theorem FB.below (h : FB w b t n F) (hb : Below w.heap.size w w') : FB w' b t n F := Blk.below h hb
end
theorem fcells9 (F : Nat → Int) : fcells 9 F = #[.int .i64 (F 0), .int .i64 (F 1), .int .i64 (F 2), .int .i64 (F 3), .int .i64 (F 4), .int .i64 (F 5), .int .i64 (F 6), .int .i64 (F 7), .int .i64 (F 8)] := by
  simp [fcells, List.range, List.range.loop]
theorem FB.new9 (w : World) (t : TypeId) (F : Nat → Int) : FB (w.alloc (.cells #[.int .i64 (F 0), .int .i64 (F 1), .int .i64 (F 2), .int .i64 (F 3), .int .i64 (F 4), .int .i64 (F 5), .int .i64 (F 6), .int .i64 (F 7), .int .i64 (F 8)] t)) w.heap.size t 9 F := by
  rw [← fcells9]; exact Blk.new w t _
theorem FB.cells9 {w : World} {b : Nat} {t : TypeId} {F : Nat → Int} (h : FB w b t 9 F) :
    w.cell? ⟨b, 0, none⟩ = some (.int .i64 (F 0)) ∧ w.cell? ⟨b, 1, none⟩ = some (.int .i64 (F 1)) ∧ w.cell? ⟨b, 2, none⟩ = some (.int .i64 (F 2)) ∧ w.cell? ⟨b, 3, none⟩ = some (.int .i64 (F 3)) ∧ w.cell? ⟨b, 4, none⟩ = some (.int .i64 (F 4)) ∧
    w.cell? ⟨b, 5, none⟩ = some (.int .i64 (F 5)) ∧ w.cell? ⟨b, 6, none⟩ = some (.int .i64 (F 6)) ∧ w.cell? ⟨b, 7, none⟩ = some (.int .i64 (F 7)) ∧ w.cell? ⟨b, 8, none⟩ = some (.int .i64 (F 8)) :=
  ⟨h.cell 0 (by omega), h.cell 1 (by omega), h.cell 2 (by omega), h.cell 3 (by omega), h.cell 4 (by omega), h.cell 5 (by omega), h.cell 6 (by omega), h.cell 7 (by omega), h.cell 8 (by omega)⟩
theorem FB.put9 {w : World} {b : Nat} {t : TypeId} {F G : Nat → Int} (h : FB w b t 9 F) :
    FB (((((((((w.setCell ⟨b, 0, none⟩ (.int .i64 (G 0))).setCell ⟨b, 1, none⟩ (.int .i64 (G 1))).setCell ⟨b, 2, none⟩ (.int .i64 (G 2))).setCell ⟨b, 3, none⟩ (.int .i64 (G 3))).setCell ⟨b, 4, none⟩ (.int .i64 (G 4))).setCell ⟨b, 5, none⟩ (.int .i64 (G 5))).setCell ⟨b, 6, none⟩ (.int .i64 (G 6))).setCell ⟨b, 7, none⟩ (.int .i64 (G 7))).setCell ⟨b, 8, none⟩ (.int .i64 (G 8))) b t 9 G :=
  (((((((((h.put 0 (G 0)).put 1 (G 1)).put 2 (G 2)).put 3 (G 3)).put 4 (G 4)).put 5 (G 5)).put 6 (G 6)).put 7 (G 7)).put 8 (G 8)).congr fun j hj => by
    have : j = 0 ∨ j = 1 ∨ j = 2 ∨ j = 3 ∨ j = 4 ∨ j = 5 ∨ j = 6 ∨ j = 7 ∨ j = 8 := by omega
    rcases this with rfl | rfl | rfl | rfl | rfl | rfl | rfl | rfl | rfl <;> simp
theorem Blk.far9 {w : World} {b c : Nat} {t : TypeId} {cs : Array Value} {x0 x1 x2 x3 x4 x5 x6 x7 x8 : Value} (h : Blk w b t cs) (hc : b ≠ c) :
    Blk (((((((((w.setCell ⟨c, 0, none⟩ x0).setCell ⟨c, 1, none⟩ x1).setCell ⟨c, 2, none⟩ x2).setCell ⟨c, 3, none⟩ x3).setCell ⟨c, 4, none⟩ x4).setCell ⟨c, 5, none⟩ x5).setCell ⟨c, 6, none⟩ x6).setCell ⟨c, 7, none⟩ x7).setCell ⟨c, 8, none⟩ x8) b t cs :=
  ((((((((h.far hc _).far hc _).far hc _).far hc _).far hc _).far hc _).far hc _).far hc _).far hc _
theorem below9 {w w1 : World} {c : Nat} {x0 x1 x2 x3 x4 x5 x6 x7 x8 : Value} (h : Below w.heap.size w w1) (hc : w.heap.size ≤ c) :
    Below w.heap.size w (((((((((w1.setCell ⟨c, 0, none⟩ x0).setCell ⟨c, 1, none⟩ x1).setCell ⟨c, 2, none⟩ x2).setCell ⟨c, 3, none⟩ x3).setCell ⟨c, 4, none⟩ x4).setCell ⟨c, 5, none⟩ x5).setCell ⟨c, 6, none⟩ x6).setCell ⟨c, 7, none⟩ x7).setCell ⟨c, 8, none⟩ x8) :=
  ((((((((h.setCell hc _).setCell hc _).setCell hc _).setCell hc _).setCell hc _).setCell hc _).setCell hc _).setCell hc _).setCell hc _
theorem fcells_made (n : Nat) : madeCells #[.int .i64 0] n = fcells n fun _ => 0 := by
  apply Array.ext_getElem?
  intro i
  by_cases h : i < n
  · simp [madeCells, fcells, h, Nat.mod_one]
  · simp [madeCells, fcells, h]
/-- make of n integers, of whatever type: the block that is made, and that nothing else has turned. -/
theorem make_ints {P : Program} {t e : TypeId} {bytes : Nat} (ht : P.underlying t = some (.slice e)) (hi : (P.info? e).map (fun i => (i.zero, i.size, i.bytes)) = some (some (.int .i64 0), 1, bytes)) (kl kc : IntKind) (n : Nat) (hb : bytes * n ≤ 281474976710656) (hn : n ≤ 9223372036854775807) (w : World) :
    ∃ w', (Instr.makeSlice t (.int kl (n : Int)) (.int kc (n : Int))).run P w = .ok (.slice (some ⟨w.heap.size, 0, none⟩) n n) w' ∧ FB w' w.heap.size e n (fun _ => 0) ∧ Below w.heap.size w w' ∧ w'.heap.size = w.heap.size + 1 :=
  ⟨_, run_make_row' t e (.int .i64 0) bytes ht hi rfl kl kc n hb hn w, by rw [fcells_made]; exact Blk.new w e _, balloc (Below.refl _ _), by simp⟩
end Go.Proofs.Ytlbgcjpkegpmlaa
