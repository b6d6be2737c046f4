/- The law HouseChance: for every input the call returns true, and each argument reads afterwards as it read before. The frame is printed by frame.py. -/
import Derived.Test.YtbgofenplhdllaaChance7
import Derived.Test.YtbgofenplhdllaaRows
import Derived.ShutString
import Derived.ChangeOld
/- House: the wild well: plain law. -/
namespace Go.Proofs.Ytbgofenplhdllaa
open Go.RowKit
set_option linter.unusedSimpArgs false
set_option linter.unusedVariables false

/-- The place of a state. -/
def ix (T v c : Nat) : Nat := v * (T + 1) + c
def wildM (L R T i : Nat) : List Int :=
  if i % (T + 1) = T then [(i : Int), (i : Int)] else [((ix T (min L (i / (T + 1) + R)) (i % (T + 1)) : Nat) : Int), ((ix T (min L (i / (T + 1) + R)) (i % (T + 1) + 1) : Nat) : Int)]
def wildB (L R T : Nat) : Blow := ⟨(List.range ((L + 1) * (T + 1))).map fun i => decide (i / (T + 1) = L), (List.range ((L + 1) * (T + 1))).map (wildM L R T)⟩
theorem ix_lt {L T v c : Nat} (hv : v ≤ L) (hc : c ≤ T) : ix T v c < (L + 1) * (T + 1) := by
  have h1 : v * (T + 1) ≤ L * (T + 1) := Nat.mul_le_mul_right _ hv
  have h2 : (L + 1) * (T + 1) = L * (T + 1) + (T + 1) := by rw [Nat.add_mul, Nat.one_mul]
  unfold ix; omega
theorem ix_div {T v c : Nat} (hc : c ≤ T) : ix T v c / (T + 1) = v := by
  unfold ix
  rw [Nat.mul_comm, Nat.mul_add_div (Nat.succ_pos _), Nat.div_eq_of_lt (by omega), Nat.add_zero]
theorem ix_mod {T v c : Nat} (hc : c ≤ T) : ix T v c % (T + 1) = c := by
  unfold ix
  rw [Nat.mul_comm, Nat.mul_add_mod, Nat.mod_eq_of_lt (by omega)]
theorem ix_of (T i : Nat) : ix T (i / (T + 1)) (i % (T + 1)) = i := by
  unfold ix
  rw [Nat.mul_comm]; exact Nat.div_add_mod i (T + 1)
theorem wild_len (L R T : Nat) : (wildB L R T).lost.length = (L + 1) * (T + 1) := by simp [wildB]
theorem wild_mlen (L R T : Nat) : (wildB L R T).moves.length = (L + 1) * (T + 1) := by simp [wildB]
theorem wild_lost {L R T i : Nat} (h : i < (L + 1) * (T + 1)) : (wildB L R T).lost.getD i false = decide (i / (T + 1) = L) := by
  simp [wildB, List.getD_eq_getElem?_getD, h]
theorem wild_moves {L R T i : Nat} (h : i < (L + 1) * (T + 1)) : (wildB L R T).moves.getD i [] = wildM L R T i := by
  simp [wildB, List.getD_eq_getElem?_getD, h]
theorem leads_two (S : List Bool) (a b : Nat) : leads S [(a : Int), (b : Int)] = (S.getD a false || S.getD b false) := by
  simp [leads]
theorem wild_le {L T i : Nat} (h : i < (L + 1) * (T + 1)) : i / (T + 1) ≤ L ∧ i % (T + 1) ≤ T := by
  have h1 : i / (T + 1) < L + 1 := Nat.div_lt_of_lt_mul (by rw [Nat.mul_comm]; exact h)
  have h2 : i % (T + 1) < T + 1 := Nat.mod_lt i (Nat.succ_pos T)
  omega
theorem wild_fwd {L R T : Nat} (hR : 1 ≤ R) : ∀ (m v c : Nat), (T - c) + (L - v) ≤ m → v ≤ L → c ≤ T → (safeF (wildB L R T)).getD (ix T v c) false = true → v + (T - c) * R < L := by
  intro m
  induction m with
  | zero =>
    intro v c hm hv hc h
    have h := safeF_iff.1 h
    rw [wild_lost (ix_lt hv hc), ix_div hc] at h
    have := h.2.2
    simp at this
    omega
  | succ m ih =>
    intro v c hm hv hc h
    have h := safeF_iff.1 h
    rw [wild_lost (ix_lt hv hc), ix_div hc, wild_moves (ix_lt hv hc)] at h
    obtain ⟨-, h1, h2⟩ := h
    have h2 : v ≠ L := by simpa using h2
    unfold wildM at h1
    rw [ix_mod hc, ix_div hc] at h1
    by_cases hcT : c = T
    · subst hcT; simp; omega
    · rw [if_neg hcT, leads_two, Bool.or_eq_true] at h1
      rcases h1 with h1 | h1
      · have := ih (min L (v + R)) c (by omega) (by omega) hc h1
        generalize (T - c) * R = X at *
        omega
      · have := ih (min L (v + R)) (c + 1) (by omega) (by omega) (by omega) h1
        have e : (T - c) * R = (T - (c + 1)) * R + R := by rw [show T - c = (T - (c + 1)) + 1 by omega, Nat.add_mul, Nat.one_mul]
        rw [e]
        generalize (T - (c + 1)) * R = X at *
        omega
theorem wild_bwd {L R T v c : Nat} (hv : v ≤ L) (hc : c ≤ T) (h : v + (T - c) * R < L) : (safeF (wildB L R T)).getD (ix T v c) false = true := by
  refine safeF_top (S := (List.range ((L + 1) * (T + 1))).map fun i => decide (i / (T + 1) + (T - i % (T + 1)) * R < L)) (fun i hi => ?_) _ ?_
  · rw [wild_len]
    rcases Nat.lt_or_ge i ((L + 1) * (T + 1)) with hlt | hge
    · obtain ⟨l1, l2⟩ := wild_le hlt
      have hi' : i / (T + 1) + (T - i % (T + 1)) * R < L := by simpa [List.getD_eq_getElem?_getD, hlt] using hi
      refine ⟨hlt, ?_, by rw [wild_lost hlt]; simp; omega⟩
      rw [wild_moves hlt]
      unfold wildM
      generalize hvv : i / (T + 1) = v at *
      generalize hcc : i % (T + 1) = c at *
      by_cases hcT : c = T
      · rw [if_pos hcT, leads_two, hi]; rfl
      · rw [if_neg hcT, leads_two]
        have e : (T - c) * R = (T - (c + 1)) * R + R := by rw [show T - c = (T - (c + 1)) + 1 by omega, Nat.add_mul, Nat.one_mul]
        rw [e] at hi'
        have hm : min L (v + R) = v + R := by omega
        rw [hm]
        have hlt2 : ix T (v + R) (c + 1) < (L + 1) * (T + 1) := ix_lt (by omega) (by omega)
        rw [Bool.or_eq_true]
        right
        simp only [List.getD_eq_getElem?_getD, List.getElem?_map, List.getElem?_range, hlt2, if_true, Option.map_some, Option.getD_some]
        rw [ix_div (by omega), ix_mod (by omega)]
        generalize (T - (c + 1)) * R = X at *
        simp; omega
    · rw [List.getD_eq_getElem?_getD, List.getElem?_eq_none (by simpa using hge)] at hi
      cases hi
  · have hlt := ix_lt (L := L) hv hc
    simp only [List.getD_eq_getElem?_getD, List.getElem?_map, List.getElem?_range, hlt, if_true, Option.map_some, Option.getD_some]
    rw [ix_div hc, ix_mod hc]
    simpa using h
theorem wild_safe {L R T v c : Nat} (hR : 1 ≤ R) (hv : v ≤ L) (hc : c ≤ T) : (safeF (wildB L R T)).getD (ix T v c) false = decide (v + (T - c) * R < L) := by
  by_cases h : v + (T - c) * R < L
  · rw [decide_eq_true h]; exact wild_bwd hv hc h
  · rw [decide_eq_false h]
    cases hb : (safeF (wildB L R T)).getD (ix T v c) false with
    | false => rfl
    | true => exact absurd (wild_fwd hR _ v c (Nat.le_refl _) hv hc hb) h
end Go.Proofs.Ytbgofenplhdllaa
/- House: the way from a state: plain law. -/
namespace Go.Proofs.Ytbgofenplhdllaa
open Go.RowKit
set_option linter.unusedSimpArgs false
set_option linter.unusedVariables false

/-- The first move that is safe. -/
def nextW (S : List Bool) (l : List Int) : Int := (l.find? fun k => S.getD k.toNat false).getD 0
def wayGo (M : List (List Int)) (S : List Bool) : Nat → List Int → Int → List Int
  | 0, out, s => out
  | n + 1, out, s => if out.contains s = true then out ++ [s] else wayGo M S n (out ++ [s]) (nextW S (M.getD s.toNat []))
def wayV (b : Blow) (s : Int) : List Int :=
  if 0 ≤ s ∧ s < (safeV b).length ∧ (safeV b).getD s.toNat false = true then wayGo b.moves (safeV b) (b.lost.length + 1) [] s else []
theorem wayGo_met {M : List (List Int)} {S : List Bool} {n : Nat} {out : List Int} {s : Int} (h : out.contains s = true) : wayGo M S (n + 1) out s = out ++ [s] := by rw [wayGo, if_pos h]
theorem wayGo_on {M : List (List Int)} {S : List Bool} {n : Nat} {out : List Int} {s : Int} (h : out.contains s = false) : wayGo M S (n + 1) out s = wayGo M S n (out ++ [s]) (nextW S (M.getD s.toNat [])) := by rw [wayGo, if_neg (by rw [h]; simp)]
theorem nodup_le : ∀ (n : Nat) (l : List Int), l.Nodup → (∀ x ∈ l, 0 ≤ x ∧ x < n) → l.length ≤ n
  | 0, l, _, h => by
    cases l with
    | nil => exact Nat.le_refl _
    | cons x l => have := h x (List.mem_cons_self ..); omega
  | n + 1, l, hn, h => by
    have h1 := nodup_le n (l.filter fun x => decide (x ≠ (n : Int))) (hn.sublist List.filter_sublist) fun x hx => by
      simp at hx
      have := h x hx.1
      omega
    have h2 : l.length = (l.filter fun x => decide (x ≠ (n : Int))).length + (l.filter fun x => !decide (x ≠ (n : Int))).length := by
      rw [← List.countP_eq_length_filter, ← List.countP_eq_length_filter]
      refine (List.length_eq_countP_add_countP (fun x : Int => decide (x ≠ (n : Int)))).trans ?_
      congr 1
      exact List.countP_congr fun x _ => by simp
    have h3 : (l.filter fun x => !decide (x ≠ (n : Int))).length ≤ 1 := by
      have hc := List.nodup_iff_count.1 hn (n : Int)
      rw [← List.countP_eq_length_filter]
      have : l.countP (fun x => !decide (x ≠ (n : Int))) = l.count (n : Int) := by
        unfold List.count
        exact List.countP_congr fun x _ => by simp
      omega
    omega
/-- What a way has when a state comes. -/
structure WayAt (b : Blow) (i : Int) (out : List Int) (s : Int) : Prop where
  nodup : out.Nodup
  inn : ∀ x ∈ out, 0 ≤ x ∧ x < b.lost.length ∧ (safeV b).getD x.toNat false = true
  s0 : 0 ≤ s ∧ s < b.lost.length ∧ (safeV b).getD s.toNat false = true
  chain : ∀ k : Nat, k < out.length → (k = 0 → out.getD 0 0 = i) ∧ (0 < k → out.getD k 0 ∈ b.moves.getD (out.getD (k - 1) 0).toNat [])
  last : (out = [] → s = i) ∧ (0 < out.length → s ∈ b.moves.getD (out.getD (out.length - 1) 0).toNat [])
theorem WayAt.len {b : Blow} {i s : Int} {out : List Int} (h : WayAt b i out s) : out.length ≤ b.lost.length := nodup_le _ _ h.nodup fun x hx => ⟨(h.inn x hx).1, (h.inn x hx).2.1⟩
theorem nextW_spec {b : Blow} (hc : checkV b = 0) {s : Int} (h0 : 0 ≤ s) (hs : (safeV b).getD s.toNat false = true) : nextW (safeV b) (b.moves.getD s.toNat []) ∈ b.moves.getD s.toNat [] ∧ 0 ≤ nextW (safeV b) (b.moves.getD s.toNat []) ∧ nextW (safeV b) (b.moves.getD s.toNat []) < b.lost.length ∧ (safeV b).getD (nextW (safeV b) (b.moves.getD s.toNat [])).toNat false = true := by
  rw [safeV_ok hc] at *
  obtain ⟨h1, h2, h3⟩ := safeF_iff.1 hs
  obtain ⟨k, hk, hk2⟩ := List.any_eq_true.1 h2
  have hat := check_at hc h1
  cases hf : (b.moves.getD s.toNat []).find? (fun k => (safeF b).getD k.toNat false) with
  | none => rw [List.find?_eq_none] at hf; exact absurd hk2 (hf k hk)
  | some x =>
    have hm := List.mem_of_find?_eq_some hf
    have hp := List.find?_some hf
    have e : nextW (safeF b) (b.moves.getD s.toNat []) = x := by unfold nextW; rw [hf]; rfl
    rw [e]
    have := hat.2.2 x hm
    exact ⟨hm, this.1, this.2, hp⟩
theorem getD_app {α : Type} {l : List α} {x d : α} {k : Nat} : (l ++ [x]).getD k d = if k < l.length then l.getD k d else if k = l.length then x else d := by
  simp only [List.getD_eq_getElem?_getD]
  split
  · rename_i h; rw [List.getElem?_append_left h]
  · rename_i h
    rw [List.getElem?_append_right (by omega)]
    split
    · rename_i h2; subst h2; simp
    · rename_i h2; rw [List.getElem?_eq_none (by simp; omega)]; rfl
theorem WayAt.step {b : Blow} (hc : checkV b = 0) {i s : Int} {out : List Int} (h : WayAt b i out s) (hn : out.contains s = false) : WayAt b i (out ++ [s]) (nextW (safeV b) (b.moves.getD s.toNat [])) := by
  obtain ⟨n1, n2, n3, n4⟩ := nextW_spec hc h.s0.1 h.s0.2.2
  refine ⟨List.nodup_append.2 ⟨h.nodup, by simp, fun a ha c hc' e => ?_⟩, fun x hx => ?_, ⟨n2, n3, n4⟩, fun k hk => ?_, fun h' => by simp at h', fun _ => ?_⟩
  · simp at hc'; subst hc'; subst e
    rw [List.contains_eq_mem, decide_eq_false_iff_not] at hn
    exact hn ha
  · rcases List.mem_append.1 hx with hx | hx
    · exact h.inn x hx
    · simp at hx; subst hx; exact h.s0
  · simp only [List.length_append, List.length_cons, List.length_nil] at hk
    refine ⟨fun hk0 => ?_, fun hk0 => ?_⟩
    · subst hk0
      rw [getD_app]
      split
      · rename_i hl; exact (h.chain 0 hl).1 rfl
      · rename_i hl
        have : out = [] := List.length_eq_zero_iff.1 (by omega)
        rw [if_pos (by omega)]; exact h.last.1 this
    · rw [getD_app, getD_app]
      rw [if_pos (show k - 1 < out.length by omega)]
      split
      · rename_i hl; exact (h.chain k hl).2 hk0
      · rename_i hl
        rw [if_pos (by omega), show k = out.length by omega]
        exact h.last.2 (by omega)
  · simp only [List.length_append, List.length_cons, List.length_nil, Nat.zero_add, Nat.add_sub_cancel]
    rw [getD_app, if_neg (by omega), if_pos rfl]
    exact n1
/-- What a way has at its end. -/
structure WayEnd (b : Blow) (i : Int) (w : List Int) : Prop where
  len : 1 < w.length
  inn : ∀ x ∈ w, 0 ≤ x ∧ x < b.lost.length ∧ b.lost.getD x.toNat false = false
  chain : ∀ k : Nat, k < w.length → (k = 0 → w.getD 0 0 = i) ∧ (0 < k → w.getD k 0 ∈ b.moves.getD (w.getD (k - 1) 0).toNat [])
  last : w.getD (w.length - 1) 0 ∈ w.take (w.length - 1)
theorem wayGo_end {b : Blow} (hc : checkV b = 0) {i : Int} : ∀ (n : Nat) (out : List Int) (s : Int), n + out.length = b.lost.length + 1 → WayAt b i out s → WayEnd b i (wayGo b.moves (safeV b) n out s)
  | 0, out, s, hn, h => by have := h.len; omega
  | n + 1, out, s, hn, h => by
    by_cases hm : out.contains s = true
    · rw [wayGo_met hm]
      have hmem : s ∈ out := by rw [List.contains_eq_mem] at hm; exact of_decide_eq_true hm
      have hpos : 0 < out.length := List.length_pos_of_mem hmem
      have hl : ∀ x : Int, (safeV b).getD x.toNat false = true → b.lost.getD x.toNat false = false := fun x hx => by rw [safeV_ok hc] at hx; exact (safeF_iff.1 hx).2.2
      refine ⟨by simp; omega, fun x hx => ?_, fun k hk => ?_, ?_⟩
      · rcases List.mem_append.1 hx with hx | hx
        · have := h.inn x hx; exact ⟨this.1, this.2.1, hl x this.2.2⟩
        · simp at hx; subst hx; exact ⟨h.s0.1, h.s0.2.1, hl _ h.s0.2.2⟩
      · simp only [List.length_append, List.length_cons, List.length_nil] at hk
        refine ⟨fun hk0 => ?_, fun hk0 => ?_⟩
        · rw [getD_app, if_pos hpos]; exact (h.chain 0 hpos).1 rfl
        · rw [getD_app, getD_app, if_pos (show k - 1 < out.length by omega)]
          split
          · rename_i hl; exact (h.chain k hl).2 hk0
          · rename_i hl
            rw [if_pos (by omega), show k = out.length by omega]
            exact h.last.2 hpos
      · simp only [List.length_append, List.length_cons, List.length_nil, Nat.zero_add, Nat.add_sub_cancel, List.take_left]
        rw [getD_app, if_neg (by omega), if_pos rfl]
        exact hmem
    · have hm : out.contains s = false := by simpa using hm
      rw [wayGo_on hm]
      exact wayGo_end hc n _ _ (by simp; omega) (h.step hc hm)
theorem WayAt.start {b : Blow} {i : Int} (h : 0 ≤ i ∧ i < b.lost.length ∧ (safeV b).getD i.toNat false = true) : WayAt b i [] i :=
  ⟨List.nodup_nil, fun x hx => (by cases hx), h, fun k hk => (by simp at hk), fun _ => rfl, fun h => (by simp at h)⟩
theorem safeV_lt {b : Blow} {i : Nat} (h : (safeV b).getD i false = true) : checkV b = 0 ∧ i < b.lost.length := by
  by_cases hc : checkV b = 0
  · rw [safeV_ok hc] at h; exact ⟨hc, (safeF_iff.1 h).1⟩
  · rw [safeV_no hc] at h; cases h
theorem way_end {b : Blow} {i : Int} (h0 : 0 ≤ i) (h : (safeV b).getD i.toNat false = true) : WayEnd b i (wayV b i) := by
  obtain ⟨hc, hl⟩ := safeV_lt h
  have hlen : (safeV b).length = b.lost.length := by rw [safeV_ok hc, safeF_len]
  unfold wayV
  rw [if_pos ⟨h0, by omega, h⟩]
  exact wayGo_end hc _ _ _ (by simp) (.start ⟨h0, by omega, h⟩)
theorem way_none {b : Blow} {i : Int} (h : ¬ ((safeV b).getD i.toNat false = true ∧ 0 ≤ i)) : wayV b i = [] := by
  unfold wayV
  rw [if_neg fun hc => h ⟨hc.2.2, hc.1⟩]
end Go.Proofs.Ytbgofenplhdllaa
/- House: contracts, more of them: the wild well, ways, comparisons. -/
namespace Go.Proofs.Ytbgofenplhdllaa
set_option linter.unusedVariables false

def wildV (l r t : Int) : Blow × Int :=
  if 1 ≤ l ∧ l ≤ 15 ∧ 1 ≤ r ∧ r ≤ 15 ∧ 0 ≤ t ∧ t ≤ 3 then (if 64 < (l + 1) * (t + 1) then (⟨[], []⟩, 8) else (wildB l.toNat r.toNat t.toNat, 0)) else (⟨[], []⟩, 2)
def ctWild : Ct := ⟨[.lf .int, .lf .int, .lf .int], [.agg [.vec 4, .vec 35], .lf .int], fun _ => True, fun cs rs => blowOf rs = (wildV (n_ cs 0) (n_ cs 1) (n_ cs 2)).1 ∧ at_ rs 2 = .i (wildV (n_ cs 0) (n_ cs 1) (n_ cs 2)).2, false⟩
def ctSameLists : Ct := ctF [.lf (.arr 35), .lf (.arr 35)] [.lf .bool] (fun _ => True) (fun cs => [.b (intss (at_ cs 0).rows == intss (at_ cs 1).rows)])
def ctSameInts : Ct := ctF [intsSh, intsSh] [.lf .bool] (fun _ => True) (fun cs => [.b (ints (at_ cs 0).rows == ints (at_ cs 1).rows)])
def ctHas : Ct := ctF [intsSh, .lf .int] [.lf .bool] (fun _ => True) (fun cs => [.b ((ints (at_ cs 0).rows).contains (n_ cs 1))])
def ctWay : Ct := ⟨[blowSh, .lf .int], [.lf (.vec 3)], fun _ => True, fun cs rs => ∃ v, rs = [.s v (ofInts (wayV (blowOf cs) (n_ cs 2)))], false⟩
/-- A blow-out that is valid, of 1 to 12 states. -/
def ctBlowL : Ct := ⟨[intsSh], [.agg [.vec 4, .vec 35]], fun _ => True, fun _ rs => checkV (blowOf rs) = 0 ∧ (blowOf rs).lost.length ≤ 12, false⟩
def tab2 : Tab where
  ct := fun f => match f with
    | 9 | 10 => some ctWild
    | 11 => some ctSameLists
    | 20 => some ctSameInts
    | 24 => some ctHas
    | 21 | 22 => some ctWay
    | 23 => some ctBlowL
    | f => tab.ct f
  inl := tab.inl
  sel := tab.sel
theorem up_ok {f : Nat} (h : tab.ok f) (he : tab2.ct f = tab.ct f := by rfl) : tab2.ok f :=
  ⟨h.1, fun ct hc => h.2.1 ct (he ▸ hc), h.2.2.1, h.2.2.2⟩
end Go.Proofs.Ytbgofenplhdllaa
/- House: contracts for HouseChance. -/
namespace Go.Proofs.Ytbgofenplhdllaa
set_option linter.unusedVariables false

/-- The numbers that a blow-out is made of. -/
def ctAt : Ct := ⟨[.lf .int, .box 35 [.arr 3]], [.lf .int], fun cs => 0 ≤ n_ cs 0 ∧ n_ cs 0 ≤ 1000, fun _ rs => 0 ≤ n_ rs 0, false⟩
def ctWayA : Ct := { ctWay with res := [.lf (.arr 3)] }
def ctBlowA : Ct := { ctBlowL with res := [.agg [.arr 4, .arr 35]] }
def tab3 : Tab where
  ct := fun f => match f with
    | 21 => some ctWayA
    | 43 => some ctAt
    | f => tab2.ct f
  inl := tab2.inl
  sel := tab2.sel
theorem up3_ok {f : Nat} (h : tab2.ok f) (he : tab3.ct f = tab2.ct f := by rfl) : tab3.ok f :=
  ⟨h.1, fun ct hc => h.2.1 ct (he ▸ hc), h.2.2.1, h.2.2.2⟩
end Go.Proofs.Ytbgofenplhdllaa
/- House: contracts for HouseChance, as the law calls them. -/
namespace Go.Proofs.Ytbgofenplhdllaa
set_option linter.unusedVariables false

def tab4 : Tab where
  ct := fun f => match f with
    | 23 => some ctBlowA
    | f => tab3.ct f
  inl := tab3.inl
  sel := tab3.sel
theorem up4_ok {f : Nat} (h : tab3.ok f) (he : tab4.ct f = tab3.ct f := by rfl) : tab4.ok f :=
  ⟨h.1, fun ct hc => h.2.1 ct (he ▸ hc), h.2.2.1, h.2.2.2⟩
end Go.Proofs.Ytbgofenplhdllaa
/- What is to be shown of each function, as the executor has it. Printed by trees.py. -/
namespace Go.Proofs.Ytbgofenplhdllaa
noncomputable def cnchance : Cx := tab4.only [23, 13, 14, 16, 21, 24, 18, 12] (fun _ => []) [] 0 [] (fun r => match r with
  | 50018 => some ([(11, true, [.bool])], [])
  | 50019 => some ([(95, true, [.bool])], [])
  | 50027 => some ([(168, true, [.bool])], [])
  | 50029 => some ([(186, true, [.bool])], [])
  | 50032 => some ([(221, true, [.bool])], [])
  | 50037 => some ([(243, true, [.bool])], [])
  | _ => none)
def tnchance_1 : Tree :=
  (.arr [[(.int (.var 9))]] (.ob (.cmp .le (.mul (.add (.len (.var 7)) (.len (.var 10))) (.lit 8)) (.lit 140737488355328)) (.cat (.var 7) (.var 10) (.back 0 [(.cnt 3 (.var 11)), (.int (.add (.var 8) (.lit 1)))]))))
def tnchance_2 : Tree :=
  (.ob (.cmp .lt (.var 12) (.len (.var 9))) (.split (.not (.beq (.of (.cell (.var 9) (.var 12) 0)) (.cmp .lt (.lit 1) (.len (.var 16))))) (.ret [(.bool (.lit false))]) (.loop [.bool, .int] [(.bool (.of (.var 11))), (.int (.lit 0))] (.split (.cmp .lt (.var 18) (.len (.var 16))) (.join [.bool] (.ob (.cmp .le (.lit 0) (.var 18)) (.ob (.cmp .lt (.var 18) (.len (.var 16))) (.split (.cmp .lt (.cell (.var 16) (.var 18) 0) (.lit 0)) (.back 5 [(.bool (.lit true))]) (.ob (.cmp .lt (.var 18) (.len (.var 16))) (.split (.cmp .le (.len (.var 2)) (.cell (.var 16) (.var 18) 0)) (.back 5 [(.bool (.lit true))]) (.ob (.cmp .lt (.var 18) (.len (.var 16))) (.ob (.cmp .le (.lit 0) (.cell (.var 16) (.var 18) 0)) (.ob (.cmp .lt (.cell (.var 16) (.var 18) 0) (.len (.var 2))) (.split (.of (.cell (.var 2) (.cell (.var 16) (.var 18) 0) 0)) (.back 5 [(.bool (.lit true))]) (.split (.cmp .eq (.var 18) (.lit 0)) (.ob (.cmp .lt (.var 18) (.len (.var 16))) (.split (.cmp .ne (.cell (.var 16) (.var 18) 0) (.var 12)) (.back 5 [(.bool (.lit true))]) (.back 5 [(.bool (.lit false))]))) (.split (.cmp .lt (.lit 0) (.var 18)) (.ob (.cmp .lt (.sub (.var 18) (.lit 1)) (.len (.var 16))) (.ob (.cmp .le (.lit 0) (.cell (.var 16) (.sub (.var 18) (.lit 1)) 0)) (.ob (.cmp .lt (.cell (.var 16) (.sub (.var 18) (.lit 1)) 0) (.len (.var 3))) (.ob (.cmp .lt (.var 18) (.len (.var 16))) (.call 24 [(.arr 3 (.cell (.var 3) (.cell (.var 16) (.sub (.var 18) (.lit 1)) 0) 0)), (.int (.cell (.var 16) (.var 18) 0))] (.back 5 [(.bool (.not (.of (.var 19))))])))))) (.back 5 [(.bool (.lit false))])))))))))))) (.split (.of (.var 19)) (.ret [(.bool (.lit false))]) (.back 4 [(.bool (.of (.var 17))), (.int (.add (.var 18) (.lit 1)))]))) (.join [.bool] (.split (.cmp .lt (.lit 0) (.len (.var 16))) (.ob (.cmp .le (.lit 0) (.sub (.len (.var 16)) (.lit 1))) (.ob (.cmp .le (.sub (.len (.var 16)) (.lit 1)) (.len (.var 16))) (.ob (.cmp .le (.lit 0) (.sub (.len (.var 16)) (.lit 1))) (.ob (.cmp .lt (.sub (.len (.var 16)) (.lit 1)) (.len (.var 16))) (.call 24 [(.arr 3 (.sub3 (.var 16) (.lit 0) (.sub (.len (.var 16)) (.lit 1)) 1)), (.int (.cell (.var 16) (.sub (.len (.var 16)) (.lit 1)) 0))] (.back 5 [(.bool (.not (.of (.var 19))))])))))) (.back 5 [(.bool (.lit false))])) (.split (.of (.var 19)) (.ret [(.bool (.lit false))]) (.back 1 [(.bool (.of (.var 17))), (.int (.add (.var 12) (.lit 1)))])))))))
def tnchance_3 : Tree :=
  (.join [.bool] (.split (.of (.var 14)) (.split (.cmp .lt (.var 13) (.lit 0)) (.back 2 [(.bool (.lit true))]) (.split (.cmp .le (.len (.var 7)) (.var 13)) (.back 2 [(.bool (.lit true))]) (.ob (.cmp .lt (.var 13) (.len (.var 7))) (.ob (.cmp .le (.lit 0) (.cell (.var 7) (.var 13) 0)) (.ob (.cmp .lt (.cell (.var 7) (.var 13) 0) (.len (.var 9))) (.split (.not (.of (.cell (.var 9) (.cell (.var 7) (.var 13) 0) 0))) (.back 2 [(.bool (.lit true))]) (.split (.not (.of (.var 14))) (.back 2 [(.bool (.cmp .ne (.var 13) (.lit 0)))]) (.back 2 [(.bool (.lit false))])))))))) (.split (.not (.of (.var 14))) (.back 2 [(.bool (.cmp .ne (.var 13) (.lit 0)))]) (.back 2 [(.bool (.lit false))]))) (.split (.of (.var 15)) (.ret [(.bool (.lit false))]) (.loop [.bool, .int] [(.bool (.of (.var 11))), (.int (.lit 0))] (.split (.cmp .lt (.var 17) (.len (.var 7))) (.join [.bool] (.ob (.cmp .le (.lit 0) (.var 17)) (.ob (.cmp .lt (.var 17) (.len (.var 7))) (.ob (.cmp .le (.lit 0) (.cell (.var 7) (.var 17) 0)) (.ob (.cmp .lt (.cell (.var 7) (.var 17) 0) (.len (.var 9))) (.split (.of (.cell (.var 9) (.cell (.var 7) (.var 17) 0) 0)) (.split (.not (.of (.var 14))) (.back 4 [(.bool (.lit true))]) (.back 4 [(.bool (.cmp .lt (.var 13) (.var 17)))])) (.back 4 [(.bool (.lit false))])))))) (.split (.of (.var 18)) (.ret [(.bool (.lit false))]) (.back 3 [(.bool (.of (.var 16))), (.int (.add (.var 17) (.lit 1)))]))) (.call 12 [] (.ret [(.bool (.of (.var 18)))]))))))
def tnchance_4 : Tree :=
  (.split (.cmp .ne (.var 10) (.lit 0)) (.ret [(.bool (.lit false))]) (.loop [.bool, .int] [(.bool (.lit false)), (.int (.lit 0))] (.split (.cmp .lt (.var 12) (.len (.var 2))) (.loop [.bool, .int] [(.bool (.lit false)), (.int (.lit 0))] (.ob (.cmp .le (.lit 0) (.var 12)) (.ob (.cmp .lt (.var 12) (.len (.var 3))) (.split (.cmp .lt (.var 14) (.len (.cell (.var 3) (.var 12) 0))) (.join [.bool] (.split (.of (.var 13)) (.back 3 [(.bool (.lit true))]) (.ob (.cmp .lt (.var 12) (.len (.var 3))) (.ob (.cmp .le (.lit 0) (.var 14)) (.ob (.cmp .lt (.var 14) (.len (.cell (.var 3) (.var 12) 0))) (.ob (.cmp .le (.lit 0) (.cell (.cell (.var 3) (.var 12) 0) (.var 14) 0)) (.ob (.cmp .lt (.cell (.cell (.var 3) (.var 12) 0) (.var 14) 0) (.len (.var 9))) (.back 3 [(.bool (.of (.cell (.var 9) (.cell (.cell (.var 3) (.var 12) 0) (.var 14) 0) 0)))]))))))) (.back 2 [(.bool (.of (.var 15))), (.int (.add (.var 14) (.lit 1)))])) (.join [.bool] (.ob (.cmp .lt (.var 12) (.len (.var 9))) (.split (.of (.var 13)) (.ob (.cmp .lt (.var 12) (.len (.var 2))) (.back 3 [(.bool (.not (.beq (.of (.cell (.var 9) (.var 12) 0)) (.not (.of (.cell (.var 2) (.var 12) 0))))))])) (.back 3 [(.bool (.not (.beq (.of (.cell (.var 9) (.var 12) 0)) (.lit false))))]))) (.split (.of (.var 15)) (.ret [(.bool (.lit false))]) (.call 21 [(.arr 4 (.var 2)), (.arr 35 (.var 3)), (.int (.var 12))] tnchance_2))))))) (.call 18 [(.arr 4 (.var 2)), (.arr 35 (.var 3)), (.arr 3 (.var 7))] tnchance_3))))
def tnchance_5 : Tree :=
  (.dfn .nil (.dfn .nil (.dfn .nil (.loop [(.vec 3), .int] [(.cnt 3 (.var 6)), (.int (.lit 0))] (.split (.cmp .lt (.var 8) (.len (.var 1))) (.split (.cmp .lt (.var 8) (.lit 40)) (.ob (.cmp .le (.lit 0) (.var 8)) (.ob (.cmp .lt (.var 8) (.len (.var 1))) (.call 13 [(.int (.cell (.var 1) (.var 8) 0)), (.int (.len (.var 2)))] tnchance_1))) (.call 14 [(.arr 4 (.var 2)), (.arr 35 (.var 3))] (.split (.cmp .ne (.len (.var 9)) (.len (.var 2))) (.ret [(.bool (.lit false))]) (.call 16 [(.arr 4 (.var 2)), (.arr 35 (.var 3))] tnchance_4)))) (.call 14 [(.arr 4 (.var 2)), (.arr 35 (.var 3))] (.split (.cmp .ne (.len (.var 9)) (.len (.var 2))) (.ret [(.bool (.lit false))]) (.call 16 [(.arr 4 (.var 2)), (.arr 35 (.var 3))] tnchance_4))))))))
def tnchance : Tree :=
  (.call 23 [(.arr 3 (.var 0))] tnchance_5)
end Go.Proofs.Ytbgofenplhdllaa
/- What is to be shown of each function, as the executor has it. Printed by trees.py. -/
namespace Go.Proofs.Ytbgofenplhdllaa
noncomputable def cat : Cx := tab3.only [13] (fun _ => []) [] 0 [] (fun _ => none)
def tat : Tree :=
  (.split (.cmp .eq (.len (.var 1)) (.lit 0)) (.ret [(.int (.lit 0)), (.arr 3 (.var 1))]) (.ob (.cmp .ne (.len (.var 1)) (.lit 0)) (.ob (.cmp .le (.lit 0) (.rem (.var 0) (.len (.var 1)))) (.ob (.cmp .lt (.rem (.var 0) (.len (.var 1))) (.len (.var 1))) (.call 13 [(.int (.cell (.var 1) (.rem (.var 0) (.len (.var 1))) 0)), (.int (.lit 1048576))] (.ob (.cmp .ne (.len (.var 1)) (.lit 0)) (.ob (.and (.cmp .le (.lit (-9223372036854775808)) (.quo (.var 0) (.len (.var 1)))) (.cmp .le (.quo (.var 0) (.len (.var 1))) (.lit 9223372036854775807))) (.ob (.and (.cmp .le (.lit (-9223372036854775808)) (.add (.lit 1) (.quo (.var 0) (.len (.var 1))))) (.cmp .le (.add (.lit 1) (.quo (.var 0) (.len (.var 1)))) (.lit 9223372036854775807))) (.ob (.cmp .ne (.add (.lit 1) (.quo (.var 0) (.len (.var 1)))) (.lit 0)) (.ob (.and (.cmp .le (.lit (-9223372036854775808)) (.quo (.var 2) (.add (.lit 1) (.quo (.var 0) (.len (.var 1)))))) (.cmp .le (.quo (.var 2) (.add (.lit 1) (.quo (.var 0) (.len (.var 1))))) (.lit 9223372036854775807))) (.ob (.and (.cmp .le (.lit (-9223372036854775808)) (.quo (.var 2) (.add (.lit 1) (.quo (.var 0) (.len (.var 1)))))) (.cmp .le (.quo (.var 2) (.add (.lit 1) (.quo (.var 0) (.len (.var 1))))) (.lit 9223372036854775807))) (.ret [(.int (.quo (.var 2) (.add (.lit 1) (.quo (.var 0) (.len (.var 1)))))), (.arr 3 (.var 1))]))))))))))))
noncomputable def cnblow : Cx := tab3.only [43, 13] (fun r => match r with
  | 7 => [.blk 2, .blk 0]
  | 50009 => [.blk 0, .blk 2, .vec 8]
  | 50012 => [.blk 0]
  | 50014 => [.blk 0, .blk 2]
  | 12 => [.blk 0]
  | _ => []) [] 0 [] (fun r => match r with
  | 90003 => some ([(3, true, [.int])], [])
  | _ => none)
def tnblow : Tree :=
  (.dfn .nil (.dfn .nil (.join [.int] (.split (.cmp .lt (.lit 0) (.len (.var 0))) (.ob (.cmp .lt (.lit 0) (.len (.var 0))) (.call 13 [(.int (.cell (.var 0) (.lit 0) 0)), (.int (.lit 12))] (.ob (.and (.cmp .le (.lit (-9223372036854775808)) (.add (.lit 1) (.var 3))) (.cmp .le (.add (.lit 1) (.var 3)) (.lit 9223372036854775807))) (.ob (.and (.cmp .le (.lit (-9223372036854775808)) (.add (.lit 1) (.var 3))) (.cmp .le (.add (.lit 1) (.var 3)) (.lit 9223372036854775807))) (.back 0 [(.int (.add (.lit 1) (.var 3)))]))))) (.back 0 [(.int (.lit 1))])) (.arr [] (.dfn .nil (.dfn .nil (.loop [.int, (.vec 4), (.vec 35), (.arr 3)] [(.int (.lit 0)), (.cnt 4 (.var 5)), (.cnt 35 (.var 6)), (.arr 3 (.var 0))] (.split (.cmp .lt (.var 7) (.var 3)) (.ob (.and (.cmp .le (.lit (-9223372036854775808)) (.mul (.lit 5) (.var 7))) (.cmp .le (.mul (.lit 5) (.var 7)) (.lit 9223372036854775807))) (.ob (.and (.cmp .le (.lit (-9223372036854775808)) (.add (.mul (.lit 5) (.var 7)) (.lit 1))) (.cmp .le (.add (.mul (.lit 5) (.var 7)) (.lit 1)) (.lit 9223372036854775807))) (.ob (.and (.cmp .le (.lit (-9223372036854775808)) (.add (.mul (.lit 5) (.var 7)) (.lit 1))) (.cmp .le (.add (.mul (.lit 5) (.var 7)) (.lit 1)) (.lit 9223372036854775807))) (.call 43 [(.int (.add (.mul (.lit 5) (.var 7)) (.lit 1))), (.arr 3 (.var 10))] (.arr [[(.bool (.cmp .eq (.rem (.var 11) (.lit 4)) (.lit 0)))]] (.ob (.cmp .le (.mul (.add (.len (.var 8)) (.len (.var 13))) (.lit 1)) (.lit 140737488355328)) (.cat (.var 8) (.var 13) (.dfn .nil (.loop [(.vec 3), .int, (.arr 3)] [(.cnt 3 (.var 15)), (.int (.lit 0)), (.arr 3 (.var 12))] (.ob (.and (.cmp .le (.lit (-9223372036854775808)) (.mul (.lit 5) (.var 7))) (.cmp .le (.mul (.lit 5) (.var 7)) (.lit 9223372036854775807))) (.ob (.and (.cmp .le (.lit (-9223372036854775808)) (.add (.mul (.lit 5) (.var 7)) (.lit 2))) (.cmp .le (.add (.mul (.lit 5) (.var 7)) (.lit 2)) (.lit 9223372036854775807))) (.ob (.and (.cmp .le (.lit (-9223372036854775808)) (.add (.mul (.lit 5) (.var 7)) (.lit 2))) (.cmp .le (.add (.mul (.lit 5) (.var 7)) (.lit 2)) (.lit 9223372036854775807))) (.call 43 [(.int (.add (.mul (.lit 5) (.var 7)) (.lit 2))), (.arr 3 (.var 18))] (.split (.cmp .le (.var 17) (.rem (.var 19) (.lit 3))) (.ob (.and (.cmp .le (.lit (-9223372036854775808)) (.mul (.lit 5) (.var 7))) (.cmp .le (.mul (.lit 5) (.var 7)) (.lit 9223372036854775807))) (.ob (.and (.cmp .le (.lit (-9223372036854775808)) (.add (.mul (.lit 5) (.var 7)) (.lit 3))) (.cmp .le (.add (.mul (.lit 5) (.var 7)) (.lit 3)) (.lit 9223372036854775807))) (.ob (.and (.cmp .le (.lit (-9223372036854775808)) (.add (.add (.mul (.lit 5) (.var 7)) (.lit 3)) (.var 17))) (.cmp .le (.add (.add (.mul (.lit 5) (.var 7)) (.lit 3)) (.var 17)) (.lit 9223372036854775807))) (.ob (.and (.cmp .le (.lit (-9223372036854775808)) (.add (.add (.mul (.lit 5) (.var 7)) (.lit 3)) (.var 17))) (.cmp .le (.add (.add (.mul (.lit 5) (.var 7)) (.lit 3)) (.var 17)) (.lit 9223372036854775807))) (.call 43 [(.int (.add (.add (.mul (.lit 5) (.var 7)) (.lit 3)) (.var 17))), (.arr 3 (.var 20))] (.ob (.cmp .ne (.var 3) (.lit 0)) (.ob (.and (.cmp .le (.lit (-9223372036854775808)) (.rem (.var 21) (.var 3))) (.cmp .le (.rem (.var 21) (.var 3)) (.lit 9223372036854775807))) (.arr [[(.int (.rem (.var 21) (.var 3)))]] (.ob (.cmp .le (.mul (.add (.len (.var 16)) (.len (.var 23))) (.lit 8)) (.lit 140737488355328)) (.cat (.var 16) (.var 23) (.ob (.and (.cmp .le (.lit (-9223372036854775808)) (.add (.var 17) (.lit 1))) (.cmp .le (.add (.var 17) (.lit 1)) (.lit 9223372036854775807))) (.ob (.and (.cmp .le (.lit (-9223372036854775808)) (.add (.var 17) (.lit 1))) (.cmp .le (.add (.var 17) (.lit 1)) (.lit 9223372036854775807))) (.back 2 [(.cnt 3 (.var 24)), (.int (.add (.var 17) (.lit 1))), (.arr 3 (.var 22))]))))))))))))) (.dfn (.var 16) (.arr [[(.arr 3 (.var 21))]] (.ob (.cmp .le (.mul (.add (.len (.var 9)) (.len (.var 22))) (.lit 24)) (.lit 140737488355328)) (.cat (.var 9) (.var 22) (.back 1 [(.int (.add (.var 7) (.lit 1))), (.cnt 4 (.var 14)), (.cnt 35 (.var 23)), (.arr 3 (.var 20))]))))))))))))))))))) (.ret [(.cnt 4 (.var 8)), (.cnt 35 (.var 9))])))))))))
end Go.Proofs.Ytbgofenplhdllaa
/- What is to be shown of each function, as the executor has it. Printed by trees.py. -/
namespace Go.Proofs.Ytbgofenplhdllaa
noncomputable def flwild : List (Nat × Func) := [(33, Try.f33)]
theorem fxwild : ∀ p ∈ flwild, FnOK p := fns_cons ⟨Try.func33, ⟨_, Try.func33, by decide, rfl⟩⟩ (fns_nil)
noncomputable def cwild : Cx := tab2.only [] (fun r => match r with
  | 8 => [.blk 3]
  | 11 => [.blk 3]
  | _ => []) flwild 1 [] (fun _ => none)
def twild : Tree :=
  (.dfn .nil (.dfn .nil (.split (.cmp .lt (.min (.var 0) (.var 1)) (.lit 1)) (.dfn .nil (.dfn .nil (.ret [(.cnt 4 (.var 5)), (.cnt 35 (.var 6)), (.int (.lit 2))]))) (.split (.cmp .lt (.lit 15) (.max (.var 0) (.var 1))) (.dfn .nil (.dfn .nil (.ret [(.cnt 4 (.var 5)), (.cnt 35 (.var 6)), (.int (.lit 2))]))) (.split (.cmp .lt (.var 2) (.lit 0)) (.dfn .nil (.dfn .nil (.ret [(.cnt 4 (.var 5)), (.cnt 35 (.var 6)), (.int (.lit 2))]))) (.split (.cmp .lt (.lit 3) (.var 2)) (.dfn .nil (.dfn .nil (.ret [(.cnt 4 (.var 5)), (.cnt 35 (.var 6)), (.int (.lit 2))]))) (.ob (.and (.cmp .le (.lit (-9223372036854775808)) (.add (.var 0) (.lit 1))) (.cmp .le (.add (.var 0) (.lit 1)) (.lit 9223372036854775807))) (.ob (.and (.cmp .le (.lit (-9223372036854775808)) (.mul (.add (.var 0) (.lit 1)) (.add (.var 2) (.lit 1)))) (.cmp .le (.mul (.add (.var 0) (.lit 1)) (.add (.var 2) (.lit 1))) (.lit 9223372036854775807))) (.split (.cmp .lt (.lit 64) (.mul (.add (.var 0) (.lit 1)) (.add (.var 2) (.lit 1)))) (.dfn .nil (.dfn .nil (.ret [(.cnt 4 (.var 5)), (.cnt 35 (.var 6)), (.int (.lit 8))]))) (.arr [] (.dfn .nil (.dfn .nil (.ob (.and (.cmp .le (.lit (-9223372036854775808)) (.add (.var 0) (.lit 1))) (.cmp .le (.add (.var 0) (.lit 1)) (.lit 9223372036854775807))) (.loop [.int, (.vec 4), (.vec 35)] [(.int (.lit 0)), (.cnt 4 (.var 6)), (.cnt 35 (.var 7))] (.split (.cmp .lt (.var 8) (.add (.var 0) (.lit 1))) (.loop [.int, (.vec 4), (.vec 35)] [(.int (.lit 0)), (.cnt 4 (.var 9)), (.cnt 35 (.var 10))] (.split (.cmp .lt (.var 11) (.add (.var 2) (.lit 1))) (.ob (.and (.cmp .le (.lit (-9223372036854775808)) (.add (.var 8) (.var 1))) (.cmp .le (.add (.var 8) (.var 1)) (.lit 9223372036854775807))) (.ob (.and (.cmp .le (.lit (-9223372036854775808)) (.mul (.min (.var 0) (.add (.var 8) (.var 1))) (.add (.var 2) (.lit 1)))) (.cmp .le (.mul (.min (.var 0) (.add (.var 8) (.var 1))) (.add (.var 2) (.lit 1))) (.lit 9223372036854775807))) (.ob (.and (.cmp .le (.lit (-9223372036854775808)) (.add (.mul (.min (.var 0) (.add (.var 8) (.var 1))) (.add (.var 2) (.lit 1))) (.var 11))) (.cmp .le (.add (.mul (.min (.var 0) (.add (.var 8) (.var 1))) (.add (.var 2) (.lit 1))) (.var 11)) (.lit 9223372036854775807))) (.ob (.and (.cmp .le (.lit (-9223372036854775808)) (.add (.var 8) (.var 1))) (.cmp .le (.add (.var 8) (.var 1)) (.lit 9223372036854775807))) (.ob (.and (.cmp .le (.lit (-9223372036854775808)) (.mul (.min (.var 0) (.add (.var 8) (.var 1))) (.add (.var 2) (.lit 1)))) (.cmp .le (.mul (.min (.var 0) (.add (.var 8) (.var 1))) (.add (.var 2) (.lit 1))) (.lit 9223372036854775807))) (.ob (.and (.cmp .le (.lit (-9223372036854775808)) (.add (.mul (.min (.var 0) (.add (.var 8) (.var 1))) (.add (.var 2) (.lit 1))) (.add (.var 11) (.lit 1)))) (.cmp .le (.add (.mul (.min (.var 0) (.add (.var 8) (.var 1))) (.add (.var 2) (.lit 1))) (.add (.var 11) (.lit 1))) (.lit 9223372036854775807))) (.split (.cmp .eq (.var 11) (.var 2)) (.ob (.and (.cmp .le (.lit (-9223372036854775808)) (.mul (.min (.var 0) (.var 8)) (.add (.var 2) (.lit 1)))) (.cmp .le (.mul (.min (.var 0) (.var 8)) (.add (.var 2) (.lit 1))) (.lit 9223372036854775807))) (.ob (.and (.cmp .le (.lit (-9223372036854775808)) (.add (.mul (.min (.var 0) (.var 8)) (.add (.var 2) (.lit 1))) (.var 11))) (.cmp .le (.add (.mul (.min (.var 0) (.var 8)) (.add (.var 2) (.lit 1))) (.var 11)) (.lit 9223372036854775807))) (.ob (.and (.cmp .le (.lit (-9223372036854775808)) (.mul (.min (.var 0) (.var 8)) (.add (.var 2) (.lit 1)))) (.cmp .le (.mul (.min (.var 0) (.var 8)) (.add (.var 2) (.lit 1))) (.lit 9223372036854775807))) (.ob (.and (.cmp .le (.lit (-9223372036854775808)) (.add (.mul (.min (.var 0) (.var 8)) (.add (.var 2) (.lit 1))) (.var 11))) (.cmp .le (.add (.mul (.min (.var 0) (.var 8)) (.add (.var 2) (.lit 1))) (.var 11)) (.lit 9223372036854775807))) (.arr [[(.bool (.cmp .eq (.var 8) (.var 0)))]] (.ob (.cmp .le (.mul (.add (.len (.var 12)) (.len (.var 14))) (.lit 1)) (.lit 140737488355328)) (.cat (.var 12) (.var 14) (.ob (.and (.cmp .le (.lit (-9223372036854775808)) (.add (.mul (.min (.var 0) (.var 8)) (.add (.var 2) (.lit 1))) (.var 11))) (.cmp .le (.add (.mul (.min (.var 0) (.var 8)) (.add (.var 2) (.lit 1))) (.var 11)) (.lit 9223372036854775807))) (.ob (.and (.cmp .le (.lit (-9223372036854775808)) (.add (.mul (.min (.var 0) (.var 8)) (.add (.var 2) (.lit 1))) (.var 11))) (.cmp .le (.add (.mul (.min (.var 0) (.var 8)) (.add (.var 2) (.lit 1))) (.var 11)) (.lit 9223372036854775807))) (.arr [[(.int (.add (.mul (.min (.var 0) (.var 8)) (.add (.var 2) (.lit 1))) (.var 11)))], [(.int (.add (.mul (.min (.var 0) (.var 8)) (.add (.var 2) (.lit 1))) (.var 11)))]] (.dfn (.var 16) (.arr [[(.arr 3 (.var 17))]] (.ob (.cmp .le (.mul (.add (.len (.var 13)) (.len (.var 18))) (.lit 24)) (.lit 140737488355328)) (.cat (.var 13) (.var 18) (.back 1 [(.int (.add (.var 11) (.lit 1))), (.cnt 4 (.var 15)), (.cnt 35 (.var 19))]))))))))))))))) (.arr [[(.bool (.cmp .eq (.var 8) (.var 0)))]] (.ob (.cmp .le (.mul (.add (.len (.var 12)) (.len (.var 14))) (.lit 1)) (.lit 140737488355328)) (.cat (.var 12) (.var 14) (.ob (.and (.cmp .le (.lit (-9223372036854775808)) (.add (.mul (.min (.var 0) (.add (.var 8) (.var 1))) (.add (.var 2) (.lit 1))) (.var 11))) (.cmp .le (.add (.mul (.min (.var 0) (.add (.var 8) (.var 1))) (.add (.var 2) (.lit 1))) (.var 11)) (.lit 9223372036854775807))) (.ob (.and (.cmp .le (.lit (-9223372036854775808)) (.add (.mul (.min (.var 0) (.add (.var 8) (.var 1))) (.add (.var 2) (.lit 1))) (.add (.var 11) (.lit 1)))) (.cmp .le (.add (.mul (.min (.var 0) (.add (.var 8) (.var 1))) (.add (.var 2) (.lit 1))) (.add (.var 11) (.lit 1))) (.lit 9223372036854775807))) (.arr [[(.int (.add (.mul (.min (.var 0) (.add (.var 8) (.var 1))) (.add (.var 2) (.lit 1))) (.var 11)))], [(.int (.add (.mul (.min (.var 0) (.add (.var 8) (.var 1))) (.add (.var 2) (.lit 1))) (.add (.var 11) (.lit 1))))]] (.dfn (.var 16) (.arr [[(.arr 3 (.var 17))]] (.ob (.cmp .le (.mul (.add (.len (.var 13)) (.len (.var 18))) (.lit 24)) (.lit 140737488355328)) (.cat (.var 13) (.var 18) (.back 1 [(.int (.add (.var 11) (.lit 1))), (.cnt 4 (.var 15)), (.cnt 35 (.var 19))])))))))))))))))))) (.ob (.and (.cmp .le (.lit (-9223372036854775808)) (.add (.var 8) (.lit 1))) (.cmp .le (.add (.var 8) (.lit 1)) (.lit 9223372036854775807))) (.ob (.and (.cmp .le (.lit (-9223372036854775808)) (.add (.var 8) (.lit 1))) (.cmp .le (.add (.var 8) (.lit 1)) (.lit 9223372036854775807))) (.back 0 [(.int (.add (.var 8) (.lit 1))), (.cnt 4 (.var 12)), (.cnt 35 (.var 13))]))))) (.ret [(.cnt 4 (.var 9)), (.cnt 35 (.var 10)), (.int (.lit 0))]))))))))))))))))
noncomputable def crwild : Cx := tab2.only [] (fun r => match r with
  | 7 => [.blk 1]
  | 10 => [.blk 1]
  | 90015 => [.vec 13]
  | 50016 => [.blk 1, .vec 11, .vec 12, .vec 14]
  | _ => []) [] 0 [] (fun r => match r with
  | 90015 => some ([(13, true, [.vec 3])], [])
  | 50016 => some ([(13, true, [.arr 3])], [.blk 1])
  | _ => none)
def trwild : Tree :=
  (.dfn .nil (.dfn .nil (.split (.cmp .lt (.var 0) (.lit 1)) (.dfn .nil (.dfn .nil (.ret [(.cnt 4 (.var 5)), (.cnt 35 (.var 6)), (.int (.lit 2))]))) (.split (.cmp .lt (.lit 15) (.var 0)) (.dfn .nil (.dfn .nil (.ret [(.cnt 4 (.var 5)), (.cnt 35 (.var 6)), (.int (.lit 2))]))) (.split (.cmp .lt (.var 1) (.lit 1)) (.dfn .nil (.dfn .nil (.ret [(.cnt 4 (.var 5)), (.cnt 35 (.var 6)), (.int (.lit 2))]))) (.split (.cmp .lt (.lit 15) (.var 1)) (.dfn .nil (.dfn .nil (.ret [(.cnt 4 (.var 5)), (.cnt 35 (.var 6)), (.int (.lit 2))]))) (.split (.cmp .lt (.var 2) (.lit 0)) (.dfn .nil (.dfn .nil (.ret [(.cnt 4 (.var 5)), (.cnt 35 (.var 6)), (.int (.lit 2))]))) (.split (.cmp .lt (.lit 3) (.var 2)) (.dfn .nil (.dfn .nil (.ret [(.cnt 4 (.var 5)), (.cnt 35 (.var 6)), (.int (.lit 2))]))) (.dfn .nil (.dfn .nil (.loop [.int, (.vec 4), (.vec 35)] [(.int (.lit 0)), (.cnt 4 (.var 5)), (.cnt 35 (.var 6))] (.split (.cmp .le (.var 7) (.var 0)) (.loop [.int, (.vec 4), (.vec 35)] [(.int (.lit 0)), (.cnt 4 (.var 8)), (.cnt 35 (.var 9))] (.split (.cmp .le (.var 10) (.var 2)) (.ob (.and (.cmp .le (.lit (-9223372036854775808)) (.mul (.var 7) (.add (.var 2) (.lit 1)))) (.cmp .le (.mul (.var 7) (.add (.var 2) (.lit 1))) (.lit 9223372036854775807))) (.ob (.and (.cmp .le (.lit (-9223372036854775808)) (.add (.mul (.var 7) (.add (.var 2) (.lit 1))) (.var 10))) (.cmp .le (.add (.mul (.var 7) (.add (.var 2) (.lit 1))) (.var 10)) (.lit 9223372036854775807))) (.ob (.and (.cmp .le (.lit (-9223372036854775808)) (.mul (.min (.var 0) (.add (.var 7) (.var 1))) (.add (.var 2) (.lit 1)))) (.cmp .le (.mul (.min (.var 0) (.add (.var 7) (.var 1))) (.add (.var 2) (.lit 1))) (.lit 9223372036854775807))) (.ob (.and (.cmp .le (.lit (-9223372036854775808)) (.add (.mul (.min (.var 0) (.add (.var 7) (.var 1))) (.add (.var 2) (.lit 1))) (.var 10))) (.cmp .le (.add (.mul (.min (.var 0) (.add (.var 7) (.var 1))) (.add (.var 2) (.lit 1))) (.var 10)) (.lit 9223372036854775807))) (.ob (.and (.cmp .le (.lit (-9223372036854775808)) (.add (.mul (.min (.var 0) (.add (.var 7) (.var 1))) (.add (.var 2) (.lit 1))) (.var 10))) (.cmp .le (.add (.mul (.min (.var 0) (.add (.var 7) (.var 1))) (.add (.var 2) (.lit 1))) (.var 10)) (.lit 9223372036854775807))) (.ob (.and (.cmp .le (.lit (-9223372036854775808)) (.add (.add (.mul (.min (.var 0) (.add (.var 7) (.var 1))) (.add (.var 2) (.lit 1))) (.var 10)) (.lit 1))) (.cmp .le (.add (.add (.mul (.min (.var 0) (.add (.var 7) (.var 1))) (.add (.var 2) (.lit 1))) (.var 10)) (.lit 1)) (.lit 9223372036854775807))) (.ob (.and (.cmp .le (.lit (-9223372036854775808)) (.add (.mul (.min (.var 0) (.add (.var 7) (.var 1))) (.add (.var 2) (.lit 1))) (.var 10))) (.cmp .le (.add (.mul (.min (.var 0) (.add (.var 7) (.var 1))) (.add (.var 2) (.lit 1))) (.var 10)) (.lit 9223372036854775807))) (.ob (.and (.cmp .le (.lit (-9223372036854775808)) (.add (.add (.mul (.min (.var 0) (.add (.var 7) (.var 1))) (.add (.var 2) (.lit 1))) (.var 10)) (.lit 1))) (.cmp .le (.add (.add (.mul (.min (.var 0) (.add (.var 7) (.var 1))) (.add (.var 2) (.lit 1))) (.var 10)) (.lit 1)) (.lit 9223372036854775807))) (.arr [[(.int (.add (.mul (.min (.var 0) (.add (.var 7) (.var 1))) (.add (.var 2) (.lit 1))) (.var 10)))], [(.int (.add (.add (.mul (.min (.var 0) (.add (.var 7) (.var 1))) (.add (.var 2) (.lit 1))) (.var 10)) (.lit 1)))]] (.join [(.vec 3)] (.split (.cmp .eq (.var 10) (.var 2)) (.ob (.and (.cmp .le (.lit (-9223372036854775808)) (.add (.mul (.var 7) (.add (.var 2) (.lit 1))) (.var 10))) (.cmp .le (.add (.mul (.var 7) (.add (.var 2) (.lit 1))) (.var 10)) (.lit 9223372036854775807))) (.ob (.and (.cmp .le (.lit (-9223372036854775808)) (.add (.mul (.var 7) (.add (.var 2) (.lit 1))) (.var 10))) (.cmp .le (.add (.mul (.var 7) (.add (.var 2) (.lit 1))) (.var 10)) (.lit 9223372036854775807))) (.arr [[(.int (.add (.mul (.var 7) (.add (.var 2) (.lit 1))) (.var 10)))], [(.int (.add (.mul (.var 7) (.add (.var 2) (.lit 1))) (.var 10)))]] (.back 2 [(.cnt 3 (.var 14))])))) (.back 2 [(.cnt 3 (.var 13))])) (.join [(.arr 3), (.vec 4), (.vec 35)] (.both (.arr [[(.bool (.cmp .eq (.var 7) (.var 0)))]] (.both (.ob (.cmp .le (.mul (.add (.len (.var 11)) (.len (.var 15))) (.lit 1)) (.lit 140737488355328)) (.cat (.var 11) (.var 15) (.dfn (.var 14) (.arr [[(.arr 3 (.var 17))]] (.ob (.cmp .le (.mul (.add (.len (.var 12)) (.len (.var 18))) (.lit 24)) (.lit 140737488355328)) (.cat (.var 12) (.var 18) (.back 3 [(.arr 3 (.var 17)), (.cnt 4 (.var 16)), (.cnt 35 (.var 19))]))))))) (.dfn (.var 14) (.arr [[(.arr 3 (.var 16))]] (.ob (.cmp .le (.mul (.add (.len (.var 11)) (.len (.var 15))) (.lit 1)) (.lit 140737488355328)) (.cat (.var 11) (.var 15) (.ob (.cmp .le (.mul (.add (.len (.var 12)) (.len (.var 17))) (.lit 24)) (.lit 140737488355328)) (.cat (.var 12) (.var 17) (.back 3 [(.arr 3 (.var 16)), (.cnt 4 (.var 18)), (.cnt 35 (.var 19))]))))))))) (.dfn (.var 14) (.arr [[(.arr 3 (.var 15))]] (.arr [[(.bool (.cmp .eq (.var 7) (.var 0)))]] (.ob (.cmp .le (.mul (.add (.len (.var 11)) (.len (.var 17))) (.lit 1)) (.lit 140737488355328)) (.cat (.var 11) (.var 17) (.ob (.cmp .le (.mul (.add (.len (.var 12)) (.len (.var 16))) (.lit 24)) (.lit 140737488355328)) (.cat (.var 12) (.var 16) (.back 3 [(.arr 3 (.var 15)), (.cnt 4 (.var 18)), (.cnt 35 (.var 19))]))))))))) (.back 1 [(.int (.add (.var 10) (.lit 1))), (.cnt 4 (.var 16)), (.cnt 35 (.var 17))])))))))))))) (.back 0 [(.int (.add (.var 7) (.lit 1))), (.cnt 4 (.var 11)), (.cnt 35 (.var 12))]))) (.ret [(.cnt 4 (.var 8)), (.cnt 35 (.var 9)), (.int (.lit 0))])))))))))))))
noncomputable def csamelists : Cx := tab2.only [20] (fun _ => []) [] 0 [] (fun _ => none)
def tsamelists : Tree :=
  (.split (.cmp .ne (.len (.var 0)) (.len (.var 1))) (.ret [(.bool (.lit false))]) (.loop [.bool, .int] [(.bool (.lit false)), (.int (.lit 0))] (.split (.cmp .lt (.var 3) (.len (.var 0))) (.ob (.cmp .le (.lit 0) (.var 3)) (.ob (.cmp .lt (.var 3) (.len (.var 0))) (.ob (.cmp .lt (.var 3) (.len (.var 1))) (.call 20 [(.arr 3 (.cell (.var 0) (.var 3) 0)), (.arr 3 (.cell (.var 1) (.var 3) 0))] (.split (.not (.of (.var 4))) (.ret [(.bool (.lit false))]) (.back 0 [(.bool (.of (.var 2))), (.int (.add (.var 3) (.lit 1)))])))))) (.ret [(.bool (.lit true))]))))
noncomputable def csameints : Cx := tab2.only [] (fun _ => []) [] 0 [] (fun _ => none)
def tsameints : Tree :=
  (.loop [.bool, .int] [(.bool (.lit false)), (.int (.lit 0))] (.split (.cmp .lt (.var 3) (.len (.var 0))) (.split (.cmp .lt (.var 3) (.len (.var 1))) (.ob (.cmp .le (.lit 0) (.var 3)) (.ob (.cmp .lt (.var 3) (.len (.var 0))) (.ob (.cmp .lt (.var 3) (.len (.var 1))) (.split (.cmp .ne (.cell (.var 0) (.var 3) 0) (.cell (.var 1) (.var 3) 0)) (.ret [(.bool (.lit false))]) (.back 0 [(.bool (.of (.var 2))), (.int (.add (.var 3) (.lit 1)))]))))) (.ret [(.bool (.cmp .eq (.len (.var 0)) (.len (.var 1))))])) (.ret [(.bool (.cmp .eq (.len (.var 0)) (.len (.var 1))))])))
noncomputable def chasint : Cx := tab2.only [] (fun _ => []) [] 0 [] (fun _ => none)
def thasint : Tree :=
  (.loop [.bool, .int] [(.bool (.lit false)), (.int (.lit 0))] (.split (.cmp .lt (.var 3) (.len (.var 0))) (.ob (.cmp .le (.lit 0) (.var 3)) (.ob (.cmp .lt (.var 3) (.len (.var 0))) (.split (.cmp .eq (.cell (.var 0) (.var 3) 0) (.var 1)) (.ret [(.bool (.lit true))]) (.back 0 [(.bool (.of (.var 2))), (.int (.add (.var 3) (.lit 1)))])))) (.ret [(.bool (.lit false))])))
noncomputable def flway : List (Nat × Func) := [(40, Try.f40), (41, Try.f41), (42, Try.f42), (57, Try.f57)]
theorem fxway : ∀ p ∈ flway, FnOK p := fns_cons ⟨Try.func40, ⟨_, Try.func40, by decide, rfl⟩⟩ (fns_cons ⟨Try.func41, ⟨_, Try.func41, by decide, rfl⟩⟩ (fns_cons ⟨Try.func42, ⟨_, Try.func42, by decide, rfl⟩⟩ (fns_cons ⟨Try.func57, ⟨_, Try.func57, by decide, rfl⟩⟩ (fns_nil))))
noncomputable def cway : Cx := tab2.only [14] (fun _ => []) flway 4 [] (fun _ => none)
def tway : Tree :=
  (.dfn .nil (.call 14 [(.arr 4 (.var 0)), (.arr 35 (.var 1))] (.dfn .nil (.split (.cmp .lt (.var 2) (.lit 0)) (.dfn .nil (.ret [(.cnt 3 (.var 6))])) (.split (.cmp .le (.len (.var 4)) (.var 2)) (.dfn .nil (.ret [(.cnt 3 (.var 6))])) (.ob (.cmp .lt (.var 2) (.len (.var 4))) (.split (.not (.of (.cell (.var 4) (.var 2) 0))) (.dfn .nil (.ret [(.cnt 3 (.var 6))])) (.arr [[(.int (.var 2))]] (.loop [.int, (.vec 3), (.vec 3)] [(.int (.var 2)), (.cnt 3 (.var 3)), (.cnt 3 (.var 6))] (.ob (.cmp .le (.lit 0) (.var 7)) (.ob (.cmp .lt (.var 7) (.len (.var 1))) (.arr [] (.loop [.int, .int] [(.int (.lit 0)), (.int (.lit 0))] (.split (.cmp .lt (.var 12) (.len (.cell (.var 1) (.var 7) 0))) (.ob (.cmp .le (.lit 0) (.var 12)) (.ob (.cmp .lt (.var 12) (.len (.cell (.var 1) (.var 7) 0))) (.ob (.cmp .le (.lit 0) (.cell (.cell (.var 1) (.var 7) 0) (.var 12) 0)) (.ob (.cmp .lt (.cell (.cell (.var 1) (.var 7) 0) (.var 12) 0) (.len (.var 4))) (.split (.of (.cell (.var 4) (.cell (.cell (.var 1) (.var 7) 0) (.var 12) 0) 0)) (.ob (.cmp .lt (.var 12) (.len (.cell (.var 1) (.var 7) 0))) (.loop [.int, .int] [(.int (.lit 0)), (.int (.lit 0))] (.split (.cmp .lt (.var 14) (.len (.var 9))) (.ob (.cmp .le (.lit 0) (.var 14)) (.ob (.cmp .lt (.var 14) (.len (.var 9))) (.split (.cmp .eq (.cell (.cell (.var 1) (.var 7) 0) (.var 12) 0) (.cell (.var 9) (.var 14) 0)) (.arr [[(.int (.cell (.cell (.var 1) (.var 7) 0) (.var 12) 0))]] (.ob (.cmp .le (.mul (.add (.len (.var 9)) (.len (.var 15))) (.lit 8)) (.lit 140737488355328)) (.cat (.var 9) (.var 15) (.ret [(.cnt 3 (.var 16))])))) (.back 2 [(.int (.var 13)), (.int (.add (.var 14) (.lit 1)))])))) (.arr [[(.int (.cell (.cell (.var 1) (.var 7) 0) (.var 12) 0))]] (.ob (.cmp .le (.mul (.add (.len (.var 9)) (.len (.var 15))) (.lit 8)) (.lit 140737488355328)) (.cat (.var 9) (.var 15) (.back 0 [(.int (.cell (.cell (.var 1) (.var 7) 0) (.var 12) 0)), (.cnt 3 (.var 8)), (.cnt 3 (.var 16))]))))))) (.back 1 [(.int (.var 11)), (.int (.add (.var 12) (.lit 1)))])))))) (.ob (.lit false) (.loop [.int, .int] [(.int (.lit 0)), (.int (.lit 0))] (.split (.cmp .lt (.var 14) (.len (.var 9))) (.ob (.cmp .le (.lit 0) (.var 14)) (.ob (.cmp .lt (.var 14) (.len (.var 9))) (.split (.cmp .eq (.cell (.cell (.var 1) (.var 7) 0) (.lit (-1)) 0) (.cell (.var 9) (.var 14) 0)) (.arr [[(.int (.cell (.cell (.var 1) (.var 7) 0) (.lit (-1)) 0))]] (.ob (.cmp .le (.mul (.add (.len (.var 9)) (.len (.var 15))) (.lit 8)) (.lit 140737488355328)) (.cat (.var 9) (.var 15) (.ret [(.cnt 3 (.var 16))])))) (.back 2 [(.int (.var 13)), (.int (.add (.var 14) (.lit 1)))])))) (.arr [[(.int (.cell (.cell (.var 1) (.var 7) 0) (.lit (-1)) 0))]] (.ob (.cmp .le (.mul (.add (.len (.var 9)) (.len (.var 15))) (.lit 8)) (.lit 140737488355328)) (.cat (.var 9) (.var 15) (.back 0 [(.int (.cell (.cell (.var 1) (.var 7) 0) (.lit (-1)) 0)), (.cnt 3 (.var 8)), (.cnt 3 (.var 16))])))))))))))))))))))))
noncomputable def crway : Cx := tab2.only [15] (fun r => match r with
  | 6 => [.vec 5]
  | _ => []) [] 0 [] (fun _ => none)
def trway : Tree :=
  (.dfn .nil (.call 15 [(.arr 4 (.var 0)), (.arr 35 (.var 1))] (.split (.cmp .lt (.var 2) (.lit 0)) (.dfn .nil (.ret [(.cnt 3 (.var 5))])) (.split (.cmp .le (.len (.var 4)) (.var 2)) (.dfn .nil (.ret [(.cnt 3 (.var 5))])) (.ob (.cmp .lt (.var 2) (.len (.var 4))) (.split (.not (.of (.cell (.var 4) (.var 2) 0))) (.dfn .nil (.ret [(.cnt 3 (.var 5))])) (.ob (.cmp .le (.mul (.lit 1) (.len (.var 4))) (.lit 281474976710656)) (.mk (.len (.var 4)) [(.bool (.lit false))] (.dfn .nil (.loop [.int, (.vec 3), (.vec 4)] [(.int (.var 2)), (.cnt 3 (.var 6)), (.cnt 4 (.var 5))] (.ob (.cmp .le (.lit 0) (.var 7)) (.ob (.cmp .lt (.var 7) (.len (.var 9))) (.split (.not (.of (.cell (.var 9) (.var 7) 0))) (.ob (.cmp .lt (.var 7) (.len (.var 9))) (.upd (.var 9) (.var 7) 0 [(.bool (.lit true))] (.arr [[(.int (.var 7))]] (.ob (.cmp .le (.mul (.add (.len (.var 8)) (.len (.var 11))) (.lit 8)) (.lit 140737488355328)) (.cat (.var 8) (.var 11) (.loop [.int, .int] [(.int (.var 7)), (.int (.lit 0))] (.ob (.cmp .le (.lit 0) (.var 13)) (.ob (.cmp .lt (.var 13) (.len (.var 1))) (.split (.cmp .lt (.var 14) (.len (.cell (.var 1) (.var 13) 0))) (.ob (.cmp .lt (.var 13) (.len (.var 1))) (.ob (.cmp .le (.lit 0) (.var 14)) (.ob (.cmp .lt (.var 14) (.len (.cell (.var 1) (.var 13) 0))) (.ob (.cmp .le (.lit 0) (.cell (.cell (.var 1) (.var 13) 0) (.var 14) 0)) (.ob (.cmp .lt (.cell (.cell (.var 1) (.var 13) 0) (.var 14) 0) (.len (.var 4))) (.split (.of (.cell (.var 4) (.cell (.cell (.var 1) (.var 13) 0) (.var 14) 0) 0)) (.ob (.cmp .lt (.var 13) (.len (.var 1))) (.ob (.cmp .lt (.var 14) (.len (.cell (.var 1) (.var 13) 0))) (.back 0 [(.int (.cell (.cell (.var 1) (.var 13) 0) (.var 14) 0)), (.cnt 3 (.var 12)), (.cnt 4 (.var 10))]))) (.back 1 [(.int (.var 13)), (.int (.add (.var 14) (.lit 1)))]))))))) (.back 0 [(.int (.var 13)), (.cnt 3 (.var 12)), (.cnt 4 (.var 10))])))))))))) (.arr [[(.int (.var 7))]] (.ob (.cmp .le (.mul (.add (.len (.var 8)) (.len (.var 10))) (.lit 8)) (.lit 140737488355328)) (.cat (.var 8) (.var 10) (.ret [(.cnt 3 (.var 11))])))))))))))))))))
noncomputable def flblow : List (Nat × Func) := [(43, Try.f43)]
theorem fxblow : ∀ p ∈ flblow, FnOK p := fns_cons ⟨Try.func43, ⟨_, Try.func43, by decide, rfl⟩⟩ (fns_nil)
noncomputable def cblow : Cx := tab2.only [13] (fun _ => []) flblow 1 [] (fun _ => none)
def tblow : Tree :=
  (.dfn .nil (.dfn .nil (.split (.cmp .lt (.lit 0) (.len (.var 0))) (.ob (.cmp .lt (.lit 0) (.len (.var 0))) (.call 13 [(.int (.cell (.var 0) (.lit 0) 0)), (.int (.lit 12))] (.ob (.and (.cmp .le (.lit (-9223372036854775808)) (.add (.lit 1) (.var 3))) (.cmp .le (.add (.lit 1) (.var 3)) (.lit 9223372036854775807))) (.arr [] (.dfn .nil (.dfn .nil (.loop [.int] [(.int (.lit 0))] (.split (.cmp .lt (.var 7) (.add (.lit 1) (.var 3))) (.ob (.and (.cmp .le (.lit (-9223372036854775808)) (.mul (.lit 5) (.var 7))) (.cmp .le (.mul (.lit 5) (.var 7)) (.lit 9223372036854775807))) (.ob (.and (.cmp .le (.lit (-9223372036854775808)) (.add (.mul (.lit 5) (.var 7)) (.lit 1))) (.cmp .le (.add (.mul (.lit 5) (.var 7)) (.lit 1)) (.lit 9223372036854775807))) (.split (.cmp .eq (.len (.var 0)) (.lit 0)) (.fail 3 [30]) (.ob (.cmp .ne (.len (.var 0)) (.lit 0)) (.ob (.cmp .le (.lit 0) (.rem (.add (.mul (.lit 5) (.var 7)) (.lit 1)) (.len (.var 0)))) (.ob (.cmp .lt (.rem (.add (.mul (.lit 5) (.var 7)) (.lit 1)) (.len (.var 0))) (.len (.var 0))) (.call 13 [(.int (.cell (.var 0) (.rem (.add (.mul (.lit 5) (.var 7)) (.lit 1)) (.len (.var 0))) 0)), (.int (.lit 1048576))] (.ob (.cmp .ne (.len (.var 0)) (.lit 0)) (.ob (.and (.cmp .le (.lit (-9223372036854775808)) (.quo (.add (.mul (.lit 5) (.var 7)) (.lit 1)) (.len (.var 0)))) (.cmp .le (.quo (.add (.mul (.lit 5) (.var 7)) (.lit 1)) (.len (.var 0))) (.lit 9223372036854775807))) (.ob (.and (.cmp .le (.lit (-9223372036854775808)) (.add (.lit 1) (.quo (.add (.mul (.lit 5) (.var 7)) (.lit 1)) (.len (.var 0))))) (.cmp .le (.add (.lit 1) (.quo (.add (.mul (.lit 5) (.var 7)) (.lit 1)) (.len (.var 0)))) (.lit 9223372036854775807))) (.ob (.cmp .ne (.add (.lit 1) (.quo (.add (.mul (.lit 5) (.var 7)) (.lit 1)) (.len (.var 0)))) (.lit 0)) (.ob (.and (.cmp .le (.lit (-9223372036854775808)) (.quo (.var 8) (.add (.lit 1) (.quo (.add (.mul (.lit 5) (.var 7)) (.lit 1)) (.len (.var 0)))))) (.cmp .le (.quo (.var 8) (.add (.lit 1) (.quo (.add (.mul (.lit 5) (.var 7)) (.lit 1)) (.len (.var 0))))) (.lit 9223372036854775807))) (.fail 3 [30]))))))))))))) (.ret [(.cnt 4 (.var 5)), (.cnt 35 (.var 6))]))))))))) (.arr [] (.dfn .nil (.dfn .nil (.loop [.int] [(.int (.lit 0))] (.split (.cmp .lt (.var 6) (.lit 1)) (.ob (.and (.cmp .le (.lit (-9223372036854775808)) (.mul (.lit 5) (.var 6))) (.cmp .le (.mul (.lit 5) (.var 6)) (.lit 9223372036854775807))) (.ob (.and (.cmp .le (.lit (-9223372036854775808)) (.add (.mul (.lit 5) (.var 6)) (.lit 1))) (.cmp .le (.add (.mul (.lit 5) (.var 6)) (.lit 1)) (.lit 9223372036854775807))) (.split (.cmp .eq (.len (.var 0)) (.lit 0)) (.fail 3 [30]) (.ob (.cmp .ne (.len (.var 0)) (.lit 0)) (.ob (.cmp .le (.lit 0) (.rem (.add (.mul (.lit 5) (.var 6)) (.lit 1)) (.len (.var 0)))) (.ob (.cmp .lt (.rem (.add (.mul (.lit 5) (.var 6)) (.lit 1)) (.len (.var 0))) (.len (.var 0))) (.call 13 [(.int (.cell (.var 0) (.rem (.add (.mul (.lit 5) (.var 6)) (.lit 1)) (.len (.var 0))) 0)), (.int (.lit 1048576))] (.ob (.cmp .ne (.len (.var 0)) (.lit 0)) (.ob (.and (.cmp .le (.lit (-9223372036854775808)) (.quo (.add (.mul (.lit 5) (.var 6)) (.lit 1)) (.len (.var 0)))) (.cmp .le (.quo (.add (.mul (.lit 5) (.var 6)) (.lit 1)) (.len (.var 0))) (.lit 9223372036854775807))) (.ob (.and (.cmp .le (.lit (-9223372036854775808)) (.add (.lit 1) (.quo (.add (.mul (.lit 5) (.var 6)) (.lit 1)) (.len (.var 0))))) (.cmp .le (.add (.lit 1) (.quo (.add (.mul (.lit 5) (.var 6)) (.lit 1)) (.len (.var 0)))) (.lit 9223372036854775807))) (.ob (.cmp .ne (.add (.lit 1) (.quo (.add (.mul (.lit 5) (.var 6)) (.lit 1)) (.len (.var 0)))) (.lit 0)) (.ob (.and (.cmp .le (.lit (-9223372036854775808)) (.quo (.var 7) (.add (.lit 1) (.quo (.add (.mul (.lit 5) (.var 6)) (.lit 1)) (.len (.var 0)))))) (.cmp .le (.quo (.var 7) (.add (.lit 1) (.quo (.add (.mul (.lit 5) (.var 6)) (.lit 1)) (.len (.var 0))))) (.lit 9223372036854775807))) (.fail 3 [30]))))))))))))) (.ret [(.cnt 4 (.var 4)), (.cnt 35 (.var 5))])))))))))
noncomputable def clwild : Cx := tab2.only [9, 10, 11, 12] (fun _ => []) [] 0 [] (fun _ => none)
def tlwild : Tree :=
  (.call 9 [(.int (.var 0)), (.int (.var 1)), (.int (.var 2))] (.dfn .nil (.dfn .nil (.call 10 [(.int (.var 0)), (.int (.var 1)), (.int (.var 2))] (.dfn .nil (.dfn .nil (.split (.cmp .ne (.var 5) (.var 10)) (.ret [(.bool (.lit false))]) (.split (.cmp .ne (.len (.var 3)) (.len (.var 8))) (.ret [(.bool (.lit false))]) (.call 11 [(.arr 35 (.var 4)), (.arr 35 (.var 9))] (.split (.not (.of (.var 13))) (.ret [(.bool (.lit false))]) (.loop [.bool, .int] [(.bool (.lit false)), (.int (.lit 0))] (.split (.cmp .lt (.var 15) (.len (.var 3))) (.ob (.cmp .le (.lit 0) (.var 15)) (.ob (.cmp .lt (.var 15) (.len (.var 3))) (.ob (.cmp .lt (.var 15) (.len (.var 8))) (.split (.not (.beq (.of (.cell (.var 3) (.var 15) 0)) (.of (.cell (.var 8) (.var 15) 0)))) (.ret [(.bool (.lit false))]) (.back 0 [(.bool (.of (.var 14))), (.int (.add (.var 15) (.lit 1)))]))))) (.call 12 [] (.ret [(.bool (.of (.var 16)))]))))))))))))))
noncomputable def clcloses : Cx := tab2.only [13, 9, 14, 12] (fun _ => []) [] 0 [] (fun _ => none)
def tlcloses : Tree :=
  (.call 13 [(.int (.var 0)), (.int (.lit 15))] (.ob (.and (.cmp .le (.lit (-9223372036854775808)) (.add (.lit 1) (.var 5))) (.cmp .le (.add (.lit 1) (.var 5)) (.lit 9223372036854775807))) (.call 13 [(.int (.var 1)), (.int (.lit 15))] (.ob (.and (.cmp .le (.lit (-9223372036854775808)) (.add (.lit 1) (.var 6))) (.cmp .le (.add (.lit 1) (.var 6)) (.lit 9223372036854775807))) (.call 13 [(.int (.var 2)), (.int (.lit 4))] (.ob (.and (.cmp .le (.lit (-9223372036854775808)) (.add (.lit 1) (.var 5))) (.cmp .le (.add (.lit 1) (.var 5)) (.lit 9223372036854775807))) (.ob (.and (.cmp .le (.lit (-9223372036854775808)) (.add (.lit 1) (.var 6))) (.cmp .le (.add (.lit 1) (.var 6)) (.lit 9223372036854775807))) (.call 9 [(.int (.add (.lit 1) (.var 5))), (.int (.add (.lit 1) (.var 6))), (.int (.var 7))] (.dfn .nil (.dfn .nil (.split (.cmp .ne (.var 10) (.lit 0)) (.ret [(.bool (.lit false))]) (.ob (.and (.cmp .le (.lit (-9223372036854775808)) (.add (.add (.lit 1) (.var 5)) (.lit 1))) (.cmp .le (.add (.add (.lit 1) (.var 5)) (.lit 1)) (.lit 9223372036854775807))) (.ob (.and (.cmp .le (.lit (-9223372036854775808)) (.add (.add (.lit 1) (.var 5)) (.lit 1))) (.cmp .le (.add (.add (.lit 1) (.var 5)) (.lit 1)) (.lit 9223372036854775807))) (.call 13 [(.int (.var 3)), (.int (.add (.add (.lit 1) (.var 5)) (.lit 1)))] (.ob (.and (.cmp .le (.lit (-9223372036854775808)) (.add (.var 7) (.lit 1))) (.cmp .le (.add (.var 7) (.lit 1)) (.lit 9223372036854775807))) (.ob (.and (.cmp .le (.lit (-9223372036854775808)) (.add (.var 7) (.lit 1))) (.cmp .le (.add (.var 7) (.lit 1)) (.lit 9223372036854775807))) (.call 13 [(.int (.var 4)), (.int (.add (.var 7) (.lit 1)))] (.call 14 [(.arr 4 (.var 8)), (.arr 35 (.var 9))] (.ob (.and (.cmp .le (.lit (-9223372036854775808)) (.add (.var 7) (.lit 1))) (.cmp .le (.add (.var 7) (.lit 1)) (.lit 9223372036854775807))) (.ob (.and (.cmp .le (.lit (-9223372036854775808)) (.mul (.var 13) (.add (.var 7) (.lit 1)))) (.cmp .le (.mul (.var 13) (.add (.var 7) (.lit 1))) (.lit 9223372036854775807))) (.ob (.and (.cmp .le (.lit (-9223372036854775808)) (.add (.mul (.var 13) (.add (.var 7) (.lit 1))) (.var 14))) (.cmp .le (.add (.mul (.var 13) (.add (.var 7) (.lit 1))) (.var 14)) (.lit 9223372036854775807))) (.split (.cmp .lt (.add (.mul (.var 13) (.add (.var 7) (.lit 1))) (.var 14)) (.len (.var 15))) (.ob (.cmp .le (.lit 0) (.add (.mul (.var 13) (.add (.var 7) (.lit 1))) (.var 14))) (.ob (.cmp .lt (.add (.mul (.var 13) (.add (.var 7) (.lit 1))) (.var 14)) (.len (.var 15))) (.ob (.and (.cmp .le (.lit (-9223372036854775808)) (.sub (.var 7) (.var 14))) (.cmp .le (.sub (.var 7) (.var 14)) (.lit 9223372036854775807))) (.ob (.and (.cmp .le (.lit (-9223372036854775808)) (.mul (.sub (.var 7) (.var 14)) (.add (.lit 1) (.var 6)))) (.cmp .le (.mul (.sub (.var 7) (.var 14)) (.add (.lit 1) (.var 6))) (.lit 9223372036854775807))) (.ob (.and (.cmp .le (.lit (-9223372036854775808)) (.add (.var 13) (.mul (.sub (.var 7) (.var 14)) (.add (.lit 1) (.var 6))))) (.cmp .le (.add (.var 13) (.mul (.sub (.var 7) (.var 14)) (.add (.lit 1) (.var 6)))) (.lit 9223372036854775807))) (.split (.beq (.of (.cell (.var 15) (.add (.mul (.var 13) (.add (.var 7) (.lit 1))) (.var 14)) 0)) (.cmp .lt (.add (.var 13) (.mul (.sub (.var 7) (.var 14)) (.add (.lit 1) (.var 6)))) (.add (.lit 1) (.var 5)))) (.call 12 [] (.ret [(.bool (.of (.var 16)))])) (.ret [(.bool (.lit false))]))))))) (.ret [(.bool (.lit false))])))))))))))))))))))))))
noncomputable def clblows : Cx := tab2.only [14, 15, 16, 17, 18, 19, 20, 21, 22, 12] (fun _ => []) [] 0 [] (fun _ => none)
def tlblows : Tree :=
  (.split (.cmp .lt (.lit 66) (.len (.var 0))) (.call 12 [] (.ret [(.bool (.of (.var 4)))])) (.split (.cmp .lt (.lit 67) (.len (.var 1))) (.call 12 [] (.ret [(.bool (.of (.var 4)))])) (.split (.cmp .lt (.lit 402) (.len (.var 2))) (.call 12 [] (.ret [(.bool (.of (.var 4)))])) (.loop [.bool, .int] [(.bool (.lit false)), (.int (.lit 0))] (.split (.cmp .lt (.var 5) (.len (.var 1))) (.ob (.cmp .le (.lit 0) (.var 5)) (.ob (.cmp .lt (.var 5) (.len (.var 1))) (.split (.cmp .lt (.lit 6) (.len (.cell (.var 1) (.var 5) 0))) (.call 12 [] (.ret [(.bool (.of (.var 6)))])) (.back 0 [(.bool (.of (.var 4))), (.int (.add (.var 5) (.lit 1)))])))) (.call 14 [(.arr 4 (.var 0)), (.arr 35 (.var 1))] (.call 15 [(.arr 4 (.var 0)), (.arr 35 (.var 1))] (.call 16 [(.arr 4 (.var 0)), (.arr 35 (.var 1))] (.call 17 [(.arr 4 (.var 0)), (.arr 35 (.var 1))] (.split (.cmp .ne (.var 8) (.var 9)) (.ret [(.bool (.lit false))]) (.split (.cmp .ne (.len (.var 6)) (.len (.var 7))) (.ret [(.bool (.lit false))]) (.loop [.bool, .int] [(.bool (.of (.var 4))), (.int (.lit 0))] (.split (.cmp .lt (.var 11) (.len (.var 6))) (.ob (.cmp .le (.lit 0) (.var 11)) (.ob (.cmp .lt (.var 11) (.len (.var 6))) (.ob (.cmp .lt (.var 11) (.len (.var 7))) (.split (.not (.beq (.of (.cell (.var 6) (.var 11) 0)) (.of (.cell (.var 7) (.var 11) 0)))) (.ret [(.bool (.lit false))]) (.back 1 [(.bool (.of (.var 10))), (.int (.add (.var 11) (.lit 1)))]))))) (.arr [] (.ob (.cmp .le (.mul (.add (.len (.var 12)) (.len (.var 2))) (.lit 8)) (.lit 140737488355328)) (.cat (.var 12) (.var 2) (.call 18 [(.arr 4 (.var 0)), (.arr 35 (.var 1)), (.arr 3 (.var 13))] (.call 19 [(.arr 4 (.var 0)), (.arr 35 (.var 1)), (.arr 3 (.var 2))] (.split (.cmp .eq (.var 14) (.var 16)) (.split (.beq (.of (.var 15)) (.of (.var 17))) (.call 20 [(.arr 3 (.var 13)), (.arr 3 (.var 2))] (.split (.of (.var 18)) (.call 21 [(.arr 4 (.var 0)), (.arr 35 (.var 1)), (.int (.var 3))] (.call 22 [(.arr 4 (.var 0)), (.arr 35 (.var 1)), (.int (.var 3))] (.call 20 [(.arr 3 (.var 19)), (.arr 3 (.var 20))] (.split (.of (.var 21)) (.call 12 [] (.ret [(.bool (.of (.var 22)))])) (.ret [(.bool (.lit false))]))))) (.ret [(.bool (.lit false))]))) (.ret [(.bool (.lit false))])) (.ret [(.bool (.lit false))]))))))))))))))))))))
noncomputable def clchance : Cx := tab2.only [23, 13, 14, 16, 21, 24, 18, 12] (fun _ => []) [] 0 [] (fun _ => none)
def tlchance : Tree :=
  (.call 23 [(.arr 3 (.var 0))] (.dfn .nil (.dfn .nil (.dfn .nil (.loop [(.vec 3), .int] [(.cnt 3 (.var 6)), (.int (.lit 0))] (.split (.cmp .lt (.var 8) (.len (.var 1))) (.split (.cmp .lt (.var 8) (.lit 40)) (.ob (.cmp .le (.lit 0) (.var 8)) (.ob (.cmp .lt (.var 8) (.len (.var 1))) (.call 13 [(.int (.cell (.var 1) (.var 8) 0)), (.int (.len (.var 2)))] (.arr [[(.int (.var 9))]] (.ob (.cmp .le (.mul (.add (.len (.var 7)) (.len (.var 10))) (.lit 8)) (.lit 140737488355328)) (.cat (.var 7) (.var 10) (.back 0 [(.cnt 3 (.var 11)), (.int (.add (.var 8) (.lit 1)))]))))))) (.call 14 [(.arr 4 (.var 2)), (.arr 35 (.var 3))] (.split (.cmp .ne (.len (.var 9)) (.len (.var 2))) (.ret [(.bool (.lit false))]) (.call 16 [(.arr 4 (.var 2)), (.arr 35 (.var 3))] (.split (.cmp .ne (.var 10) (.lit 0)) (.ret [(.bool (.lit false))]) (.loop [.bool, .int] [(.bool (.lit false)), (.int (.lit 0))] (.split (.cmp .lt (.var 12) (.len (.var 2))) (.loop [.bool, .int] [(.bool (.lit false)), (.int (.lit 0))] (.ob (.cmp .le (.lit 0) (.var 12)) (.ob (.cmp .lt (.var 12) (.len (.var 3))) (.split (.cmp .lt (.var 14) (.len (.cell (.var 3) (.var 12) 0))) (.split (.of (.var 13)) (.back 2 [(.bool (.lit true)), (.int (.add (.var 14) (.lit 1)))]) (.ob (.cmp .lt (.var 12) (.len (.var 3))) (.ob (.cmp .le (.lit 0) (.var 14)) (.ob (.cmp .lt (.var 14) (.len (.cell (.var 3) (.var 12) 0))) (.ob (.cmp .le (.lit 0) (.cell (.cell (.var 3) (.var 12) 0) (.var 14) 0)) (.ob (.cmp .lt (.cell (.cell (.var 3) (.var 12) 0) (.var 14) 0) (.len (.var 9))) (.back 2 [(.bool (.of (.cell (.var 9) (.cell (.cell (.var 3) (.var 12) 0) (.var 14) 0) 0))), (.int (.add (.var 14) (.lit 1)))]))))))) (.ob (.cmp .lt (.var 12) (.len (.var 9))) (.split (.of (.var 13)) (.ob (.cmp .lt (.var 12) (.len (.var 2))) (.split (.not (.beq (.of (.cell (.var 9) (.var 12) 0)) (.not (.of (.cell (.var 2) (.var 12) 0))))) (.ret [(.bool (.lit false))]) (.call 21 [(.arr 4 (.var 2)), (.arr 35 (.var 3)), (.int (.var 12))] (.ob (.cmp .lt (.var 12) (.len (.var 9))) (.split (.not (.beq (.of (.cell (.var 9) (.var 12) 0)) (.cmp .lt (.lit 1) (.len (.var 15))))) (.ret [(.bool (.lit false))]) (.loop [.bool, .int] [(.bool (.of (.var 11))), (.int (.lit 0))] (.split (.cmp .lt (.var 17) (.len (.var 15))) (.ob (.cmp .le (.lit 0) (.var 17)) (.ob (.cmp .lt (.var 17) (.len (.var 15))) (.split (.cmp .lt (.cell (.var 15) (.var 17) 0) (.lit 0)) (.ret [(.bool (.lit false))]) (.ob (.cmp .lt (.var 17) (.len (.var 15))) (.split (.cmp .le (.len (.var 2)) (.cell (.var 15) (.var 17) 0)) (.ret [(.bool (.lit false))]) (.ob (.cmp .lt (.var 17) (.len (.var 15))) (.ob (.cmp .le (.lit 0) (.cell (.var 15) (.var 17) 0)) (.ob (.cmp .lt (.cell (.var 15) (.var 17) 0) (.len (.var 2))) (.split (.of (.cell (.var 2) (.cell (.var 15) (.var 17) 0) 0)) (.ret [(.bool (.lit false))]) (.split (.cmp .eq (.var 17) (.lit 0)) (.ob (.cmp .lt (.var 17) (.len (.var 15))) (.split (.cmp .ne (.cell (.var 15) (.var 17) 0) (.var 12)) (.ret [(.bool (.lit false))]) (.back 3 [(.bool (.of (.var 16))), (.int (.add (.var 17) (.lit 1)))]))) (.split (.cmp .lt (.lit 0) (.var 17)) (.ob (.cmp .lt (.sub (.var 17) (.lit 1)) (.len (.var 15))) (.ob (.cmp .le (.lit 0) (.cell (.var 15) (.sub (.var 17) (.lit 1)) 0)) (.ob (.cmp .lt (.cell (.var 15) (.sub (.var 17) (.lit 1)) 0) (.len (.var 3))) (.ob (.cmp .lt (.var 17) (.len (.var 15))) (.call 24 [(.arr 3 (.cell (.var 3) (.cell (.var 15) (.sub (.var 17) (.lit 1)) 0) 0)), (.int (.cell (.var 15) (.var 17) 0))] (.split (.not (.of (.var 18))) (.ret [(.bool (.lit false))]) (.back 3 [(.bool (.of (.var 16))), (.int (.add (.var 17) (.lit 1)))]))))))) (.back 3 [(.bool (.of (.var 16))), (.int (.add (.var 17) (.lit 1)))])))))))))))) (.fail 50029 [0])))))))) (.split (.not (.beq (.of (.cell (.var 9) (.var 12) 0)) (.lit false))) (.ret [(.bool (.lit false))]) (.call 21 [(.arr 4 (.var 2)), (.arr 35 (.var 3)), (.int (.var 12))] (.ob (.cmp .lt (.var 12) (.len (.var 9))) (.split (.not (.beq (.of (.cell (.var 9) (.var 12) 0)) (.cmp .lt (.lit 1) (.len (.var 15))))) (.ret [(.bool (.lit false))]) (.loop [.bool, .int] [(.bool (.of (.var 11))), (.int (.lit 0))] (.split (.cmp .lt (.var 17) (.len (.var 15))) (.ob (.cmp .le (.lit 0) (.var 17)) (.ob (.cmp .lt (.var 17) (.len (.var 15))) (.split (.cmp .lt (.cell (.var 15) (.var 17) 0) (.lit 0)) (.ret [(.bool (.lit false))]) (.ob (.cmp .lt (.var 17) (.len (.var 15))) (.split (.cmp .le (.len (.var 2)) (.cell (.var 15) (.var 17) 0)) (.ret [(.bool (.lit false))]) (.ob (.cmp .lt (.var 17) (.len (.var 15))) (.ob (.cmp .le (.lit 0) (.cell (.var 15) (.var 17) 0)) (.ob (.cmp .lt (.cell (.var 15) (.var 17) 0) (.len (.var 2))) (.split (.of (.cell (.var 2) (.cell (.var 15) (.var 17) 0) 0)) (.ret [(.bool (.lit false))]) (.split (.cmp .eq (.var 17) (.lit 0)) (.ob (.cmp .lt (.var 17) (.len (.var 15))) (.split (.cmp .ne (.cell (.var 15) (.var 17) 0) (.var 12)) (.ret [(.bool (.lit false))]) (.back 3 [(.bool (.of (.var 16))), (.int (.add (.var 17) (.lit 1)))]))) (.split (.cmp .lt (.lit 0) (.var 17)) (.ob (.cmp .lt (.sub (.var 17) (.lit 1)) (.len (.var 15))) (.ob (.cmp .le (.lit 0) (.cell (.var 15) (.sub (.var 17) (.lit 1)) 0)) (.ob (.cmp .lt (.cell (.var 15) (.sub (.var 17) (.lit 1)) 0) (.len (.var 3))) (.ob (.cmp .lt (.var 17) (.len (.var 15))) (.call 24 [(.arr 3 (.cell (.var 3) (.cell (.var 15) (.sub (.var 17) (.lit 1)) 0) 0)), (.int (.cell (.var 15) (.var 17) 0))] (.split (.not (.of (.var 18))) (.ret [(.bool (.lit false))]) (.back 3 [(.bool (.of (.var 16))), (.int (.add (.var 17) (.lit 1)))]))))))) (.back 3 [(.bool (.of (.var 16))), (.int (.add (.var 17) (.lit 1)))])))))))))))) (.fail 50029 [0]))))))))))))) (.call 18 [(.arr 4 (.var 2)), (.arr 35 (.var 3)), (.arr 3 (.var 7))] (.split (.of (.var 14)) (.split (.cmp .lt (.var 13) (.lit 0)) (.ret [(.bool (.lit false))]) (.split (.cmp .le (.len (.var 7)) (.var 13)) (.ret [(.bool (.lit false))]) (.ob (.cmp .lt (.var 13) (.len (.var 7))) (.ob (.cmp .le (.lit 0) (.cell (.var 7) (.var 13) 0)) (.ob (.cmp .lt (.cell (.var 7) (.var 13) 0) (.len (.var 9))) (.split (.not (.of (.cell (.var 9) (.cell (.var 7) (.var 13) 0) 0))) (.ret [(.bool (.lit false))]) (.split (.not (.of (.var 14))) (.split (.cmp .ne (.var 13) (.lit 0)) (.ret [(.bool (.lit false))]) (.loop [.bool, .int] [(.bool (.of (.var 11))), (.int (.lit 0))] (.split (.cmp .lt (.var 16) (.len (.var 7))) (.ob (.cmp .le (.lit 0) (.var 16)) (.ob (.cmp .lt (.var 16) (.len (.var 7))) (.ob (.cmp .le (.lit 0) (.cell (.var 7) (.var 16) 0)) (.ob (.cmp .lt (.cell (.var 7) (.var 16) 0) (.len (.var 9))) (.split (.of (.cell (.var 9) (.cell (.var 7) (.var 16) 0) 0)) (.split (.not (.of (.var 14))) (.ret [(.bool (.lit false))]) (.split (.cmp .lt (.var 13) (.var 16)) (.ret [(.bool (.lit false))]) (.back 2 [(.bool (.of (.var 15))), (.int (.add (.var 16) (.lit 1)))]))) (.back 2 [(.bool (.of (.var 15))), (.int (.add (.var 16) (.lit 1)))])))))) (.call 12 [] (.ret [(.bool (.of (.var 17)))]))))) (.loop [.bool, .int] [(.bool (.of (.var 11))), (.int (.lit 0))] (.split (.cmp .lt (.var 16) (.len (.var 7))) (.ob (.cmp .le (.lit 0) (.var 16)) (.ob (.cmp .lt (.var 16) (.len (.var 7))) (.ob (.cmp .le (.lit 0) (.cell (.var 7) (.var 16) 0)) (.ob (.cmp .lt (.cell (.var 7) (.var 16) 0) (.len (.var 9))) (.split (.of (.cell (.var 9) (.cell (.var 7) (.var 16) 0) 0)) (.split (.not (.of (.var 14))) (.ret [(.bool (.lit false))]) (.split (.cmp .lt (.var 13) (.var 16)) (.ret [(.bool (.lit false))]) (.back 2 [(.bool (.of (.var 15))), (.int (.add (.var 16) (.lit 1)))]))) (.back 2 [(.bool (.of (.var 15))), (.int (.add (.var 16) (.lit 1)))])))))) (.call 12 [] (.ret [(.bool (.of (.var 17)))]))))))))))) (.split (.not (.of (.var 14))) (.split (.cmp .ne (.var 13) (.lit 0)) (.ret [(.bool (.lit false))]) (.loop [.bool, .int] [(.bool (.of (.var 11))), (.int (.lit 0))] (.split (.cmp .lt (.var 16) (.len (.var 7))) (.ob (.cmp .le (.lit 0) (.var 16)) (.ob (.cmp .lt (.var 16) (.len (.var 7))) (.ob (.cmp .le (.lit 0) (.cell (.var 7) (.var 16) 0)) (.ob (.cmp .lt (.cell (.var 7) (.var 16) 0) (.len (.var 9))) (.split (.of (.cell (.var 9) (.cell (.var 7) (.var 16) 0) 0)) (.split (.not (.of (.var 14))) (.ret [(.bool (.lit false))]) (.split (.cmp .lt (.var 13) (.var 16)) (.ret [(.bool (.lit false))]) (.back 2 [(.bool (.of (.var 15))), (.int (.add (.var 16) (.lit 1)))]))) (.back 2 [(.bool (.of (.var 15))), (.int (.add (.var 16) (.lit 1)))])))))) (.call 12 [] (.ret [(.bool (.of (.var 17)))]))))) (.loop [.bool, .int] [(.bool (.of (.var 11))), (.int (.lit 0))] (.split (.cmp .lt (.var 16) (.len (.var 7))) (.ob (.cmp .le (.lit 0) (.var 16)) (.ob (.cmp .lt (.var 16) (.len (.var 7))) (.ob (.cmp .le (.lit 0) (.cell (.var 7) (.var 16) 0)) (.ob (.cmp .lt (.cell (.var 7) (.var 16) 0) (.len (.var 9))) (.split (.of (.cell (.var 9) (.cell (.var 7) (.var 16) 0) 0)) (.split (.not (.of (.var 14))) (.ret [(.bool (.lit false))]) (.split (.cmp .lt (.var 13) (.var 16)) (.ret [(.bool (.lit false))]) (.back 2 [(.bool (.of (.var 15))), (.int (.add (.var 16) (.lit 1)))]))) (.back 2 [(.bool (.of (.var 15))), (.int (.add (.var 16) (.lit 1)))])))))) (.call 12 [] (.ret [(.bool (.of (.var 17)))])))))))))))))) (.call 14 [(.arr 4 (.var 2)), (.arr 35 (.var 3))] (.split (.cmp .ne (.len (.var 9)) (.len (.var 2))) (.ret [(.bool (.lit false))]) (.call 16 [(.arr 4 (.var 2)), (.arr 35 (.var 3))] (.split (.cmp .ne (.var 10) (.lit 0)) (.ret [(.bool (.lit false))]) (.loop [.bool, .int] [(.bool (.lit false)), (.int (.lit 0))] (.split (.cmp .lt (.var 12) (.len (.var 2))) (.loop [.bool, .int] [(.bool (.lit false)), (.int (.lit 0))] (.ob (.cmp .le (.lit 0) (.var 12)) (.ob (.cmp .lt (.var 12) (.len (.var 3))) (.split (.cmp .lt (.var 14) (.len (.cell (.var 3) (.var 12) 0))) (.split (.of (.var 13)) (.back 2 [(.bool (.lit true)), (.int (.add (.var 14) (.lit 1)))]) (.ob (.cmp .lt (.var 12) (.len (.var 3))) (.ob (.cmp .le (.lit 0) (.var 14)) (.ob (.cmp .lt (.var 14) (.len (.cell (.var 3) (.var 12) 0))) (.ob (.cmp .le (.lit 0) (.cell (.cell (.var 3) (.var 12) 0) (.var 14) 0)) (.ob (.cmp .lt (.cell (.cell (.var 3) (.var 12) 0) (.var 14) 0) (.len (.var 9))) (.back 2 [(.bool (.of (.cell (.var 9) (.cell (.cell (.var 3) (.var 12) 0) (.var 14) 0) 0))), (.int (.add (.var 14) (.lit 1)))]))))))) (.ob (.cmp .lt (.var 12) (.len (.var 9))) (.split (.of (.var 13)) (.ob (.cmp .lt (.var 12) (.len (.var 2))) (.split (.not (.beq (.of (.cell (.var 9) (.var 12) 0)) (.not (.of (.cell (.var 2) (.var 12) 0))))) (.ret [(.bool (.lit false))]) (.call 21 [(.arr 4 (.var 2)), (.arr 35 (.var 3)), (.int (.var 12))] (.ob (.cmp .lt (.var 12) (.len (.var 9))) (.split (.not (.beq (.of (.cell (.var 9) (.var 12) 0)) (.cmp .lt (.lit 1) (.len (.var 15))))) (.ret [(.bool (.lit false))]) (.loop [.bool, .int] [(.bool (.of (.var 11))), (.int (.lit 0))] (.split (.cmp .lt (.var 17) (.len (.var 15))) (.ob (.cmp .le (.lit 0) (.var 17)) (.ob (.cmp .lt (.var 17) (.len (.var 15))) (.split (.cmp .lt (.cell (.var 15) (.var 17) 0) (.lit 0)) (.ret [(.bool (.lit false))]) (.ob (.cmp .lt (.var 17) (.len (.var 15))) (.split (.cmp .le (.len (.var 2)) (.cell (.var 15) (.var 17) 0)) (.ret [(.bool (.lit false))]) (.ob (.cmp .lt (.var 17) (.len (.var 15))) (.ob (.cmp .le (.lit 0) (.cell (.var 15) (.var 17) 0)) (.ob (.cmp .lt (.cell (.var 15) (.var 17) 0) (.len (.var 2))) (.split (.of (.cell (.var 2) (.cell (.var 15) (.var 17) 0) 0)) (.ret [(.bool (.lit false))]) (.split (.cmp .eq (.var 17) (.lit 0)) (.ob (.cmp .lt (.var 17) (.len (.var 15))) (.split (.cmp .ne (.cell (.var 15) (.var 17) 0) (.var 12)) (.ret [(.bool (.lit false))]) (.back 3 [(.bool (.of (.var 16))), (.int (.add (.var 17) (.lit 1)))]))) (.split (.cmp .lt (.lit 0) (.var 17)) (.ob (.cmp .lt (.sub (.var 17) (.lit 1)) (.len (.var 15))) (.ob (.cmp .le (.lit 0) (.cell (.var 15) (.sub (.var 17) (.lit 1)) 0)) (.ob (.cmp .lt (.cell (.var 15) (.sub (.var 17) (.lit 1)) 0) (.len (.var 3))) (.ob (.cmp .lt (.var 17) (.len (.var 15))) (.call 24 [(.arr 3 (.cell (.var 3) (.cell (.var 15) (.sub (.var 17) (.lit 1)) 0) 0)), (.int (.cell (.var 15) (.var 17) 0))] (.split (.not (.of (.var 18))) (.ret [(.bool (.lit false))]) (.back 3 [(.bool (.of (.var 16))), (.int (.add (.var 17) (.lit 1)))]))))))) (.back 3 [(.bool (.of (.var 16))), (.int (.add (.var 17) (.lit 1)))])))))))))))) (.fail 50029 [0])))))))) (.split (.not (.beq (.of (.cell (.var 9) (.var 12) 0)) (.lit false))) (.ret [(.bool (.lit false))]) (.call 21 [(.arr 4 (.var 2)), (.arr 35 (.var 3)), (.int (.var 12))] (.ob (.cmp .lt (.var 12) (.len (.var 9))) (.split (.not (.beq (.of (.cell (.var 9) (.var 12) 0)) (.cmp .lt (.lit 1) (.len (.var 15))))) (.ret [(.bool (.lit false))]) (.loop [.bool, .int] [(.bool (.of (.var 11))), (.int (.lit 0))] (.split (.cmp .lt (.var 17) (.len (.var 15))) (.ob (.cmp .le (.lit 0) (.var 17)) (.ob (.cmp .lt (.var 17) (.len (.var 15))) (.split (.cmp .lt (.cell (.var 15) (.var 17) 0) (.lit 0)) (.ret [(.bool (.lit false))]) (.ob (.cmp .lt (.var 17) (.len (.var 15))) (.split (.cmp .le (.len (.var 2)) (.cell (.var 15) (.var 17) 0)) (.ret [(.bool (.lit false))]) (.ob (.cmp .lt (.var 17) (.len (.var 15))) (.ob (.cmp .le (.lit 0) (.cell (.var 15) (.var 17) 0)) (.ob (.cmp .lt (.cell (.var 15) (.var 17) 0) (.len (.var 2))) (.split (.of (.cell (.var 2) (.cell (.var 15) (.var 17) 0) 0)) (.ret [(.bool (.lit false))]) (.split (.cmp .eq (.var 17) (.lit 0)) (.ob (.cmp .lt (.var 17) (.len (.var 15))) (.split (.cmp .ne (.cell (.var 15) (.var 17) 0) (.var 12)) (.ret [(.bool (.lit false))]) (.back 3 [(.bool (.of (.var 16))), (.int (.add (.var 17) (.lit 1)))]))) (.split (.cmp .lt (.lit 0) (.var 17)) (.ob (.cmp .lt (.sub (.var 17) (.lit 1)) (.len (.var 15))) (.ob (.cmp .le (.lit 0) (.cell (.var 15) (.sub (.var 17) (.lit 1)) 0)) (.ob (.cmp .lt (.cell (.var 15) (.sub (.var 17) (.lit 1)) 0) (.len (.var 3))) (.ob (.cmp .lt (.var 17) (.len (.var 15))) (.call 24 [(.arr 3 (.cell (.var 3) (.cell (.var 15) (.sub (.var 17) (.lit 1)) 0) 0)), (.int (.cell (.var 15) (.var 17) 0))] (.split (.not (.of (.var 18))) (.ret [(.bool (.lit false))]) (.back 3 [(.bool (.of (.var 16))), (.int (.add (.var 17) (.lit 1)))]))))))) (.back 3 [(.bool (.of (.var 16))), (.int (.add (.var 17) (.lit 1)))])))))))))))) (.fail 50029 [0]))))))))))))) (.call 18 [(.arr 4 (.var 2)), (.arr 35 (.var 3)), (.arr 3 (.var 7))] (.split (.of (.var 14)) (.split (.cmp .lt (.var 13) (.lit 0)) (.ret [(.bool (.lit false))]) (.split (.cmp .le (.len (.var 7)) (.var 13)) (.ret [(.bool (.lit false))]) (.ob (.cmp .lt (.var 13) (.len (.var 7))) (.ob (.cmp .le (.lit 0) (.cell (.var 7) (.var 13) 0)) (.ob (.cmp .lt (.cell (.var 7) (.var 13) 0) (.len (.var 9))) (.split (.not (.of (.cell (.var 9) (.cell (.var 7) (.var 13) 0) 0))) (.ret [(.bool (.lit false))]) (.split (.not (.of (.var 14))) (.split (.cmp .ne (.var 13) (.lit 0)) (.ret [(.bool (.lit false))]) (.loop [.bool, .int] [(.bool (.of (.var 11))), (.int (.lit 0))] (.split (.cmp .lt (.var 16) (.len (.var 7))) (.ob (.cmp .le (.lit 0) (.var 16)) (.ob (.cmp .lt (.var 16) (.len (.var 7))) (.ob (.cmp .le (.lit 0) (.cell (.var 7) (.var 16) 0)) (.ob (.cmp .lt (.cell (.var 7) (.var 16) 0) (.len (.var 9))) (.split (.of (.cell (.var 9) (.cell (.var 7) (.var 16) 0) 0)) (.split (.not (.of (.var 14))) (.ret [(.bool (.lit false))]) (.split (.cmp .lt (.var 13) (.var 16)) (.ret [(.bool (.lit false))]) (.back 2 [(.bool (.of (.var 15))), (.int (.add (.var 16) (.lit 1)))]))) (.back 2 [(.bool (.of (.var 15))), (.int (.add (.var 16) (.lit 1)))])))))) (.call 12 [] (.ret [(.bool (.of (.var 17)))]))))) (.loop [.bool, .int] [(.bool (.of (.var 11))), (.int (.lit 0))] (.split (.cmp .lt (.var 16) (.len (.var 7))) (.ob (.cmp .le (.lit 0) (.var 16)) (.ob (.cmp .lt (.var 16) (.len (.var 7))) (.ob (.cmp .le (.lit 0) (.cell (.var 7) (.var 16) 0)) (.ob (.cmp .lt (.cell (.var 7) (.var 16) 0) (.len (.var 9))) (.split (.of (.cell (.var 9) (.cell (.var 7) (.var 16) 0) 0)) (.split (.not (.of (.var 14))) (.ret [(.bool (.lit false))]) (.split (.cmp .lt (.var 13) (.var 16)) (.ret [(.bool (.lit false))]) (.back 2 [(.bool (.of (.var 15))), (.int (.add (.var 16) (.lit 1)))]))) (.back 2 [(.bool (.of (.var 15))), (.int (.add (.var 16) (.lit 1)))])))))) (.call 12 [] (.ret [(.bool (.of (.var 17)))]))))))))))) (.split (.not (.of (.var 14))) (.split (.cmp .ne (.var 13) (.lit 0)) (.ret [(.bool (.lit false))]) (.loop [.bool, .int] [(.bool (.of (.var 11))), (.int (.lit 0))] (.split (.cmp .lt (.var 16) (.len (.var 7))) (.ob (.cmp .le (.lit 0) (.var 16)) (.ob (.cmp .lt (.var 16) (.len (.var 7))) (.ob (.cmp .le (.lit 0) (.cell (.var 7) (.var 16) 0)) (.ob (.cmp .lt (.cell (.var 7) (.var 16) 0) (.len (.var 9))) (.split (.of (.cell (.var 9) (.cell (.var 7) (.var 16) 0) 0)) (.split (.not (.of (.var 14))) (.ret [(.bool (.lit false))]) (.split (.cmp .lt (.var 13) (.var 16)) (.ret [(.bool (.lit false))]) (.back 2 [(.bool (.of (.var 15))), (.int (.add (.var 16) (.lit 1)))]))) (.back 2 [(.bool (.of (.var 15))), (.int (.add (.var 16) (.lit 1)))])))))) (.call 12 [] (.ret [(.bool (.of (.var 17)))]))))) (.loop [.bool, .int] [(.bool (.of (.var 11))), (.int (.lit 0))] (.split (.cmp .lt (.var 16) (.len (.var 7))) (.ob (.cmp .le (.lit 0) (.var 16)) (.ob (.cmp .lt (.var 16) (.len (.var 7))) (.ob (.cmp .le (.lit 0) (.cell (.var 7) (.var 16) 0)) (.ob (.cmp .lt (.cell (.var 7) (.var 16) 0) (.len (.var 9))) (.split (.of (.cell (.var 9) (.cell (.var 7) (.var 16) 0) 0)) (.split (.not (.of (.var 14))) (.ret [(.bool (.lit false))]) (.split (.cmp .lt (.var 13) (.var 16)) (.ret [(.bool (.lit false))]) (.back 2 [(.bool (.of (.var 15))), (.int (.add (.var 16) (.lit 1)))]))) (.back 2 [(.bool (.of (.var 15))), (.int (.add (.var 16) (.lit 1)))])))))) (.call 12 [] (.ret [(.bool (.of (.var 17)))])))))))))))))))))))
end Go.Proofs.Ytbgofenplhdllaa
/- House: lists compared. -/
namespace Go.Proofs.Ytbgofenplhdllaa
open Go.RowKit
set_option linter.unusedSimpArgs false
set_option linter.unusedVariables false

theorem take_next {α : Type} {a b : List α} {i : Nat} (d : α) (h : a.take i = b.take i) (ha : i < a.length) (hb : i < b.length) (he : a.getD i d = b.getD i d) : a.take (i + 1) = b.take (i + 1) := by
  rw [take_snoc ha d, take_snoc hb d, h, he]
theorem take_all {α : Type} {a b : List α} {i : Nat} (h : a.take i = b.take i) (hi : a.length ≤ i ∨ b.length ≤ i) : a = b ↔ a.length = b.length := by
  constructor
  · intro e; rw [e]
  · intro e
    rw [List.take_of_length_le (by omega), List.take_of_length_le (by omega)] at h
    exact h
theorem ne_at {α : Type} {a b : List α} {i : Nat} {d : α} (h : a.getD i d ≠ b.getD i d) : a ≠ b := fun e => h (by rw [e])
theorem beq_no {α : Type} [BEq α] [LawfulBEq α] {a b : α} (h : a ≠ b) : (a == b) = false := beq_eq_false_iff_ne.2 h
theorem beq_ok {α : Type} [BEq α] [LawfulBEq α] {a b : α} (h : a = b) : (a == b) = true := beq_iff_eq.2 h
theorem sameints_ok : tab2.ok 20 := by
  refine Tab.of_ct rfl rfl ⟨_, Try.func20, by decide, rfl⟩ ?_ ctF_det
  refine ct_ok (cx := csameints) (Tab.cx_ok all_nil) Try.func20 (bds := []) (T := tsameints) (by kernel_rfl) ?_
  unfold tsameints
  simp only [VC, allC, List.map_cons, List.map_nil, List.length_cons, List.length_nil, List.getElem?_cons_zero, List.getElem?_cons_succ, List.cons.injEq, C.i.injEq, C.b.injEq, and_true, true_and, forall_const, kindsOf_nil, kindsOf_lf, kindsOf_agg, kindsOf_box, boxKinds_nil, boxKinds_lf, boxKinds_agg, boxKinds_box, List.append_nil, List.cons_append, List.nil_append, den_cmp_le, den_cmp_lt, den_cmp_eq, den_cmp_ne, den_cmp_le', den_cmp_lt', den_cmp_eq', den_cmp_ne', den_and, den_and', den_or, den_or', den_not, den_not', den_blit, den_of, ev_var, at_0, at_1, at_2, at_3, at_4, at_5, at_6, at_7, at_skip, c_int, c_bool, c_arr, c_cnt, c_vec, ev_nil, ev_join, ev_sub3, loc_s, int_i, bool_b, rows_s, cs_nil, cs_cons, E.den_lit, E.den_var, E.den_add, E.den_sub, E.den_mul, E.den_quo, E.den_rem, E.den_max, E.den_min, E.den_len, E.den_wr, E.den_cell, ev_cell, int_at, ctSameInts, ctF, intsSh]
  intro v0 r0 d0 _ hs0 v1 r1 d1 _ hs1
  have e0 := ints_len r0
  have e1 := ints_len r1
  generalize ints r0 = a at *
  generalize ints r1 = b at *
  refine ⟨bds_nil _, fun xs => match xs with | [_, .i i] => 0 ≤ i ∧ i ≤ a.length ∧ i ≤ b.length ∧ a.take i.toNat = b.take i.toNat | _ => False, fun xs => match xs with | [_, .i i] => ((a.length : Int) - i).toNat | _ => 0, ⟨by omega, by omega, by omega, by simp⟩, ?_⟩
  rintro x i _ _ ⟨i0, i1, i2, h⟩
  have fin : (a.length ≤ i.toNat ∨ b.length ≤ i.toNat) → B.den [C.s v0 r0, C.s v1 r1, C.b x, C.i i] (.cmp .eq (.len (.var 0)) (.len (.var 1))) = (a == b) := fun hle => by
    rw [Bool.eq_iff_iff, beq_iff_eq, take_all h hle]
    simp only [den_cmp_eq, E.den_len, ev_var, at_0, at_1, rows_s]
    omega
  refine ⟨fun hl => ⟨fun hr => ⟨i0, hl, hr, fun hne => ?_, fun he => ⟨⟨by omega, by omega, by omega, ?_⟩, (show ((a.length : Int) - (i + 1)).toNat < ((a.length : Int) - i).toNat by omega)⟩⟩, fun hr => fin (by omega)⟩, fun hl => fin (by omega)⟩
  · exact (beq_no (ne_at hne)).symm
  · rw [show (i + 1).toNat = i.toNat + 1 by omega]; exact take_next 0 h (by omega) (by omega) he
theorem hasint_ok : tab2.ok 24 := by
  refine Tab.of_ct rfl rfl ⟨_, Try.func24, by decide, rfl⟩ ?_ ctF_det
  refine ct_ok (cx := chasint) (Tab.cx_ok all_nil) Try.func24 (bds := []) (T := thasint) (by kernel_rfl) ?_
  unfold thasint
  simp only [VC, allC, List.map_cons, List.map_nil, List.length_cons, List.length_nil, List.getElem?_cons_zero, List.getElem?_cons_succ, List.cons.injEq, C.i.injEq, C.b.injEq, and_true, true_and, forall_const, kindsOf_nil, kindsOf_lf, kindsOf_agg, kindsOf_box, boxKinds_nil, boxKinds_lf, boxKinds_agg, boxKinds_box, List.append_nil, List.cons_append, List.nil_append, den_cmp_le, den_cmp_lt, den_cmp_eq, den_cmp_ne, den_cmp_le', den_cmp_lt', den_cmp_eq', den_cmp_ne', den_and, den_and', den_or, den_or', den_not, den_not', den_blit, den_of, ev_var, at_0, at_1, at_2, at_3, at_4, at_5, at_6, at_7, at_skip, c_int, c_bool, c_arr, c_cnt, c_vec, ev_nil, ev_join, ev_sub3, loc_s, int_i, bool_b, rows_s, cs_nil, cs_cons, E.den_lit, E.den_var, E.den_add, E.den_sub, E.den_mul, E.den_quo, E.den_rem, E.den_max, E.den_min, E.den_len, E.den_wr, E.den_cell, ev_cell, int_at, ctHas, ctF, intsSh, n_]
  intro v0 r0 d0 _ hs0 n _ _
  have e0 := ints_len r0
  generalize ints r0 = a at *
  refine ⟨bds_nil _, fun xs => match xs with | [_, .i i] => 0 ≤ i ∧ i ≤ a.length ∧ ∀ x ∈ a.take i.toNat, x ≠ n | _ => False, fun xs => match xs with | [_, .i i] => ((a.length : Int) - i).toNat | _ => 0, ⟨by omega, by omega, fun x hx => by simp at hx⟩, ?_⟩
  rintro x i _ _ ⟨i0, i1, h⟩
  refine ⟨fun hl => ⟨i0, hl, fun he => ?_, fun hne => ⟨⟨by omega, by omega, fun y hy => ?_⟩, (show ((a.length : Int) - (i + 1)).toNat < ((a.length : Int) - i).toNat by omega)⟩⟩, fun hl => ?_⟩
  · rw [List.contains_eq_mem, decide_eq_true]
    rw [← he]; exact getD_mem (by omega) 0
  · rw [show (i + 1).toNat = i.toNat + 1 by omega, take_snoc (by omega) 0] at hy
    rcases List.mem_append.1 hy with hy | hy
    · exact h y hy
    · rw [List.mem_singleton] at hy; subst hy; exact hne
  · rw [List.take_of_length_le (by omega)] at h
    rw [List.contains_eq_mem, decide_eq_false]
    exact fun hm => h n hm rfl
theorem samelists_ok : tab2.ok 11 := by
  refine Tab.of_ct rfl rfl ⟨_, Try.func11, by decide, rfl⟩ ?_ ctF_det
  refine ct_ok (cx := csamelists) (Tab.cx_ok (all_cons sameints_ok all_nil)) Try.func11 (bds := []) (T := tsamelists) (by kernel_rfl) ?_
  have h1 : csamelists.ct 20 = some ctSameInts := rfl
  unfold tsamelists
  simp only [VC, allC, List.map_cons, List.map_nil, List.length_cons, List.length_nil, List.getElem?_cons_zero, List.getElem?_cons_succ, List.cons.injEq, C.i.injEq, C.b.injEq, and_true, true_and, forall_const, kindsOf_nil, kindsOf_lf, kindsOf_agg, kindsOf_box, boxKinds_nil, boxKinds_lf, boxKinds_agg, boxKinds_box, List.append_nil, List.cons_append, List.nil_append, den_cmp_le, den_cmp_lt, den_cmp_eq, den_cmp_ne, den_cmp_le', den_cmp_lt', den_cmp_eq', den_cmp_ne', den_and, den_and', den_or, den_or', den_not, den_not', den_blit, den_of, ev_var, at_0, at_1, at_2, at_3, at_4, at_5, at_6, at_7, at_skip, c_int, c_bool, c_arr, c_cnt, c_vec, ev_nil, ev_join, ev_sub3, loc_s, int_i, bool_b, rows_s, cs_nil, cs_cons, E.den_lit, E.den_var, E.den_add, E.den_sub, E.den_mul, E.den_quo, E.den_rem, E.den_max, E.den_min, E.den_len, E.den_wr, E.den_cell, ev_cell, ints_at, h1, ctSameInts, ctSameLists, ctF, intsSh]
  intro v0 r0 d0 _ hs0 v1 r1 d1 _ hs1
  have e0 := intss_len r0
  have e1 := intss_len r1
  generalize intss r0 = a at *
  generalize intss r1 = b at *
  refine ⟨bds_nil _, fun hne => (beq_no fun e => hne (by rw [e] at e0; omega)).symm, fun he => ?_⟩
  refine ⟨fun xs => match xs with | [_, .i i] => 0 ≤ i ∧ i ≤ a.length ∧ a.take i.toNat = b.take i.toNat | _ => False, fun xs => match xs with | [_, .i i] => ((a.length : Int) - i).toNat | _ => 0, ⟨by omega, by omega, by simp⟩, ?_⟩
  rintro x i _ _ ⟨i0, i1, h⟩
  refine ⟨fun hl => ⟨i0, hl, by omega, ?_⟩, fun hl => ?_⟩
  · rintro t ht
    have ht : t = (a.getD i.toNat [] == b.getD i.toNat []) := ht
    refine ⟨fun hf => ?_, fun htt => ⟨⟨by omega, by omega, ?_⟩, (show ((a.length : Int) - (i + 1)).toNat < ((a.length : Int) - i).toNat by omega)⟩⟩
    · rw [ht, beq_eq_false_iff_ne] at hf
      exact (beq_no (ne_at hf)).symm
    · rw [ht, beq_iff_eq] at htt
      rw [show (i + 1).toNat = i.toNat + 1 by omega]; exact take_next [] h (by omega) (by omega) htt
  · exact (beq_ok ((take_all h (by omega)).2 (by omega))).symm
end Go.Proofs.Ytbgofenplhdllaa
/- House: the ways, both texts. -/
namespace Go.Proofs.Ytbgofenplhdllaa
open Go.RowKit
set_option linter.unusedSimpArgs false
set_option linter.unusedVariables false

theorem nextW_at {S : List Bool} : ∀ {l : List Int} {k : Nat}, k < l.length → (∀ z ∈ l.take k, S.getD z.toNat false = false) → S.getD (l.getD k 0).toNat false = true → nextW S l = l.getD k 0
  | [], k, h, _, _ => by simp at h
  | x :: l, 0, _, _, h => by
    unfold nextW
    have h : S.getD x.toNat false = true := h
    rw [List.find?_cons_of_pos (by exact h)]; rfl
  | x :: l, k + 1, hk, hz, h => by
    have hx : S.getD x.toNat false = false := hz x (by simp)
    have ih := nextW_at (S := S) (l := l) (k := k) (by simpa using hk) (fun z hz' => hz z (by simp [hz'])) h
    unfold nextW at *
    rw [List.find?_cons_of_neg (by rw [hx]; simp)]
    exact ih
theorem leads_none {S : List Bool} {l : List Int} (h : ∀ z ∈ l, S.getD z.toNat false = false) : leads S l = false := by
  cases hl : leads S l with
  | false => rfl
  | true =>
    obtain ⟨z, hz, hs⟩ := List.any_eq_true.1 hl
    rw [h z hz] at hs; cases hs
/-- What the walk of a way knows. -/
structure WayIn (b : Blow) (i : Int) (n : Nat) (pre : List Int) (s : Int) : Prop where
  at' : WayAt b i pre s
  val : wayV b i = wayGo b.moves (safeV b) n pre s
  len : n + pre.length = b.lost.length + 1
theorem WayIn.pos {b : Blow} {i s : Int} {n : Nat} {pre : List Int} (h : WayIn b i n pre s) : ∃ m, n = m + 1 := ⟨n - 1, by have := h.at'.len; have := h.len; omega⟩
theorem WayIn.start {b : Blow} {i : Int} (h0 : 0 ≤ i) (h : (safeV b).getD i.toNat false = true) : WayIn b i (b.lost.length + 1) [] i := by
  obtain ⟨hc, hl⟩ := safeV_lt h
  have hlen : (safeV b).length = b.lost.length := by rw [safeV_ok hc, safeF_len]
  refine ⟨.start ⟨h0, by omega, h⟩, ?_, by simp⟩
  unfold wayV
  rw [if_pos ⟨h0, by omega, h⟩]
theorem WayIn.step {b : Blow} (hc : checkV b = 0) {i s : Int} {n : Nat} {pre : List Int} (h : WayIn b i n pre s) (hn : pre.contains s = false) : ∃ m, WayIn b i m (pre ++ [s]) (nextW (safeV b) (b.moves.getD s.toNat [])) := by
  obtain ⟨m, rfl⟩ := h.pos
  exact ⟨m, h.at'.step hc hn, by rw [h.val, wayGo_on hn], by have := h.len; simp; omega⟩
theorem WayIn.met {b : Blow} {i s : Int} {n : Nat} {pre : List Int} (h : WayIn b i n pre s) (hn : pre.contains s = true) : wayV b i = pre ++ [s] := by
  obtain ⟨m, rfl⟩ := h.pos
  rw [h.val, wayGo_met hn]
theorem contains_iff {l : List Int} {x : Int} : l.contains x = true ↔ x ∈ l := by rw [List.contains_eq_mem]; exact decide_eq_true_iff
theorem contains_no {l : List Int} {x : Int} (h : x ∉ l) : l.contains x = false := by
  cases hc : l.contains x with
  | false => rfl
  | true => exact absurd (contains_iff.1 hc) h
theorem ofInts_snoc (l : List Int) (x : Int) : ofInts l ++ [[.i x]] = ofInts (l ++ [x]) := by simp [ofInts]
theorem way_nil {b : Blow} {i : Int} (h : i < 0 ∨ ((safeV b).length : Int) ≤ i ∨ (safeV b).getD i.toNat false = false) : wayV b i = [] := by
  unfold wayV
  rw [if_neg]
  rintro ⟨h1, h2, h3⟩
  rcases h with h | h | h
  · omega
  · omega
  · rw [h] at h3; cases h3
theorem way_ok : tab2.ok 21 := by
  refine Tab.of_ct rfl rfl ⟨_, Try.func21, by decide, rfl⟩ ?_ (fun h => by cases h)
  refine ct_ok (cx := cway) (Tab.cx_ok (all_cons (up_ok safe_ok) all_nil) fxway) Try.func21 (bds := []) (T := tway) (by kernel_rfl) ?_
  have h1 : cway.ct 14 = some ctSafe := rfl
  unfold tway
  simp only [VC, allC, List.map_cons, List.map_nil, List.length_cons, List.length_nil, List.getElem?_cons_zero, List.getElem?_cons_succ, List.cons.injEq, C.i.injEq, C.b.injEq, and_true, true_and, forall_const, kindsOf_nil, kindsOf_lf, kindsOf_agg, kindsOf_box, boxKinds_nil, boxKinds_lf, boxKinds_agg, boxKinds_box, List.append_nil, List.cons_append, List.nil_append, den_cmp_le, den_cmp_lt, den_cmp_eq, den_cmp_ne, den_cmp_le', den_cmp_lt', den_cmp_eq', den_cmp_ne', den_and, den_and', den_or, den_or', den_not, den_not', den_blit, den_of, ev_var, at_0, at_1, at_2, at_3, at_4, at_5, at_6, at_7, at_skip, c_int, c_bool, c_arr, c_cnt, c_vec, ev_nil, ev_join, ev_sub3, loc_s, int_i, bool_b, rows_s, cs_nil, cs_cons, E.den_lit, E.den_var, E.den_add, E.den_sub, E.den_mul, E.den_quo, E.den_rem, E.den_max, E.den_min, E.den_len, E.den_wr, E.den_cell, ev_cell, rows_at_len, int_at, ints_at, bool_at, h1, ctSafe, ctWay, blowSh, intsSh, n_]
  intro v0 r0 d0 ty0 hs0 v1 r1 d1 ty1 hs1 i i0 i1; have e0 := bools_len r0; have e1 := intss_len r1; have hb : blowOf [C.s v0 r0, C.s v1 r1] = ⟨bools r0, intss r1⟩ := rfl; have hb3 : blowOf [C.s v0 r0, C.s v1 r1, C.i i] = ⟨bools r0, intss r1⟩ := rfl; rw [hb, hb3]; have a1 := fun i => ints_at v1 r1 i; generalize hM : intss r1 = M at *; generalize hL : bools r0 = L at *; generalize hB : Blow.mk L M = b at *; have bl : b.lost = L := by rw [← hB]
  have bm : b.moves = M := by rw [← hB]
  refine ⟨bds_nil _, ?_⟩
  rintro v4 r4 _ _ _ ⟨v4', e4⟩
  obtain ⟨-, rfl⟩ : v4 = v4' ∧ r4 = ofBools (safeV b) := by simpa using e4
  rw [ofBools_len, bools_of]
  have nilp : ∀ v : Value, wayV b i = [] → ∃ v', C.s v [] = C.s v' (ofInts (wayV b i)) := fun v h => ⟨v, by rw [h]; rfl⟩
  refine ⟨fun h => nilp _ (way_nil (.inl h)), fun h0 => ⟨fun h => nilp _ (way_nil (.inr (.inl h))), fun h2 => ⟨h2, fun h => nilp _ (way_nil (.inr (.inr h))), fun hsf => ?_⟩⟩⟩
  obtain ⟨hc, hlt⟩ := safeV_lt hsf
  obtain ⟨k1, k2, k3, -⟩ := check_all hc
  have kat := fun i => @check_at b hc i
  have hlen : (safeV b).length = b.lost.length := by rw [safeV_ok hc, safeF_len]
  have hwalk : ∀ {n pre s}, WayIn b i n pre s → leads (safeV b) (b.moves.getD s.toNat []) = true := fun {n pre s} h => by
    have := h.at'.s0.2.2
    rw [safeV_ok hc] at this ⊢
    exact (safeF_iff.1 this).2.1
  intro v6
  refine ⟨fun xs => match xs with | [.i s, _, .s _ rows] => ∃ n pre, rows = ofInts (pre ++ [s]) ∧ WayIn b i n pre s ∧ pre.contains s = false | _ => False, fun xs => match xs with | [_, _, .s _ rows] => b.lost.length + 1 - rows.length | _ => 0, ⟨_, [], rfl, .start (by omega) hsf, rfl⟩, ?_⟩
  rintro s _ _ v8 r8 _ _ _ v9 r9 _ _ _ ⟨n, pre, rfl, hw, hn⟩
  have hs := hw.at'.s0
  obtain ⟨m, hw2⟩ := hw.step hc hn
  have hlead := hwalk hw
  obtain ⟨-, -, hkk⟩ := kat s.toNat (by omega)
  rw [bm] at hlead hkk hw2
  have hl2 := hw2.at'.len
  simp only [List.length_append, List.length_cons, List.length_nil] at hl2
  rw [ofInts_len, ints_of']
  refine ⟨hs.1, by rw [bm, bl] at *; omega, ?_⟩
  generalize hml : M.getD s.toNat [] = l at *
  refine ⟨fun xs => match xs with | [_, .i k] => 0 ≤ k ∧ k ≤ l.length ∧ ∀ z ∈ l.take k.toNat, (safeV b).getD z.toNat false = false | _ => False, fun xs => match xs with | [_, .i k] => ((l.length : Int) - k).toNat | _ => 0, ⟨by omega, by omega, fun z hz => by simp at hz⟩, ?_⟩
  rintro y _ _ k _ _ ⟨k0, k1', hK⟩
  refine ⟨fun hlt' => ?_, fun hge' => ?_⟩
  · have hm := getD_mem (l := l) (i := k.toNat) (by omega) 0
    have hr := hkk _ hm
    refine ⟨k0, hlt', hr.1, by omega, fun hz => ⟨hlt', ?_⟩, fun hz => ⟨⟨by omega, by omega, fun z hz' => ?_⟩, (show ((l.length : Int) - (k + 1)).toNat < ((l.length : Int) - k).toNat by omega)⟩⟩
    · rw [nextW_at (by omega) hK hz] at hw2
      generalize l.getD k.toNat 0 = x at *
      generalize hout : pre ++ [s] = out at *
      have hol : out.length = pre.length + 1 := by rw [← hout]; simp
      refine ⟨fun xs => match xs with | [_, .i j] => 0 ≤ j ∧ j ≤ out.length ∧ ∀ z ∈ out.take j.toNat, z ≠ x | _ => False, fun xs => match xs with | [_, .i j] => ((out.length : Int) - j).toNat | _ => 0, ⟨by omega, by omega, fun z hz => by simp at hz⟩, ?_⟩
      rintro y' _ _ j _ _ ⟨j0, j1, hJ⟩
      refine ⟨fun hlj => ⟨j0, hlj, fun he => ⟨by omega, fun v => ⟨v, ?_⟩⟩, fun hne => ⟨⟨by omega, by omega, fun z hz' => ?_⟩, (show ((out.length : Int) - (j + 1)).toNat < ((out.length : Int) - j).toNat by omega)⟩⟩, fun hgj => ⟨by omega, fun v => ⟨⟨m, out, ofInts_snoc _ _, hw2, contains_no fun hmem => ?_⟩, ?_⟩⟩⟩
      · rw [hw2.met (contains_iff.2 (by rw [he]; exact getD_mem (by omega) 0)), ← ofInts_snoc]
      · rw [show (j + 1).toNat = j.toNat + 1 by omega, take_snoc (by omega) 0] at hz'
        rcases List.mem_append.1 hz' with h2 | h2
        · exact hJ z h2
        · rw [List.mem_singleton] at h2; subst h2; exact fun e => hne e.symm
      · rw [List.take_of_length_le (by omega)] at hJ
        exact hJ x hmem rfl
      · show b.lost.length + 1 - (ofInts out ++ [[C.i x]]).length < b.lost.length + 1 - (ofInts out).length
        rw [ofInts_snoc, ofInts_len, ofInts_len, List.length_append]; simp; omega
    · rw [show (k + 1).toNat = k.toNat + 1 by omega, take_snoc (by omega) 0] at hz'
      rcases List.mem_append.1 hz' with h2 | h2
      · exact hK z h2
      · rw [List.mem_singleton] at h2; subst h2; exact hz
  · rw [List.take_of_length_le (by omega)] at hK
    rw [leads_none hK] at hlead
    cases hlead
end Go.Proofs.Ytbgofenplhdllaa
/- House: a blow-out made of numbers. -/
namespace Go.Proofs.Ytbgofenplhdllaa
open Go.RowKit
set_option linter.unusedSimpArgs false
set_option linter.unusedVariables false

theorem badM_nil {n : Nat} : ∀ {M : List (List Int)}, (∀ l ∈ M, badL n l = 0) → badM n M = 0
  | [], _ => rfl
  | l :: M, h => by rw [badM_zero (h l (List.mem_cons_self ..))]; exact badM_nil fun x hx => h x (List.mem_cons_of_mem _ hx)
theorem at_ok : tab3.ok 43 := by
  refine Tab.of_ct rfl rfl ⟨_, Try.func43, by decide, rfl⟩ ?_ (fun h => by cases h)
  refine ct_ok (cx := cat) (Tab.cx_ok (all_cons (up3_ok (up_ok mod_ok)) all_nil)) Try.func43 (bds := []) (T := tat) (by kernel_rfl) ?_
  have h1 : cat.ct 13 = some ctMod := rfl
  unfold tat
  simp only [VC, allC, List.map_cons, List.map_nil, List.length_cons, List.length_nil, List.getElem?_cons_zero, List.getElem?_cons_succ, List.cons.injEq, C.i.injEq, C.b.injEq, and_true, true_and, forall_const, kindsOf_nil, kindsOf_lf, kindsOf_agg, kindsOf_box, boxKinds_nil, boxKinds_lf, boxKinds_agg, boxKinds_box, List.append_nil, List.cons_append, List.nil_append, den_cmp_le, den_cmp_lt, den_cmp_eq, den_cmp_ne, den_cmp_le', den_cmp_lt', den_cmp_eq', den_cmp_ne', den_and, den_and', den_or, den_or', den_not, den_not', den_blit, den_of, ev_var, at_0, at_1, at_2, at_3, at_4, at_5, at_6, at_7, at_skip, c_int, c_bool, c_arr, c_cnt, c_vec, ev_nil, ev_join, ev_sub3, loc_s, int_i, bool_b, rows_s, cs_nil, cs_cons, E.den_lit, E.den_var, E.den_add, E.den_sub, E.den_mul, E.den_quo, E.den_rem, E.den_max, E.den_min, E.den_len, E.den_wr, E.den_cell, ev_cell, int_at, h1, ctMod, ctAt, ctF, n_]
  intro i i0 i1 v r d ty hs hp
  have hp : 0 ≤ i ∧ i ≤ 1000 := hp
  refine ⟨bds_nil _, fun _ => by omega, fun hne => ?_⟩
  have hl : (0 : Int) < r.length := by omega
  rw [Int.tmod_eq_emod_of_nonneg hp.1, Int.tdiv_eq_ediv_of_nonneg hp.1]
  have e1 := Int.emod_nonneg i (b := r.length) (by omega)
  have e2 := Int.emod_lt_of_pos i hl
  refine ⟨hne, e1, e2, by decide, ?_⟩
  rintro n _ _ hn
  have n0 : 0 ≤ n := by rw [hn]; exact Int.emod_nonneg _ (by decide)
  have n1 : n < 1048576 := by rw [hn]; exact Int.emod_lt_of_pos _ (by decide)
  have q0 : 0 ≤ i / (r.length : Int) := Int.ediv_nonneg hp.1 (by omega)
  have q1 : i / (r.length : Int) ≤ i := Int.ediv_le_self _ hp.1
  generalize i / (r.length : Int) = z at *
  rw [Int.tdiv_eq_ediv_of_nonneg n0]
  have s0 : 0 ≤ n / (1 + z) := Int.ediv_nonneg n0 (by omega)
  have s1 : n / (1 + z) ≤ n := Int.ediv_le_self _ n0
  generalize n / (1 + z) = y at *
  omega
theorem blow_ok : tab3.ok 23 := by
  refine Tab.of_ct rfl rfl ⟨_, Try.func23, by decide, rfl⟩ ?_ (fun h => by cases h)
  refine ct_ok (cx := cnblow) (Tab.cx_ok (all_cons at_ok (all_cons (up3_ok (up_ok mod_ok)) all_nil))) Try.func23 (bds := []) (T := tnblow) (by kernel_rfl) ?_
  have h1 : cnblow.ct 13 = some ctMod := rfl
  have h2 : cnblow.ct 43 = some ctAt := rfl
  unfold tnblow
  simp only [VC, allC, List.map_cons, List.map_nil, List.length_cons, List.length_nil, List.getElem?_cons_zero, List.getElem?_cons_succ, List.cons.injEq, C.i.injEq, C.b.injEq, and_true, true_and, forall_const, kindsOf_nil, kindsOf_lf, kindsOf_agg, kindsOf_box, boxKinds_nil, boxKinds_lf, boxKinds_agg, boxKinds_box, List.append_nil, List.cons_append, List.nil_append, den_cmp_le, den_cmp_lt, den_cmp_eq, den_cmp_ne, den_cmp_le', den_cmp_lt', den_cmp_eq', den_cmp_ne', den_and, den_and', den_or, den_or', den_not, den_not', den_blit, den_of, ev_var, at_0, at_1, at_2, at_3, at_4, at_5, at_6, at_7, at_skip, c_int, c_bool, c_arr, c_cnt, c_vec, ev_nil, ev_join, ev_sub3, loc_s, int_i, bool_b, rows_s, cs_nil, cs_cons, E.den_lit, E.den_var, E.den_add, E.den_sub, E.den_mul, E.den_quo, E.den_rem, E.den_max, E.den_min, E.den_len, E.den_wr, E.den_cell, ev_cell, int_at, h1, h2, ctMod, ctAt, ctBlowL, ctF, n_, intsSh]
  rintro v r d ty hs
  refine ⟨bds_nil _, fun xs => match xs with | [.i n] => 1 ≤ n ∧ n ≤ 12 | _ => False, ⟨fun hl => ⟨hl, by decide, ?_⟩, fun _ => ⟨by decide, by decide⟩⟩, ?_⟩
  · rintro n _ _ hn
    have n0 := Int.emod_nonneg ((ints r).getD 0 0) (b := 12) (by decide)
    have n1 := Int.emod_lt_of_pos ((ints r).getD 0 0) (b := 12) (by decide)
    have hn : n = (ints r).getD 0 0 % 12 := hn
    rw [← hn] at n0 n1
    exact ⟨by omega, by omega, by omega, by omega⟩
  rintro n _ _ ⟨n0, n1⟩ vc
  refine ⟨fun xs => match xs with | [.i i, .s _ lr, .s _ mr, _] => 0 ≤ i ∧ i ≤ n ∧ (lr.length : Int) = i ∧ (mr.length : Int) = i ∧ ∀ m ∈ intss mr, 1 ≤ m.length ∧ m.length ≤ 3 ∧ ∀ k ∈ m, 0 ≤ k ∧ k < n | _ => False, fun xs => match xs with | [.i i, _, _, _] => (n - i).toNat | _ => 0, ⟨by omega, by omega, by simp, by simp, fun m hm => by simp [intss] at hm⟩, ?_⟩
  rintro i _ _ v2 lr _ _ _ v3 mr _ _ _ v4 r4 _ _ _ ⟨i0, i1, hl, hm, hM⟩
  refine ⟨fun hlt => ⟨by omega, by omega, by omega, by omega, ?_⟩, fun hge => ?_⟩
  · rintro z _ _ v5 r5 _ _ _ z0
    refine ⟨by omega, fun v6 => ?_⟩
    refine ⟨fun xs => match xs with | [.s _ m, .i k, _] => 0 ≤ k ∧ k ≤ 3 ∧ (m.length : Int) = k ∧ ∀ x ∈ ints m, 0 ≤ x ∧ x < n | _ => False, fun xs => match xs with | [_, .i k, _] => ((3 : Int) - k).toNat | _ => 0, ⟨by omega, by omega, by simp, fun x hx => by simp [ints] at hx⟩, ?_⟩
    rintro v7 m _ _ _ k _ _ v8 r8 _ _ _ ⟨k0, k1, hml, hmx⟩
    refine ⟨⟨by omega, by omega⟩, ⟨by omega, by omega⟩, ⟨by omega, by omega⟩, ⟨by omega, by omega⟩, ?_⟩
    rintro q _ _ v9 r9 _ _ _ q0
    rw [Int.tmod_eq_emod_of_nonneg q0]
    have q1 := Int.emod_nonneg q (b := 3) (by decide)
    have q2 := Int.emod_lt_of_pos q (b := 3) (by decide)
    refine ⟨fun hle => ⟨⟨by omega, by omega⟩, ⟨by omega, by omega⟩, ⟨by omega, by omega⟩, ⟨by omega, by omega⟩, ⟨by omega, by omega⟩, ?_⟩, fun hgt => ?_⟩
    · rintro x _ _ v10 r10 _ _ _ x0
      rw [Int.tmod_eq_emod_of_nonneg x0]
      have x1 := Int.emod_nonneg x (b := n) (by omega)
      have x2 := Int.emod_lt_of_pos x (b := n) (by omega)
      generalize x % n = y at *
      refine ⟨by omega, ⟨by omega, by omega⟩, by omega, fun v11 => ⟨⟨by omega, by omega⟩, ⟨by omega, by omega⟩, ⟨by omega, by omega, by rw [List.length_append]; simp only [List.length_cons, List.length_nil]; omega, fun w hw => ?_⟩, (show ((3 : Int) - (k + 1)).toNat < ((3 : Int) - k).toNat by omega)⟩⟩
      rw [show ints (m ++ [[C.i y]]) = ints m ++ [y] by simp [ints, C.int]] at hw
      rcases List.mem_append.1 hw with hw | hw
      · exact hmx w hw
      · rw [List.mem_singleton] at hw; subst hw; exact ⟨by omega, by omega⟩
    · refine ⟨by omega, fun v12 => ⟨⟨by omega, by omega, by rw [List.length_append]; simp only [List.length_cons, List.length_nil]; omega, by rw [List.length_append]; simp only [List.length_cons, List.length_nil]; omega, fun w hw => ?_⟩, (show (n - (i + 1)).toNat < (n - i).toNat by omega)⟩⟩
      rw [show intss (mr ++ [[C.s v7 m]]) = intss mr ++ [ints m] by simp [intss, C.rows]] at hw
      rcases List.mem_append.1 hw with hw | hw
      · exact hM w hw
      · rw [List.mem_singleton] at hw
        subst hw
        rw [ints_len]
        exact ⟨by omega, by omega, hmx⟩
  · have hin : i = n := by omega
    show checkV ⟨bools lr, intss mr⟩ = 0 ∧ (bools lr).length ≤ 12
    have e0 := bools_len lr
    have e1 := intss_len mr
    refine ⟨?_, by omega⟩
    rw [check_rest (by show (bools lr).length ≠ 0; omega) (by show (bools lr).length ≤ 64; omega) (by show (intss mr).length = (bools lr).length; omega)]
    exact badM_nil fun m hmm => by
      obtain ⟨g1, g2, g3⟩ := hM m hmm
      exact badL_ok (by omega) (by omega) fun k hk => ⟨(g3 k hk).1, by have h5 := (g3 k hk).2; show k < (((bools lr).length : Nat) : Int); omega⟩
end Go.Proofs.Ytbgofenplhdllaa
/- A result that is a slice of one's own may be taken as any slice. -/
namespace Go.Proofs.Ytbgofenplhdllaa
open Go.RowKit
set_option linter.unusedVariables false
section
variable {P : Program}
theorem outs_any {w : World} {B B' : Nat → Nat → Prop} : ∀ {ss : List Sh0} {vs : List Value} {cs : List C}, ss.all (fun s => !s.isBox) = true → Outs P w B ss vs cs → Outs P w B' ss vs cs
  | [], [], _, _, h => h
  | [], _ :: _, _, _, h => h
  | .lf _ :: ss, [], _, _, h => h
  | .agg _ :: ss, [], _, _, h => h
  | .box .. :: ss, [], _, _, h => h
  | .lf _ :: ss, v :: vs, cs, hno, h => outs_any (ss := ss) (vs := vs) (cs := cs) (by simp only [List.all_cons, Bool.and_eq_true] at hno; exact hno.2) h
  | .agg _ :: ss, v :: vs, cs, hno, h => outs_any (ss := ss) (vs := vs) (cs := cs) (by simp only [List.all_cons, Bool.and_eq_true] at hno; exact hno.2) h
  | .box .. :: ss, v :: vs, cs, hno, h => by simp [Sh0.isBox] at hno
theorem ct_arr {f : FuncId} {args : List Sh0} {t : TypeId} {pre : List C → Prop} {post : List C → List C → Prop} {det : Bool} (hno : args.all (fun s => !s.isBox) = true)
    (h : CtOK P f ⟨args, [.lf (.vec t)], pre, post, det⟩) : CtOK P f ⟨args, [.lf (.arr t)], pre, post, det⟩ := by
  intro Base w vs cs hB hr hp
  refine (h Base w vs cs hB hr hp).mono ?_
  rintro e w' ⟨v, rs, outs, rfl, ⟨us, hv, hres, hnd, hnew⟩, hout, hpost, hk⟩
  refine ⟨v, rs, outs, rfl, ⟨us, hv, ?_, ?_, ?_⟩, outs_any hno hout, hpost, hk⟩
  · match us, hres with
    | [u], hres =>
      obtain ⟨c1, c2, rfl, ⟨c, rfl, hs, hu, hvec⟩, h2⟩ := hres
      cases h2
      refine ⟨[c], [], rfl, ⟨c, rfl, hs, hu, ?_⟩, rfl⟩
      obtain ⟨v', hc⟩ : ∃ v', c = .s v' c.rows := by obtain ⟨ks, us', -, hc, -⟩ := hvec; exact hc
      have key := VecOK.arr (O' := fun b o => Base b o ∨ b ∈ vecB (kindsOf [Sh0.lf (.arr t)]) [c]) hvec (fun b o hb => by
        rcases hb with hb | hb
        · exact .inl hb
        · exact absurd hb (by simp [kindsOf, Sh0.kinds, vecB])) (fun b hb o hx => by
        rcases hx with hx | hx
        · have h1 := hB b o hx
          have h2 := hnew b (by
            show b ∈ vecB [.vec t] ([c] ++ [])
            simp only [List.append_nil, vecB]
            rw [← hu, hb]
            simp)
          exact absurd h1 (by omega)
        · exact absurd hx (by simp [kindsOf, Sh0.kinds, vecB]))
      have he : C.s u c.rows = c := by rw [hu]; rw [hc]; rfl
      rw [he] at key
      exact key
    | [], hres => exact hres.elim
    | _ :: _ :: _, hres => obtain ⟨c1, c2, rfl, -, h2⟩ := hres; exact h2.elim
  · show (vecB [.arr t] rs).Nodup
    cases rs <;> simp [vecB]
  · show ∀ b ∈ vecB [.arr t] rs, _
    cases rs <;> simp [vecB]
def toArr : Lk → Lk
  | .vec t => .arr t
  | k => k
theorem vecB_toArr : ∀ (ks : List Lk) (cs : List C), vecB (ks.map toArr) cs = []
  | [], cs => by cases cs <;> rfl
  | k :: ks, [] => by cases k <;> rfl
  | k :: ks, c :: cs => by cases k <;> exact vecB_toArr ks cs
theorem lreps_arr {w : World} {O O' : Nat → Nat → Prop} (hO : ∀ b o, O' b o → O b o) : ∀ {ks : List Lk} {us : List Value} {cs : List C}, LReps P w O ks us cs → (∀ b ∈ vecB ks cs, ∀ o, ¬ O' b o) → LReps P w O' (ks.map toArr) us cs
  | [], [], [], _, _ => trivial
  | k :: ks, u :: us, c :: cs, ⟨h1, h2⟩, hb => by
    have hb2 : ∀ b ∈ vecB ks cs, ∀ o, ¬ O' b o := fun b hb' => hb b (by
      cases k with
      | vec t => simp only [vecB]; exact List.mem_append_right _ hb'
      | _ => exact hb')
    refine ⟨?_, lreps_arr hO h2 hb2⟩
    cases k with
    | int => exact h1
    | bool => exact h1
    | arr t => exact ⟨h1.1, h1.2.1, ArrOK.anti h1.2.2 hO⟩
    | vec t =>
      obtain ⟨hs, hu, hvec⟩ := h1
      obtain ⟨v', hc⟩ : ∃ v', c = .s v' c.rows := by obtain ⟨ks, us', -, hc, -⟩ := hvec; exact hc
      have key := VecOK.arr hvec hO (fun b hb' => hb b (by simp only [vecB]; rw [← hu, hb']; simp))
      have he : C.s u c.rows = c := by rw [hu]; rw [hc]; rfl
      rw [he] at key
      exact ⟨hs, hu, key⟩
  | [], _ :: _, _, h, _ => h.elim
  | [], [], _ :: _, h, _ => h.elim
  | _ :: _, [], _, h, _ => h.elim
  | _ :: _, _ :: _, [], h, _ => h.elim
/-- .. and one with a struct of such. -/
theorem ct_arrs {f : FuncId} {args : List Sh0} {ks : List Lk} {pre : List C → Prop} {post : List C → List C → Prop} {det : Bool} (hno : args.all (fun s => !s.isBox) = true)
    (h : CtOK P f ⟨args, [.agg ks], pre, post, det⟩) : CtOK P f ⟨args, [.agg (ks.map toArr)], pre, post, det⟩ := by
  intro Base w vs cs hB hr hp
  refine (h Base w vs cs hB hr hp).mono ?_
  rintro e w' ⟨v, rs, outs, rfl, ⟨us, hv, hres, hnd, hnew⟩, hout, hpost, hk⟩
  have hz : vecB (kindsOf [Sh0.agg (ks.map toArr)]) rs = [] := by
    rw [show kindsOf [Sh0.agg (ks.map toArr)] = ks.map toArr by simp [kindsOf, Sh0.kinds]]
    exact vecB_toArr _ _
  have hy : vecB (kindsOf [Sh0.agg ks]) rs = vecB ks rs := by
    rw [show kindsOf [Sh0.agg ks] = ks by simp [kindsOf, Sh0.kinds]]
  refine ⟨v, rs, outs, rfl, ⟨us, hv, ?_, by rw [hz]; simp, by rw [hz]; simp⟩, outs_any hno hout, hpost, hk⟩
  rw [hz]
  rw [hy] at hres hnew
  match us, hres with
  | [u], hres =>
    obtain ⟨c1, c2, rfl, ⟨us', rfl, hl⟩, h2⟩ := hres
    cases h2
    refine ⟨c1, [], rfl, ⟨us', rfl, lreps_arr (fun b o hb => ?_) hl fun b hb o hx => ?_⟩, rfl⟩
    · rcases hb with hb | hb
      · exact .inl hb
      · cases hb
    · rcases hx with hx | hx
      · have h1 := hB b o hx
        have h2 := hnew b (by rw [List.append_nil]; exact hb)
        omega
      · cases hx
  | [], hres => exact hres.elim
  | _ :: _ :: _, hres => obtain ⟨c1, c2, rfl, -, h2⟩ := hres; exact h2.elim
end
end Go.Proofs.Ytbgofenplhdllaa
/- House: HouseChance, by the table. -/
namespace Go.Proofs.Ytbgofenplhdllaa
open Go.RowKit
set_option linter.unusedSimpArgs false
set_option linter.unusedVariables false

/-- What the last safe place is. -/
theorem lastV_spec (S : List Bool) : ∀ (l : List Int) (n : Nat) (r : Int × Bool),
    (lastV S l n r = r ∧ ∀ k < l.length, S.getD (l.getD k 0).toNat false = false) ∨
    ∃ j < l.length, lastV S l n r = (((n + j : Nat) : Int), true) ∧ S.getD (l.getD j 0).toNat false = true ∧ ∀ k, j < k → k < l.length → S.getD (l.getD k 0).toNat false = false
  | [], n, r => .inl ⟨rfl, fun k hk => by simp at hk⟩
  | x :: l, n, r => by
    rw [lastV]
    cases hx : S.getD x.toNat false with
    | true =>
      rw [if_pos rfl]
      rcases lastV_spec S l (n + 1) ((n : Int), true) with ⟨h1, h2⟩ | ⟨j, hj, h1, h2, h3⟩
      · refine .inr ⟨0, by simp, by rw [h1]; rfl, hx, fun k hk hl => ?_⟩
        obtain ⟨k, rfl⟩ : ∃ m, k = m + 1 := ⟨k - 1, by omega⟩
        exact h2 k (by simpa using hl)
      · refine .inr ⟨j + 1, by simpa using hj, by rw [h1, show n + 1 + j = n + (j + 1) by omega], h2, fun k hk hl => ?_⟩
        obtain ⟨k, rfl⟩ : ∃ m, k = m + 1 := ⟨k - 1, by omega⟩
        exact h3 k (by omega) (by simpa using hl)
    | false =>
      rw [if_neg (by simp)]
      rcases lastV_spec S l (n + 1) r with ⟨h1, h2⟩ | ⟨j, hj, h1, h2, h3⟩
      · refine .inl ⟨h1, fun k hk => ?_⟩
        match k, hk with
        | 0, _ => exact hx
        | k + 1, hk => exact h2 k (by simpa using hk)
      · refine .inr ⟨j + 1, by simpa using hj, by rw [h1, show n + 1 + j = n + (j + 1) by omega], h2, fun k hk hl => ?_⟩
        obtain ⟨k, rfl⟩ : ∃ m, k = m + 1 := ⟨k - 1, by omega⟩
        exact h3 k (by omega) (by simpa using hl)
theorem chanceV_spec {b : Blow} (hc : checkV b = 0) {run : List Int} (hl : run.length ≤ 400) (hr : ∀ k ∈ run, 0 ≤ k ∧ k < b.lost.length) :
    (chanceV b run = (0, false) ∧ ∀ k < run.length, (safeV b).getD (run.getD k 0).toNat false = false) ∨
    ∃ j < run.length, chanceV b run = ((j : Int), true) ∧ (safeV b).getD (run.getD j 0).toNat false = true ∧ ∀ k, j < k → k < run.length → (safeV b).getD (run.getD k 0).toNat false = false := by
  obtain ⟨k1, k2, k3, -⟩ := check_all hc
  have hlen : (safeV b).length = b.lost.length := by rw [safeV_ok hc, safeF_len]
  have hn : ¬ ((safeV b).length = 0 ∨ 400 < run.length ∨ run.any (outI (safeV b).length) = true) := by
    rintro (h | h | h)
    · omega
    · omega
    · obtain ⟨x, hx, h2⟩ := List.any_eq_true.1 h
      rw [outI_iff] at h2
      have := hr x hx
      omega
  unfold chanceV
  rw [if_neg hn]
  rcases lastV_spec (safeV b) run 0 (0, false) with h | ⟨j, hj, h1, h2, h3⟩
  · exact .inl h
  · exact .inr ⟨j, hj, by rw [h1, Nat.zero_add], h2, h3⟩
theorem way4_ok : tab4.ok 21 := up4_ok (Tab.of_ct rfl rfl way_ok.1 (ct_arr (by rfl) ((way_ok.2.1 _ rfl).1)) (fun h => by cases h))
theorem blow4_ok : tab4.ok 23 := Tab.of_ct rfl rfl blow_ok.1 (ct_arrs (by rfl) ((blow_ok.2.1 _ rfl).1)) (fun h => by cases h)

section
variable {v0 v1 u1 u2 v7 v9 v16 : Value} {r0 r1 lr mr r7 : List (List C)} {c0 c1 c4 c5 c6 c8 c7 c10 c11 c13 c14 c15 : C} {b : Blow} {R : List C → Prop} {L0 L1 L2 L3 : List C → Prop} {t11 : Bool} {ps : List C}
theorem chance_2 (hb : b = ⟨bools lr, intss mr⟩) (hc : checkV b = 0) {i : Int} (i0 : 0 ≤ i) (i1 : i < lr.length) (hL : ∀ t, L1 [.b t, .i (i + 1)]) :
    VC cnchance R tnchance_2 [c0, c1, .s u1 lr, .s u2 mr, c4, c5, c6, c7, c8, .s v9 (ofBools (safeV b)), c10, .b t11, .i i, c13, c14, c15, .s v16 (ofInts (wayV b i))] [L0, L1, L2, L3] := by
  obtain ⟨k1, k2, k3, -⟩ := check_all hc
  have hlen : (safeV b).length = b.lost.length := by rw [safeV_ok hc, safeF_len]
  have bl : b.lost = bools lr := by rw [hb]
  have bm : b.moves = intss mr := by rw [hb]
  have bll : b.lost.length = lr.length := by rw [bl, bools_len]
  have bml : b.moves.length = mr.length := by rw [bm, intss_len]
  have h1 : cnchance.ct 24 = some ctHas := rfl
  unfold tnchance_2
  simp only [VC, allC, List.map_cons, List.map_nil, List.length_cons, List.length_nil, List.getElem?_cons_zero, List.getElem?_cons_succ, List.cons.injEq, C.i.injEq, C.b.injEq, and_true, true_and, forall_const, kindsOf_nil, kindsOf_lf, kindsOf_agg, kindsOf_box, boxKinds_nil, boxKinds_lf, boxKinds_agg, boxKinds_box, List.append_nil, List.cons_append, List.nil_append, den_cmp_le, den_cmp_lt, den_cmp_eq, den_cmp_ne, den_cmp_le', den_cmp_lt', den_cmp_eq', den_cmp_ne', den_and, den_and', den_or, den_or', den_not, den_not', den_blit, den_of, ev_var, at_0, at_1, at_2, at_3, at_4, at_5, at_6, at_7, at_skip, c_int, c_bool, c_arr, c_cnt, c_vec, ev_nil, ev_join, ev_sub3, loc_s, int_i, bool_b, rows_s, cs_nil, cs_cons, E.den_lit, E.den_var, E.den_add, E.den_sub, E.den_mul, E.den_quo, E.den_rem, E.den_max, E.den_min, E.den_len, E.den_wr, E.den_cell, ev_cell, rows_at_len, int_at, ints_at, bool_at, h1, ctHas, ctF, intsSh, n_]
  have hbq : B.den [c0, c1, .s u1 lr, .s u2 mr, c4, c5, c6, c7, c8, .s v9 (ofBools (safeV b)), c10, .b t11, .i i, c13, c14, c15, .s v16 (ofInts (wayV b i))] ((B.of ((E.var 9).cell (E.var 12) 0)).beq (B.cmp Cmp.lt (E.lit 1) (E.var 16).len)) = ((safeV b).getD i.toNat false == decide (1 < ((wayV b i).length : Int))) := by
    show (((C.s v9 (ofBools (safeV b))).at i.toNat 0).bool == decide (1 < ((ofInts (wayV b i)).length : Int))) = _
    rw [bool_at, bools_of, ofInts_len]
  rw [hbq, ofBools_len, ofInts_len, ints_of', ← bl, ← bm]
  clear hbq
  generalize hw : wayV b i = w
  have hcase : ((safeV b).getD i.toNat false = true ∧ WayEnd b i w) ∨ ((safeV b).getD i.toNat false = false ∧ w = []) := by
    cases hs : (safeV b).getD i.toNat false with
    | true => exact .inl ⟨rfl, hw ▸ way_end i0 hs⟩
    | false => exact .inr ⟨rfl, hw ▸ way_none (by rw [hs]; simp)⟩
  refine ⟨by omega, fun hne => ?_, fun _ => ?_⟩
  · exfalso
    rcases hcase with ⟨h2, h3⟩ | ⟨h2, h3⟩
    · have := h3.len
      rw [h2, decide_eq_true (by omega)] at hne; cases hne
    · rw [h2, h3] at hne; exact absurd hne (by decide)
  refine ⟨fun xs => match xs with | [_, .i k] => 0 ≤ k ∧ k ≤ w.length | _ => False, fun xs => match xs with | [_, .i k] => ((w.length : Int) - k).toNat | _ => 0, ⟨by omega, by omega⟩, ?_⟩
  rintro t17 k _ _ ⟨k0, k1'⟩
  refine ⟨fun hk => ⟨fun xs => xs = [.b false], ?_, ?_⟩, fun hk => ⟨fun xs => xs = [.b false], ?_, ?_⟩⟩
  · rcases hcase with ⟨h2, h3⟩ | ⟨h2, h3⟩
    rotate_left
    · rw [h3] at hk; simp at hk; omega
    have hm := h3.inn _ (getD_mem (l := w) (i := k.toNat) (by omega) 0)
    have hch := h3.chain k.toNat (by omega)
    refine ⟨k0, hk, fun h => by omega, fun _ => ⟨hk, fun h => by omega, fun _ => ⟨hk, hm.1, by omega, fun h => ?_, fun _ => ⟨fun h => ⟨hk, fun h' => ?_, fun _ => rfl⟩, fun h => ⟨fun h' => ?_, fun h' => by omega⟩⟩⟩⟩⟩
    · rw [hm.2.2] at h; cases h
    · have := hch.1 (by omega)
      subst h
      exact absurd this h'
    · have hp := h3.inn _ (getD_mem (l := w) (i := (k - 1).toNat) (by omega) 0)
      refine ⟨by omega, hp.1, by omega, hk, ?_⟩
      rintro t ht
      have := hch.2 (by omega)
      rw [show k.toNat - 1 = (k - 1).toNat by omega] at this
      have e : t = true := by rw [ht]; exact contains_iff.2 this
      subst e; rfl
  · rintro t ht
    obtain rfl : t = false := by simpa using ht
    exact ⟨fun h => (by cases h), fun _ => ⟨⟨by omega, by omega⟩, (show ((w.length : Int) - (k + 1)).toNat < ((w.length : Int) - k).toNat by omega)⟩⟩
  · refine ⟨fun hp => ⟨by omega, by omega, by omega, by omega, ?_⟩, fun _ => rfl⟩
    rcases hcase with ⟨h2, h3⟩ | ⟨h2, h3⟩
    rotate_left
    · rw [h3] at hp; simp at hp
    rintro t ht
    have hl := h3.last
    have e : t = true := by
      rw [ht]
      refine contains_iff.2 ?_
      have e1 : ints (((ofInts w).take ((w.length : Int) - 1).toNat).drop (0 : Int).toNat) = w.take (w.length - 1) := by
        rw [show ((w.length : Int) - 1).toNat = w.length - 1 by omega]
        show ints (((ofInts w).take (w.length - 1)).drop 0) = _
        rw [List.drop_zero]
        unfold ints ofInts
        rw [← List.map_take, List.map_map]
        simp [Function.comp_def, C.int]
      rw [e1, show ((w.length : Int) - 1).toNat = w.length - 1 by omega]
      exact hl
    subst e; rfl
  · rintro t ht
    obtain rfl : t = false := by simpa using ht
    exact ⟨fun h => (by cases h), fun _ => hL _⟩
theorem chance_3 (hb : b = ⟨bools lr, intss mr⟩) (hc : checkV b = 0) (hr7 : r7.length ≤ 40) (hrun : ∀ k ∈ ints r7, 0 ≤ k ∧ k < (lr.length : Int)) :
    VC cnchance ((ctLaw [intsSh, intsSh]).post ps) tnchance_3 [c0, c1, .s u1 lr, .s u2 mr, c4, c5, c6, .s v7 r7, c8, .s v9 (ofBools (safeV b)), c10, .b t11, c13, .i (chanceV b (ints r7)).1, .b (chanceV b (ints r7)).2] [L0, L1] := by
  obtain ⟨k1, k2, k3, -⟩ := check_all hc
  have hlen : (safeV b).length = b.lost.length := by rw [safeV_ok hc, safeF_len]
  have bl : b.lost = bools lr := by rw [hb]
  have bll : b.lost.length = lr.length := by rw [bl, bools_len]
  have h1 : cnchance.ct 12 = some ctAwake := rfl
  have hspec := chanceV_spec hc (run := ints r7) (by rw [ints_len]; omega) (by rw [bll]; exact hrun)
  unfold tnchance_3
  simp only [VC, allC, List.map_cons, List.map_nil, List.length_cons, List.length_nil, List.getElem?_cons_zero, List.getElem?_cons_succ, List.cons.injEq, C.i.injEq, C.b.injEq, and_true, true_and, forall_const, kindsOf_nil, kindsOf_lf, kindsOf_agg, kindsOf_box, boxKinds_nil, boxKinds_lf, boxKinds_agg, boxKinds_box, List.append_nil, List.cons_append, List.nil_append, den_cmp_le, den_cmp_lt, den_cmp_eq, den_cmp_ne, den_cmp_le', den_cmp_lt', den_cmp_eq', den_cmp_ne', den_and, den_and', den_or, den_or', den_not, den_not', den_blit, den_of, ev_var, at_0, at_1, at_2, at_3, at_4, at_5, at_6, at_7, at_skip, c_int, c_bool, c_arr, c_cnt, c_vec, ev_nil, ev_join, ev_sub3, loc_s, int_i, bool_b, rows_s, cs_nil, cs_cons, E.den_lit, E.den_var, E.den_add, E.den_sub, E.den_mul, E.den_quo, E.den_rem, E.den_max, E.den_min, E.den_len, E.den_wr, E.den_cell, ev_cell, rows_at_len, int_at, ints_at, bool_at, h1, ctAwake, ctLaw, ctF, intsSh, n_]
  have hbq : ∀ x y : C, B.den [c0, c1, .s u1 lr, .s u2 mr, c4, c5, c6, .s v7 r7, c8, .s v9 (ofBools (safeV b)), c10, .b t11, c13, x, y] (B.cmp Cmp.ne (E.var 13) (E.lit 0)) = (x.int != 0) := fun _ _ => rfl
  simp only [hbq, ofBools_len, bools_of, int_i]
  rw [← ints_len r7] at hr7
  simp only [← ints_len r7]
  generalize ints r7 = run at *
  have hin : ∀ k : Int, 0 ≤ k → k < run.length → 0 ≤ run.getD k.toNat 0 ∧ run.getD k.toNat 0 < (safeV b).length := fun k h0 h2 => by
    have := hrun _ (getD_mem (l := run) (i := k.toNat) (by omega) 0)
    omega
  refine ⟨fun xs => xs = [.b false], ⟨fun his => ?_, fun his => ?_⟩, ?_⟩
  · rcases hspec with ⟨h2, h3⟩ | ⟨j, hj, h2, h3, h4⟩
    · rw [h2] at his; cases his
    rw [h2]
    refine ⟨fun h => by omega, fun _ => ⟨fun h => by omega, fun _ => ⟨by omega, ?_⟩⟩⟩
    have := hin j (by omega) (by omega)
    refine ⟨this.1, this.2, fun h => ?_, fun _ => ⟨fun h => (by cases h), fun _ => rfl⟩⟩
    rw [Int.toNat_natCast] at h; rw [h3] at h; cases h
  · rcases hspec with ⟨h2, h3⟩ | ⟨j, hj, h2, h3, h4⟩
    rotate_left
    · rw [h2] at his; cases his
    rw [h2]
    exact ⟨fun _ => rfl, fun h => by cases h⟩
  rintro t ht
  obtain rfl : t = false := by simpa using ht
  refine ⟨fun h => (by cases h), fun _ => ?_⟩
  refine ⟨fun xs => match xs with | [_, .i k] => 0 ≤ k ∧ k ≤ run.length | _ => False, fun xs => match xs with | [_, .i k] => ((run.length : Int) - k).toNat | _ => 0, ⟨by omega, by omega⟩, ?_⟩
  rintro t16 k _ _ ⟨k0, k1'⟩
  refine ⟨fun hk => ⟨fun xs => xs = [.b false], ?_, ?_⟩, fun hk => ?_⟩
  · have hk2 := hin k k0 hk
    refine ⟨k0, hk, hk2.1, hk2.2, fun hs => ?_, fun _ => rfl⟩
    rcases hspec with ⟨h2, h3⟩ | ⟨j, hj, h2, h3, h4⟩
    · rw [h3 k.toNat (by omega)] at hs; cases hs
    · rw [h2]
      refine ⟨fun h => (by cases h), fun _ => ?_⟩
      by_cases hjk : j < k.toNat
      · rw [h4 _ hjk (by omega)] at hs; cases hs
      · show [C.b (decide ((j : Int) < k))] = [C.b false]
        rw [decide_eq_false (by omega)]
  · rintro t ht
    obtain rfl : t = false := by simpa using ht
    exact ⟨fun h => (by cases h), fun _ => ⟨⟨by omega, by omega⟩, (show ((run.length : Int) - (k + 1)).toNat < ((run.length : Int) - k).toNat by omega)⟩⟩
  · rintro t ht
    exact ht
end
end Go.Proofs.Ytbgofenplhdllaa
/- House: HouseChance, the rest, by the table. -/
namespace Go.Proofs.Ytbgofenplhdllaa
open Go.RowKit
set_option linter.unusedSimpArgs false
set_option linter.unusedVariables false

section
variable {v0 v1 u1 u2 v7 v9 : Value} {r0 r1 lr mr r7 : List (List C)} {c0 c1 c4 c5 c6 c8 c7 : C} {b : Blow} {R : List C → Prop} {L0 : List C → Prop} {ps : List C}
theorem some_iff {b : Blow} (hc : checkV b = 0) {i : Int} (h0 : 0 ≤ i) (h1 : i < b.lost.length) : (safeV b).getD i.toNat false = (leads (safeV b) (b.moves.getD i.toNat []) && !b.lost.getD i.toNat false) := by
  rw [safeV_ok hc]
  have h := @safeF_iff b i.toNat
  have h2 : i.toNat < b.lost.length := by omega
  revert h
  cases (safeF b).getD i.toNat false <;> cases leads (safeF b) (b.moves.getD i.toNat []) <;> cases b.lost.getD i.toNat false <;> simp [h2]
theorem leads_take {S : List Bool} {l : List Int} {k : Nat} (h : k < l.length) : leads S (l.take (k + 1)) = (leads S (l.take k) || S.getD (l.getD k 0).toNat false) := by
  rw [take_snoc h 0]
  simp [leads]
theorem chance_4 (hb : b = ⟨bools lr, intss mr⟩) (hc : checkV b = 0) (hr7 : r7.length ≤ 40) (hrun : ∀ k ∈ ints r7, 0 ≤ k ∧ k < (lr.length : Int)) :
    VC cnchance ((ctLaw [intsSh, intsSh]).post ps) tnchance_4 [c0, c1, .s u1 lr, .s u2 mr, c4, c5, c6, .s v7 r7, c8, .s v9 (ofBools (safeV b)), .i 0] [L0] := by
  obtain ⟨k1, k2, k3, -⟩ := check_all hc
  have kat := fun i => @check_at b hc i
  have hlen : (safeV b).length = b.lost.length := by rw [safeV_ok hc, safeF_len]
  have bl : b.lost = bools lr := by rw [hb]
  have bm : b.moves = intss mr := by rw [hb]
  have bll : b.lost.length = lr.length := by rw [bl, bools_len]
  have bml : b.moves.length = mr.length := by rw [bm, intss_len]
  have h1 : cnchance.ct 21 = some ctWayA := rfl
  have h2 : cnchance.ct 18 = some ctChance := rfl
  have hb2 : blowOf [.s u1 lr, .s u2 mr] = b := hb.symm
  unfold tnchance_4
  have hcell : ∀ (A B D : C) (k j : Int), (((((C.s u2 mr).at k.toNat 0).at j.toNat 0)).int) = (b.moves.getD k.toNat []).getD j.toNat 0 := fun A B D k j => by
    rw [int_at, ints_at, bm]
  simp only [VC, allC, List.map_cons, List.map_nil, List.length_cons, List.length_nil, List.getElem?_cons_zero, List.getElem?_cons_succ, List.cons.injEq, C.i.injEq, C.b.injEq, and_true, true_and, forall_const, kindsOf_nil, kindsOf_lf, kindsOf_agg, kindsOf_box, boxKinds_nil, boxKinds_lf, boxKinds_agg, boxKinds_box, List.append_nil, List.cons_append, List.nil_append, den_cmp_le, den_cmp_lt, den_cmp_eq, den_cmp_ne, den_cmp_le', den_cmp_lt', den_cmp_eq', den_cmp_ne', den_and, den_and', den_or, den_or', den_not, den_not', den_blit, den_of, ev_var, at_0, at_1, at_2, at_3, at_4, at_5, at_6, at_7, at_skip, c_int, c_bool, c_arr, c_cnt, c_vec, ev_nil, ev_join, ev_sub3, loc_s, int_i, bool_b, rows_s, cs_nil, cs_cons, E.den_lit, E.den_var, E.den_add, E.den_sub, E.den_mul, E.den_quo, E.den_rem, E.den_max, E.den_min, E.den_len, E.den_wr, E.den_cell, ev_cell, rows_at_len, hcell, int_at, ints_at, bool_at, h1, h2, ctWayA, ctWay, ctChance, ctF, blowSh, intsSh, n_]
  simp only [ofBools_len, bools_of, ← bl, ← bm]
  refine ⟨fun h => absurd rfl h, ?_⟩
  refine ⟨fun xs => match xs with | [_, .i k] => 0 ≤ k ∧ k ≤ lr.length | _ => False, fun xs => match xs with | [_, .i k] => ((lr.length : Int) - k).toNat | _ => 0, ⟨by omega, by omega⟩, ?_⟩
  rintro t11 i _ _ ⟨i0, i1⟩
  refine ⟨fun hi => ?_, fun hi => ?_⟩
  · have hs := some_iff hc i0 (by omega)
    have hm := kat i.toNat (by omega)
    generalize hM : b.moves.getD i.toNat [] = M at *
    refine ⟨fun xs => match xs with | [.b t, .i k] => 0 ≤ k ∧ k ≤ M.length ∧ t = leads (safeV b) (M.take k.toNat) | _ => False, fun xs => match xs with | [_, .i k] => ((M.length : Int) - k).toNat | _ => 0, ⟨by omega, by omega, rfl⟩, ?_⟩
    rintro t13 k _ _ ⟨k0, k1', ht13⟩
    refine ⟨i0, by omega, fun hk => ⟨fun xs => xs = [.b (leads (safeV b) (M.take (k + 1).toNat))], ⟨fun h => ?_, fun h => ?_⟩, ?_⟩, fun hk => ⟨fun xs => xs = [.b false], ?_, ?_⟩⟩
    · rw [show (k + 1).toNat = k.toNat + 1 by omega, leads_take (by omega), ← ht13, h]; rfl
    · have hx := hm.2.2 _ (getD_mem (l := M) (i := k.toNat) (by omega) 0)
      refine ⟨by omega, k0, hk, hx.1, by omega, ?_⟩
      rw [show (k + 1).toNat = k.toNat + 1 by omega, leads_take (by omega), ← ht13, h]; rfl
    · rintro t ht
      obtain rfl : t = _ := by simpa using ht
      exact ⟨⟨by omega, by omega, rfl⟩, (show ((M.length : Int) - (k + 1)).toNat < ((M.length : Int) - k).toNat by omega)⟩
    · rw [show k.toNat = M.length by omega, List.take_length] at ht13
      have e9 : ∀ (x y : C), B.den [c0, c1, C.s u1 lr, C.s u2 mr, c4, c5, c6, C.s v7 r7, c8, C.s v9 (ofBools (safeV b)), C.i 0, x, C.i i, C.b t13, y] (((B.of ((E.var 9).cell (E.var 12) 0)).beq (B.of ((E.var 2).cell (E.var 12) 0)).not).not) = !((safeV b).getD i.toNat false == !b.lost.getD i.toNat false) := fun x y => by
        show (!(((C.s v9 (ofBools (safeV b))).at i.toNat 0).bool == !((C.s u1 lr).at i.toNat 0).bool)) = _
        rw [bool_at, bool_at, bools_of, bl]
      have e10 : ∀ (x y : C), B.den [c0, c1, C.s u1 lr, C.s u2 mr, c4, c5, c6, C.s v7 r7, c8, C.s v9 (ofBools (safeV b)), C.i 0, x, C.i i, C.b t13, y] (((B.of ((E.var 9).cell (E.var 12) 0)).beq (B.lit false)).not) = !((safeV b).getD i.toNat false == false) := fun x y => by
        show (!(((C.s v9 (ofBools (safeV b))).at i.toNat 0).bool == false)) = _
        rw [bool_at, bools_of]
      rw [e9, e10]
      refine ⟨by omega, fun h => ⟨by omega, ?_⟩, fun h => ?_⟩
      · rw [hs, ← ht13, h]; simp
      · rw [hs, ← ht13, h]; simp
    · rintro t ht
      obtain rfl : t = false := by simpa using ht
      refine ⟨fun h => (by cases h), fun _ => ?_⟩
      rintro v16 r16 _ _ _ ⟨v16', e16⟩
      rw [show blowOf [C.s u1 lr, C.s u2 mr, C.i i] = b from hb.symm] at e16
      obtain ⟨-, rfl⟩ : v16 = v16' ∧ r16 = ofInts (wayV b i) := by simpa using e16
      exact chance_2 hb hc i0 hi fun t => ⟨⟨by omega, by omega⟩, (show ((lr.length : Int) - (i + 1)).toNat < ((lr.length : Int) - i).toNat by omega)⟩
  · rw [show blowOf [C.s u1 lr, C.s u2 mr, C.s v7 r7] = b from hb.symm]
    rintro at' _ _ is ⟨rfl, rfl⟩
    exact chance_3 hb hc hr7 hrun
end
end Go.Proofs.Ytbgofenplhdllaa
/- House: HouseChance, the executor's word. -/
namespace Go.Proofs.Ytbgofenplhdllaa
theorem xchance : execFn cnchance Try.f6 (ctLaw [intsSh, intsSh]) [] = some tnchance := by kernel_rfl
end Go.Proofs.Ytbgofenplhdllaa
/- House: HouseChance, all of it, by the table. -/
namespace Go.Proofs.Ytbgofenplhdllaa
open Go.RowKit
set_option linter.unusedSimpArgs false
set_option linter.unusedVariables false

theorem lchance_ok : CtOK Try.prog 6 (ctLaw [intsSh, intsSh]) := by
  refine ct_ok (cx := cnchance) (Tab.cx_ok (all_cons blow4_ok (all_cons (up4_ok (up3_ok (up_ok mod_ok))) (all_cons (up4_ok (up3_ok (up_ok safe_ok))) (all_cons (up4_ok (up3_ok (up_ok check_ok))) (all_cons way4_ok (all_cons (up4_ok (up3_ok hasint_ok)) (all_cons (up4_ok (up3_ok (up_ok chance_ok))) (all_cons (up4_ok (up3_ok (up_ok awake_ok))) all_nil))))))))) Try.func6 (bds := []) (T := tnchance) xchance ?_
  have h1 : cnchance.ct 23 = some ctBlowA := rfl
  have h2 : cnchance.ct 13 = some ctMod := rfl
  have h3 : cnchance.ct 14 = some ctSafe := rfl
  have h4 : cnchance.ct 16 = some ctCheckB := rfl
  unfold tnchance tnchance_5 tnchance_1
  simp only [VC, allC, List.map_cons, List.map_nil, List.length_cons, List.length_nil, List.getElem?_cons_zero, List.getElem?_cons_succ, List.cons.injEq, C.i.injEq, C.b.injEq, and_true, true_and, forall_const, kindsOf_nil, kindsOf_lf, kindsOf_agg, kindsOf_box, boxKinds_nil, boxKinds_lf, boxKinds_agg, boxKinds_box, List.append_nil, List.cons_append, List.nil_append, den_cmp_le, den_cmp_lt, den_cmp_eq, den_cmp_ne, den_cmp_le', den_cmp_lt', den_cmp_eq', den_cmp_ne', den_and, den_and', den_or, den_or', den_not, den_not', den_blit, den_of, ev_var, at_0, at_1, at_2, at_3, at_4, at_5, at_6, at_7, at_skip, c_int, c_bool, c_arr, c_cnt, c_vec, ev_nil, ev_join, ev_sub3, loc_s, int_i, bool_b, rows_s, cs_nil, cs_cons, E.den_lit, E.den_var, E.den_add, E.den_sub, E.den_mul, E.den_quo, E.den_rem, E.den_max, E.den_min, E.den_len, E.den_wr, E.den_cell, ev_cell, rows_at_len, int_at, ints_at, bool_at, h1, h2, h3, h4, ctBlowA, ctBlowL, ctMod, ctSafe, ctCheckB, ctLaw, ctF, blowSh, intsSh, n_]
  rintro v0 r0 _ _ _ v1 r1 _ _ _
  refine ⟨bds_nil _, ?_⟩
  rintro u1 lr _ _ _ u2 mr _ _ _ ⟨hc, h12⟩
  have hb : blowOf [C.s u1 lr, C.s u2 mr] = ⟨bools lr, intss mr⟩ := rfl
  rw [hb] at hc h12
  have hc' := hc
  obtain ⟨k1, k2, k3, -⟩ := check_all hc'
  have hlen : (safeV ⟨bools lr, intss mr⟩).length = lr.length := by rw [safeV_ok hc, safeF_len, bools_len]
  have e0 : (bools lr).length = lr.length := bools_len lr
  have k1 : (bools lr).length ≠ 0 := k1
  refine ⟨fun xs => match xs with | [.s _ rows, .i k] => 0 ≤ k ∧ k ≤ r1.length ∧ k ≤ 40 ∧ (rows.length : Int) = k ∧ ∀ z ∈ ints rows, 0 ≤ z ∧ z < (lr.length : Int) | _ => False, fun xs => match xs with | [_, .i k] => ((r1.length : Int) - k).toNat | _ => 0, ⟨by omega, by omega, by omega, by simp, fun z hz => by simp [ints] at hz⟩, ?_⟩
  rintro v7 r7 _ _ _ k _ _ ⟨i0, i1, i2, i3, i4⟩
  have rest : ∀ (v9 : Value) (r9 : List (List C)), (∃ v, C.s v9 r9 = C.s v (ofBools (safeV (blowOf [C.s u1 lr, C.s u2 mr])))) → r9 = ofBools (safeV ⟨bools lr, intss mr⟩) := fun v9 r9 h => by
    obtain ⟨v, h⟩ := h
    rw [hb] at h
    simp at h
    exact h.2
  have l9 : (ofBools (safeV ⟨bools lr, intss mr⟩)).length = lr.length := by rw [ofBools_len, hlen]
  refine ⟨fun hlt => ⟨fun hlt2 => ⟨i0, hlt, by omega, ?_⟩, ?_⟩, ?_⟩
  · rintro n _ _ hn
    have hn : n = (ints r1).getD k.toNat 0 % (lr.length : Int) := hn
    have n0 := Int.emod_nonneg ((ints r1).getD k.toNat 0) (b := (lr.length : Int)) (by omega)
    have n1 := Int.emod_lt_of_pos ((ints r1).getD k.toNat 0) (b := (lr.length : Int)) (by omega)
    rw [← hn] at n0 n1
    refine ⟨by simp only [Nat.zero_add]; omega, fun v => ⟨⟨by omega, by omega, by omega, by rw [List.length_append]; simp only [List.length_cons, List.length_nil]; omega, fun z hz => ?_⟩, (show ((r1.length : Int) - (k + 1)).toNat < ((r1.length : Int) - k).toNat by omega)⟩⟩
    rw [show ints (r7 ++ [[C.i n]]) = ints r7 ++ [n] by simp [ints, C.int]] at hz
    rcases List.mem_append.1 hz with hz | hz
    · exact i4 z hz
    · rw [List.mem_singleton] at hz; subst hz; exact ⟨n0, n1⟩
  all_goals
    intro _ v9 r9 _ _ _ h9
    obtain rfl := rest v9 r9 h9
    rw [l9]
    refine ⟨fun h => absurd rfl h, fun _ => ?_⟩
    rintro e _ _ he
    rw [hb, hc] at he
    obtain rfl : e = 0 := he
    exact chance_4 (ps := []) rfl hc (by omega) i4
end Go.Proofs.Ytbgofenplhdllaa
/- Arguments of any shape that the engine knows, opened: structs, and slices within slices. -/
namespace Go.Proofs.Ytbgofenplhdllaa
open Go.ChangeShapes Go.WideShapes Go.RowKit
set_option linter.unusedVariables false
/-- A type of integers, truth values and slices, without arrays. -/
def flatB (P : Program) : Nat → TypeId → Bool
  | 0, _ => false
  | d + 1, t => match P.underlying t with
    | some (.int .i64) => true
    | some .bool => true
    | some (.slice _) => true
    | some (.struct fs) => fs.toList.all fun f => flatB P d f.type
    | _ => false
/-- What a slice of this kind holds is known, to depth n. -/
def deepB (P : Program) : Nat → Lk → Bool
  | _, .int => true
  | _, .bool => true
  | n + 1, .arr e => match kinds P e with
    | some ks => ks.all (deepB P n) && (P.cellsOf e == ks.length) && flatB P 6 e
    | none => false
  | _, _ => false
def CellN (P : Program) (w : World) (n : Nat) (k : Lk) (u : Value) (c : C) : Prop := (∀ m, c.small m) ∧ match k with
  | .int => ∃ n, u = .int .i64 n ∧ c = .i n
  | .bool => ∃ t, u = .bool t ∧ c = .b t
  | .arr t => ∃ rows', c = .s u rows' ∧ ArrN P (fun b _ => b < w.heap.size) w n t u rows'
  | .vec _ => False
def kStep (P : Program) (d : Nat) (acc : Option (List Lk)) (f : Field) : Option (List Lk) := match acc, kindsF P d f.type with
  | some l, some m => if l.length = f.offset then some (l ++ m) else none
  | _, _ => none
theorem kStep_none {P : Program} {d : Nat} : ∀ {fs : List Field}, fs.foldl (kStep P d) none = none
  | [] => rfl
  | f :: fs => by rw [List.foldl_cons]; exact kStep_none
theorem kStep_at {P : Program} {d : Nat} : ∀ {fs : List Field} {a ks : List Lk}, fs.foldl (kStep P d) (some a) = some ks → ∀ (j : Nat) (k : Lk), ks[j]? = some k →
    a[j]? = some k ∨ ∃ f ∈ fs, ∃ m, kindsF P d f.type = some m ∧ f.offset ≤ j ∧ m[j - f.offset]? = some k
  | [], a, ks, h, j, k, hj => by cases h; exact .inl hj
  | f :: fs, a, ks, h, j, k, hj => by
    rw [List.foldl_cons] at h
    cases hm : kindsF P d f.type with
    | none => rw [show kStep P d (some a) f = none by simp [kStep, hm], kStep_none] at h; cases h
    | some m =>
      by_cases hl : a.length = f.offset
      · rw [show kStep P d (some a) f = some (a ++ m) by simp [kStep, hm, hl]] at h
        rcases kStep_at h j k hj with h1 | ⟨g, hg, m', h2⟩
        · by_cases hja : j < a.length
          · rw [List.getElem?_append_left hja] at h1; exact .inl h1
          · rw [List.getElem?_append_right (by omega), hl] at h1
            exact .inr ⟨f, List.mem_cons_self .., m, hm, by omega, h1⟩
        · exact .inr ⟨g, List.mem_cons_of_mem _ hg, m', h2⟩
      · rw [show kStep P d (some a) f = none by simp [kStep, hm, hl], kStep_none] at h; cases h
theorem kinds_F {P : Program} {t : TypeId} {ks : List Lk} (h : kinds P t = some ks) : kindsF P 6 t = some ks := by
  unfold kinds at h
  split at h
  · rename_i l hl
    split at h
    · cases h; exact hl
    · cases h
  · cases h
section
variable {H : Type} {enc : TypeId × Value → H} {P : Program} {w : World} {base : Nat} {spare : Nat → Bool} {held : Bool}
theorem small_int {n : Int} (h : -9223372036854775808 ≤ n ∧ n ≤ 9223372036854775807) : ∀ m, (C.i n).small m := fun m => by cases m <;> exact h
theorem cells_deep : ∀ (fuel n d : Nat) (t : TypeId) (ks : List Lk) (cs : List Value) (x : DataW H × List MemPlace), kindsF P d t = some ks → flatB P d t = true →
    DataW.trod enc P w base spare held fuel t cs = some x → ∀ (j : Nat) (k : Lk), ks[j]? = some k → deepB P n k = true → ∃ u c, cs[j]? = some u ∧ CellN P w n k u c := by
  intro fuel
  induction fuel with
  | zero => intro n d t ks cs x _ _ hx; simp [DataW.trod] at hx
  | succ fuel ih =>
    intro n d t ks cs x hk hfl hx j k hj hall
    cases d with
    | zero => simp [kindsF] at hk
    | succ d =>
      unfold flatB at hfl
      cases hu : P.underlying t with
      | none => rw [hu] at hfl; cases hfl
      | some ty =>
      rw [hu] at hfl
      unfold kindsF at hk
      rw [hu] at hk
      match ty, hu, hfl, hk with
      | .int .i64, hu, hfl, hk =>
        cases hk
        obtain ⟨z, rfl, -, hwf⟩ := DataW.trod_int hu hx
        match j, hj with
        | 0, hj => cases hj; exact ⟨_, .i z, rfl, small_int (wf_bd hwf), z, rfl, rfl⟩
      | .bool, hu, hfl, hk =>
        cases hk
        obtain ⟨z, rfl, -⟩ := DataW.trod_bool hu hx
        match j, hj with
        | 0, hj => cases hj; exact ⟨_, .b z, rfl, fun m => by cases m <;> trivial, z, rfl, rfl⟩
      | .slice e, hu, hfl, hk =>
        cases hk
        match j, hj with
        | 0, hj =>
        cases hj
        cases n with
        | zero => simp [deepB] at hall
        | succ n =>
        have hd : deepB P (n + 1) (.arr e) = true := hall
        unfold deepB at hd
        cases hke : kinds P e with
        | none => rw [hke] at hd; cases hd
        | some kse =>
        rw [hke] at hd
        simp only [Bool.and_eq_true, beq_iff_eq] at hd
        obtain ⟨⟨hd1, hd2⟩, hd3⟩ := hd
        rcases DataW.trod_slice hu hx with ⟨rfl, -⟩ | ⟨a, len, cap, elems, rest, m, hm, rfl, -, -, hl, hc, hlen, hel, -, -⟩
        · refine ⟨_, .s (.slice none 0 0) [], rfl, fun m => ?_, [], rfl, kse, hke, none, 0, rfl, fun h => absurd rfl h⟩
          cases m with
          | zero => trivial
          | succ m => exact ⟨by simp, fun r hr => by cases hr⟩
        · cases hm
          have each : ∀ i, i < len → ∀ (j : Nat) (k : Lk), kse[j]? = some k → ∃ u c, w.cell? (a.add (i * kse.length + j)) = some u ∧ CellN P w n k u c := by
            intro i hi j k hj
            have h1 := hel i hi
            rw [List.getElem?_eq_getElem (by omega), hd2] at h1
            obtain ⟨cs', h2, h3⟩ := Option.bind_eq_some_iff.1 h1
            obtain ⟨_, hlen', hcell⟩ := World.cells?_some h2
            obtain ⟨u, c, h4, h5⟩ := ih n 6 e kse cs' _ (kinds_F hke) hd3 h3 j k hj (List.all_eq_true.1 hd1 k (List.mem_of_getElem? hj))
            refine ⟨u, c, ?_, h5⟩
            have hjl : j < kse.length := by
              rcases Nat.lt_or_ge j kse.length with h | h
              · exact h
              · rw [List.getElem?_eq_none h] at hj; cases hj
            rw [← h4, ← hcell j hjl, Go.Deep.add_add]
          have each2 : ∀ i j, ∃ c : C, i < len → ∀ k, kse[j]? = some k → ∃ u, w.cell? (a.add (i * kse.length + j)) = some u ∧ CellN P w n k u c := by
            intro i j
            by_cases hi : i < len
            · cases hj : kse[j]? with
              | none => exact ⟨.i 0, fun _ k h => by cases h⟩
              | some k =>
                obtain ⟨u, c, h1, h2⟩ := each i hi j k hj
                exact ⟨c, fun _ k' h => by cases h; exact ⟨u, h1, h2⟩⟩
            · exact ⟨.i 0, fun h => absurd h hi⟩
          let f : Nat → Nat → C := fun i j => (each2 i j).choose
          have hf : ∀ i j, i < len → ∀ k, kse[j]? = some k → ∃ u, w.cell? (a.add (i * kse.length + j)) = some u ∧ CellN P w n k u (f i j) := fun i j => (each2 i j).choose_spec
          let rows : List (List C) := (List.range len).map fun i => (List.range kse.length).map fun j => f i j
          have hrl : rows.length = len := by simp [rows]
          refine ⟨_, .s (.slice (some a) len cap) rows, rfl, fun q => ?_, rows, rfl, kse, hke, some a, cap, by rw [hrl], fun hne => ?_⟩
          · cases q with
            | zero => trivial
            | succ q =>
              refine ⟨by rw [hrl]; unfold maxLen at hc; omega, fun r hr c hcr => ?_⟩
              obtain ⟨i, hi, rfl⟩ := List.mem_map.1 hr
              obtain ⟨j, hj, rfl⟩ := List.mem_map.1 hcr
              rw [List.mem_range] at hi hj
              obtain ⟨u, -, h⟩ := hf i j hi _ (List.getElem?_eq_getElem hj)
              exact h.1 q
          · have hpos : 0 < len := by
              rcases Nat.eq_zero_or_pos len with h | h
              · exact absurd (List.eq_nil_of_length_eq_zero (by rw [hrl]; exact h)) hne
              · exact h
            have hk0 : 0 < kse.length := Nat.pos_of_ne_zero (kinds_size hke).2
            obtain ⟨u0, h0, -⟩ := hf 0 0 hpos _ (List.getElem?_eq_getElem hk0)
            obtain ⟨b, o, s⟩ := a
            have hs : s = none := by simpa [Addr.add] using World.cell?_spot h0
            subst hs
            have hblk : b < w.heap.size := by
              have := World.block_lt_of_cell? _ _ h0
              simpa [Addr.add] using this
            refine ⟨b, o, rfl, by rw [hrl]; exact hl, fun i r hi => ?_⟩
            have hi' : i < len := by
              rcases Nat.lt_or_ge i len with h | h
              · exact h
              · rw [List.getElem?_eq_none (by rw [hrl]; exact h)] at hi; cases hi
            have hr : r = (List.range kse.length).map fun j => f i j := by
              simp only [rows, List.getElem?_map, List.getElem?_range hi', Option.map_some] at hi
              exact (Option.some.inj hi).symm
            subst hr
            refine ⟨by simp, fun j k hj => ⟨hblk, ?_⟩⟩
            have hjl : j < kse.length := by
              rcases Nat.lt_or_ge j kse.length with h | h
              · exact h
              · rw [List.getElem?_eq_none h] at hj; cases hj
            obtain ⟨u, h1, h2⟩ := hf i j hi' k hj
            refine ⟨u, f i j, by rw [← Go.WideShapes.add_plain]; exact h1, by simp [List.getElem?_range hjl], ?_⟩
            exact h2.2
      | .struct fs, hu, hfl, hk =>
        obtain ⟨xs, m, hm, -, -, hxl, hf⟩ := DataW.trod_struct hu hx
        cases hm
        have hk' : fs.toList.foldl (kStep P d) (some []) = some ks := hk
        rcases kStep_at hk' j k hj with h | ⟨f, hfm, m', hm', ho, hmj⟩
        · simp at h
        · obtain ⟨i, hi⟩ := List.mem_iff_getElem?.1 hfm
          have hi' : fs[i]? = some f := by rw [← hi]; simp
          have hil : i < xs.length := by
            rw [hxl]
            rcases Nat.lt_or_ge i fs.size with h | h
            · exact h
            · rw [Array.getElem?_eq_none h] at hi'; cases hi'
          have hg := hf i f hi'
          rw [List.getElem?_eq_getElem hil] at hg
          obtain ⟨u, c, h1, h2⟩ := ih n d f.type m' _ _ hm' (List.all_eq_true.1 hfl f hfm) hg (j - f.offset) k hmj hall
          refine ⟨u, c, ?_, h2⟩
          rw [List.getElem?_take] at h1
          split at h1
          · rw [List.getElem?_drop] at h1
            rw [← h1]; congr 1; omega
          · cases h1
theorem CellN.rep {n : Nat} {k : Lk} {u : Value} {c : C} (h : CellN P w n k u c) : LRep P w (fun _ _ => False) k u c := by
  refine ⟨h.1, ?_⟩
  cases k with
  | int => exact h.2
  | bool => exact h.2
  | arr t =>
    obtain ⟨rows, rfl, hA⟩ := h.2
    exact ⟨rfl, u, rows, rfl, n, _, fun b o hb => ⟨hb, fun h => h⟩, hA⟩
  | vec t => exact h.2.elim
theorem lreps_of : ∀ {ks : List Lk} {us : List Value} {n : Nat}, us.length = ks.length → (∀ (j : Nat) (k : Lk), ks[j]? = some k → ∃ u c, us[j]? = some u ∧ CellN P w n k u c) → ∃ rs, LReps P w (fun _ _ => False) ks us rs
  | [], [], _, _, _ => ⟨[], trivial⟩
  | k :: ks, u :: us, n, hl, h => by
    obtain ⟨u', c, hu, hc⟩ := h 0 k rfl
    cases hu
    obtain ⟨rs, hr⟩ := lreps_of (ks := ks) (us := us) (n := n) (by simpa using hl) fun j k hj => h (j + 1) k hj
    exact ⟨c :: rs, hc.rep, hr⟩
  | [], _ :: _, _, hl, _ => by simp at hl
  | _ :: _, [], _, hl, _ => by simp at hl
/-- A struct of integers, truth values and slices among the arguments. -/
theorem open_agg {r : Reach} {b0 n : Nat} {t : TypeId} {fs : Array Field} {v : Value} {d : DataW H} {p : List MemPlace} {ks : List Lk} (hu : P.underlying t = some (.struct fs)) (hk : kindsF P 6 t = some ks) (hfl : flatB P 6 t = true)
    (hd : ks.all (deepB P n) = true) (hc : P.cellsOf t = ks.length) (hv : Value.okWide P w r b0 t v) (hx : DataW.Trod enc P w base spare held t v d p) :
    ∃ us : List Value, v = .agg us.toArray ∧ ∃ rs, LReps P w (fun _ _ => False) ks us rs := by
  obtain ⟨cs, rfl, hsz⟩ := okWide_struct hu hv
  obtain ⟨fuel, hf⟩ := hx
  have hf : DataW.trod enc P w base spare held fuel t cs.toList = some (d, p) := hf
  obtain ⟨-, -, -, -, hlen, -, -⟩ := DataW.trod_struct hu hf
  exact ⟨cs.toList, by simp, lreps_of (n := n) (hlen.trans hc) fun j k hj => cells_deep fuel n 6 t ks _ _ hk hfl hf j k hj (List.all_eq_true.1 hd k (List.mem_of_getElem? hj))⟩
/-- A slice among the arguments. -/
theorem open_arr {r : Reach} {b0 n : Nat} {t e : TypeId} {v : Value} {d : DataW H} {p : List MemPlace} (hu : P.underlying t = some (.slice e)) (hd : deepB P n (.arr e) = true)
    (hv : Value.okWide P w r b0 t v) (hx : DataW.Trod enc P w base spare held t v d p) :
    ∃ c, LRep P w (fun _ _ => False) (.arr e) v c := by
  obtain ⟨A, m, c, rfl⟩ := okWide_slice hu hv
  obtain ⟨fuel, hf⟩ := hx
  have hf : DataW.trod enc P w base spare held fuel t [.slice A m c] = some (d, p) := hf
  obtain ⟨u, q, h1, h2⟩ := cells_deep fuel n 6 t [.arr e] _ _ (by unfold kindsF; rw [hu]) (by unfold flatB; rw [hu]) hf 0 (.arr e) rfl hd
  cases h1
  exact ⟨q, h2.rep⟩
end
theorem rep_struct {W : World} {O : Nat → Nat → Prop} {ss : List Sh0} {vs : List Value} {cs rs : List C} {us : List Value} {ks : List Lk} {old : Option Nat} (h : LReps Try.prog W O ks us rs) (hr : Reps Try.prog W O old ss vs cs) :
    Reps Try.prog W O old (.agg ks :: ss) (.agg us.toArray :: vs) (rs ++ cs) :=
  ⟨rs, _, rfl, ⟨us, rfl, h⟩, hr⟩
theorem rep_one {W : World} {O : Nat → Nat → Prop} {ss : List Sh0} {vs : List Value} {cs : List C} {t : TypeId} {v : Value} {c : C} {old : Option Nat} (h : LRep Try.prog W O (.arr t) v c) (hr : Reps Try.prog W O old ss vs cs) :
    Reps Try.prog W O old (.lf (.arr t) :: ss) (v :: vs) (c :: cs) :=
  ⟨[_], _, rfl, ⟨_, rfl, h⟩, hr⟩
end Go.Proofs.Ytbgofenplhdllaa
/- The call of HouseChance. -/
namespace Go.Proofs.Ytbgofenplhdllaa
open Go.RowKit
theorem walk_HouseChance (V0 V1 : Value) (W : World) (h0 : ∃ c, LRep Try.prog W (fun _ _ => False) (.arr 3) V0 c) (h1 : ∃ c, LRep Try.prog W (fun _ _ => False) (.arr 3) V1 c) :
    Calls Try.prog 6 #[V0, V1] W fun e w' => e = .returned (.bool true) ∧ Below W.heap.size W w' := by
  obtain ⟨c0, h0⟩ := h0
  obtain ⟨c1, h1⟩ := h1
  exact law_walk lchance_ok rfl (rep_one h0 (rep_one h1 rfl))
end Go.Proofs.Ytbgofenplhdllaa
namespace Go.Proofs.Ytbgofenplhdllaa.lawHouseChance
open Go.ChangeShapes Go.WideShapes Go.ChangeAt Go.RowKit
set_option linter.unusedVariables false

set_option maxRecDepth 100000 in
theorem lifted (os : Os) (started : os.Started) (H : Type) (enc : TypeId × Value → H) :
    ReturnsInHanded {} Try.checked os 6 .any (Rows.houseChanceSpec.pre6 enc Try.prog Try.f6 Rows.houseChanceRow.domain false) (Rows.houseChanceSpec.post enc Try.prog Try.f6 false true false false) := by
  refine returnsInHanded_of_change (C := Try.checked) own started (by kernel_rfl) Try.func6
    (ChangeSpec.witness6 (enc := enc) (C := Try.checked) false ⟨#[], #[.slice none 0 0, .slice none 0 0], []⟩ 8 (by kernel_rfl) (by kernel_rfl) (by kernel_rfl) (by kernel_rfl)) ?_
  intro W base args ds gs before hval0 hW hcnd _
  have hval : ∀ (j : Nat) t v, Try.f6.params[j]? = some t → args[j]? = some v → Value.okWide Try.prog W .any base t v := hval0
  have hW' := hW
  obtain ⟨p, q, hA0, hV, rfl, hfz, hnd⟩ := hW
  have hA : DataW.TrodAll enc Try.prog W 0 (fun _ => true) true Try.f6.params.toList args.toList ds p := hA0
  rw [Try.params6] at hA hval
  obtain ⟨v0, vs0, d0, ds0, p0, q0, hargs, rfl, rfl, h0, r0⟩ := trodAll_cons hA
  obtain ⟨v1, vs1, d1, ds1, p1, q1, rfl, rfl, rfl, h1, r1⟩ := trodAll_cons r0
  obtain ⟨rfl, rfl, rfl⟩ := trodAll_nil r1
  obtain rfl : args = #[v0, v1] := by cases args; simp_all
  obtain ⟨rfl, rfl⟩ := trodVars_none hV
  have k0 := h0
  have lt0 : ∀ x ∈ p0, x.block < W.heap.size := by obtain ⟨m, hm⟩ := k0; exact DataW.trod_lt m _ _ _ hm
  have b0 := open_arr (n := 4) Try.underlying35 (by kernel_rfl) (hval 0 35 v0 rfl rfl) h0
  have k1 := h1
  have lt1 : ∀ x ∈ p1, x.block < W.heap.size := by obtain ⟨m, hm⟩ := k1; exact DataW.trod_lt m _ _ _ hm
  have b1 := open_arr (n := 4) Try.underlying35 (by kernel_rfl) (hval 1 35 v1 rfl rfl) h1
  clear hA0 hval0
  refine (walk_HouseChance v0 v1 W b0 b1).mono fun e W' ⟨he, bel⟩ => ?_
  subst he
  exact ⟨_, rfl, _, _, _, [], _, [], hW', trodAll_mk1 (shut_bool Try.underlying4 _), (trodAll_cons_mk (Below.trod laidOut (by kernel_rfl) (of_decide_eq_true (by kernel_rfl)) k0 bel lt0) (trodAll_cons_mk (Below.trod laidOut (by kernel_rfl) (of_decide_eq_true (by kernel_rfl)) k1 bel lt1) trodAll_mk0)), rfl, bel.frame _, fun h => by cases h⟩

theorem over : Rows.houseChanceRow.holds Try.pinned (OpenSpec.ofChange Rows.houseChanceSpec) :=
  OpenClaim.holds_of_wide 6 Try.f6 rfl rfl rfl rfl rfl rfl rfl ⟨rfl, rfl, rfl, rfl, rfl⟩ rfl rfl rfl rfl rfl (by kernel_rfl) Try.func6 (by kernel_rfl)
    (of_decide_eq_true (by kernel_rfl)) (by unfold Func.isWrapper; first | (rw [if_pos (by decide +kernel)]; kernel_rfl) | (rw [if_neg (by decide +kernel)]; exact ⟨rfl, rfl⟩))
    (fun os started H enc _ => lifted os started H enc)

theorem proved : Rows.HouseChanceSaid := over
#print axioms proved
end Go.Proofs.Ytbgofenplhdllaa.lawHouseChance
