/- The law HouseBlows: for every input the call returns true, and each argument reads afterwards as it read before. The frame is printed by frame.py. -/
import Derived.Test.YtbgofenplhdllaaBlows6
import Derived.Test.YtbgofenplhdllaaRows
import Derived.ShutString
import Derived.ChangeOld
/- House: the wild well: plain law. -/
namespace Go.Proofs.Ytbgofenplhdllaa
open Go.RowKit
set_option linter.unusedSimpArgs false
set_option linter.unusedVariables false

/-- The place of a state. -/
def ix (T v c : Nat) : Nat := v * (T + 1) + c
def wildM (L R T i : Nat) : List Int :=
  if i % (T + 1) = T then [(i : Int), (i : Int)] else [((ix T (min L (i / (T + 1) + R)) (i % (T + 1)) : Nat) : Int), ((ix T (min L (i / (T + 1) + R)) (i % (T + 1) + 1) : Nat) : Int)]
def wildB (L R T : Nat) : Blow := ⟨(List.range ((L + 1) * (T + 1))).map fun i => decide (i / (T + 1) = L), (List.range ((L + 1) * (T + 1))).map (wildM L R T)⟩
theorem ix_lt {L T v c : Nat} (hv : v ≤ L) (hc : c ≤ T) : ix T v c < (L + 1) * (T + 1) := by
  have h1 : v * (T + 1) ≤ L * (T + 1) := Nat.mul_le_mul_right _ hv
  have h2 : (L + 1) * (T + 1) = L * (T + 1) + (T + 1) := by rw [Nat.add_mul, Nat.one_mul]
  unfold ix; omega
theorem ix_div {T v c : Nat} (hc : c ≤ T) : ix T v c / (T + 1) = v := by
  unfold ix
  rw [Nat.mul_comm, Nat.mul_add_div (Nat.succ_pos _), Nat.div_eq_of_lt (by omega), Nat.add_zero]
theorem ix_mod {T v c : Nat} (hc : c ≤ T) : ix T v c % (T + 1) = c := by
  unfold ix
  rw [Nat.mul_comm, Nat.mul_add_mod, Nat.mod_eq_of_lt (by omega)]
theorem ix_of (T i : Nat) : ix T (i / (T + 1)) (i % (T + 1)) = i := by
  unfold ix
  rw [Nat.mul_comm]; exact Nat.div_add_mod i (T + 1)
theorem wild_len (L R T : Nat) : (wildB L R T).lost.length = (L + 1) * (T + 1) := by simp [wildB]
theorem wild_mlen (L R T : Nat) : (wildB L R T).moves.length = (L + 1) * (T + 1) := by simp [wildB]
theorem wild_lost {L R T i : Nat} (h : i < (L + 1) * (T + 1)) : (wildB L R T).lost.getD i false = decide (i / (T + 1) = L) := by
  simp [wildB, List.getD_eq_getElem?_getD, h]
theorem wild_moves {L R T i : Nat} (h : i < (L + 1) * (T + 1)) : (wildB L R T).moves.getD i [] = wildM L R T i := by
  simp [wildB, List.getD_eq_getElem?_getD, h]
theorem leads_two (S : List Bool) (a b : Nat) : leads S [(a : Int), (b : Int)] = (S.getD a false || S.getD b false) := by
  simp [leads]
theorem wild_le {L T i : Nat} (h : i < (L + 1) * (T + 1)) : i / (T + 1) ≤ L ∧ i % (T + 1) ≤ T := by
  have h1 : i / (T + 1) < L + 1 := Nat.div_lt_of_lt_mul (by rw [Nat.mul_comm]; exact h)
  have h2 : i % (T + 1) < T + 1 := Nat.mod_lt i (Nat.succ_pos T)
  omega
theorem wild_fwd {L R T : Nat} (hR : 1 ≤ R) : ∀ (m v c : Nat), (T - c) + (L - v) ≤ m → v ≤ L → c ≤ T → (safeF (wildB L R T)).getD (ix T v c) false = true → v + (T - c) * R < L := by
  intro m
  induction m with
  | zero =>
    intro v c hm hv hc h
    have h := safeF_iff.1 h
    rw [wild_lost (ix_lt hv hc), ix_div hc] at h
    have := h.2.2
    simp at this
    omega
  | succ m ih =>
    intro v c hm hv hc h
    have h := safeF_iff.1 h
    rw [wild_lost (ix_lt hv hc), ix_div hc, wild_moves (ix_lt hv hc)] at h
    obtain ⟨-, h1, h2⟩ := h
    have h2 : v ≠ L := by simpa using h2
    unfold wildM at h1
    rw [ix_mod hc, ix_div hc] at h1
    by_cases hcT : c = T
    · subst hcT; simp; omega
    · rw [if_neg hcT, leads_two, Bool.or_eq_true] at h1
      rcases h1 with h1 | h1
      · have := ih (min L (v + R)) c (by omega) (by omega) hc h1
        generalize (T - c) * R = X at *
        omega
      · have := ih (min L (v + R)) (c + 1) (by omega) (by omega) (by omega) h1
        have e : (T - c) * R = (T - (c + 1)) * R + R := by rw [show T - c = (T - (c + 1)) + 1 by omega, Nat.add_mul, Nat.one_mul]
        rw [e]
        generalize (T - (c + 1)) * R = X at *
        omega
theorem wild_bwd {L R T v c : Nat} (hv : v ≤ L) (hc : c ≤ T) (h : v + (T - c) * R < L) : (safeF (wildB L R T)).getD (ix T v c) false = true := by
  refine safeF_top (S := (List.range ((L + 1) * (T + 1))).map fun i => decide (i / (T + 1) + (T - i % (T + 1)) * R < L)) (fun i hi => ?_) _ ?_
  · rw [wild_len]
    rcases Nat.lt_or_ge i ((L + 1) * (T + 1)) with hlt | hge
    · obtain ⟨l1, l2⟩ := wild_le hlt
      have hi' : i / (T + 1) + (T - i % (T + 1)) * R < L := by simpa [List.getD_eq_getElem?_getD, hlt] using hi
      refine ⟨hlt, ?_, by rw [wild_lost hlt]; simp; omega⟩
      rw [wild_moves hlt]
      unfold wildM
      generalize hvv : i / (T + 1) = v at *
      generalize hcc : i % (T + 1) = c at *
      by_cases hcT : c = T
      · rw [if_pos hcT, leads_two, hi]; rfl
      · rw [if_neg hcT, leads_two]
        have e : (T - c) * R = (T - (c + 1)) * R + R := by rw [show T - c = (T - (c + 1)) + 1 by omega, Nat.add_mul, Nat.one_mul]
        rw [e] at hi'
        have hm : min L (v + R) = v + R := by omega
        rw [hm]
        have hlt2 : ix T (v + R) (c + 1) < (L + 1) * (T + 1) := ix_lt (by omega) (by omega)
        rw [Bool.or_eq_true]
        right
        simp only [List.getD_eq_getElem?_getD, List.getElem?_map, List.getElem?_range, hlt2, if_true, Option.map_some, Option.getD_some]
        rw [ix_div (by omega), ix_mod (by omega)]
        generalize (T - (c + 1)) * R = X at *
        simp; omega
    · rw [List.getD_eq_getElem?_getD, List.getElem?_eq_none (by simpa using hge)] at hi
      cases hi
  · have hlt := ix_lt (L := L) hv hc
    simp only [List.getD_eq_getElem?_getD, List.getElem?_map, List.getElem?_range, hlt, if_true, Option.map_some, Option.getD_some]
    rw [ix_div hc, ix_mod hc]
    simpa using h
theorem wild_safe {L R T v c : Nat} (hR : 1 ≤ R) (hv : v ≤ L) (hc : c ≤ T) : (safeF (wildB L R T)).getD (ix T v c) false = decide (v + (T - c) * R < L) := by
  by_cases h : v + (T - c) * R < L
  · rw [decide_eq_true h]; exact wild_bwd hv hc h
  · rw [decide_eq_false h]
    cases hb : (safeF (wildB L R T)).getD (ix T v c) false with
    | false => rfl
    | true => exact absurd (wild_fwd hR _ v c (Nat.le_refl _) hv hc hb) h
end Go.Proofs.Ytbgofenplhdllaa
/- House: the way from a state: plain law. -/
namespace Go.Proofs.Ytbgofenplhdllaa
open Go.RowKit
set_option linter.unusedSimpArgs false
set_option linter.unusedVariables false

/-- The first move that is safe. -/
def nextW (S : List Bool) (l : List Int) : Int := (l.find? fun k => S.getD k.toNat false).getD 0
def wayGo (M : List (List Int)) (S : List Bool) : Nat → List Int → Int → List Int
  | 0, out, s => out
  | n + 1, out, s => if out.contains s = true then out ++ [s] else wayGo M S n (out ++ [s]) (nextW S (M.getD s.toNat []))
def wayV (b : Blow) (s : Int) : List Int :=
  if 0 ≤ s ∧ s < (safeV b).length ∧ (safeV b).getD s.toNat false = true then wayGo b.moves (safeV b) (b.lost.length + 1) [] s else []
theorem wayGo_met {M : List (List Int)} {S : List Bool} {n : Nat} {out : List Int} {s : Int} (h : out.contains s = true) : wayGo M S (n + 1) out s = out ++ [s] := by rw [wayGo, if_pos h]
theorem wayGo_on {M : List (List Int)} {S : List Bool} {n : Nat} {out : List Int} {s : Int} (h : out.contains s = false) : wayGo M S (n + 1) out s = wayGo M S n (out ++ [s]) (nextW S (M.getD s.toNat [])) := by rw [wayGo, if_neg (by rw [h]; simp)]
theorem nodup_le : ∀ (n : Nat) (l : List Int), l.Nodup → (∀ x ∈ l, 0 ≤ x ∧ x < n) → l.length ≤ n
  | 0, l, _, h => by
    cases l with
    | nil => exact Nat.le_refl _
    | cons x l => have := h x (List.mem_cons_self ..); omega
  | n + 1, l, hn, h => by
    have h1 := nodup_le n (l.filter fun x => decide (x ≠ (n : Int))) (hn.sublist List.filter_sublist) fun x hx => by
      simp at hx
      have := h x hx.1
      omega
    have h2 : l.length = (l.filter fun x => decide (x ≠ (n : Int))).length + (l.filter fun x => !decide (x ≠ (n : Int))).length := by
      rw [← List.countP_eq_length_filter, ← List.countP_eq_length_filter]
      refine (List.length_eq_countP_add_countP (fun x : Int => decide (x ≠ (n : Int)))).trans ?_
      congr 1
      exact List.countP_congr fun x _ => by simp
    have h3 : (l.filter fun x => !decide (x ≠ (n : Int))).length ≤ 1 := by
      have hc := List.nodup_iff_count.1 hn (n : Int)
      rw [← List.countP_eq_length_filter]
      have : l.countP (fun x => !decide (x ≠ (n : Int))) = l.count (n : Int) := by
        unfold List.count
        exact List.countP_congr fun x _ => by simp
      omega
    omega
/-- What a way has when a state comes. -/
structure WayAt (b : Blow) (i : Int) (out : List Int) (s : Int) : Prop where
  nodup : out.Nodup
  inn : ∀ x ∈ out, 0 ≤ x ∧ x < b.lost.length ∧ (safeV b).getD x.toNat false = true
  s0 : 0 ≤ s ∧ s < b.lost.length ∧ (safeV b).getD s.toNat false = true
  chain : ∀ k : Nat, k < out.length → (k = 0 → out.getD 0 0 = i) ∧ (0 < k → out.getD k 0 ∈ b.moves.getD (out.getD (k - 1) 0).toNat [])
  last : (out = [] → s = i) ∧ (0 < out.length → s ∈ b.moves.getD (out.getD (out.length - 1) 0).toNat [])
theorem WayAt.len {b : Blow} {i s : Int} {out : List Int} (h : WayAt b i out s) : out.length ≤ b.lost.length := nodup_le _ _ h.nodup fun x hx => ⟨(h.inn x hx).1, (h.inn x hx).2.1⟩
theorem nextW_spec {b : Blow} (hc : checkV b = 0) {s : Int} (h0 : 0 ≤ s) (hs : (safeV b).getD s.toNat false = true) : nextW (safeV b) (b.moves.getD s.toNat []) ∈ b.moves.getD s.toNat [] ∧ 0 ≤ nextW (safeV b) (b.moves.getD s.toNat []) ∧ nextW (safeV b) (b.moves.getD s.toNat []) < b.lost.length ∧ (safeV b).getD (nextW (safeV b) (b.moves.getD s.toNat [])).toNat false = true := by
  rw [safeV_ok hc] at *
  obtain ⟨h1, h2, h3⟩ := safeF_iff.1 hs
  obtain ⟨k, hk, hk2⟩ := List.any_eq_true.1 h2
  have hat := check_at hc h1
  cases hf : (b.moves.getD s.toNat []).find? (fun k => (safeF b).getD k.toNat false) with
  | none => rw [List.find?_eq_none] at hf; exact absurd hk2 (hf k hk)
  | some x =>
    have hm := List.mem_of_find?_eq_some hf
    have hp := List.find?_some hf
    have e : nextW (safeF b) (b.moves.getD s.toNat []) = x := by unfold nextW; rw [hf]; rfl
    rw [e]
    have := hat.2.2 x hm
    exact ⟨hm, this.1, this.2, hp⟩
theorem getD_app {α : Type} {l : List α} {x d : α} {k : Nat} : (l ++ [x]).getD k d = if k < l.length then l.getD k d else if k = l.length then x else d := by
  simp only [List.getD_eq_getElem?_getD]
  split
  · rename_i h; rw [List.getElem?_append_left h]
  · rename_i h
    rw [List.getElem?_append_right (by omega)]
    split
    · rename_i h2; subst h2; simp
    · rename_i h2; rw [List.getElem?_eq_none (by simp; omega)]; rfl
theorem WayAt.step {b : Blow} (hc : checkV b = 0) {i s : Int} {out : List Int} (h : WayAt b i out s) (hn : out.contains s = false) : WayAt b i (out ++ [s]) (nextW (safeV b) (b.moves.getD s.toNat [])) := by
  obtain ⟨n1, n2, n3, n4⟩ := nextW_spec hc h.s0.1 h.s0.2.2
  refine ⟨List.nodup_append.2 ⟨h.nodup, by simp, fun a ha c hc' e => ?_⟩, fun x hx => ?_, ⟨n2, n3, n4⟩, fun k hk => ?_, fun h' => by simp at h', fun _ => ?_⟩
  · simp at hc'; subst hc'; subst e
    rw [List.contains_eq_mem, decide_eq_false_iff_not] at hn
    exact hn ha
  · rcases List.mem_append.1 hx with hx | hx
    · exact h.inn x hx
    · simp at hx; subst hx; exact h.s0
  · simp only [List.length_append, List.length_cons, List.length_nil] at hk
    refine ⟨fun hk0 => ?_, fun hk0 => ?_⟩
    · subst hk0
      rw [getD_app]
      split
      · rename_i hl; exact (h.chain 0 hl).1 rfl
      · rename_i hl
        have : out = [] := List.length_eq_zero_iff.1 (by omega)
        rw [if_pos (by omega)]; exact h.last.1 this
    · rw [getD_app, getD_app]
      rw [if_pos (show k - 1 < out.length by omega)]
      split
      · rename_i hl; exact (h.chain k hl).2 hk0
      · rename_i hl
        rw [if_pos (by omega), show k = out.length by omega]
        exact h.last.2 (by omega)
  · simp only [List.length_append, List.length_cons, List.length_nil, Nat.zero_add, Nat.add_sub_cancel]
    rw [getD_app, if_neg (by omega), if_pos rfl]
    exact n1
/-- What a way has at its end. -/
structure WayEnd (b : Blow) (i : Int) (w : List Int) : Prop where
  len : 1 < w.length
  inn : ∀ x ∈ w, 0 ≤ x ∧ x < b.lost.length ∧ b.lost.getD x.toNat false = false
  chain : ∀ k : Nat, k < w.length → (k = 0 → w.getD 0 0 = i) ∧ (0 < k → w.getD k 0 ∈ b.moves.getD (w.getD (k - 1) 0).toNat [])
  last : w.getD (w.length - 1) 0 ∈ w.take (w.length - 1)
theorem wayGo_end {b : Blow} (hc : checkV b = 0) {i : Int} : ∀ (n : Nat) (out : List Int) (s : Int), n + out.length = b.lost.length + 1 → WayAt b i out s → WayEnd b i (wayGo b.moves (safeV b) n out s)
  | 0, out, s, hn, h => by have := h.len; omega
  | n + 1, out, s, hn, h => by
    by_cases hm : out.contains s = true
    · rw [wayGo_met hm]
      have hmem : s ∈ out := by rw [List.contains_eq_mem] at hm; exact of_decide_eq_true hm
      have hpos : 0 < out.length := List.length_pos_of_mem hmem
      have hl : ∀ x : Int, (safeV b).getD x.toNat false = true → b.lost.getD x.toNat false = false := fun x hx => by rw [safeV_ok hc] at hx; exact (safeF_iff.1 hx).2.2
      refine ⟨by simp; omega, fun x hx => ?_, fun k hk => ?_, ?_⟩
      · rcases List.mem_append.1 hx with hx | hx
        · have := h.inn x hx; exact ⟨this.1, this.2.1, hl x this.2.2⟩
        · simp at hx; subst hx; exact ⟨h.s0.1, h.s0.2.1, hl _ h.s0.2.2⟩
      · simp only [List.length_append, List.length_cons, List.length_nil] at hk
        refine ⟨fun hk0 => ?_, fun hk0 => ?_⟩
        · rw [getD_app, if_pos hpos]; exact (h.chain 0 hpos).1 rfl
        · rw [getD_app, getD_app, if_pos (show k - 1 < out.length by omega)]
          split
          · rename_i hl; exact (h.chain k hl).2 hk0
          · rename_i hl
            rw [if_pos (by omega), show k = out.length by omega]
            exact h.last.2 hpos
      · simp only [List.length_append, List.length_cons, List.length_nil, Nat.zero_add, Nat.add_sub_cancel, List.take_left]
        rw [getD_app, if_neg (by omega), if_pos rfl]
        exact hmem
    · have hm : out.contains s = false := by simpa using hm
      rw [wayGo_on hm]
      exact wayGo_end hc n _ _ (by simp; omega) (h.step hc hm)
theorem WayAt.start {b : Blow} {i : Int} (h : 0 ≤ i ∧ i < b.lost.length ∧ (safeV b).getD i.toNat false = true) : WayAt b i [] i :=
  ⟨List.nodup_nil, fun x hx => (by cases hx), h, fun k hk => (by simp at hk), fun _ => rfl, fun h => (by simp at h)⟩
theorem safeV_lt {b : Blow} {i : Nat} (h : (safeV b).getD i false = true) : checkV b = 0 ∧ i < b.lost.length := by
  by_cases hc : checkV b = 0
  · rw [safeV_ok hc] at h; exact ⟨hc, (safeF_iff.1 h).1⟩
  · rw [safeV_no hc] at h; cases h
theorem way_end {b : Blow} {i : Int} (h0 : 0 ≤ i) (h : (safeV b).getD i.toNat false = true) : WayEnd b i (wayV b i) := by
  obtain ⟨hc, hl⟩ := safeV_lt h
  have hlen : (safeV b).length = b.lost.length := by rw [safeV_ok hc, safeF_len]
  unfold wayV
  rw [if_pos ⟨h0, by omega, h⟩]
  exact wayGo_end hc _ _ _ (by simp) (.start ⟨h0, by omega, h⟩)
theorem way_none {b : Blow} {i : Int} (h : ¬ ((safeV b).getD i.toNat false = true ∧ 0 ≤ i)) : wayV b i = [] := by
  unfold wayV
  rw [if_neg fun hc => h ⟨hc.2.2, hc.1⟩]
end Go.Proofs.Ytbgofenplhdllaa
/- House: contracts, more of them: the wild well, ways, comparisons. -/
namespace Go.Proofs.Ytbgofenplhdllaa
set_option linter.unusedVariables false

def wildV (l r t : Int) : Blow × Int :=
  if 1 ≤ l ∧ l ≤ 15 ∧ 1 ≤ r ∧ r ≤ 15 ∧ 0 ≤ t ∧ t ≤ 3 then (if 64 < (l + 1) * (t + 1) then (⟨[], []⟩, 8) else (wildB l.toNat r.toNat t.toNat, 0)) else (⟨[], []⟩, 2)
def ctWild : Ct := ⟨[.lf .int, .lf .int, .lf .int], [.agg [.vec 4, .vec 35], .lf .int], fun _ => True, fun cs rs => blowOf rs = (wildV (n_ cs 0) (n_ cs 1) (n_ cs 2)).1 ∧ at_ rs 2 = .i (wildV (n_ cs 0) (n_ cs 1) (n_ cs 2)).2, false⟩
def ctSameLists : Ct := ctF [.lf (.arr 35), .lf (.arr 35)] [.lf .bool] (fun _ => True) (fun cs => [.b (intss (at_ cs 0).rows == intss (at_ cs 1).rows)])
def ctSameInts : Ct := ctF [intsSh, intsSh] [.lf .bool] (fun _ => True) (fun cs => [.b (ints (at_ cs 0).rows == ints (at_ cs 1).rows)])
def ctHas : Ct := ctF [intsSh, .lf .int] [.lf .bool] (fun _ => True) (fun cs => [.b ((ints (at_ cs 0).rows).contains (n_ cs 1))])
def ctWay : Ct := ⟨[blowSh, .lf .int], [.lf (.vec 3)], fun _ => True, fun cs rs => ∃ v, rs = [.s v (ofInts (wayV (blowOf cs) (n_ cs 2)))], false⟩
/-- A blow-out that is valid, of 1 to 12 states. -/
def ctBlowL : Ct := ⟨[intsSh], [.agg [.vec 4, .vec 35]], fun _ => True, fun _ rs => checkV (blowOf rs) = 0 ∧ (blowOf rs).lost.length ≤ 12, false⟩
def tab2 : Tab where
  ct := fun f => match f with
    | 9 | 10 => some ctWild
    | 11 => some ctSameLists
    | 20 => some ctSameInts
    | 24 => some ctHas
    | 21 | 22 => some ctWay
    | 23 => some ctBlowL
    | f => tab.ct f
  inl := tab.inl
  sel := tab.sel
theorem up_ok {f : Nat} (h : tab.ok f) (he : tab2.ct f = tab.ct f := by rfl) : tab2.ok f :=
  ⟨h.1, fun ct hc => h.2.1 ct (he ▸ hc), h.2.2.1, h.2.2.2⟩
end Go.Proofs.Ytbgofenplhdllaa
/- What is to be shown of each function, as the executor has it. Printed by trees.py. -/
namespace Go.Proofs.Ytbgofenplhdllaa
noncomputable def flwild : List (Nat × Func) := [(33, Try.f33)]
theorem fxwild : ∀ p ∈ flwild, FnOK p := fns_cons ⟨Try.func33, ⟨_, Try.func33, by decide, rfl⟩⟩ (fns_nil)
noncomputable def cwild : Cx := tab2.only [] (fun r => match r with
  | 8 => [.blk 3]
  | 11 => [.blk 3]
  | _ => []) flwild 1 [] (fun _ => none)
def twild : Tree :=
  (.dfn .nil (.dfn .nil (.split (.cmp .lt (.min (.var 0) (.var 1)) (.lit 1)) (.dfn .nil (.dfn .nil (.ret [(.cnt 4 (.var 5)), (.cnt 35 (.var 6)), (.int (.lit 2))]))) (.split (.cmp .lt (.lit 15) (.max (.var 0) (.var 1))) (.dfn .nil (.dfn .nil (.ret [(.cnt 4 (.var 5)), (.cnt 35 (.var 6)), (.int (.lit 2))]))) (.split (.cmp .lt (.var 2) (.lit 0)) (.dfn .nil (.dfn .nil (.ret [(.cnt 4 (.var 5)), (.cnt 35 (.var 6)), (.int (.lit 2))]))) (.split (.cmp .lt (.lit 3) (.var 2)) (.dfn .nil (.dfn .nil (.ret [(.cnt 4 (.var 5)), (.cnt 35 (.var 6)), (.int (.lit 2))]))) (.ob (.and (.cmp .le (.lit (-9223372036854775808)) (.add (.var 0) (.lit 1))) (.cmp .le (.add (.var 0) (.lit 1)) (.lit 9223372036854775807))) (.ob (.and (.cmp .le (.lit (-9223372036854775808)) (.mul (.add (.var 0) (.lit 1)) (.add (.var 2) (.lit 1)))) (.cmp .le (.mul (.add (.var 0) (.lit 1)) (.add (.var 2) (.lit 1))) (.lit 9223372036854775807))) (.split (.cmp .lt (.lit 64) (.mul (.add (.var 0) (.lit 1)) (.add (.var 2) (.lit 1)))) (.dfn .nil (.dfn .nil (.ret [(.cnt 4 (.var 5)), (.cnt 35 (.var 6)), (.int (.lit 8))]))) (.arr [] (.dfn .nil (.dfn .nil (.ob (.and (.cmp .le (.lit (-9223372036854775808)) (.add (.var 0) (.lit 1))) (.cmp .le (.add (.var 0) (.lit 1)) (.lit 9223372036854775807))) (.loop [.int, (.vec 4), (.vec 35)] [(.int (.lit 0)), (.cnt 4 (.var 6)), (.cnt 35 (.var 7))] (.split (.cmp .lt (.var 8) (.add (.var 0) (.lit 1))) (.loop [.int, (.vec 4), (.vec 35)] [(.int (.lit 0)), (.cnt 4 (.var 9)), (.cnt 35 (.var 10))] (.split (.cmp .lt (.var 11) (.add (.var 2) (.lit 1))) (.ob (.and (.cmp .le (.lit (-9223372036854775808)) (.add (.var 8) (.var 1))) (.cmp .le (.add (.var 8) (.var 1)) (.lit 9223372036854775807))) (.ob (.and (.cmp .le (.lit (-9223372036854775808)) (.mul (.min (.var 0) (.add (.var 8) (.var 1))) (.add (.var 2) (.lit 1)))) (.cmp .le (.mul (.min (.var 0) (.add (.var 8) (.var 1))) (.add (.var 2) (.lit 1))) (.lit 9223372036854775807))) (.ob (.and (.cmp .le (.lit (-9223372036854775808)) (.add (.mul (.min (.var 0) (.add (.var 8) (.var 1))) (.add (.var 2) (.lit 1))) (.var 11))) (.cmp .le (.add (.mul (.min (.var 0) (.add (.var 8) (.var 1))) (.add (.var 2) (.lit 1))) (.var 11)) (.lit 9223372036854775807))) (.ob (.and (.cmp .le (.lit (-9223372036854775808)) (.add (.var 8) (.var 1))) (.cmp .le (.add (.var 8) (.var 1)) (.lit 9223372036854775807))) (.ob (.and (.cmp .le (.lit (-9223372036854775808)) (.mul (.min (.var 0) (.add (.var 8) (.var 1))) (.add (.var 2) (.lit 1)))) (.cmp .le (.mul (.min (.var 0) (.add (.var 8) (.var 1))) (.add (.var 2) (.lit 1))) (.lit 9223372036854775807))) (.ob (.and (.cmp .le (.lit (-9223372036854775808)) (.add (.mul (.min (.var 0) (.add (.var 8) (.var 1))) (.add (.var 2) (.lit 1))) (.add (.var 11) (.lit 1)))) (.cmp .le (.add (.mul (.min (.var 0) (.add (.var 8) (.var 1))) (.add (.var 2) (.lit 1))) (.add (.var 11) (.lit 1))) (.lit 9223372036854775807))) (.split (.cmp .eq (.var 11) (.var 2)) (.ob (.and (.cmp .le (.lit (-9223372036854775808)) (.mul (.min (.var 0) (.var 8)) (.add (.var 2) (.lit 1)))) (.cmp .le (.mul (.min (.var 0) (.var 8)) (.add (.var 2) (.lit 1))) (.lit 9223372036854775807))) (.ob (.and (.cmp .le (.lit (-9223372036854775808)) (.add (.mul (.min (.var 0) (.var 8)) (.add (.var 2) (.lit 1))) (.var 11))) (.cmp .le (.add (.mul (.min (.var 0) (.var 8)) (.add (.var 2) (.lit 1))) (.var 11)) (.lit 9223372036854775807))) (.ob (.and (.cmp .le (.lit (-9223372036854775808)) (.mul (.min (.var 0) (.var 8)) (.add (.var 2) (.lit 1)))) (.cmp .le (.mul (.min (.var 0) (.var 8)) (.add (.var 2) (.lit 1))) (.lit 9223372036854775807))) (.ob (.and (.cmp .le (.lit (-9223372036854775808)) (.add (.mul (.min (.var 0) (.var 8)) (.add (.var 2) (.lit 1))) (.var 11))) (.cmp .le (.add (.mul (.min (.var 0) (.var 8)) (.add (.var 2) (.lit 1))) (.var 11)) (.lit 9223372036854775807))) (.arr [[(.bool (.cmp .eq (.var 8) (.var 0)))]] (.ob (.cmp .le (.mul (.add (.len (.var 12)) (.len (.var 14))) (.lit 1)) (.lit 140737488355328)) (.cat (.var 12) (.var 14) (.ob (.and (.cmp .le (.lit (-9223372036854775808)) (.add (.mul (.min (.var 0) (.var 8)) (.add (.var 2) (.lit 1))) (.var 11))) (.cmp .le (.add (.mul (.min (.var 0) (.var 8)) (.add (.var 2) (.lit 1))) (.var 11)) (.lit 9223372036854775807))) (.ob (.and (.cmp .le (.lit (-9223372036854775808)) (.add (.mul (.min (.var 0) (.var 8)) (.add (.var 2) (.lit 1))) (.var 11))) (.cmp .le (.add (.mul (.min (.var 0) (.var 8)) (.add (.var 2) (.lit 1))) (.var 11)) (.lit 9223372036854775807))) (.arr [[(.int (.add (.mul (.min (.var 0) (.var 8)) (.add (.var 2) (.lit 1))) (.var 11)))], [(.int (.add (.mul (.min (.var 0) (.var 8)) (.add (.var 2) (.lit 1))) (.var 11)))]] (.dfn (.var 16) (.arr [[(.arr 3 (.var 17))]] (.ob (.cmp .le (.mul (.add (.len (.var 13)) (.len (.var 18))) (.lit 24)) (.lit 140737488355328)) (.cat (.var 13) (.var 18) (.back 1 [(.int (.add (.var 11) (.lit 1))), (.cnt 4 (.var 15)), (.cnt 35 (.var 19))]))))))))))))))) (.arr [[(.bool (.cmp .eq (.var 8) (.var 0)))]] (.ob (.cmp .le (.mul (.add (.len (.var 12)) (.len (.var 14))) (.lit 1)) (.lit 140737488355328)) (.cat (.var 12) (.var 14) (.ob (.and (.cmp .le (.lit (-9223372036854775808)) (.add (.mul (.min (.var 0) (.add (.var 8) (.var 1))) (.add (.var 2) (.lit 1))) (.var 11))) (.cmp .le (.add (.mul (.min (.var 0) (.add (.var 8) (.var 1))) (.add (.var 2) (.lit 1))) (.var 11)) (.lit 9223372036854775807))) (.ob (.and (.cmp .le (.lit (-9223372036854775808)) (.add (.mul (.min (.var 0) (.add (.var 8) (.var 1))) (.add (.var 2) (.lit 1))) (.add (.var 11) (.lit 1)))) (.cmp .le (.add (.mul (.min (.var 0) (.add (.var 8) (.var 1))) (.add (.var 2) (.lit 1))) (.add (.var 11) (.lit 1))) (.lit 9223372036854775807))) (.arr [[(.int (.add (.mul (.min (.var 0) (.add (.var 8) (.var 1))) (.add (.var 2) (.lit 1))) (.var 11)))], [(.int (.add (.mul (.min (.var 0) (.add (.var 8) (.var 1))) (.add (.var 2) (.lit 1))) (.add (.var 11) (.lit 1))))]] (.dfn (.var 16) (.arr [[(.arr 3 (.var 17))]] (.ob (.cmp .le (.mul (.add (.len (.var 13)) (.len (.var 18))) (.lit 24)) (.lit 140737488355328)) (.cat (.var 13) (.var 18) (.back 1 [(.int (.add (.var 11) (.lit 1))), (.cnt 4 (.var 15)), (.cnt 35 (.var 19))])))))))))))))))))) (.ob (.and (.cmp .le (.lit (-9223372036854775808)) (.add (.var 8) (.lit 1))) (.cmp .le (.add (.var 8) (.lit 1)) (.lit 9223372036854775807))) (.ob (.and (.cmp .le (.lit (-9223372036854775808)) (.add (.var 8) (.lit 1))) (.cmp .le (.add (.var 8) (.lit 1)) (.lit 9223372036854775807))) (.back 0 [(.int (.add (.var 8) (.lit 1))), (.cnt 4 (.var 12)), (.cnt 35 (.var 13))]))))) (.ret [(.cnt 4 (.var 9)), (.cnt 35 (.var 10)), (.int (.lit 0))]))))))))))))))))
noncomputable def crwild : Cx := tab2.only [] (fun r => match r with
  | 7 => [.blk 1]
  | 10 => [.blk 1]
  | 90015 => [.vec 13]
  | 50016 => [.blk 1, .vec 11, .vec 12, .vec 14]
  | _ => []) [] 0 [] (fun r => match r with
  | 90015 => some ([(13, true, [.vec 3])], [])
  | 50016 => some ([(13, true, [.arr 3])], [.blk 1])
  | _ => none)
def trwild : Tree :=
  (.dfn .nil (.dfn .nil (.split (.cmp .lt (.var 0) (.lit 1)) (.dfn .nil (.dfn .nil (.ret [(.cnt 4 (.var 5)), (.cnt 35 (.var 6)), (.int (.lit 2))]))) (.split (.cmp .lt (.lit 15) (.var 0)) (.dfn .nil (.dfn .nil (.ret [(.cnt 4 (.var 5)), (.cnt 35 (.var 6)), (.int (.lit 2))]))) (.split (.cmp .lt (.var 1) (.lit 1)) (.dfn .nil (.dfn .nil (.ret [(.cnt 4 (.var 5)), (.cnt 35 (.var 6)), (.int (.lit 2))]))) (.split (.cmp .lt (.lit 15) (.var 1)) (.dfn .nil (.dfn .nil (.ret [(.cnt 4 (.var 5)), (.cnt 35 (.var 6)), (.int (.lit 2))]))) (.split (.cmp .lt (.var 2) (.lit 0)) (.dfn .nil (.dfn .nil (.ret [(.cnt 4 (.var 5)), (.cnt 35 (.var 6)), (.int (.lit 2))]))) (.split (.cmp .lt (.lit 3) (.var 2)) (.dfn .nil (.dfn .nil (.ret [(.cnt 4 (.var 5)), (.cnt 35 (.var 6)), (.int (.lit 2))]))) (.dfn .nil (.dfn .nil (.loop [.int, (.vec 4), (.vec 35)] [(.int (.lit 0)), (.cnt 4 (.var 5)), (.cnt 35 (.var 6))] (.split (.cmp .le (.var 7) (.var 0)) (.loop [.int, (.vec 4), (.vec 35)] [(.int (.lit 0)), (.cnt 4 (.var 8)), (.cnt 35 (.var 9))] (.split (.cmp .le (.var 10) (.var 2)) (.ob (.and (.cmp .le (.lit (-9223372036854775808)) (.mul (.var 7) (.add (.var 2) (.lit 1)))) (.cmp .le (.mul (.var 7) (.add (.var 2) (.lit 1))) (.lit 9223372036854775807))) (.ob (.and (.cmp .le (.lit (-9223372036854775808)) (.add (.mul (.var 7) (.add (.var 2) (.lit 1))) (.var 10))) (.cmp .le (.add (.mul (.var 7) (.add (.var 2) (.lit 1))) (.var 10)) (.lit 9223372036854775807))) (.ob (.and (.cmp .le (.lit (-9223372036854775808)) (.mul (.min (.var 0) (.add (.var 7) (.var 1))) (.add (.var 2) (.lit 1)))) (.cmp .le (.mul (.min (.var 0) (.add (.var 7) (.var 1))) (.add (.var 2) (.lit 1))) (.lit 9223372036854775807))) (.ob (.and (.cmp .le (.lit (-9223372036854775808)) (.add (.mul (.min (.var 0) (.add (.var 7) (.var 1))) (.add (.var 2) (.lit 1))) (.var 10))) (.cmp .le (.add (.mul (.min (.var 0) (.add (.var 7) (.var 1))) (.add (.var 2) (.lit 1))) (.var 10)) (.lit 9223372036854775807))) (.ob (.and (.cmp .le (.lit (-9223372036854775808)) (.add (.mul (.min (.var 0) (.add (.var 7) (.var 1))) (.add (.var 2) (.lit 1))) (.var 10))) (.cmp .le (.add (.mul (.min (.var 0) (.add (.var 7) (.var 1))) (.add (.var 2) (.lit 1))) (.var 10)) (.lit 9223372036854775807))) (.ob (.and (.cmp .le (.lit (-9223372036854775808)) (.add (.add (.mul (.min (.var 0) (.add (.var 7) (.var 1))) (.add (.var 2) (.lit 1))) (.var 10)) (.lit 1))) (.cmp .le (.add (.add (.mul (.min (.var 0) (.add (.var 7) (.var 1))) (.add (.var 2) (.lit 1))) (.var 10)) (.lit 1)) (.lit 9223372036854775807))) (.ob (.and (.cmp .le (.lit (-9223372036854775808)) (.add (.mul (.min (.var 0) (.add (.var 7) (.var 1))) (.add (.var 2) (.lit 1))) (.var 10))) (.cmp .le (.add (.mul (.min (.var 0) (.add (.var 7) (.var 1))) (.add (.var 2) (.lit 1))) (.var 10)) (.lit 9223372036854775807))) (.ob (.and (.cmp .le (.lit (-9223372036854775808)) (.add (.add (.mul (.min (.var 0) (.add (.var 7) (.var 1))) (.add (.var 2) (.lit 1))) (.var 10)) (.lit 1))) (.cmp .le (.add (.add (.mul (.min (.var 0) (.add (.var 7) (.var 1))) (.add (.var 2) (.lit 1))) (.var 10)) (.lit 1)) (.lit 9223372036854775807))) (.arr [[(.int (.add (.mul (.min (.var 0) (.add (.var 7) (.var 1))) (.add (.var 2) (.lit 1))) (.var 10)))], [(.int (.add (.add (.mul (.min (.var 0) (.add (.var 7) (.var 1))) (.add (.var 2) (.lit 1))) (.var 10)) (.lit 1)))]] (.join [(.vec 3)] (.split (.cmp .eq (.var 10) (.var 2)) (.ob (.and (.cmp .le (.lit (-9223372036854775808)) (.add (.mul (.var 7) (.add (.var 2) (.lit 1))) (.var 10))) (.cmp .le (.add (.mul (.var 7) (.add (.var 2) (.lit 1))) (.var 10)) (.lit 9223372036854775807))) (.ob (.and (.cmp .le (.lit (-9223372036854775808)) (.add (.mul (.var 7) (.add (.var 2) (.lit 1))) (.var 10))) (.cmp .le (.add (.mul (.var 7) (.add (.var 2) (.lit 1))) (.var 10)) (.lit 9223372036854775807))) (.arr [[(.int (.add (.mul (.var 7) (.add (.var 2) (.lit 1))) (.var 10)))], [(.int (.add (.mul (.var 7) (.add (.var 2) (.lit 1))) (.var 10)))]] (.back 2 [(.cnt 3 (.var 14))])))) (.back 2 [(.cnt 3 (.var 13))])) (.join [(.arr 3), (.vec 4), (.vec 35)] (.both (.arr [[(.bool (.cmp .eq (.var 7) (.var 0)))]] (.both (.ob (.cmp .le (.mul (.add (.len (.var 11)) (.len (.var 15))) (.lit 1)) (.lit 140737488355328)) (.cat (.var 11) (.var 15) (.dfn (.var 14) (.arr [[(.arr 3 (.var 17))]] (.ob (.cmp .le (.mul (.add (.len (.var 12)) (.len (.var 18))) (.lit 24)) (.lit 140737488355328)) (.cat (.var 12) (.var 18) (.back 3 [(.arr 3 (.var 17)), (.cnt 4 (.var 16)), (.cnt 35 (.var 19))]))))))) (.dfn (.var 14) (.arr [[(.arr 3 (.var 16))]] (.ob (.cmp .le (.mul (.add (.len (.var 11)) (.len (.var 15))) (.lit 1)) (.lit 140737488355328)) (.cat (.var 11) (.var 15) (.ob (.cmp .le (.mul (.add (.len (.var 12)) (.len (.var 17))) (.lit 24)) (.lit 140737488355328)) (.cat (.var 12) (.var 17) (.back 3 [(.arr 3 (.var 16)), (.cnt 4 (.var 18)), (.cnt 35 (.var 19))]))))))))) (.dfn (.var 14) (.arr [[(.arr 3 (.var 15))]] (.arr [[(.bool (.cmp .eq (.var 7) (.var 0)))]] (.ob (.cmp .le (.mul (.add (.len (.var 11)) (.len (.var 17))) (.lit 1)) (.lit 140737488355328)) (.cat (.var 11) (.var 17) (.ob (.cmp .le (.mul (.add (.len (.var 12)) (.len (.var 16))) (.lit 24)) (.lit 140737488355328)) (.cat (.var 12) (.var 16) (.back 3 [(.arr 3 (.var 15)), (.cnt 4 (.var 18)), (.cnt 35 (.var 19))]))))))))) (.back 1 [(.int (.add (.var 10) (.lit 1))), (.cnt 4 (.var 16)), (.cnt 35 (.var 17))])))))))))))) (.back 0 [(.int (.add (.var 7) (.lit 1))), (.cnt 4 (.var 11)), (.cnt 35 (.var 12))]))) (.ret [(.cnt 4 (.var 8)), (.cnt 35 (.var 9)), (.int (.lit 0))])))))))))))))
noncomputable def csamelists : Cx := tab2.only [20] (fun _ => []) [] 0 [] (fun _ => none)
def tsamelists : Tree :=
  (.split (.cmp .ne (.len (.var 0)) (.len (.var 1))) (.ret [(.bool (.lit false))]) (.loop [.bool, .int] [(.bool (.lit false)), (.int (.lit 0))] (.split (.cmp .lt (.var 3) (.len (.var 0))) (.ob (.cmp .le (.lit 0) (.var 3)) (.ob (.cmp .lt (.var 3) (.len (.var 0))) (.ob (.cmp .lt (.var 3) (.len (.var 1))) (.call 20 [(.arr 3 (.cell (.var 0) (.var 3) 0)), (.arr 3 (.cell (.var 1) (.var 3) 0))] (.split (.not (.of (.var 4))) (.ret [(.bool (.lit false))]) (.back 0 [(.bool (.of (.var 2))), (.int (.add (.var 3) (.lit 1)))])))))) (.ret [(.bool (.lit true))]))))
noncomputable def csameints : Cx := tab2.only [] (fun _ => []) [] 0 [] (fun _ => none)
def tsameints : Tree :=
  (.loop [.bool, .int] [(.bool (.lit false)), (.int (.lit 0))] (.split (.cmp .lt (.var 3) (.len (.var 0))) (.split (.cmp .lt (.var 3) (.len (.var 1))) (.ob (.cmp .le (.lit 0) (.var 3)) (.ob (.cmp .lt (.var 3) (.len (.var 0))) (.ob (.cmp .lt (.var 3) (.len (.var 1))) (.split (.cmp .ne (.cell (.var 0) (.var 3) 0) (.cell (.var 1) (.var 3) 0)) (.ret [(.bool (.lit false))]) (.back 0 [(.bool (.of (.var 2))), (.int (.add (.var 3) (.lit 1)))]))))) (.ret [(.bool (.cmp .eq (.len (.var 0)) (.len (.var 1))))])) (.ret [(.bool (.cmp .eq (.len (.var 0)) (.len (.var 1))))])))
noncomputable def chasint : Cx := tab2.only [] (fun _ => []) [] 0 [] (fun _ => none)
def thasint : Tree :=
  (.loop [.bool, .int] [(.bool (.lit false)), (.int (.lit 0))] (.split (.cmp .lt (.var 3) (.len (.var 0))) (.ob (.cmp .le (.lit 0) (.var 3)) (.ob (.cmp .lt (.var 3) (.len (.var 0))) (.split (.cmp .eq (.cell (.var 0) (.var 3) 0) (.var 1)) (.ret [(.bool (.lit true))]) (.back 0 [(.bool (.of (.var 2))), (.int (.add (.var 3) (.lit 1)))])))) (.ret [(.bool (.lit false))])))
noncomputable def flway : List (Nat × Func) := [(40, Try.f40), (41, Try.f41), (42, Try.f42), (57, Try.f57)]
theorem fxway : ∀ p ∈ flway, FnOK p := fns_cons ⟨Try.func40, ⟨_, Try.func40, by decide, rfl⟩⟩ (fns_cons ⟨Try.func41, ⟨_, Try.func41, by decide, rfl⟩⟩ (fns_cons ⟨Try.func42, ⟨_, Try.func42, by decide, rfl⟩⟩ (fns_cons ⟨Try.func57, ⟨_, Try.func57, by decide, rfl⟩⟩ (fns_nil))))
noncomputable def cway : Cx := tab2.only [14] (fun _ => []) flway 4 [] (fun _ => none)
def tway : Tree :=
  (.dfn .nil (.call 14 [(.arr 4 (.var 0)), (.arr 35 (.var 1))] (.dfn .nil (.split (.cmp .lt (.var 2) (.lit 0)) (.dfn .nil (.ret [(.cnt 3 (.var 6))])) (.split (.cmp .le (.len (.var 4)) (.var 2)) (.dfn .nil (.ret [(.cnt 3 (.var 6))])) (.ob (.cmp .lt (.var 2) (.len (.var 4))) (.split (.not (.of (.cell (.var 4) (.var 2) 0))) (.dfn .nil (.ret [(.cnt 3 (.var 6))])) (.arr [[(.int (.var 2))]] (.loop [.int, (.vec 3), (.vec 3)] [(.int (.var 2)), (.cnt 3 (.var 3)), (.cnt 3 (.var 6))] (.ob (.cmp .le (.lit 0) (.var 7)) (.ob (.cmp .lt (.var 7) (.len (.var 1))) (.arr [] (.loop [.int, .int] [(.int (.lit 0)), (.int (.lit 0))] (.split (.cmp .lt (.var 12) (.len (.cell (.var 1) (.var 7) 0))) (.ob (.cmp .le (.lit 0) (.var 12)) (.ob (.cmp .lt (.var 12) (.len (.cell (.var 1) (.var 7) 0))) (.ob (.cmp .le (.lit 0) (.cell (.cell (.var 1) (.var 7) 0) (.var 12) 0)) (.ob (.cmp .lt (.cell (.cell (.var 1) (.var 7) 0) (.var 12) 0) (.len (.var 4))) (.split (.of (.cell (.var 4) (.cell (.cell (.var 1) (.var 7) 0) (.var 12) 0) 0)) (.ob (.cmp .lt (.var 12) (.len (.cell (.var 1) (.var 7) 0))) (.loop [.int, .int] [(.int (.lit 0)), (.int (.lit 0))] (.split (.cmp .lt (.var 14) (.len (.var 9))) (.ob (.cmp .le (.lit 0) (.var 14)) (.ob (.cmp .lt (.var 14) (.len (.var 9))) (.split (.cmp .eq (.cell (.cell (.var 1) (.var 7) 0) (.var 12) 0) (.cell (.var 9) (.var 14) 0)) (.arr [[(.int (.cell (.cell (.var 1) (.var 7) 0) (.var 12) 0))]] (.ob (.cmp .le (.mul (.add (.len (.var 9)) (.len (.var 15))) (.lit 8)) (.lit 140737488355328)) (.cat (.var 9) (.var 15) (.ret [(.cnt 3 (.var 16))])))) (.back 2 [(.int (.var 13)), (.int (.add (.var 14) (.lit 1)))])))) (.arr [[(.int (.cell (.cell (.var 1) (.var 7) 0) (.var 12) 0))]] (.ob (.cmp .le (.mul (.add (.len (.var 9)) (.len (.var 15))) (.lit 8)) (.lit 140737488355328)) (.cat (.var 9) (.var 15) (.back 0 [(.int (.cell (.cell (.var 1) (.var 7) 0) (.var 12) 0)), (.cnt 3 (.var 8)), (.cnt 3 (.var 16))]))))))) (.back 1 [(.int (.var 11)), (.int (.add (.var 12) (.lit 1)))])))))) (.ob (.lit false) (.loop [.int, .int] [(.int (.lit 0)), (.int (.lit 0))] (.split (.cmp .lt (.var 14) (.len (.var 9))) (.ob (.cmp .le (.lit 0) (.var 14)) (.ob (.cmp .lt (.var 14) (.len (.var 9))) (.split (.cmp .eq (.cell (.cell (.var 1) (.var 7) 0) (.lit (-1)) 0) (.cell (.var 9) (.var 14) 0)) (.arr [[(.int (.cell (.cell (.var 1) (.var 7) 0) (.lit (-1)) 0))]] (.ob (.cmp .le (.mul (.add (.len (.var 9)) (.len (.var 15))) (.lit 8)) (.lit 140737488355328)) (.cat (.var 9) (.var 15) (.ret [(.cnt 3 (.var 16))])))) (.back 2 [(.int (.var 13)), (.int (.add (.var 14) (.lit 1)))])))) (.arr [[(.int (.cell (.cell (.var 1) (.var 7) 0) (.lit (-1)) 0))]] (.ob (.cmp .le (.mul (.add (.len (.var 9)) (.len (.var 15))) (.lit 8)) (.lit 140737488355328)) (.cat (.var 9) (.var 15) (.back 0 [(.int (.cell (.cell (.var 1) (.var 7) 0) (.lit (-1)) 0)), (.cnt 3 (.var 8)), (.cnt 3 (.var 16))])))))))))))))))))))))
noncomputable def crway : Cx := tab2.only [15] (fun r => match r with
  | 6 => [.vec 5]
  | _ => []) [] 0 [] (fun _ => none)
def trway : Tree :=
  (.dfn .nil (.call 15 [(.arr 4 (.var 0)), (.arr 35 (.var 1))] (.split (.cmp .lt (.var 2) (.lit 0)) (.dfn .nil (.ret [(.cnt 3 (.var 5))])) (.split (.cmp .le (.len (.var 4)) (.var 2)) (.dfn .nil (.ret [(.cnt 3 (.var 5))])) (.ob (.cmp .lt (.var 2) (.len (.var 4))) (.split (.not (.of (.cell (.var 4) (.var 2) 0))) (.dfn .nil (.ret [(.cnt 3 (.var 5))])) (.ob (.cmp .le (.mul (.lit 1) (.len (.var 4))) (.lit 281474976710656)) (.mk (.len (.var 4)) [(.bool (.lit false))] (.dfn .nil (.loop [.int, (.vec 3), (.vec 4)] [(.int (.var 2)), (.cnt 3 (.var 6)), (.cnt 4 (.var 5))] (.ob (.cmp .le (.lit 0) (.var 7)) (.ob (.cmp .lt (.var 7) (.len (.var 9))) (.split (.not (.of (.cell (.var 9) (.var 7) 0))) (.ob (.cmp .lt (.var 7) (.len (.var 9))) (.upd (.var 9) (.var 7) 0 [(.bool (.lit true))] (.arr [[(.int (.var 7))]] (.ob (.cmp .le (.mul (.add (.len (.var 8)) (.len (.var 11))) (.lit 8)) (.lit 140737488355328)) (.cat (.var 8) (.var 11) (.loop [.int, .int] [(.int (.var 7)), (.int (.lit 0))] (.ob (.cmp .le (.lit 0) (.var 13)) (.ob (.cmp .lt (.var 13) (.len (.var 1))) (.split (.cmp .lt (.var 14) (.len (.cell (.var 1) (.var 13) 0))) (.ob (.cmp .lt (.var 13) (.len (.var 1))) (.ob (.cmp .le (.lit 0) (.var 14)) (.ob (.cmp .lt (.var 14) (.len (.cell (.var 1) (.var 13) 0))) (.ob (.cmp .le (.lit 0) (.cell (.cell (.var 1) (.var 13) 0) (.var 14) 0)) (.ob (.cmp .lt (.cell (.cell (.var 1) (.var 13) 0) (.var 14) 0) (.len (.var 4))) (.split (.of (.cell (.var 4) (.cell (.cell (.var 1) (.var 13) 0) (.var 14) 0) 0)) (.ob (.cmp .lt (.var 13) (.len (.var 1))) (.ob (.cmp .lt (.var 14) (.len (.cell (.var 1) (.var 13) 0))) (.back 0 [(.int (.cell (.cell (.var 1) (.var 13) 0) (.var 14) 0)), (.cnt 3 (.var 12)), (.cnt 4 (.var 10))]))) (.back 1 [(.int (.var 13)), (.int (.add (.var 14) (.lit 1)))]))))))) (.back 0 [(.int (.var 13)), (.cnt 3 (.var 12)), (.cnt 4 (.var 10))])))))))))) (.arr [[(.int (.var 7))]] (.ob (.cmp .le (.mul (.add (.len (.var 8)) (.len (.var 10))) (.lit 8)) (.lit 140737488355328)) (.cat (.var 8) (.var 10) (.ret [(.cnt 3 (.var 11))])))))))))))))))))
noncomputable def flblow : List (Nat × Func) := [(43, Try.f43)]
theorem fxblow : ∀ p ∈ flblow, FnOK p := fns_cons ⟨Try.func43, ⟨_, Try.func43, by decide, rfl⟩⟩ (fns_nil)
noncomputable def cblow : Cx := tab2.only [13] (fun _ => []) flblow 1 [] (fun _ => none)
def tblow : Tree :=
  (.dfn .nil (.dfn .nil (.split (.cmp .lt (.lit 0) (.len (.var 0))) (.ob (.cmp .lt (.lit 0) (.len (.var 0))) (.call 13 [(.int (.cell (.var 0) (.lit 0) 0)), (.int (.lit 12))] (.ob (.and (.cmp .le (.lit (-9223372036854775808)) (.add (.lit 1) (.var 3))) (.cmp .le (.add (.lit 1) (.var 3)) (.lit 9223372036854775807))) (.arr [] (.dfn .nil (.dfn .nil (.loop [.int] [(.int (.lit 0))] (.split (.cmp .lt (.var 7) (.add (.lit 1) (.var 3))) (.ob (.and (.cmp .le (.lit (-9223372036854775808)) (.mul (.lit 5) (.var 7))) (.cmp .le (.mul (.lit 5) (.var 7)) (.lit 9223372036854775807))) (.ob (.and (.cmp .le (.lit (-9223372036854775808)) (.add (.mul (.lit 5) (.var 7)) (.lit 1))) (.cmp .le (.add (.mul (.lit 5) (.var 7)) (.lit 1)) (.lit 9223372036854775807))) (.split (.cmp .eq (.len (.var 0)) (.lit 0)) (.fail 3 [30]) (.ob (.cmp .ne (.len (.var 0)) (.lit 0)) (.ob (.cmp .le (.lit 0) (.rem (.add (.mul (.lit 5) (.var 7)) (.lit 1)) (.len (.var 0)))) (.ob (.cmp .lt (.rem (.add (.mul (.lit 5) (.var 7)) (.lit 1)) (.len (.var 0))) (.len (.var 0))) (.call 13 [(.int (.cell (.var 0) (.rem (.add (.mul (.lit 5) (.var 7)) (.lit 1)) (.len (.var 0))) 0)), (.int (.lit 1048576))] (.ob (.cmp .ne (.len (.var 0)) (.lit 0)) (.ob (.and (.cmp .le (.lit (-9223372036854775808)) (.quo (.add (.mul (.lit 5) (.var 7)) (.lit 1)) (.len (.var 0)))) (.cmp .le (.quo (.add (.mul (.lit 5) (.var 7)) (.lit 1)) (.len (.var 0))) (.lit 9223372036854775807))) (.ob (.and (.cmp .le (.lit (-9223372036854775808)) (.add (.lit 1) (.quo (.add (.mul (.lit 5) (.var 7)) (.lit 1)) (.len (.var 0))))) (.cmp .le (.add (.lit 1) (.quo (.add (.mul (.lit 5) (.var 7)) (.lit 1)) (.len (.var 0)))) (.lit 9223372036854775807))) (.ob (.cmp .ne (.add (.lit 1) (.quo (.add (.mul (.lit 5) (.var 7)) (.lit 1)) (.len (.var 0)))) (.lit 0)) (.ob (.and (.cmp .le (.lit (-9223372036854775808)) (.quo (.var 8) (.add (.lit 1) (.quo (.add (.mul (.lit 5) (.var 7)) (.lit 1)) (.len (.var 0)))))) (.cmp .le (.quo (.var 8) (.add (.lit 1) (.quo (.add (.mul (.lit 5) (.var 7)) (.lit 1)) (.len (.var 0))))) (.lit 9223372036854775807))) (.fail 3 [30]))))))))))))) (.ret [(.cnt 4 (.var 5)), (.cnt 35 (.var 6))]))))))))) (.arr [] (.dfn .nil (.dfn .nil (.loop [.int] [(.int (.lit 0))] (.split (.cmp .lt (.var 6) (.lit 1)) (.ob (.and (.cmp .le (.lit (-9223372036854775808)) (.mul (.lit 5) (.var 6))) (.cmp .le (.mul (.lit 5) (.var 6)) (.lit 9223372036854775807))) (.ob (.and (.cmp .le (.lit (-9223372036854775808)) (.add (.mul (.lit 5) (.var 6)) (.lit 1))) (.cmp .le (.add (.mul (.lit 5) (.var 6)) (.lit 1)) (.lit 9223372036854775807))) (.split (.cmp .eq (.len (.var 0)) (.lit 0)) (.fail 3 [30]) (.ob (.cmp .ne (.len (.var 0)) (.lit 0)) (.ob (.cmp .le (.lit 0) (.rem (.add (.mul (.lit 5) (.var 6)) (.lit 1)) (.len (.var 0)))) (.ob (.cmp .lt (.rem (.add (.mul (.lit 5) (.var 6)) (.lit 1)) (.len (.var 0))) (.len (.var 0))) (.call 13 [(.int (.cell (.var 0) (.rem (.add (.mul (.lit 5) (.var 6)) (.lit 1)) (.len (.var 0))) 0)), (.int (.lit 1048576))] (.ob (.cmp .ne (.len (.var 0)) (.lit 0)) (.ob (.and (.cmp .le (.lit (-9223372036854775808)) (.quo (.add (.mul (.lit 5) (.var 6)) (.lit 1)) (.len (.var 0)))) (.cmp .le (.quo (.add (.mul (.lit 5) (.var 6)) (.lit 1)) (.len (.var 0))) (.lit 9223372036854775807))) (.ob (.and (.cmp .le (.lit (-9223372036854775808)) (.add (.lit 1) (.quo (.add (.mul (.lit 5) (.var 6)) (.lit 1)) (.len (.var 0))))) (.cmp .le (.add (.lit 1) (.quo (.add (.mul (.lit 5) (.var 6)) (.lit 1)) (.len (.var 0)))) (.lit 9223372036854775807))) (.ob (.cmp .ne (.add (.lit 1) (.quo (.add (.mul (.lit 5) (.var 6)) (.lit 1)) (.len (.var 0)))) (.lit 0)) (.ob (.and (.cmp .le (.lit (-9223372036854775808)) (.quo (.var 7) (.add (.lit 1) (.quo (.add (.mul (.lit 5) (.var 6)) (.lit 1)) (.len (.var 0)))))) (.cmp .le (.quo (.var 7) (.add (.lit 1) (.quo (.add (.mul (.lit 5) (.var 6)) (.lit 1)) (.len (.var 0))))) (.lit 9223372036854775807))) (.fail 3 [30]))))))))))))) (.ret [(.cnt 4 (.var 4)), (.cnt 35 (.var 5))])))))))))
noncomputable def clwild : Cx := tab2.only [9, 10, 11, 12] (fun _ => []) [] 0 [] (fun _ => none)
def tlwild : Tree :=
  (.call 9 [(.int (.var 0)), (.int (.var 1)), (.int (.var 2))] (.dfn .nil (.dfn .nil (.call 10 [(.int (.var 0)), (.int (.var 1)), (.int (.var 2))] (.dfn .nil (.dfn .nil (.split (.cmp .ne (.var 5) (.var 10)) (.ret [(.bool (.lit false))]) (.split (.cmp .ne (.len (.var 3)) (.len (.var 8))) (.ret [(.bool (.lit false))]) (.call 11 [(.arr 35 (.var 4)), (.arr 35 (.var 9))] (.split (.not (.of (.var 13))) (.ret [(.bool (.lit false))]) (.loop [.bool, .int] [(.bool (.lit false)), (.int (.lit 0))] (.split (.cmp .lt (.var 15) (.len (.var 3))) (.ob (.cmp .le (.lit 0) (.var 15)) (.ob (.cmp .lt (.var 15) (.len (.var 3))) (.ob (.cmp .lt (.var 15) (.len (.var 8))) (.split (.not (.beq (.of (.cell (.var 3) (.var 15) 0)) (.of (.cell (.var 8) (.var 15) 0)))) (.ret [(.bool (.lit false))]) (.back 0 [(.bool (.of (.var 14))), (.int (.add (.var 15) (.lit 1)))]))))) (.call 12 [] (.ret [(.bool (.of (.var 16)))]))))))))))))))
noncomputable def clcloses : Cx := tab2.only [13, 9, 14, 12] (fun _ => []) [] 0 [] (fun _ => none)
def tlcloses : Tree :=
  (.call 13 [(.int (.var 0)), (.int (.lit 15))] (.ob (.and (.cmp .le (.lit (-9223372036854775808)) (.add (.lit 1) (.var 5))) (.cmp .le (.add (.lit 1) (.var 5)) (.lit 9223372036854775807))) (.call 13 [(.int (.var 1)), (.int (.lit 15))] (.ob (.and (.cmp .le (.lit (-9223372036854775808)) (.add (.lit 1) (.var 6))) (.cmp .le (.add (.lit 1) (.var 6)) (.lit 9223372036854775807))) (.call 13 [(.int (.var 2)), (.int (.lit 4))] (.ob (.and (.cmp .le (.lit (-9223372036854775808)) (.add (.lit 1) (.var 5))) (.cmp .le (.add (.lit 1) (.var 5)) (.lit 9223372036854775807))) (.ob (.and (.cmp .le (.lit (-9223372036854775808)) (.add (.lit 1) (.var 6))) (.cmp .le (.add (.lit 1) (.var 6)) (.lit 9223372036854775807))) (.call 9 [(.int (.add (.lit 1) (.var 5))), (.int (.add (.lit 1) (.var 6))), (.int (.var 7))] (.dfn .nil (.dfn .nil (.split (.cmp .ne (.var 10) (.lit 0)) (.ret [(.bool (.lit false))]) (.ob (.and (.cmp .le (.lit (-9223372036854775808)) (.add (.add (.lit 1) (.var 5)) (.lit 1))) (.cmp .le (.add (.add (.lit 1) (.var 5)) (.lit 1)) (.lit 9223372036854775807))) (.ob (.and (.cmp .le (.lit (-9223372036854775808)) (.add (.add (.lit 1) (.var 5)) (.lit 1))) (.cmp .le (.add (.add (.lit 1) (.var 5)) (.lit 1)) (.lit 9223372036854775807))) (.call 13 [(.int (.var 3)), (.int (.add (.add (.lit 1) (.var 5)) (.lit 1)))] (.ob (.and (.cmp .le (.lit (-9223372036854775808)) (.add (.var 7) (.lit 1))) (.cmp .le (.add (.var 7) (.lit 1)) (.lit 9223372036854775807))) (.ob (.and (.cmp .le (.lit (-9223372036854775808)) (.add (.var 7) (.lit 1))) (.cmp .le (.add (.var 7) (.lit 1)) (.lit 9223372036854775807))) (.call 13 [(.int (.var 4)), (.int (.add (.var 7) (.lit 1)))] (.call 14 [(.arr 4 (.var 8)), (.arr 35 (.var 9))] (.ob (.and (.cmp .le (.lit (-9223372036854775808)) (.add (.var 7) (.lit 1))) (.cmp .le (.add (.var 7) (.lit 1)) (.lit 9223372036854775807))) (.ob (.and (.cmp .le (.lit (-9223372036854775808)) (.mul (.var 13) (.add (.var 7) (.lit 1)))) (.cmp .le (.mul (.var 13) (.add (.var 7) (.lit 1))) (.lit 9223372036854775807))) (.ob (.and (.cmp .le (.lit (-9223372036854775808)) (.add (.mul (.var 13) (.add (.var 7) (.lit 1))) (.var 14))) (.cmp .le (.add (.mul (.var 13) (.add (.var 7) (.lit 1))) (.var 14)) (.lit 9223372036854775807))) (.split (.cmp .lt (.add (.mul (.var 13) (.add (.var 7) (.lit 1))) (.var 14)) (.len (.var 15))) (.ob (.cmp .le (.lit 0) (.add (.mul (.var 13) (.add (.var 7) (.lit 1))) (.var 14))) (.ob (.cmp .lt (.add (.mul (.var 13) (.add (.var 7) (.lit 1))) (.var 14)) (.len (.var 15))) (.ob (.and (.cmp .le (.lit (-9223372036854775808)) (.sub (.var 7) (.var 14))) (.cmp .le (.sub (.var 7) (.var 14)) (.lit 9223372036854775807))) (.ob (.and (.cmp .le (.lit (-9223372036854775808)) (.mul (.sub (.var 7) (.var 14)) (.add (.lit 1) (.var 6)))) (.cmp .le (.mul (.sub (.var 7) (.var 14)) (.add (.lit 1) (.var 6))) (.lit 9223372036854775807))) (.ob (.and (.cmp .le (.lit (-9223372036854775808)) (.add (.var 13) (.mul (.sub (.var 7) (.var 14)) (.add (.lit 1) (.var 6))))) (.cmp .le (.add (.var 13) (.mul (.sub (.var 7) (.var 14)) (.add (.lit 1) (.var 6)))) (.lit 9223372036854775807))) (.split (.beq (.of (.cell (.var 15) (.add (.mul (.var 13) (.add (.var 7) (.lit 1))) (.var 14)) 0)) (.cmp .lt (.add (.var 13) (.mul (.sub (.var 7) (.var 14)) (.add (.lit 1) (.var 6)))) (.add (.lit 1) (.var 5)))) (.call 12 [] (.ret [(.bool (.of (.var 16)))])) (.ret [(.bool (.lit false))]))))))) (.ret [(.bool (.lit false))])))))))))))))))))))))))
noncomputable def clblows : Cx := tab2.only [14, 15, 16, 17, 18, 19, 20, 21, 22, 12] (fun _ => []) [] 0 [] (fun _ => none)
def tlblows : Tree :=
  (.split (.cmp .lt (.lit 66) (.len (.var 0))) (.call 12 [] (.ret [(.bool (.of (.var 4)))])) (.split (.cmp .lt (.lit 67) (.len (.var 1))) (.call 12 [] (.ret [(.bool (.of (.var 4)))])) (.split (.cmp .lt (.lit 402) (.len (.var 2))) (.call 12 [] (.ret [(.bool (.of (.var 4)))])) (.loop [.bool, .int] [(.bool (.lit false)), (.int (.lit 0))] (.split (.cmp .lt (.var 5) (.len (.var 1))) (.ob (.cmp .le (.lit 0) (.var 5)) (.ob (.cmp .lt (.var 5) (.len (.var 1))) (.split (.cmp .lt (.lit 6) (.len (.cell (.var 1) (.var 5) 0))) (.call 12 [] (.ret [(.bool (.of (.var 6)))])) (.back 0 [(.bool (.of (.var 4))), (.int (.add (.var 5) (.lit 1)))])))) (.call 14 [(.arr 4 (.var 0)), (.arr 35 (.var 1))] (.call 15 [(.arr 4 (.var 0)), (.arr 35 (.var 1))] (.call 16 [(.arr 4 (.var 0)), (.arr 35 (.var 1))] (.call 17 [(.arr 4 (.var 0)), (.arr 35 (.var 1))] (.split (.cmp .ne (.var 8) (.var 9)) (.ret [(.bool (.lit false))]) (.split (.cmp .ne (.len (.var 6)) (.len (.var 7))) (.ret [(.bool (.lit false))]) (.loop [.bool, .int] [(.bool (.of (.var 4))), (.int (.lit 0))] (.split (.cmp .lt (.var 11) (.len (.var 6))) (.ob (.cmp .le (.lit 0) (.var 11)) (.ob (.cmp .lt (.var 11) (.len (.var 6))) (.ob (.cmp .lt (.var 11) (.len (.var 7))) (.split (.not (.beq (.of (.cell (.var 6) (.var 11) 0)) (.of (.cell (.var 7) (.var 11) 0)))) (.ret [(.bool (.lit false))]) (.back 1 [(.bool (.of (.var 10))), (.int (.add (.var 11) (.lit 1)))]))))) (.arr [] (.ob (.cmp .le (.mul (.add (.len (.var 12)) (.len (.var 2))) (.lit 8)) (.lit 140737488355328)) (.cat (.var 12) (.var 2) (.call 18 [(.arr 4 (.var 0)), (.arr 35 (.var 1)), (.arr 3 (.var 13))] (.call 19 [(.arr 4 (.var 0)), (.arr 35 (.var 1)), (.arr 3 (.var 2))] (.split (.cmp .eq (.var 14) (.var 16)) (.split (.beq (.of (.var 15)) (.of (.var 17))) (.call 20 [(.arr 3 (.var 13)), (.arr 3 (.var 2))] (.split (.of (.var 18)) (.call 21 [(.arr 4 (.var 0)), (.arr 35 (.var 1)), (.int (.var 3))] (.call 22 [(.arr 4 (.var 0)), (.arr 35 (.var 1)), (.int (.var 3))] (.call 20 [(.arr 3 (.var 19)), (.arr 3 (.var 20))] (.split (.of (.var 21)) (.call 12 [] (.ret [(.bool (.of (.var 22)))])) (.ret [(.bool (.lit false))]))))) (.ret [(.bool (.lit false))]))) (.ret [(.bool (.lit false))])) (.ret [(.bool (.lit false))]))))))))))))))))))))
noncomputable def clchance : Cx := tab2.only [23, 13, 14, 16, 21, 24, 18, 12] (fun _ => []) [] 0 [] (fun _ => none)
def tlchance : Tree :=
  (.call 23 [(.arr 3 (.var 0))] (.dfn .nil (.dfn .nil (.dfn .nil (.loop [(.vec 3), .int] [(.cnt 3 (.var 6)), (.int (.lit 0))] (.split (.cmp .lt (.var 8) (.len (.var 1))) (.split (.cmp .lt (.var 8) (.lit 40)) (.ob (.cmp .le (.lit 0) (.var 8)) (.ob (.cmp .lt (.var 8) (.len (.var 1))) (.call 13 [(.int (.cell (.var 1) (.var 8) 0)), (.int (.len (.var 2)))] (.arr [[(.int (.var 9))]] (.ob (.cmp .le (.mul (.add (.len (.var 7)) (.len (.var 10))) (.lit 8)) (.lit 140737488355328)) (.cat (.var 7) (.var 10) (.back 0 [(.cnt 3 (.var 11)), (.int (.add (.var 8) (.lit 1)))]))))))) (.call 14 [(.arr 4 (.var 2)), (.arr 35 (.var 3))] (.split (.cmp .ne (.len (.var 9)) (.len (.var 2))) (.ret [(.bool (.lit false))]) (.call 16 [(.arr 4 (.var 2)), (.arr 35 (.var 3))] (.split (.cmp .ne (.var 10) (.lit 0)) (.ret [(.bool (.lit false))]) (.loop [.bool, .int] [(.bool (.lit false)), (.int (.lit 0))] (.split (.cmp .lt (.var 12) (.len (.var 2))) (.loop [.bool, .int] [(.bool (.lit false)), (.int (.lit 0))] (.ob (.cmp .le (.lit 0) (.var 12)) (.ob (.cmp .lt (.var 12) (.len (.var 3))) (.split (.cmp .lt (.var 14) (.len (.cell (.var 3) (.var 12) 0))) (.split (.of (.var 13)) (.back 2 [(.bool (.lit true)), (.int (.add (.var 14) (.lit 1)))]) (.ob (.cmp .lt (.var 12) (.len (.var 3))) (.ob (.cmp .le (.lit 0) (.var 14)) (.ob (.cmp .lt (.var 14) (.len (.cell (.var 3) (.var 12) 0))) (.ob (.cmp .le (.lit 0) (.cell (.cell (.var 3) (.var 12) 0) (.var 14) 0)) (.ob (.cmp .lt (.cell (.cell (.var 3) (.var 12) 0) (.var 14) 0) (.len (.var 9))) (.back 2 [(.bool (.of (.cell (.var 9) (.cell (.cell (.var 3) (.var 12) 0) (.var 14) 0) 0))), (.int (.add (.var 14) (.lit 1)))]))))))) (.ob (.cmp .lt (.var 12) (.len (.var 9))) (.split (.of (.var 13)) (.ob (.cmp .lt (.var 12) (.len (.var 2))) (.split (.not (.beq (.of (.cell (.var 9) (.var 12) 0)) (.not (.of (.cell (.var 2) (.var 12) 0))))) (.ret [(.bool (.lit false))]) (.call 21 [(.arr 4 (.var 2)), (.arr 35 (.var 3)), (.int (.var 12))] (.ob (.cmp .lt (.var 12) (.len (.var 9))) (.split (.not (.beq (.of (.cell (.var 9) (.var 12) 0)) (.cmp .lt (.lit 1) (.len (.var 15))))) (.ret [(.bool (.lit false))]) (.loop [.bool, .int] [(.bool (.of (.var 11))), (.int (.lit 0))] (.split (.cmp .lt (.var 17) (.len (.var 15))) (.ob (.cmp .le (.lit 0) (.var 17)) (.ob (.cmp .lt (.var 17) (.len (.var 15))) (.split (.cmp .lt (.cell (.var 15) (.var 17) 0) (.lit 0)) (.ret [(.bool (.lit false))]) (.ob (.cmp .lt (.var 17) (.len (.var 15))) (.split (.cmp .le (.len (.var 2)) (.cell (.var 15) (.var 17) 0)) (.ret [(.bool (.lit false))]) (.ob (.cmp .lt (.var 17) (.len (.var 15))) (.ob (.cmp .le (.lit 0) (.cell (.var 15) (.var 17) 0)) (.ob (.cmp .lt (.cell (.var 15) (.var 17) 0) (.len (.var 2))) (.split (.of (.cell (.var 2) (.cell (.var 15) (.var 17) 0) 0)) (.ret [(.bool (.lit false))]) (.split (.cmp .eq (.var 17) (.lit 0)) (.ob (.cmp .lt (.var 17) (.len (.var 15))) (.split (.cmp .ne (.cell (.var 15) (.var 17) 0) (.var 12)) (.ret [(.bool (.lit false))]) (.back 3 [(.bool (.of (.var 16))), (.int (.add (.var 17) (.lit 1)))]))) (.split (.cmp .lt (.lit 0) (.var 17)) (.ob (.cmp .lt (.sub (.var 17) (.lit 1)) (.len (.var 15))) (.ob (.cmp .le (.lit 0) (.cell (.var 15) (.sub (.var 17) (.lit 1)) 0)) (.ob (.cmp .lt (.cell (.var 15) (.sub (.var 17) (.lit 1)) 0) (.len (.var 3))) (.ob (.cmp .lt (.var 17) (.len (.var 15))) (.call 24 [(.arr 3 (.cell (.var 3) (.cell (.var 15) (.sub (.var 17) (.lit 1)) 0) 0)), (.int (.cell (.var 15) (.var 17) 0))] (.split (.not (.of (.var 18))) (.ret [(.bool (.lit false))]) (.back 3 [(.bool (.of (.var 16))), (.int (.add (.var 17) (.lit 1)))]))))))) (.back 3 [(.bool (.of (.var 16))), (.int (.add (.var 17) (.lit 1)))])))))))))))) (.fail 50029 [0])))))))) (.split (.not (.beq (.of (.cell (.var 9) (.var 12) 0)) (.lit false))) (.ret [(.bool (.lit false))]) (.call 21 [(.arr 4 (.var 2)), (.arr 35 (.var 3)), (.int (.var 12))] (.ob (.cmp .lt (.var 12) (.len (.var 9))) (.split (.not (.beq (.of (.cell (.var 9) (.var 12) 0)) (.cmp .lt (.lit 1) (.len (.var 15))))) (.ret [(.bool (.lit false))]) (.loop [.bool, .int] [(.bool (.of (.var 11))), (.int (.lit 0))] (.split (.cmp .lt (.var 17) (.len (.var 15))) (.ob (.cmp .le (.lit 0) (.var 17)) (.ob (.cmp .lt (.var 17) (.len (.var 15))) (.split (.cmp .lt (.cell (.var 15) (.var 17) 0) (.lit 0)) (.ret [(.bool (.lit false))]) (.ob (.cmp .lt (.var 17) (.len (.var 15))) (.split (.cmp .le (.len (.var 2)) (.cell (.var 15) (.var 17) 0)) (.ret [(.bool (.lit false))]) (.ob (.cmp .lt (.var 17) (.len (.var 15))) (.ob (.cmp .le (.lit 0) (.cell (.var 15) (.var 17) 0)) (.ob (.cmp .lt (.cell (.var 15) (.var 17) 0) (.len (.var 2))) (.split (.of (.cell (.var 2) (.cell (.var 15) (.var 17) 0) 0)) (.ret [(.bool (.lit false))]) (.split (.cmp .eq (.var 17) (.lit 0)) (.ob (.cmp .lt (.var 17) (.len (.var 15))) (.split (.cmp .ne (.cell (.var 15) (.var 17) 0) (.var 12)) (.ret [(.bool (.lit false))]) (.back 3 [(.bool (.of (.var 16))), (.int (.add (.var 17) (.lit 1)))]))) (.split (.cmp .lt (.lit 0) (.var 17)) (.ob (.cmp .lt (.sub (.var 17) (.lit 1)) (.len (.var 15))) (.ob (.cmp .le (.lit 0) (.cell (.var 15) (.sub (.var 17) (.lit 1)) 0)) (.ob (.cmp .lt (.cell (.var 15) (.sub (.var 17) (.lit 1)) 0) (.len (.var 3))) (.ob (.cmp .lt (.var 17) (.len (.var 15))) (.call 24 [(.arr 3 (.cell (.var 3) (.cell (.var 15) (.sub (.var 17) (.lit 1)) 0) 0)), (.int (.cell (.var 15) (.var 17) 0))] (.split (.not (.of (.var 18))) (.ret [(.bool (.lit false))]) (.back 3 [(.bool (.of (.var 16))), (.int (.add (.var 17) (.lit 1)))]))))))) (.back 3 [(.bool (.of (.var 16))), (.int (.add (.var 17) (.lit 1)))])))))))))))) (.fail 50029 [0]))))))))))))) (.call 18 [(.arr 4 (.var 2)), (.arr 35 (.var 3)), (.arr 3 (.var 7))] (.split (.of (.var 14)) (.split (.cmp .lt (.var 13) (.lit 0)) (.ret [(.bool (.lit false))]) (.split (.cmp .le (.len (.var 7)) (.var 13)) (.ret [(.bool (.lit false))]) (.ob (.cmp .lt (.var 13) (.len (.var 7))) (.ob (.cmp .le (.lit 0) (.cell (.var 7) (.var 13) 0)) (.ob (.cmp .lt (.cell (.var 7) (.var 13) 0) (.len (.var 9))) (.split (.not (.of (.cell (.var 9) (.cell (.var 7) (.var 13) 0) 0))) (.ret [(.bool (.lit false))]) (.split (.not (.of (.var 14))) (.split (.cmp .ne (.var 13) (.lit 0)) (.ret [(.bool (.lit false))]) (.loop [.bool, .int] [(.bool (.of (.var 11))), (.int (.lit 0))] (.split (.cmp .lt (.var 16) (.len (.var 7))) (.ob (.cmp .le (.lit 0) (.var 16)) (.ob (.cmp .lt (.var 16) (.len (.var 7))) (.ob (.cmp .le (.lit 0) (.cell (.var 7) (.var 16) 0)) (.ob (.cmp .lt (.cell (.var 7) (.var 16) 0) (.len (.var 9))) (.split (.of (.cell (.var 9) (.cell (.var 7) (.var 16) 0) 0)) (.split (.not (.of (.var 14))) (.ret [(.bool (.lit false))]) (.split (.cmp .lt (.var 13) (.var 16)) (.ret [(.bool (.lit false))]) (.back 2 [(.bool (.of (.var 15))), (.int (.add (.var 16) (.lit 1)))]))) (.back 2 [(.bool (.of (.var 15))), (.int (.add (.var 16) (.lit 1)))])))))) (.call 12 [] (.ret [(.bool (.of (.var 17)))]))))) (.loop [.bool, .int] [(.bool (.of (.var 11))), (.int (.lit 0))] (.split (.cmp .lt (.var 16) (.len (.var 7))) (.ob (.cmp .le (.lit 0) (.var 16)) (.ob (.cmp .lt (.var 16) (.len (.var 7))) (.ob (.cmp .le (.lit 0) (.cell (.var 7) (.var 16) 0)) (.ob (.cmp .lt (.cell (.var 7) (.var 16) 0) (.len (.var 9))) (.split (.of (.cell (.var 9) (.cell (.var 7) (.var 16) 0) 0)) (.split (.not (.of (.var 14))) (.ret [(.bool (.lit false))]) (.split (.cmp .lt (.var 13) (.var 16)) (.ret [(.bool (.lit false))]) (.back 2 [(.bool (.of (.var 15))), (.int (.add (.var 16) (.lit 1)))]))) (.back 2 [(.bool (.of (.var 15))), (.int (.add (.var 16) (.lit 1)))])))))) (.call 12 [] (.ret [(.bool (.of (.var 17)))]))))))))))) (.split (.not (.of (.var 14))) (.split (.cmp .ne (.var 13) (.lit 0)) (.ret [(.bool (.lit false))]) (.loop [.bool, .int] [(.bool (.of (.var 11))), (.int (.lit 0))] (.split (.cmp .lt (.var 16) (.len (.var 7))) (.ob (.cmp .le (.lit 0) (.var 16)) (.ob (.cmp .lt (.var 16) (.len (.var 7))) (.ob (.cmp .le (.lit 0) (.cell (.var 7) (.var 16) 0)) (.ob (.cmp .lt (.cell (.var 7) (.var 16) 0) (.len (.var 9))) (.split (.of (.cell (.var 9) (.cell (.var 7) (.var 16) 0) 0)) (.split (.not (.of (.var 14))) (.ret [(.bool (.lit false))]) (.split (.cmp .lt (.var 13) (.var 16)) (.ret [(.bool (.lit false))]) (.back 2 [(.bool (.of (.var 15))), (.int (.add (.var 16) (.lit 1)))]))) (.back 2 [(.bool (.of (.var 15))), (.int (.add (.var 16) (.lit 1)))])))))) (.call 12 [] (.ret [(.bool (.of (.var 17)))]))))) (.loop [.bool, .int] [(.bool (.of (.var 11))), (.int (.lit 0))] (.split (.cmp .lt (.var 16) (.len (.var 7))) (.ob (.cmp .le (.lit 0) (.var 16)) (.ob (.cmp .lt (.var 16) (.len (.var 7))) (.ob (.cmp .le (.lit 0) (.cell (.var 7) (.var 16) 0)) (.ob (.cmp .lt (.cell (.var 7) (.var 16) 0) (.len (.var 9))) (.split (.of (.cell (.var 9) (.cell (.var 7) (.var 16) 0) 0)) (.split (.not (.of (.var 14))) (.ret [(.bool (.lit false))]) (.split (.cmp .lt (.var 13) (.var 16)) (.ret [(.bool (.lit false))]) (.back 2 [(.bool (.of (.var 15))), (.int (.add (.var 16) (.lit 1)))]))) (.back 2 [(.bool (.of (.var 15))), (.int (.add (.var 16) (.lit 1)))])))))) (.call 12 [] (.ret [(.bool (.of (.var 17)))])))))))))))))) (.call 14 [(.arr 4 (.var 2)), (.arr 35 (.var 3))] (.split (.cmp .ne (.len (.var 9)) (.len (.var 2))) (.ret [(.bool (.lit false))]) (.call 16 [(.arr 4 (.var 2)), (.arr 35 (.var 3))] (.split (.cmp .ne (.var 10) (.lit 0)) (.ret [(.bool (.lit false))]) (.loop [.bool, .int] [(.bool (.lit false)), (.int (.lit 0))] (.split (.cmp .lt (.var 12) (.len (.var 2))) (.loop [.bool, .int] [(.bool (.lit false)), (.int (.lit 0))] (.ob (.cmp .le (.lit 0) (.var 12)) (.ob (.cmp .lt (.var 12) (.len (.var 3))) (.split (.cmp .lt (.var 14) (.len (.cell (.var 3) (.var 12) 0))) (.split (.of (.var 13)) (.back 2 [(.bool (.lit true)), (.int (.add (.var 14) (.lit 1)))]) (.ob (.cmp .lt (.var 12) (.len (.var 3))) (.ob (.cmp .le (.lit 0) (.var 14)) (.ob (.cmp .lt (.var 14) (.len (.cell (.var 3) (.var 12) 0))) (.ob (.cmp .le (.lit 0) (.cell (.cell (.var 3) (.var 12) 0) (.var 14) 0)) (.ob (.cmp .lt (.cell (.cell (.var 3) (.var 12) 0) (.var 14) 0) (.len (.var 9))) (.back 2 [(.bool (.of (.cell (.var 9) (.cell (.cell (.var 3) (.var 12) 0) (.var 14) 0) 0))), (.int (.add (.var 14) (.lit 1)))]))))))) (.ob (.cmp .lt (.var 12) (.len (.var 9))) (.split (.of (.var 13)) (.ob (.cmp .lt (.var 12) (.len (.var 2))) (.split (.not (.beq (.of (.cell (.var 9) (.var 12) 0)) (.not (.of (.cell (.var 2) (.var 12) 0))))) (.ret [(.bool (.lit false))]) (.call 21 [(.arr 4 (.var 2)), (.arr 35 (.var 3)), (.int (.var 12))] (.ob (.cmp .lt (.var 12) (.len (.var 9))) (.split (.not (.beq (.of (.cell (.var 9) (.var 12) 0)) (.cmp .lt (.lit 1) (.len (.var 15))))) (.ret [(.bool (.lit false))]) (.loop [.bool, .int] [(.bool (.of (.var 11))), (.int (.lit 0))] (.split (.cmp .lt (.var 17) (.len (.var 15))) (.ob (.cmp .le (.lit 0) (.var 17)) (.ob (.cmp .lt (.var 17) (.len (.var 15))) (.split (.cmp .lt (.cell (.var 15) (.var 17) 0) (.lit 0)) (.ret [(.bool (.lit false))]) (.ob (.cmp .lt (.var 17) (.len (.var 15))) (.split (.cmp .le (.len (.var 2)) (.cell (.var 15) (.var 17) 0)) (.ret [(.bool (.lit false))]) (.ob (.cmp .lt (.var 17) (.len (.var 15))) (.ob (.cmp .le (.lit 0) (.cell (.var 15) (.var 17) 0)) (.ob (.cmp .lt (.cell (.var 15) (.var 17) 0) (.len (.var 2))) (.split (.of (.cell (.var 2) (.cell (.var 15) (.var 17) 0) 0)) (.ret [(.bool (.lit false))]) (.split (.cmp .eq (.var 17) (.lit 0)) (.ob (.cmp .lt (.var 17) (.len (.var 15))) (.split (.cmp .ne (.cell (.var 15) (.var 17) 0) (.var 12)) (.ret [(.bool (.lit false))]) (.back 3 [(.bool (.of (.var 16))), (.int (.add (.var 17) (.lit 1)))]))) (.split (.cmp .lt (.lit 0) (.var 17)) (.ob (.cmp .lt (.sub (.var 17) (.lit 1)) (.len (.var 15))) (.ob (.cmp .le (.lit 0) (.cell (.var 15) (.sub (.var 17) (.lit 1)) 0)) (.ob (.cmp .lt (.cell (.var 15) (.sub (.var 17) (.lit 1)) 0) (.len (.var 3))) (.ob (.cmp .lt (.var 17) (.len (.var 15))) (.call 24 [(.arr 3 (.cell (.var 3) (.cell (.var 15) (.sub (.var 17) (.lit 1)) 0) 0)), (.int (.cell (.var 15) (.var 17) 0))] (.split (.not (.of (.var 18))) (.ret [(.bool (.lit false))]) (.back 3 [(.bool (.of (.var 16))), (.int (.add (.var 17) (.lit 1)))]))))))) (.back 3 [(.bool (.of (.var 16))), (.int (.add (.var 17) (.lit 1)))])))))))))))) (.fail 50029 [0])))))))) (.split (.not (.beq (.of (.cell (.var 9) (.var 12) 0)) (.lit false))) (.ret [(.bool (.lit false))]) (.call 21 [(.arr 4 (.var 2)), (.arr 35 (.var 3)), (.int (.var 12))] (.ob (.cmp .lt (.var 12) (.len (.var 9))) (.split (.not (.beq (.of (.cell (.var 9) (.var 12) 0)) (.cmp .lt (.lit 1) (.len (.var 15))))) (.ret [(.bool (.lit false))]) (.loop [.bool, .int] [(.bool (.of (.var 11))), (.int (.lit 0))] (.split (.cmp .lt (.var 17) (.len (.var 15))) (.ob (.cmp .le (.lit 0) (.var 17)) (.ob (.cmp .lt (.var 17) (.len (.var 15))) (.split (.cmp .lt (.cell (.var 15) (.var 17) 0) (.lit 0)) (.ret [(.bool (.lit false))]) (.ob (.cmp .lt (.var 17) (.len (.var 15))) (.split (.cmp .le (.len (.var 2)) (.cell (.var 15) (.var 17) 0)) (.ret [(.bool (.lit false))]) (.ob (.cmp .lt (.var 17) (.len (.var 15))) (.ob (.cmp .le (.lit 0) (.cell (.var 15) (.var 17) 0)) (.ob (.cmp .lt (.cell (.var 15) (.var 17) 0) (.len (.var 2))) (.split (.of (.cell (.var 2) (.cell (.var 15) (.var 17) 0) 0)) (.ret [(.bool (.lit false))]) (.split (.cmp .eq (.var 17) (.lit 0)) (.ob (.cmp .lt (.var 17) (.len (.var 15))) (.split (.cmp .ne (.cell (.var 15) (.var 17) 0) (.var 12)) (.ret [(.bool (.lit false))]) (.back 3 [(.bool (.of (.var 16))), (.int (.add (.var 17) (.lit 1)))]))) (.split (.cmp .lt (.lit 0) (.var 17)) (.ob (.cmp .lt (.sub (.var 17) (.lit 1)) (.len (.var 15))) (.ob (.cmp .le (.lit 0) (.cell (.var 15) (.sub (.var 17) (.lit 1)) 0)) (.ob (.cmp .lt (.cell (.var 15) (.sub (.var 17) (.lit 1)) 0) (.len (.var 3))) (.ob (.cmp .lt (.var 17) (.len (.var 15))) (.call 24 [(.arr 3 (.cell (.var 3) (.cell (.var 15) (.sub (.var 17) (.lit 1)) 0) 0)), (.int (.cell (.var 15) (.var 17) 0))] (.split (.not (.of (.var 18))) (.ret [(.bool (.lit false))]) (.back 3 [(.bool (.of (.var 16))), (.int (.add (.var 17) (.lit 1)))]))))))) (.back 3 [(.bool (.of (.var 16))), (.int (.add (.var 17) (.lit 1)))])))))))))))) (.fail 50029 [0]))))))))))))) (.call 18 [(.arr 4 (.var 2)), (.arr 35 (.var 3)), (.arr 3 (.var 7))] (.split (.of (.var 14)) (.split (.cmp .lt (.var 13) (.lit 0)) (.ret [(.bool (.lit false))]) (.split (.cmp .le (.len (.var 7)) (.var 13)) (.ret [(.bool (.lit false))]) (.ob (.cmp .lt (.var 13) (.len (.var 7))) (.ob (.cmp .le (.lit 0) (.cell (.var 7) (.var 13) 0)) (.ob (.cmp .lt (.cell (.var 7) (.var 13) 0) (.len (.var 9))) (.split (.not (.of (.cell (.var 9) (.cell (.var 7) (.var 13) 0) 0))) (.ret [(.bool (.lit false))]) (.split (.not (.of (.var 14))) (.split (.cmp .ne (.var 13) (.lit 0)) (.ret [(.bool (.lit false))]) (.loop [.bool, .int] [(.bool (.of (.var 11))), (.int (.lit 0))] (.split (.cmp .lt (.var 16) (.len (.var 7))) (.ob (.cmp .le (.lit 0) (.var 16)) (.ob (.cmp .lt (.var 16) (.len (.var 7))) (.ob (.cmp .le (.lit 0) (.cell (.var 7) (.var 16) 0)) (.ob (.cmp .lt (.cell (.var 7) (.var 16) 0) (.len (.var 9))) (.split (.of (.cell (.var 9) (.cell (.var 7) (.var 16) 0) 0)) (.split (.not (.of (.var 14))) (.ret [(.bool (.lit false))]) (.split (.cmp .lt (.var 13) (.var 16)) (.ret [(.bool (.lit false))]) (.back 2 [(.bool (.of (.var 15))), (.int (.add (.var 16) (.lit 1)))]))) (.back 2 [(.bool (.of (.var 15))), (.int (.add (.var 16) (.lit 1)))])))))) (.call 12 [] (.ret [(.bool (.of (.var 17)))]))))) (.loop [.bool, .int] [(.bool (.of (.var 11))), (.int (.lit 0))] (.split (.cmp .lt (.var 16) (.len (.var 7))) (.ob (.cmp .le (.lit 0) (.var 16)) (.ob (.cmp .lt (.var 16) (.len (.var 7))) (.ob (.cmp .le (.lit 0) (.cell (.var 7) (.var 16) 0)) (.ob (.cmp .lt (.cell (.var 7) (.var 16) 0) (.len (.var 9))) (.split (.of (.cell (.var 9) (.cell (.var 7) (.var 16) 0) 0)) (.split (.not (.of (.var 14))) (.ret [(.bool (.lit false))]) (.split (.cmp .lt (.var 13) (.var 16)) (.ret [(.bool (.lit false))]) (.back 2 [(.bool (.of (.var 15))), (.int (.add (.var 16) (.lit 1)))]))) (.back 2 [(.bool (.of (.var 15))), (.int (.add (.var 16) (.lit 1)))])))))) (.call 12 [] (.ret [(.bool (.of (.var 17)))]))))))))))) (.split (.not (.of (.var 14))) (.split (.cmp .ne (.var 13) (.lit 0)) (.ret [(.bool (.lit false))]) (.loop [.bool, .int] [(.bool (.of (.var 11))), (.int (.lit 0))] (.split (.cmp .lt (.var 16) (.len (.var 7))) (.ob (.cmp .le (.lit 0) (.var 16)) (.ob (.cmp .lt (.var 16) (.len (.var 7))) (.ob (.cmp .le (.lit 0) (.cell (.var 7) (.var 16) 0)) (.ob (.cmp .lt (.cell (.var 7) (.var 16) 0) (.len (.var 9))) (.split (.of (.cell (.var 9) (.cell (.var 7) (.var 16) 0) 0)) (.split (.not (.of (.var 14))) (.ret [(.bool (.lit false))]) (.split (.cmp .lt (.var 13) (.var 16)) (.ret [(.bool (.lit false))]) (.back 2 [(.bool (.of (.var 15))), (.int (.add (.var 16) (.lit 1)))]))) (.back 2 [(.bool (.of (.var 15))), (.int (.add (.var 16) (.lit 1)))])))))) (.call 12 [] (.ret [(.bool (.of (.var 17)))]))))) (.loop [.bool, .int] [(.bool (.of (.var 11))), (.int (.lit 0))] (.split (.cmp .lt (.var 16) (.len (.var 7))) (.ob (.cmp .le (.lit 0) (.var 16)) (.ob (.cmp .lt (.var 16) (.len (.var 7))) (.ob (.cmp .le (.lit 0) (.cell (.var 7) (.var 16) 0)) (.ob (.cmp .lt (.cell (.var 7) (.var 16) 0) (.len (.var 9))) (.split (.of (.cell (.var 9) (.cell (.var 7) (.var 16) 0) 0)) (.split (.not (.of (.var 14))) (.ret [(.bool (.lit false))]) (.split (.cmp .lt (.var 13) (.var 16)) (.ret [(.bool (.lit false))]) (.back 2 [(.bool (.of (.var 15))), (.int (.add (.var 16) (.lit 1)))]))) (.back 2 [(.bool (.of (.var 15))), (.int (.add (.var 16) (.lit 1)))])))))) (.call 12 [] (.ret [(.bool (.of (.var 17)))])))))))))))))))))))
end Go.Proofs.Ytbgofenplhdllaa
/- House: lists compared. -/
namespace Go.Proofs.Ytbgofenplhdllaa
open Go.RowKit
set_option linter.unusedSimpArgs false
set_option linter.unusedVariables false

theorem take_next {α : Type} {a b : List α} {i : Nat} (d : α) (h : a.take i = b.take i) (ha : i < a.length) (hb : i < b.length) (he : a.getD i d = b.getD i d) : a.take (i + 1) = b.take (i + 1) := by
  rw [take_snoc ha d, take_snoc hb d, h, he]
theorem take_all {α : Type} {a b : List α} {i : Nat} (h : a.take i = b.take i) (hi : a.length ≤ i ∨ b.length ≤ i) : a = b ↔ a.length = b.length := by
  constructor
  · intro e; rw [e]
  · intro e
    rw [List.take_of_length_le (by omega), List.take_of_length_le (by omega)] at h
    exact h
theorem ne_at {α : Type} {a b : List α} {i : Nat} {d : α} (h : a.getD i d ≠ b.getD i d) : a ≠ b := fun e => h (by rw [e])
theorem beq_no {α : Type} [BEq α] [LawfulBEq α] {a b : α} (h : a ≠ b) : (a == b) = false := beq_eq_false_iff_ne.2 h
theorem beq_ok {α : Type} [BEq α] [LawfulBEq α] {a b : α} (h : a = b) : (a == b) = true := beq_iff_eq.2 h
theorem sameints_ok : tab2.ok 20 := by
  refine Tab.of_ct rfl rfl ⟨_, Try.func20, by decide, rfl⟩ ?_ ctF_det
  refine ct_ok (cx := csameints) (Tab.cx_ok all_nil) Try.func20 (bds := []) (T := tsameints) (by kernel_rfl) ?_
  unfold tsameints
  simp only [VC, allC, List.map_cons, List.map_nil, List.length_cons, List.length_nil, List.getElem?_cons_zero, List.getElem?_cons_succ, List.cons.injEq, C.i.injEq, C.b.injEq, and_true, true_and, forall_const, kindsOf_nil, kindsOf_lf, kindsOf_agg, kindsOf_box, boxKinds_nil, boxKinds_lf, boxKinds_agg, boxKinds_box, List.append_nil, List.cons_append, List.nil_append, den_cmp_le, den_cmp_lt, den_cmp_eq, den_cmp_ne, den_cmp_le', den_cmp_lt', den_cmp_eq', den_cmp_ne', den_and, den_and', den_or, den_or', den_not, den_not', den_blit, den_of, ev_var, at_0, at_1, at_2, at_3, at_4, at_5, at_6, at_7, at_skip, c_int, c_bool, c_arr, c_cnt, c_vec, ev_nil, ev_join, ev_sub3, loc_s, int_i, bool_b, rows_s, cs_nil, cs_cons, E.den_lit, E.den_var, E.den_add, E.den_sub, E.den_mul, E.den_quo, E.den_rem, E.den_max, E.den_min, E.den_len, E.den_wr, E.den_cell, ev_cell, int_at, ctSameInts, ctF, intsSh]
  intro v0 r0 d0 _ hs0 v1 r1 d1 _ hs1
  have e0 := ints_len r0
  have e1 := ints_len r1
  generalize ints r0 = a at *
  generalize ints r1 = b at *
  refine ⟨bds_nil _, fun xs => match xs with | [_, .i i] => 0 ≤ i ∧ i ≤ a.length ∧ i ≤ b.length ∧ a.take i.toNat = b.take i.toNat | _ => False, fun xs => match xs with | [_, .i i] => ((a.length : Int) - i).toNat | _ => 0, ⟨by omega, by omega, by omega, by simp⟩, ?_⟩
  rintro x i _ _ ⟨i0, i1, i2, h⟩
  have fin : (a.length ≤ i.toNat ∨ b.length ≤ i.toNat) → B.den [C.s v0 r0, C.s v1 r1, C.b x, C.i i] (.cmp .eq (.len (.var 0)) (.len (.var 1))) = (a == b) := fun hle => by
    rw [Bool.eq_iff_iff, beq_iff_eq, take_all h hle]
    simp only [den_cmp_eq, E.den_len, ev_var, at_0, at_1, rows_s]
    omega
  refine ⟨fun hl => ⟨fun hr => ⟨i0, hl, hr, fun hne => ?_, fun he => ⟨⟨by omega, by omega, by omega, ?_⟩, (show ((a.length : Int) - (i + 1)).toNat < ((a.length : Int) - i).toNat by omega)⟩⟩, fun hr => fin (by omega)⟩, fun hl => fin (by omega)⟩
  · exact (beq_no (ne_at hne)).symm
  · rw [show (i + 1).toNat = i.toNat + 1 by omega]; exact take_next 0 h (by omega) (by omega) he
theorem hasint_ok : tab2.ok 24 := by
  refine Tab.of_ct rfl rfl ⟨_, Try.func24, by decide, rfl⟩ ?_ ctF_det
  refine ct_ok (cx := chasint) (Tab.cx_ok all_nil) Try.func24 (bds := []) (T := thasint) (by kernel_rfl) ?_
  unfold thasint
  simp only [VC, allC, List.map_cons, List.map_nil, List.length_cons, List.length_nil, List.getElem?_cons_zero, List.getElem?_cons_succ, List.cons.injEq, C.i.injEq, C.b.injEq, and_true, true_and, forall_const, kindsOf_nil, kindsOf_lf, kindsOf_agg, kindsOf_box, boxKinds_nil, boxKinds_lf, boxKinds_agg, boxKinds_box, List.append_nil, List.cons_append, List.nil_append, den_cmp_le, den_cmp_lt, den_cmp_eq, den_cmp_ne, den_cmp_le', den_cmp_lt', den_cmp_eq', den_cmp_ne', den_and, den_and', den_or, den_or', den_not, den_not', den_blit, den_of, ev_var, at_0, at_1, at_2, at_3, at_4, at_5, at_6, at_7, at_skip, c_int, c_bool, c_arr, c_cnt, c_vec, ev_nil, ev_join, ev_sub3, loc_s, int_i, bool_b, rows_s, cs_nil, cs_cons, E.den_lit, E.den_var, E.den_add, E.den_sub, E.den_mul, E.den_quo, E.den_rem, E.den_max, E.den_min, E.den_len, E.den_wr, E.den_cell, ev_cell, int_at, ctHas, ctF, intsSh, n_]
  intro v0 r0 d0 _ hs0 n _ _
  have e0 := ints_len r0
  generalize ints r0 = a at *
  refine ⟨bds_nil _, fun xs => match xs with | [_, .i i] => 0 ≤ i ∧ i ≤ a.length ∧ ∀ x ∈ a.take i.toNat, x ≠ n | _ => False, fun xs => match xs with | [_, .i i] => ((a.length : Int) - i).toNat | _ => 0, ⟨by omega, by omega, fun x hx => by simp at hx⟩, ?_⟩
  rintro x i _ _ ⟨i0, i1, h⟩
  refine ⟨fun hl => ⟨i0, hl, fun he => ?_, fun hne => ⟨⟨by omega, by omega, fun y hy => ?_⟩, (show ((a.length : Int) - (i + 1)).toNat < ((a.length : Int) - i).toNat by omega)⟩⟩, fun hl => ?_⟩
  · rw [List.contains_eq_mem, decide_eq_true]
    rw [← he]; exact getD_mem (by omega) 0
  · rw [show (i + 1).toNat = i.toNat + 1 by omega, take_snoc (by omega) 0] at hy
    rcases List.mem_append.1 hy with hy | hy
    · exact h y hy
    · rw [List.mem_singleton] at hy; subst hy; exact hne
  · rw [List.take_of_length_le (by omega)] at h
    rw [List.contains_eq_mem, decide_eq_false]
    exact fun hm => h n hm rfl
theorem samelists_ok : tab2.ok 11 := by
  refine Tab.of_ct rfl rfl ⟨_, Try.func11, by decide, rfl⟩ ?_ ctF_det
  refine ct_ok (cx := csamelists) (Tab.cx_ok (all_cons sameints_ok all_nil)) Try.func11 (bds := []) (T := tsamelists) (by kernel_rfl) ?_
  have h1 : csamelists.ct 20 = some ctSameInts := rfl
  unfold tsamelists
  simp only [VC, allC, List.map_cons, List.map_nil, List.length_cons, List.length_nil, List.getElem?_cons_zero, List.getElem?_cons_succ, List.cons.injEq, C.i.injEq, C.b.injEq, and_true, true_and, forall_const, kindsOf_nil, kindsOf_lf, kindsOf_agg, kindsOf_box, boxKinds_nil, boxKinds_lf, boxKinds_agg, boxKinds_box, List.append_nil, List.cons_append, List.nil_append, den_cmp_le, den_cmp_lt, den_cmp_eq, den_cmp_ne, den_cmp_le', den_cmp_lt', den_cmp_eq', den_cmp_ne', den_and, den_and', den_or, den_or', den_not, den_not', den_blit, den_of, ev_var, at_0, at_1, at_2, at_3, at_4, at_5, at_6, at_7, at_skip, c_int, c_bool, c_arr, c_cnt, c_vec, ev_nil, ev_join, ev_sub3, loc_s, int_i, bool_b, rows_s, cs_nil, cs_cons, E.den_lit, E.den_var, E.den_add, E.den_sub, E.den_mul, E.den_quo, E.den_rem, E.den_max, E.den_min, E.den_len, E.den_wr, E.den_cell, ev_cell, ints_at, h1, ctSameInts, ctSameLists, ctF, intsSh]
  intro v0 r0 d0 _ hs0 v1 r1 d1 _ hs1
  have e0 := intss_len r0
  have e1 := intss_len r1
  generalize intss r0 = a at *
  generalize intss r1 = b at *
  refine ⟨bds_nil _, fun hne => (beq_no fun e => hne (by rw [e] at e0; omega)).symm, fun he => ?_⟩
  refine ⟨fun xs => match xs with | [_, .i i] => 0 ≤ i ∧ i ≤ a.length ∧ a.take i.toNat = b.take i.toNat | _ => False, fun xs => match xs with | [_, .i i] => ((a.length : Int) - i).toNat | _ => 0, ⟨by omega, by omega, by simp⟩, ?_⟩
  rintro x i _ _ ⟨i0, i1, h⟩
  refine ⟨fun hl => ⟨i0, hl, by omega, ?_⟩, fun hl => ?_⟩
  · rintro t ht
    have ht : t = (a.getD i.toNat [] == b.getD i.toNat []) := ht
    refine ⟨fun hf => ?_, fun htt => ⟨⟨by omega, by omega, ?_⟩, (show ((a.length : Int) - (i + 1)).toNat < ((a.length : Int) - i).toNat by omega)⟩⟩
    · rw [ht, beq_eq_false_iff_ne] at hf
      exact (beq_no (ne_at hf)).symm
    · rw [ht, beq_iff_eq] at htt
      rw [show (i + 1).toNat = i.toNat + 1 by omega]; exact take_next [] h (by omega) (by omega) htt
  · exact (beq_ok ((take_all h (by omega)).2 (by omega))).symm
end Go.Proofs.Ytbgofenplhdllaa
/- House: the ways, both texts. -/
namespace Go.Proofs.Ytbgofenplhdllaa
open Go.RowKit
set_option linter.unusedSimpArgs false
set_option linter.unusedVariables false

theorem nextW_at {S : List Bool} : ∀ {l : List Int} {k : Nat}, k < l.length → (∀ z ∈ l.take k, S.getD z.toNat false = false) → S.getD (l.getD k 0).toNat false = true → nextW S l = l.getD k 0
  | [], k, h, _, _ => by simp at h
  | x :: l, 0, _, _, h => by
    unfold nextW
    have h : S.getD x.toNat false = true := h
    rw [List.find?_cons_of_pos (by exact h)]; rfl
  | x :: l, k + 1, hk, hz, h => by
    have hx : S.getD x.toNat false = false := hz x (by simp)
    have ih := nextW_at (S := S) (l := l) (k := k) (by simpa using hk) (fun z hz' => hz z (by simp [hz'])) h
    unfold nextW at *
    rw [List.find?_cons_of_neg (by rw [hx]; simp)]
    exact ih
theorem leads_none {S : List Bool} {l : List Int} (h : ∀ z ∈ l, S.getD z.toNat false = false) : leads S l = false := by
  cases hl : leads S l with
  | false => rfl
  | true =>
    obtain ⟨z, hz, hs⟩ := List.any_eq_true.1 hl
    rw [h z hz] at hs; cases hs
/-- What the walk of a way knows. -/
structure WayIn (b : Blow) (i : Int) (n : Nat) (pre : List Int) (s : Int) : Prop where
  at' : WayAt b i pre s
  val : wayV b i = wayGo b.moves (safeV b) n pre s
  len : n + pre.length = b.lost.length + 1
theorem WayIn.pos {b : Blow} {i s : Int} {n : Nat} {pre : List Int} (h : WayIn b i n pre s) : ∃ m, n = m + 1 := ⟨n - 1, by have := h.at'.len; have := h.len; omega⟩
theorem WayIn.start {b : Blow} {i : Int} (h0 : 0 ≤ i) (h : (safeV b).getD i.toNat false = true) : WayIn b i (b.lost.length + 1) [] i := by
  obtain ⟨hc, hl⟩ := safeV_lt h
  have hlen : (safeV b).length = b.lost.length := by rw [safeV_ok hc, safeF_len]
  refine ⟨.start ⟨h0, by omega, h⟩, ?_, by simp⟩
  unfold wayV
  rw [if_pos ⟨h0, by omega, h⟩]
theorem WayIn.step {b : Blow} (hc : checkV b = 0) {i s : Int} {n : Nat} {pre : List Int} (h : WayIn b i n pre s) (hn : pre.contains s = false) : ∃ m, WayIn b i m (pre ++ [s]) (nextW (safeV b) (b.moves.getD s.toNat [])) := by
  obtain ⟨m, rfl⟩ := h.pos
  exact ⟨m, h.at'.step hc hn, by rw [h.val, wayGo_on hn], by have := h.len; simp; omega⟩
theorem WayIn.met {b : Blow} {i s : Int} {n : Nat} {pre : List Int} (h : WayIn b i n pre s) (hn : pre.contains s = true) : wayV b i = pre ++ [s] := by
  obtain ⟨m, rfl⟩ := h.pos
  rw [h.val, wayGo_met hn]
theorem contains_iff {l : List Int} {x : Int} : l.contains x = true ↔ x ∈ l := by rw [List.contains_eq_mem]; exact decide_eq_true_iff
theorem contains_no {l : List Int} {x : Int} (h : x ∉ l) : l.contains x = false := by
  cases hc : l.contains x with
  | false => rfl
  | true => exact absurd (contains_iff.1 hc) h
theorem ofInts_snoc (l : List Int) (x : Int) : ofInts l ++ [[.i x]] = ofInts (l ++ [x]) := by simp [ofInts]
theorem way_nil {b : Blow} {i : Int} (h : i < 0 ∨ ((safeV b).length : Int) ≤ i ∨ (safeV b).getD i.toNat false = false) : wayV b i = [] := by
  unfold wayV
  rw [if_neg]
  rintro ⟨h1, h2, h3⟩
  rcases h with h | h | h
  · omega
  · omega
  · rw [h] at h3; cases h3
theorem way_ok : tab2.ok 21 := by
  refine Tab.of_ct rfl rfl ⟨_, Try.func21, by decide, rfl⟩ ?_ (fun h => by cases h)
  refine ct_ok (cx := cway) (Tab.cx_ok (all_cons (up_ok safe_ok) all_nil) fxway) Try.func21 (bds := []) (T := tway) (by kernel_rfl) ?_
  have h1 : cway.ct 14 = some ctSafe := rfl
  unfold tway
  simp only [VC, allC, List.map_cons, List.map_nil, List.length_cons, List.length_nil, List.getElem?_cons_zero, List.getElem?_cons_succ, List.cons.injEq, C.i.injEq, C.b.injEq, and_true, true_and, forall_const, kindsOf_nil, kindsOf_lf, kindsOf_agg, kindsOf_box, boxKinds_nil, boxKinds_lf, boxKinds_agg, boxKinds_box, List.append_nil, List.cons_append, List.nil_append, den_cmp_le, den_cmp_lt, den_cmp_eq, den_cmp_ne, den_cmp_le', den_cmp_lt', den_cmp_eq', den_cmp_ne', den_and, den_and', den_or, den_or', den_not, den_not', den_blit, den_of, ev_var, at_0, at_1, at_2, at_3, at_4, at_5, at_6, at_7, at_skip, c_int, c_bool, c_arr, c_cnt, c_vec, ev_nil, ev_join, ev_sub3, loc_s, int_i, bool_b, rows_s, cs_nil, cs_cons, E.den_lit, E.den_var, E.den_add, E.den_sub, E.den_mul, E.den_quo, E.den_rem, E.den_max, E.den_min, E.den_len, E.den_wr, E.den_cell, ev_cell, rows_at_len, int_at, ints_at, bool_at, h1, ctSafe, ctWay, blowSh, intsSh, n_]
  intro v0 r0 d0 ty0 hs0 v1 r1 d1 ty1 hs1 i i0 i1; have e0 := bools_len r0; have e1 := intss_len r1; have hb : blowOf [C.s v0 r0, C.s v1 r1] = ⟨bools r0, intss r1⟩ := rfl; have hb3 : blowOf [C.s v0 r0, C.s v1 r1, C.i i] = ⟨bools r0, intss r1⟩ := rfl; rw [hb, hb3]; have a1 := fun i => ints_at v1 r1 i; generalize hM : intss r1 = M at *; generalize hL : bools r0 = L at *; generalize hB : Blow.mk L M = b at *; have bl : b.lost = L := by rw [← hB]
  have bm : b.moves = M := by rw [← hB]
  refine ⟨bds_nil _, ?_⟩
  rintro v4 r4 _ _ _ ⟨v4', e4⟩
  obtain ⟨-, rfl⟩ : v4 = v4' ∧ r4 = ofBools (safeV b) := by simpa using e4
  rw [ofBools_len, bools_of]
  have nilp : ∀ v : Value, wayV b i = [] → ∃ v', C.s v [] = C.s v' (ofInts (wayV b i)) := fun v h => ⟨v, by rw [h]; rfl⟩
  refine ⟨fun h => nilp _ (way_nil (.inl h)), fun h0 => ⟨fun h => nilp _ (way_nil (.inr (.inl h))), fun h2 => ⟨h2, fun h => nilp _ (way_nil (.inr (.inr h))), fun hsf => ?_⟩⟩⟩
  obtain ⟨hc, hlt⟩ := safeV_lt hsf
  obtain ⟨k1, k2, k3, -⟩ := check_all hc
  have kat := fun i => @check_at b hc i
  have hlen : (safeV b).length = b.lost.length := by rw [safeV_ok hc, safeF_len]
  have hwalk : ∀ {n pre s}, WayIn b i n pre s → leads (safeV b) (b.moves.getD s.toNat []) = true := fun {n pre s} h => by
    have := h.at'.s0.2.2
    rw [safeV_ok hc] at this ⊢
    exact (safeF_iff.1 this).2.1
  intro v6
  refine ⟨fun xs => match xs with | [.i s, _, .s _ rows] => ∃ n pre, rows = ofInts (pre ++ [s]) ∧ WayIn b i n pre s ∧ pre.contains s = false | _ => False, fun xs => match xs with | [_, _, .s _ rows] => b.lost.length + 1 - rows.length | _ => 0, ⟨_, [], rfl, .start (by omega) hsf, rfl⟩, ?_⟩
  rintro s _ _ v8 r8 _ _ _ v9 r9 _ _ _ ⟨n, pre, rfl, hw, hn⟩
  have hs := hw.at'.s0
  obtain ⟨m, hw2⟩ := hw.step hc hn
  have hlead := hwalk hw
  obtain ⟨-, -, hkk⟩ := kat s.toNat (by omega)
  rw [bm] at hlead hkk hw2
  have hl2 := hw2.at'.len
  simp only [List.length_append, List.length_cons, List.length_nil] at hl2
  rw [ofInts_len, ints_of']
  refine ⟨hs.1, by rw [bm, bl] at *; omega, ?_⟩
  generalize hml : M.getD s.toNat [] = l at *
  refine ⟨fun xs => match xs with | [_, .i k] => 0 ≤ k ∧ k ≤ l.length ∧ ∀ z ∈ l.take k.toNat, (safeV b).getD z.toNat false = false | _ => False, fun xs => match xs with | [_, .i k] => ((l.length : Int) - k).toNat | _ => 0, ⟨by omega, by omega, fun z hz => by simp at hz⟩, ?_⟩
  rintro y _ _ k _ _ ⟨k0, k1', hK⟩
  refine ⟨fun hlt' => ?_, fun hge' => ?_⟩
  · have hm := getD_mem (l := l) (i := k.toNat) (by omega) 0
    have hr := hkk _ hm
    refine ⟨k0, hlt', hr.1, by omega, fun hz => ⟨hlt', ?_⟩, fun hz => ⟨⟨by omega, by omega, fun z hz' => ?_⟩, (show ((l.length : Int) - (k + 1)).toNat < ((l.length : Int) - k).toNat by omega)⟩⟩
    · rw [nextW_at (by omega) hK hz] at hw2
      generalize l.getD k.toNat 0 = x at *
      generalize hout : pre ++ [s] = out at *
      have hol : out.length = pre.length + 1 := by rw [← hout]; simp
      refine ⟨fun xs => match xs with | [_, .i j] => 0 ≤ j ∧ j ≤ out.length ∧ ∀ z ∈ out.take j.toNat, z ≠ x | _ => False, fun xs => match xs with | [_, .i j] => ((out.length : Int) - j).toNat | _ => 0, ⟨by omega, by omega, fun z hz => by simp at hz⟩, ?_⟩
      rintro y' _ _ j _ _ ⟨j0, j1, hJ⟩
      refine ⟨fun hlj => ⟨j0, hlj, fun he => ⟨by omega, fun v => ⟨v, ?_⟩⟩, fun hne => ⟨⟨by omega, by omega, fun z hz' => ?_⟩, (show ((out.length : Int) - (j + 1)).toNat < ((out.length : Int) - j).toNat by omega)⟩⟩, fun hgj => ⟨by omega, fun v => ⟨⟨m, out, ofInts_snoc _ _, hw2, contains_no fun hmem => ?_⟩, ?_⟩⟩⟩
      · rw [hw2.met (contains_iff.2 (by rw [he]; exact getD_mem (by omega) 0)), ← ofInts_snoc]
      · rw [show (j + 1).toNat = j.toNat + 1 by omega, take_snoc (by omega) 0] at hz'
        rcases List.mem_append.1 hz' with h2 | h2
        · exact hJ z h2
        · rw [List.mem_singleton] at h2; subst h2; exact fun e => hne e.symm
      · rw [List.take_of_length_le (by omega)] at hJ
        exact hJ x hmem rfl
      · show b.lost.length + 1 - (ofInts out ++ [[C.i x]]).length < b.lost.length + 1 - (ofInts out).length
        rw [ofInts_snoc, ofInts_len, ofInts_len, List.length_append]; simp; omega
    · rw [show (k + 1).toNat = k.toNat + 1 by omega, take_snoc (by omega) 0] at hz'
      rcases List.mem_append.1 hz' with h2 | h2
      · exact hK z h2
      · rw [List.mem_singleton] at h2; subst h2; exact hz
  · rw [List.take_of_length_le (by omega)] at hK
    rw [leads_none hK] at hlead
    cases hlead
end Go.Proofs.Ytbgofenplhdllaa
/- House: the document's ways. -/
namespace Go.Proofs.Ytbgofenplhdllaa
open Go.RowKit
set_option linter.unusedSimpArgs false
set_option linter.unusedVariables false

theorem rway_ok : tab2.ok 22 := by
  refine Tab.of_ct rfl rfl ⟨_, Try.func22, by decide, rfl⟩ ?_ (fun h => by cases h)
  refine ct_ok (cx := crway) (Tab.cx_ok (all_cons (up_ok rsafe_ok) all_nil)) Try.func22 (bds := []) (T := trway) (by kernel_rfl) ?_
  have h1 : crway.ct 15 = some ctSafe := rfl
  unfold trway
  simp only [VC, allC, List.map_cons, List.map_nil, List.length_cons, List.length_nil, List.getElem?_cons_zero, List.getElem?_cons_succ, List.cons.injEq, C.i.injEq, C.b.injEq, and_true, true_and, forall_const, kindsOf_nil, kindsOf_lf, kindsOf_agg, kindsOf_box, boxKinds_nil, boxKinds_lf, boxKinds_agg, boxKinds_box, List.append_nil, List.cons_append, List.nil_append, den_cmp_le, den_cmp_lt, den_cmp_eq, den_cmp_ne, den_cmp_le', den_cmp_lt', den_cmp_eq', den_cmp_ne', den_and, den_and', den_or, den_or', den_not, den_not', den_blit, den_of, ev_var, at_0, at_1, at_2, at_3, at_4, at_5, at_6, at_7, at_skip, c_int, c_bool, c_arr, c_cnt, c_vec, ev_nil, ev_join, ev_sub3, loc_s, int_i, bool_b, rows_s, cs_nil, cs_cons, E.den_lit, E.den_var, E.den_add, E.den_sub, E.den_mul, E.den_quo, E.den_rem, E.den_max, E.den_min, E.den_len, E.den_wr, E.den_cell, ev_cell, rows_at_len, int_at, ints_at, bool_at, h1, ctSafe, ctWay, blowSh, intsSh, n_]
  intro v0 r0 d0 ty0 hs0 v1 r1 d1 ty1 hs1 i i0 i1; have e0 := bools_len r0; have e1 := intss_len r1; have hb : blowOf [C.s v0 r0, C.s v1 r1] = ⟨bools r0, intss r1⟩ := rfl; have hb3 : blowOf [C.s v0 r0, C.s v1 r1, C.i i] = ⟨bools r0, intss r1⟩ := rfl; rw [hb, hb3]; have a1 := fun i => ints_at v1 r1 i; generalize hM : intss r1 = M at *; generalize hL : bools r0 = L at *; generalize hB : Blow.mk L M = b at *; have bl : b.lost = L := by rw [← hB]
  have bm : b.moves = M := by rw [← hB]
  refine ⟨bds_nil _, ?_⟩
  rintro v4 r4 _ _ _ ⟨v4', e4⟩
  obtain ⟨-, rfl⟩ : v4 = v4' ∧ r4 = ofBools (safeV b) := by simpa using e4
  rw [ofBools_len, bools_of]
  have nilp : ∀ v : Value, wayV b i = [] → ∃ v', C.s v [] = C.s v' (ofInts (wayV b i)) := fun v h => ⟨v, by rw [h]; rfl⟩
  refine ⟨fun h => nilp _ (way_nil (.inl h)), fun h0 => ⟨fun h => nilp _ (way_nil (.inr (.inl h))), fun h2 => ⟨h2, fun h => nilp _ (way_nil (.inr (.inr h))), fun hsf => ?_⟩⟩⟩
  obtain ⟨hc, hlt⟩ := safeV_lt hsf
  obtain ⟨k1, k2, k3, -⟩ := check_all hc
  have kat := fun i => @check_at b hc i
  have hlen : (safeV b).length = b.lost.length := by rw [safeV_ok hc, safeF_len]
  have hwalk : ∀ {n pre s}, WayIn b i n pre s → leads (safeV b) (b.moves.getD s.toNat []) = true := fun {n pre s} h => by
    have := h.at'.s0.2.2
    rw [safeV_ok hc] at this ⊢
    exact (safeF_iff.1 this).2.1
  refine ⟨by omega, fun v5 => ?_⟩
  refine ⟨fun xs => match xs with | [.i s, .s _ orows, .s _ mrows] => ∃ n pre met, orows = ofInts pre ∧ mrows = ofBools met ∧ met.length = b.lost.length ∧ (∀ j : Nat, met.getD j false = true ↔ (j : Int) ∈ pre) ∧ WayIn b i n pre s | _ => False, fun xs => match xs with | [_, .s _ rows, _] => b.lost.length + 1 - rows.length | _ => 0, ⟨_, [], List.replicate b.lost.length false, rfl, ?_, by simp, fun j => ?_, .start (by omega) hsf⟩, ?_⟩
  · rw [hlen]; simp [ofBools]
  · simp only [List.getD_eq_getElem?_getD, List.getElem?_replicate]
    split <;> simp
  rintro s _ _ v8 r8 _ _ _ v9 r9 _ _ _ ⟨n, pre, met, rfl, rfl, hml0, hmet, hw⟩
  have hs := hw.at'.s0
  have hlead := hwalk hw
  obtain ⟨-, -, hkk⟩ := kat s.toNat (by omega)
  rw [bm] at hlead hkk
  have hpl := hw.at'.len
  have hms : met.getD s.toNat false = true ↔ s ∈ pre := by rw [hmet, show ((s.toNat : Nat) : Int) = s by omega]
  rw [ofBools_len, bools_of, ofInts_len]
  refine ⟨hs.1, by omega, fun hnm => ⟨by omega, fun v10 => ⟨by omega, fun v12 => ?_⟩⟩, fun hm => ⟨by omega, fun v => ⟨v, ?_⟩⟩⟩
  · have hn : pre.contains s = false := contains_no fun hx => by rw [hms.2 hx] at hnm; cases hnm
    obtain ⟨m, hw2⟩ := hw.step hc hn
    rw [bm] at hw2
    have hl2 := hw2.at'.len
    simp only [List.length_append, List.length_cons, List.length_nil] at hl2
    rw [updRow_bool, ofInts_snoc]
    refine ⟨fun xs => match xs with | [.i s', .i k] => s' = s ∧ 0 ≤ k ∧ k ≤ (M.getD s.toNat []).length ∧ ∀ z ∈ (M.getD s.toNat []).take k.toNat, (safeV b).getD z.toNat false = false | _ => False, fun xs => match xs with | [_, .i k] => (((M.getD s.toNat []).length : Int) - k).toNat | _ => 0, ⟨rfl, by omega, by omega, fun z hz => by simp at hz⟩, ?_⟩
    rintro s' _ _ k _ _ ⟨rfl, k0, k1', hK⟩
    generalize hml : M.getD s'.toNat [] = l at *
    refine ⟨hs.1, by rw [bm, bl] at *; omega, fun hlt' => ?_, fun hge' => ?_⟩
    · have hm := getD_mem (l := l) (i := k.toNat) (by omega) 0
      have hr := hkk _ hm
      refine ⟨by rw [bm, bl] at *; omega, k0, hlt', hr.1, by omega, fun hz => ⟨by rw [bm, bl] at *; omega, hlt', ⟨m, pre ++ [s'], met.set s'.toNat true, rfl, rfl, by simp; exact hml0, fun j => ?_, ?_⟩, ?_⟩, fun hz => ⟨⟨rfl, by omega, by omega, fun z hz' => ?_⟩, (show ((l.length : Int) - (k + 1)).toNat < ((l.length : Int) - k).toNat by omega)⟩⟩
      · rw [set_at, List.mem_append, List.mem_singleton, ← hmet]
        by_cases hj : s'.toNat = j ∧ s'.toNat < met.length
        · rw [if_pos hj]
          exact ⟨fun _ => .inr (by omega), fun _ => rfl⟩
        · rw [if_neg hj]
          exact ⟨fun h => .inl h, fun h => h.elim id fun h => absurd (⟨by omega, by omega⟩ : s'.toNat = j ∧ s'.toNat < met.length) hj⟩
      · rw [nextW_at (by omega) hK hz] at hw2; exact hw2
      · show b.lost.length + 1 - (ofInts (pre ++ [s'])).length < b.lost.length + 1 - (ofInts pre).length
        rw [ofInts_len, ofInts_len, List.length_append]; simp; omega
      · rw [show (k + 1).toNat = k.toNat + 1 by omega, take_snoc (by omega) 0] at hz'
        rcases List.mem_append.1 hz' with h2 | h2
        · exact hK z h2
        · rw [List.mem_singleton] at h2; subst h2; exact hz
    · rw [List.take_of_length_le (by omega)] at hK
      rw [leads_none hK] at hlead
      cases hlead
  · rw [hw.met (contains_iff.2 (hms.1 hm)), ← ofInts_snoc]
end Go.Proofs.Ytbgofenplhdllaa
/- House: HouseBlows and HouseWild, by the table. -/
namespace Go.Proofs.Ytbgofenplhdllaa
open Go.RowKit
set_option linter.unusedSimpArgs false
set_option linter.unusedVariables false

theorem blows_ok : CtOK Try.prog 5 (ctLaw [blowSh, intsSh, .lf .int]) := by
  refine ct_ok (cx := clblows) (Tab.cx_ok (all_cons (up_ok safe_ok) (all_cons (up_ok rsafe_ok) (all_cons (up_ok check_ok) (all_cons (up_ok rcheck_ok) (all_cons (up_ok chance_ok) (all_cons (up_ok rchance_ok) (all_cons sameints_ok (all_cons way_ok (all_cons rway_ok (all_cons (up_ok awake_ok) all_nil))))))))))) Try.func5 (bds := []) (T := tlblows) (by kernel_rfl) ?_
  have h1 : clblows.ct 14 = some ctSafe := rfl
  have h2 : clblows.ct 15 = some ctSafe := rfl
  have h3 : clblows.ct 16 = some ctCheckB := rfl
  have h4 : clblows.ct 17 = some ctCheckB := rfl
  have h5 : clblows.ct 18 = some ctChance := rfl
  have h6 : clblows.ct 19 = some ctChance := rfl
  have h7 : clblows.ct 20 = some ctSameInts := rfl
  have h8 : clblows.ct 21 = some ctWay := rfl
  have h9 : clblows.ct 22 = some ctWay := rfl
  have h10 : clblows.ct 12 = some ctAwake := rfl
  unfold tlblows
  simp only [VC, allC, List.map_cons, List.map_nil, List.length_cons, List.length_nil, List.getElem?_cons_zero, List.getElem?_cons_succ, List.cons.injEq, C.i.injEq, C.b.injEq, and_true, true_and, forall_const, kindsOf_nil, kindsOf_lf, kindsOf_agg, kindsOf_box, boxKinds_nil, boxKinds_lf, boxKinds_agg, boxKinds_box, List.append_nil, List.cons_append, List.nil_append, den_cmp_le, den_cmp_lt, den_cmp_eq, den_cmp_ne, den_cmp_le', den_cmp_lt', den_cmp_eq', den_cmp_ne', den_and, den_and', den_or, den_or', den_not, den_not', den_blit, den_of, ev_var, at_0, at_1, at_2, at_3, at_4, at_5, at_6, at_7, at_skip, c_int, c_bool, c_arr, c_cnt, c_vec, ev_nil, ev_join, ev_sub3, loc_s, int_i, bool_b, rows_s, cs_nil, cs_cons, E.den_lit, E.den_var, E.den_add, E.den_sub, E.den_mul, E.den_quo, E.den_rem, E.den_max, E.den_min, E.den_len, E.den_wr, E.den_cell, ev_cell, rows_at_len, int_at, ints_at, bool_at, h1, h2, h3, h4, h5, h6, h7, h8, h9, h10, ctSafe, ctCheckB, ctChance, ctSameInts, ctWay, ctAwake, ctLaw, ctF, blowSh, intsSh, n_]
  intro v0 r0 d0 ty0 hs0 v1 r1 d1 ty1 hs1 v2 r2 d2 ty2 hs2 i i0 i1
  refine ⟨bds_nil _, fun _ t ht => ht, fun h66 => ⟨fun _ t ht => ht, fun h67 => ⟨fun _ t ht => ht, fun h402 => ?_⟩⟩⟩
  refine ⟨fun xs => match xs with | [_, .i n] => 0 ≤ n ∧ n ≤ r1.length | _ => False, fun xs => match xs with | [_, .i n] => ((r1.length : Int) - n).toNat | _ => 0, ⟨by omega, by omega⟩, ?_⟩
  rintro x n _ _ ⟨n0, n1⟩
  refine ⟨fun hl => ⟨n0, hl, fun _ t ht => ht, fun _ => ⟨⟨by omega, by omega⟩, (show ((r1.length : Int) - (n + 1)).toNat < ((r1.length : Int) - n).toNat by omega)⟩⟩, fun _ => ?_⟩
  generalize blowOf [C.s v0 r0, C.s v1 r1] = b
  rintro v3 s1 _ _ _ ⟨v3', e3⟩ v4 s2 _ _ _ ⟨v4', e4⟩ c1 _ _ hc1 c2 _ _ hc2
  obtain ⟨-, rfl⟩ : v3 = v3' ∧ s1 = ofBools (safeV b) := by simpa using e3
  obtain ⟨-, rfl⟩ : v4 = v4' ∧ s2 = ofBools (safeV b) := by simpa using e4
  refine ⟨fun h => absurd (hc1.trans hc2.symm) h, fun _ => ⟨fun h => absurd rfl h, fun _ => ?_⟩⟩
  refine ⟨fun xs => match xs with | [_, .i n] => 0 ≤ n ∧ n ≤ (ofBools (safeV b)).length | _ => False, fun xs => match xs with | [_, .i n] => (((ofBools (safeV b)).length : Int) - n).toNat | _ => 0, ⟨by omega, by omega⟩, ?_⟩
  rintro y j _ _ ⟨j0, j1⟩
  refine ⟨fun hl => ⟨j0, hl, hl, fun hne => ?_, fun _ => ⟨⟨by omega, by omega⟩, (show (((ofBools (safeV b)).length : Int) - (j + 1)).toNat < (((ofBools (safeV b)).length : Int) - j).toNat by omega)⟩⟩, fun _ => ?_⟩
  · have hne : (((C.s v3 (ofBools (safeV b))).at j.toNat 0).bool == ((C.s v4 (ofBools (safeV b))).at j.toNat 0).bool) = false := hne
    rw [bool_at, bool_at, beq_self_eq_true] at hne
    cases hne
  intro v12
  refine ⟨by omega, ?_⟩
  rintro v13 k1 _ _ t1 ⟨rfl, rfl⟩ k2 _ _ t2 ⟨rfl, rfl⟩
  refine ⟨fun _ => ⟨fun _ => ?_, fun hf => ?_⟩, fun h => absurd rfl h⟩
  · rintro t3 ht3
    rw [beq_self_eq_true] at ht3
    refine ⟨fun _ => ?_, fun hf => (by rw [ht3] at hf; cases hf)⟩
    rintro v19 w1 _ _ _ ⟨v19', e5⟩ v20 w2 _ _ _ ⟨v20', e6⟩ t4 ht4
    obtain ⟨-, rfl⟩ : v19 = v19' ∧ w1 = ofInts (wayV (blowOf [C.s v0 r0, C.s v1 r1, C.i i]) i) := by simpa using e5
    obtain ⟨-, rfl⟩ : v20 = v20' ∧ w2 = ofInts (wayV (blowOf [C.s v0 r0, C.s v1 r1, C.i i]) i) := by simpa using e6
    rw [beq_self_eq_true] at ht4
    exact ⟨fun _ t ht => ht, fun hf => (by rw [ht4] at hf; cases hf)⟩
  · have hf : ((chanceV (blowOf [C.s v0 r0, C.s v1 r1, C.s v2 r2]) (ints r2)).2 == (chanceV (blowOf [C.s v0 r0, C.s v1 r1, C.s v2 r2]) (ints r2)).2) = false := hf
    rw [beq_self_eq_true] at hf
    cases hf
end Go.Proofs.Ytbgofenplhdllaa
/- Arguments of any shape that the engine knows, opened: structs, and slices within slices. -/
namespace Go.Proofs.Ytbgofenplhdllaa
open Go.ChangeShapes Go.WideShapes Go.RowKit
set_option linter.unusedVariables false
/-- A type of integers, truth values and slices, without arrays. -/
def flatB (P : Program) : Nat → TypeId → Bool
  | 0, _ => false
  | d + 1, t => match P.underlying t with
    | some (.int .i64) => true
    | some .bool => true
    | some (.slice _) => true
    | some (.struct fs) => fs.toList.all fun f => flatB P d f.type
    | _ => false
/-- What a slice of this kind holds is known, to depth n. -/
def deepB (P : Program) : Nat → Lk → Bool
  | _, .int => true
  | _, .bool => true
  | n + 1, .arr e => match kinds P e with
    | some ks => ks.all (deepB P n) && (P.cellsOf e == ks.length) && flatB P 6 e
    | none => false
  | _, _ => false
def CellN (P : Program) (w : World) (n : Nat) (k : Lk) (u : Value) (c : C) : Prop := (∀ m, c.small m) ∧ match k with
  | .int => ∃ n, u = .int .i64 n ∧ c = .i n
  | .bool => ∃ t, u = .bool t ∧ c = .b t
  | .arr t => ∃ rows', c = .s u rows' ∧ ArrN P (fun b _ => b < w.heap.size) w n t u rows'
  | .vec _ => False
def kStep (P : Program) (d : Nat) (acc : Option (List Lk)) (f : Field) : Option (List Lk) := match acc, kindsF P d f.type with
  | some l, some m => if l.length = f.offset then some (l ++ m) else none
  | _, _ => none
theorem kStep_none {P : Program} {d : Nat} : ∀ {fs : List Field}, fs.foldl (kStep P d) none = none
  | [] => rfl
  | f :: fs => by rw [List.foldl_cons]; exact kStep_none
theorem kStep_at {P : Program} {d : Nat} : ∀ {fs : List Field} {a ks : List Lk}, fs.foldl (kStep P d) (some a) = some ks → ∀ (j : Nat) (k : Lk), ks[j]? = some k →
    a[j]? = some k ∨ ∃ f ∈ fs, ∃ m, kindsF P d f.type = some m ∧ f.offset ≤ j ∧ m[j - f.offset]? = some k
  | [], a, ks, h, j, k, hj => by cases h; exact .inl hj
  | f :: fs, a, ks, h, j, k, hj => by
    rw [List.foldl_cons] at h
    cases hm : kindsF P d f.type with
    | none => rw [show kStep P d (some a) f = none by simp [kStep, hm], kStep_none] at h; cases h
    | some m =>
      by_cases hl : a.length = f.offset
      · rw [show kStep P d (some a) f = some (a ++ m) by simp [kStep, hm, hl]] at h
        rcases kStep_at h j k hj with h1 | ⟨g, hg, m', h2⟩
        · by_cases hja : j < a.length
          · rw [List.getElem?_append_left hja] at h1; exact .inl h1
          · rw [List.getElem?_append_right (by omega), hl] at h1
            exact .inr ⟨f, List.mem_cons_self .., m, hm, by omega, h1⟩
        · exact .inr ⟨g, List.mem_cons_of_mem _ hg, m', h2⟩
      · rw [show kStep P d (some a) f = none by simp [kStep, hm, hl], kStep_none] at h; cases h
theorem kinds_F {P : Program} {t : TypeId} {ks : List Lk} (h : kinds P t = some ks) : kindsF P 6 t = some ks := by
  unfold kinds at h
  split at h
  · rename_i l hl
    split at h
    · cases h; exact hl
    · cases h
  · cases h
section
variable {H : Type} {enc : TypeId × Value → H} {P : Program} {w : World} {base : Nat} {spare : Nat → Bool} {held : Bool}
theorem small_int {n : Int} (h : -9223372036854775808 ≤ n ∧ n ≤ 9223372036854775807) : ∀ m, (C.i n).small m := fun m => by cases m <;> exact h
theorem cells_deep : ∀ (fuel n d : Nat) (t : TypeId) (ks : List Lk) (cs : List Value) (x : DataW H × List MemPlace), kindsF P d t = some ks → flatB P d t = true →
    DataW.trod enc P w base spare held fuel t cs = some x → ∀ (j : Nat) (k : Lk), ks[j]? = some k → deepB P n k = true → ∃ u c, cs[j]? = some u ∧ CellN P w n k u c := by
  intro fuel
  induction fuel with
  | zero => intro n d t ks cs x _ _ hx; simp [DataW.trod] at hx
  | succ fuel ih =>
    intro n d t ks cs x hk hfl hx j k hj hall
    cases d with
    | zero => simp [kindsF] at hk
    | succ d =>
      unfold flatB at hfl
      cases hu : P.underlying t with
      | none => rw [hu] at hfl; cases hfl
      | some ty =>
      rw [hu] at hfl
      unfold kindsF at hk
      rw [hu] at hk
      match ty, hu, hfl, hk with
      | .int .i64, hu, hfl, hk =>
        cases hk
        obtain ⟨z, rfl, -, hwf⟩ := DataW.trod_int hu hx
        match j, hj with
        | 0, hj => cases hj; exact ⟨_, .i z, rfl, small_int (wf_bd hwf), z, rfl, rfl⟩
      | .bool, hu, hfl, hk =>
        cases hk
        obtain ⟨z, rfl, -⟩ := DataW.trod_bool hu hx
        match j, hj with
        | 0, hj => cases hj; exact ⟨_, .b z, rfl, fun m => by cases m <;> trivial, z, rfl, rfl⟩
      | .slice e, hu, hfl, hk =>
        cases hk
        match j, hj with
        | 0, hj =>
        cases hj
        cases n with
        | zero => simp [deepB] at hall
        | succ n =>
        have hd : deepB P (n + 1) (.arr e) = true := hall
        unfold deepB at hd
        cases hke : kinds P e with
        | none => rw [hke] at hd; cases hd
        | some kse =>
        rw [hke] at hd
        simp only [Bool.and_eq_true, beq_iff_eq] at hd
        obtain ⟨⟨hd1, hd2⟩, hd3⟩ := hd
        rcases DataW.trod_slice hu hx with ⟨rfl, -⟩ | ⟨a, len, cap, elems, rest, m, hm, rfl, -, -, hl, hc, hlen, hel, -, -⟩
        · refine ⟨_, .s (.slice none 0 0) [], rfl, fun m => ?_, [], rfl, kse, hke, none, 0, rfl, fun h => absurd rfl h⟩
          cases m with
          | zero => trivial
          | succ m => exact ⟨by simp, fun r hr => by cases hr⟩
        · cases hm
          have each : ∀ i, i < len → ∀ (j : Nat) (k : Lk), kse[j]? = some k → ∃ u c, w.cell? (a.add (i * kse.length + j)) = some u ∧ CellN P w n k u c := by
            intro i hi j k hj
            have h1 := hel i hi
            rw [List.getElem?_eq_getElem (by omega), hd2] at h1
            obtain ⟨cs', h2, h3⟩ := Option.bind_eq_some_iff.1 h1
            obtain ⟨_, hlen', hcell⟩ := World.cells?_some h2
            obtain ⟨u, c, h4, h5⟩ := ih n 6 e kse cs' _ (kinds_F hke) hd3 h3 j k hj (List.all_eq_true.1 hd1 k (List.mem_of_getElem? hj))
            refine ⟨u, c, ?_, h5⟩
            have hjl : j < kse.length := by
              rcases Nat.lt_or_ge j kse.length with h | h
              · exact h
              · rw [List.getElem?_eq_none h] at hj; cases hj
            rw [← h4, ← hcell j hjl, Go.Deep.add_add]
          have each2 : ∀ i j, ∃ c : C, i < len → ∀ k, kse[j]? = some k → ∃ u, w.cell? (a.add (i * kse.length + j)) = some u ∧ CellN P w n k u c := by
            intro i j
            by_cases hi : i < len
            · cases hj : kse[j]? with
              | none => exact ⟨.i 0, fun _ k h => by cases h⟩
              | some k =>
                obtain ⟨u, c, h1, h2⟩ := each i hi j k hj
                exact ⟨c, fun _ k' h => by cases h; exact ⟨u, h1, h2⟩⟩
            · exact ⟨.i 0, fun h => absurd h hi⟩
          let f : Nat → Nat → C := fun i j => (each2 i j).choose
          have hf : ∀ i j, i < len → ∀ k, kse[j]? = some k → ∃ u, w.cell? (a.add (i * kse.length + j)) = some u ∧ CellN P w n k u (f i j) := fun i j => (each2 i j).choose_spec
          let rows : List (List C) := (List.range len).map fun i => (List.range kse.length).map fun j => f i j
          have hrl : rows.length = len := by simp [rows]
          refine ⟨_, .s (.slice (some a) len cap) rows, rfl, fun q => ?_, rows, rfl, kse, hke, some a, cap, by rw [hrl], fun hne => ?_⟩
          · cases q with
            | zero => trivial
            | succ q =>
              refine ⟨by rw [hrl]; unfold maxLen at hc; omega, fun r hr c hcr => ?_⟩
              obtain ⟨i, hi, rfl⟩ := List.mem_map.1 hr
              obtain ⟨j, hj, rfl⟩ := List.mem_map.1 hcr
              rw [List.mem_range] at hi hj
              obtain ⟨u, -, h⟩ := hf i j hi _ (List.getElem?_eq_getElem hj)
              exact h.1 q
          · have hpos : 0 < len := by
              rcases Nat.eq_zero_or_pos len with h | h
              · exact absurd (List.eq_nil_of_length_eq_zero (by rw [hrl]; exact h)) hne
              · exact h
            have hk0 : 0 < kse.length := Nat.pos_of_ne_zero (kinds_size hke).2
            obtain ⟨u0, h0, -⟩ := hf 0 0 hpos _ (List.getElem?_eq_getElem hk0)
            obtain ⟨b, o, s⟩ := a
            have hs : s = none := by simpa [Addr.add] using World.cell?_spot h0
            subst hs
            have hblk : b < w.heap.size := by
              have := World.block_lt_of_cell? _ _ h0
              simpa [Addr.add] using this
            refine ⟨b, o, rfl, fun i r hi => ?_⟩
            have hi' : i < len := by
              rcases Nat.lt_or_ge i len with h | h
              · exact h
              · rw [List.getElem?_eq_none (by rw [hrl]; exact h)] at hi; cases hi
            have hr : r = (List.range kse.length).map fun j => f i j := by
              simp only [rows, List.getElem?_map, List.getElem?_range hi', Option.map_some] at hi
              exact (Option.some.inj hi).symm
            subst hr
            refine ⟨by simp, fun j k hj => ⟨hblk, ?_⟩⟩
            have hjl : j < kse.length := by
              rcases Nat.lt_or_ge j kse.length with h | h
              · exact h
              · rw [List.getElem?_eq_none h] at hj; cases hj
            obtain ⟨u, h1, h2⟩ := hf i j hi' k hj
            refine ⟨u, f i j, by rw [← Go.WideShapes.add_plain]; exact h1, by simp [List.getElem?_range hjl], ?_⟩
            exact h2.2
      | .struct fs, hu, hfl, hk =>
        obtain ⟨xs, m, hm, -, -, hxl, hf⟩ := DataW.trod_struct hu hx
        cases hm
        have hk' : fs.toList.foldl (kStep P d) (some []) = some ks := hk
        rcases kStep_at hk' j k hj with h | ⟨f, hfm, m', hm', ho, hmj⟩
        · simp at h
        · obtain ⟨i, hi⟩ := List.mem_iff_getElem?.1 hfm
          have hi' : fs[i]? = some f := by rw [← hi]; simp
          have hil : i < xs.length := by
            rw [hxl]
            rcases Nat.lt_or_ge i fs.size with h | h
            · exact h
            · rw [Array.getElem?_eq_none h] at hi'; cases hi'
          have hg := hf i f hi'
          rw [List.getElem?_eq_getElem hil] at hg
          obtain ⟨u, c, h1, h2⟩ := ih n d f.type m' _ _ hm' (List.all_eq_true.1 hfl f hfm) hg (j - f.offset) k hmj hall
          refine ⟨u, c, ?_, h2⟩
          rw [List.getElem?_take] at h1
          split at h1
          · rw [List.getElem?_drop] at h1
            rw [← h1]; congr 1; omega
          · cases h1
theorem CellN.rep {n : Nat} {k : Lk} {u : Value} {c : C} (h : CellN P w n k u c) : LRep P w (fun _ _ => False) k u c := by
  refine ⟨h.1, ?_⟩
  cases k with
  | int => exact h.2
  | bool => exact h.2
  | arr t =>
    obtain ⟨rows, rfl, hA⟩ := h.2
    exact ⟨rfl, u, rows, rfl, n, _, fun b o hb => ⟨hb, fun h => h⟩, hA⟩
  | vec t => exact h.2.elim
theorem lreps_of : ∀ {ks : List Lk} {us : List Value} {n : Nat}, us.length = ks.length → (∀ (j : Nat) (k : Lk), ks[j]? = some k → ∃ u c, us[j]? = some u ∧ CellN P w n k u c) → ∃ rs, LReps P w (fun _ _ => False) ks us rs
  | [], [], _, _, _ => ⟨[], trivial⟩
  | k :: ks, u :: us, n, hl, h => by
    obtain ⟨u', c, hu, hc⟩ := h 0 k rfl
    cases hu
    obtain ⟨rs, hr⟩ := lreps_of (ks := ks) (us := us) (n := n) (by simpa using hl) fun j k hj => h (j + 1) k hj
    exact ⟨c :: rs, hc.rep, hr⟩
  | [], _ :: _, _, hl, _ => by simp at hl
  | _ :: _, [], _, hl, _ => by simp at hl
/-- A struct of integers, truth values and slices among the arguments. -/
theorem open_agg {r : Reach} {b0 n : Nat} {t : TypeId} {fs : Array Field} {v : Value} {d : DataW H} {p : List MemPlace} {ks : List Lk} (hu : P.underlying t = some (.struct fs)) (hk : kindsF P 6 t = some ks) (hfl : flatB P 6 t = true)
    (hd : ks.all (deepB P n) = true) (hc : P.cellsOf t = ks.length) (hv : Value.okWide P w r b0 t v) (hx : DataW.Trod enc P w base spare held t v d p) :
    ∃ us : List Value, v = .agg us.toArray ∧ ∃ rs, LReps P w (fun _ _ => False) ks us rs := by
  obtain ⟨cs, rfl, hsz⟩ := okWide_struct hu hv
  obtain ⟨fuel, hf⟩ := hx
  have hf : DataW.trod enc P w base spare held fuel t cs.toList = some (d, p) := hf
  obtain ⟨-, -, -, -, hlen, -, -⟩ := DataW.trod_struct hu hf
  exact ⟨cs.toList, by simp, lreps_of (n := n) (hlen.trans hc) fun j k hj => cells_deep fuel n 6 t ks _ _ hk hfl hf j k hj (List.all_eq_true.1 hd k (List.mem_of_getElem? hj))⟩
/-- A slice among the arguments. -/
theorem open_arr {r : Reach} {b0 n : Nat} {t e : TypeId} {v : Value} {d : DataW H} {p : List MemPlace} (hu : P.underlying t = some (.slice e)) (hd : deepB P n (.arr e) = true)
    (hv : Value.okWide P w r b0 t v) (hx : DataW.Trod enc P w base spare held t v d p) :
    ∃ c, LRep P w (fun _ _ => False) (.arr e) v c := by
  obtain ⟨A, m, c, rfl⟩ := okWide_slice hu hv
  obtain ⟨fuel, hf⟩ := hx
  have hf : DataW.trod enc P w base spare held fuel t [.slice A m c] = some (d, p) := hf
  obtain ⟨u, q, h1, h2⟩ := cells_deep fuel n 6 t [.arr e] _ _ (by unfold kindsF; rw [hu]) (by unfold flatB; rw [hu]) hf 0 (.arr e) rfl hd
  cases h1
  exact ⟨q, h2.rep⟩
end
theorem rep_struct {W : World} {O : Nat → Nat → Prop} {ss : List Sh0} {vs : List Value} {cs rs : List C} {us : List Value} {ks : List Lk} {old : Option Nat} (h : LReps Try.prog W O ks us rs) (hr : Reps Try.prog W O old ss vs cs) :
    Reps Try.prog W O old (.agg ks :: ss) (.agg us.toArray :: vs) (rs ++ cs) :=
  ⟨rs, _, rfl, ⟨us, rfl, h⟩, hr⟩
theorem rep_one {W : World} {O : Nat → Nat → Prop} {ss : List Sh0} {vs : List Value} {cs : List C} {t : TypeId} {v : Value} {c : C} {old : Option Nat} (h : LRep Try.prog W O (.arr t) v c) (hr : Reps Try.prog W O old ss vs cs) :
    Reps Try.prog W O old (.lf (.arr t) :: ss) (v :: vs) (c :: cs) :=
  ⟨[_], _, rfl, ⟨_, rfl, h⟩, hr⟩
end Go.Proofs.Ytbgofenplhdllaa
/- The call of HouseBlows. -/
namespace Go.Proofs.Ytbgofenplhdllaa
open Go.RowKit
theorem walk_HouseBlows (V0 V1 : Value) (a : Int) (W : World) (h0 : ∃ us : List Value, V0 = .agg us.toArray ∧ ∃ rs, LReps Try.prog W (fun _ _ => False) [.arr 4, .arr 35] us rs) (h1 : ∃ c, LRep Try.prog W (fun _ _ => False) (.arr 3) V1 c)
    (ha : -9223372036854775808 ≤ a ∧ a ≤ 9223372036854775807) :
    Calls Try.prog 5 #[V0, V1, .int .i64 a] W fun e w' => e = .returned (.bool true) ∧ Below W.heap.size W w' := by
  obtain ⟨us, rfl, rs, h0⟩ := h0
  obtain ⟨c, h1⟩ := h1
  exact law_walk blows_ok rfl (rep_struct h0 (rep_one h1 (rep_lf ha rfl)))
end Go.Proofs.Ytbgofenplhdllaa
namespace Go.Proofs.Ytbgofenplhdllaa.lawHouseBlows
open Go.ChangeShapes Go.WideShapes Go.ChangeAt Go.RowKit
set_option linter.unusedVariables false

set_option maxRecDepth 100000 in
theorem lifted (os : Os) (started : os.Started) (H : Type) (enc : TypeId × Value → H) :
    ReturnsInHanded {} Try.checked os 5 .any (Rows.houseBlowsSpec.pre6 enc Try.prog Try.f5 Rows.houseBlowsRow.domain false) (Rows.houseBlowsSpec.post enc Try.prog Try.f5 false true false false) := by
  refine returnsInHanded_of_change (C := Try.checked) own started (by kernel_rfl) Try.func5
    (ChangeSpec.witness6 (enc := enc) (C := Try.checked) false ⟨#[], #[.agg #[.slice none 0 0, .slice none 0 0], .slice none 0 0, .int .i64 0], []⟩ 8 (by kernel_rfl) (by kernel_rfl) (by kernel_rfl) (by kernel_rfl)) ?_
  intro W base args ds gs before hval0 hW hcnd _
  have hval : ∀ (j : Nat) t v, Try.f5.params[j]? = some t → args[j]? = some v → Value.okWide Try.prog W .any base t v := hval0
  have hW' := hW
  obtain ⟨p, q, hA0, hV, rfl, hfz, hnd⟩ := hW
  have hA : DataW.TrodAll enc Try.prog W 0 (fun _ => true) true Try.f5.params.toList args.toList ds p := hA0
  rw [Try.params5] at hA hval
  obtain ⟨v0, vs0, d0, ds0, p0, q0, hargs, rfl, rfl, h0, r0⟩ := trodAll_cons hA
  obtain ⟨v1, vs1, d1, ds1, p1, q1, rfl, rfl, rfl, h1, r1⟩ := trodAll_cons r0
  obtain ⟨v2, vs2, d2, ds2, p2, q2, rfl, rfl, rfl, h2, r2⟩ := trodAll_cons r1
  obtain ⟨rfl, rfl, rfl⟩ := trodAll_nil r2
  obtain rfl : args = #[v0, v1, v2] := by cases args; simp_all
  obtain ⟨rfl, rfl⟩ := trodVars_none hV
  have k0 := h0
  have lt0 : ∀ x ∈ p0, x.block < W.heap.size := by obtain ⟨m, hm⟩ := k0; exact DataW.trod_lt m _ _ _ hm
  obtain ⟨us0, e0, b0⟩ := open_agg (n := 4) (ks := [.arr 4, .arr 35]) Try.underlying25 (by kernel_rfl) (by kernel_rfl) (by kernel_rfl) (by kernel_rfl) (hval 0 25 v0 rfl rfl) h0
  have k1 := h1
  have lt1 : ∀ x ∈ p1, x.block < W.heap.size := by obtain ⟨m, hm⟩ := k1; exact DataW.trod_lt m _ _ _ hm
  have b1 := open_arr (n := 4) Try.underlying35 (by kernel_rfl) (hval 1 35 v1 rfl rfl) h1
  have k2 := h2
  have lt2 : ∀ x ∈ p2, x.block < W.heap.size := by obtain ⟨m, hm⟩ := k2; exact DataW.trod_lt m _ _ _ hm
  obtain ⟨a2, e2, -, -, wf2⟩ := open_int Try.underlying3 (hval 2 3 v2 rfl rfl) h2
  subst e2
  have b2 := wf_bd wf2
  clear hA0 hval0
  refine (walk_HouseBlows v0 v1 a2 W ⟨us0, e0, b0⟩ b1 b2).mono fun e W' ⟨he, bel⟩ => ?_
  subst he
  exact ⟨_, rfl, _, _, _, [], _, [], hW', trodAll_mk1 (shut_bool Try.underlying4 _), (trodAll_cons_mk (Below.trod laidOut (by kernel_rfl) (of_decide_eq_true (by kernel_rfl)) k0 bel lt0) (trodAll_cons_mk (Below.trod laidOut (by kernel_rfl) (of_decide_eq_true (by kernel_rfl)) k1 bel lt1) (trodAll_cons_mk (Below.trod laidOut (by kernel_rfl) (of_decide_eq_true (by kernel_rfl)) k2 bel lt2) trodAll_mk0))), rfl, bel.frame _, fun h => by cases h⟩

theorem over : Rows.houseBlowsRow.holds Try.pinned (OpenSpec.ofChange Rows.houseBlowsSpec) :=
  OpenClaim.holds_of_wide 5 Try.f5 rfl rfl rfl rfl rfl rfl rfl ⟨rfl, rfl, rfl, rfl, rfl⟩ rfl rfl rfl rfl rfl (by kernel_rfl) Try.func5 (by kernel_rfl)
    (of_decide_eq_true (by kernel_rfl)) (by unfold Func.isWrapper; first | (rw [if_pos (by decide +kernel)]; kernel_rfl) | (rw [if_neg (by decide +kernel)]; exact ⟨rfl, rfl⟩))
    (fun os started H enc _ => lifted os started H enc)

theorem proved : Rows.HouseBlowsSaid := over
#print axioms proved
end Go.Proofs.Ytbgofenplhdllaa.lawHouseBlows
