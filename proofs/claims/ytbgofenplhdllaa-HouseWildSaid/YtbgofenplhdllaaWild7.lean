/- The law HouseWild: for every input the call returns true, and each argument reads afterwards as it read before. The frame is printed by frame.py. -/
import Derived.Test.YtbgofenplhdllaaWild6
import Derived.Test.YtbgofenplhdllaaRows
import Derived.ShutString
import Derived.ChangeOld
/- House: the wild well: plain law. -/
namespace Go.Proofs.Ytbgofenplhdllaa
open Go.RowKit
set_option linter.unusedSimpArgs false
set_option linter.unusedVariables false

/-- The place of a state. -/
def ix (T v c : Nat) : Nat := v * (T + 1) + c
def wildM (L R T i : Nat) : List Int :=
  if i % (T + 1) = T then [(i : Int), (i : Int)] else [((ix T (min L (i / (T + 1) + R)) (i % (T + 1)) : Nat) : Int), ((ix T (min L (i / (T + 1) + R)) (i % (T + 1) + 1) : Nat) : Int)]
def wildB (L R T : Nat) : Blow := ⟨(List.range ((L + 1) * (T + 1))).map fun i => decide (i / (T + 1) = L), (List.range ((L + 1) * (T + 1))).map (wildM L R T)⟩
theorem ix_lt {L T v c : Nat} (hv : v ≤ L) (hc : c ≤ T) : ix T v c < (L + 1) * (T + 1) := by
  have h1 : v * (T + 1) ≤ L * (T + 1) := Nat.mul_le_mul_right _ hv
  have h2 : (L + 1) * (T + 1) = L * (T + 1) + (T + 1) := by rw [Nat.add_mul, Nat.one_mul]
  unfold ix; omega
theorem ix_div {T v c : Nat} (hc : c ≤ T) : ix T v c / (T + 1) = v := by
  unfold ix
  rw [Nat.mul_comm, Nat.mul_add_div (Nat.succ_pos _), Nat.div_eq_of_lt (by omega), Nat.add_zero]
theorem ix_mod {T v c : Nat} (hc : c ≤ T) : ix T v c % (T + 1) = c := by
  unfold ix
  rw [Nat.mul_comm, Nat.mul_add_mod, Nat.mod_eq_of_lt (by omega)]
theorem ix_of (T i : Nat) : ix T (i / (T + 1)) (i % (T + 1)) = i := by
  unfold ix
  rw [Nat.mul_comm]; exact Nat.div_add_mod i (T + 1)
theorem wild_len (L R T : Nat) : (wildB L R T).lost.length = (L + 1) * (T + 1) := by simp [wildB]
theorem wild_mlen (L R T : Nat) : (wildB L R T).moves.length = (L + 1) * (T + 1) := by simp [wildB]
theorem wild_lost {L R T i : Nat} (h : i < (L + 1) * (T + 1)) : (wildB L R T).lost.getD i false = decide (i / (T + 1) = L) := by
  simp [wildB, List.getD_eq_getElem?_getD, h]
theorem wild_moves {L R T i : Nat} (h : i < (L + 1) * (T + 1)) : (wildB L R T).moves.getD i [] = wildM L R T i := by
  simp [wildB, List.getD_eq_getElem?_getD, h]
theorem leads_two (S : List Bool) (a b : Nat) : leads S [(a : Int), (b : Int)] = (S.getD a false || S.getD b false) := by
  simp [leads]
theorem wild_le {L T i : Nat} (h : i < (L + 1) * (T + 1)) : i / (T + 1) ≤ L ∧ i % (T + 1) ≤ T := by
  have h1 : i / (T + 1) < L + 1 := Nat.div_lt_of_lt_mul (by rw [Nat.mul_comm]; exact h)
  have h2 : i % (T + 1) < T + 1 := Nat.mod_lt i (Nat.succ_pos T)
  omega
theorem wild_fwd {L R T : Nat} (hR : 1 ≤ R) : ∀ (m v c : Nat), (T - c) + (L - v) ≤ m → v ≤ L → c ≤ T → (safeF (wildB L R T)).getD (ix T v c) false = true → v + (T - c) * R < L := by
  intro m
  induction m with
  | zero =>
    intro v c hm hv hc h
    have h := safeF_iff.1 h
    rw [wild_lost (ix_lt hv hc), ix_div hc] at h
    have := h.2.2
    simp at this
    omega
  | succ m ih =>
    intro v c hm hv hc h
    have h := safeF_iff.1 h
    rw [wild_lost (ix_lt hv hc), ix_div hc, wild_moves (ix_lt hv hc)] at h
    obtain ⟨-, h1, h2⟩ := h
    have h2 : v ≠ L := by simpa using h2
    unfold wildM at h1
    rw [ix_mod hc, ix_div hc] at h1
    by_cases hcT : c = T
    · subst hcT; simp; omega
    · rw [if_neg hcT, leads_two, Bool.or_eq_true] at h1
      rcases h1 with h1 | h1
      · have := ih (min L (v + R)) c (by omega) (by omega) hc h1
        generalize (T - c) * R = X at *
        omega
      · have := ih (min L (v + R)) (c + 1) (by omega) (by omega) (by omega) h1
        have e : (T - c) * R = (T - (c + 1)) * R + R := by rw [show T - c = (T - (c + 1)) + 1 by omega, Nat.add_mul, Nat.one_mul]
        rw [e]
        generalize (T - (c + 1)) * R = X at *
        omega
theorem wild_bwd {L R T v c : Nat} (hv : v ≤ L) (hc : c ≤ T) (h : v + (T - c) * R < L) : (safeF (wildB L R T)).getD (ix T v c) false = true := by
  refine safeF_top (S := (List.range ((L + 1) * (T + 1))).map fun i => decide (i / (T + 1) + (T - i % (T + 1)) * R < L)) (fun i hi => ?_) _ ?_
  · rw [wild_len]
    rcases Nat.lt_or_ge i ((L + 1) * (T + 1)) with hlt | hge
    · obtain ⟨l1, l2⟩ := wild_le hlt
      have hi' : i / (T + 1) + (T - i % (T + 1)) * R < L := by simpa [List.getD_eq_getElem?_getD, hlt] using hi
      refine ⟨hlt, ?_, by rw [wild_lost hlt]; simp; omega⟩
      rw [wild_moves hlt]
      unfold wildM
      generalize hvv : i / (T + 1) = v at *
      generalize hcc : i % (T + 1) = c at *
      by_cases hcT : c = T
      · rw [if_pos hcT, leads_two, hi]; rfl
      · rw [if_neg hcT, leads_two]
        have e : (T - c) * R = (T - (c + 1)) * R + R := by rw [show T - c = (T - (c + 1)) + 1 by omega, Nat.add_mul, Nat.one_mul]
        rw [e] at hi'
        have hm : min L (v + R) = v + R := by omega
        rw [hm]
        have hlt2 : ix T (v + R) (c + 1) < (L + 1) * (T + 1) := ix_lt (by omega) (by omega)
        rw [Bool.or_eq_true]
        right
        simp only [List.getD_eq_getElem?_getD, List.getElem?_map, List.getElem?_range, hlt2, if_true, Option.map_some, Option.getD_some]
        rw [ix_div (by omega), ix_mod (by omega)]
        generalize (T - (c + 1)) * R = X at *
        simp; omega
    · rw [List.getD_eq_getElem?_getD, List.getElem?_eq_none (by simpa using hge)] at hi
      cases hi
  · have hlt := ix_lt (L := L) hv hc
    simp only [List.getD_eq_getElem?_getD, List.getElem?_map, List.getElem?_range, hlt, if_true, Option.map_some, Option.getD_some]
    rw [ix_div hc, ix_mod hc]
    simpa using h
theorem wild_safe {L R T v c : Nat} (hR : 1 ≤ R) (hv : v ≤ L) (hc : c ≤ T) : (safeF (wildB L R T)).getD (ix T v c) false = decide (v + (T - c) * R < L) := by
  by_cases h : v + (T - c) * R < L
  · rw [decide_eq_true h]; exact wild_bwd hv hc h
  · rw [decide_eq_false h]
    cases hb : (safeF (wildB L R T)).getD (ix T v c) false with
    | false => rfl
    | true => exact absurd (wild_fwd hR _ v c (Nat.le_refl _) hv hc hb) h
end Go.Proofs.Ytbgofenplhdllaa
/- House: the way from a state: plain law. -/
namespace Go.Proofs.Ytbgofenplhdllaa
open Go.RowKit
set_option linter.unusedSimpArgs false
set_option linter.unusedVariables false

/-- The first move that is safe. -/
def nextW (S : List Bool) (l : List Int) : Int := (l.find? fun k => S.getD k.toNat false).getD 0
def wayGo (M : List (List Int)) (S : List Bool) : Nat → List Int → Int → List Int
  | 0, out, s => out
  | n + 1, out, s => if out.contains s = true then out ++ [s] else wayGo M S n (out ++ [s]) (nextW S (M.getD s.toNat []))
def wayV (b : Blow) (s : Int) : List Int :=
  if 0 ≤ s ∧ s < (safeV b).length ∧ (safeV b).getD s.toNat false = true then wayGo b.moves (safeV b) (b.lost.length + 1) [] s else []
theorem wayGo_met {M : List (List Int)} {S : List Bool} {n : Nat} {out : List Int} {s : Int} (h : out.contains s = true) : wayGo M S (n + 1) out s = out ++ [s] := by rw [wayGo, if_pos h]
theorem wayGo_on {M : List (List Int)} {S : List Bool} {n : Nat} {out : List Int} {s : Int} (h : out.contains s = false) : wayGo M S (n + 1) out s = wayGo M S n (out ++ [s]) (nextW S (M.getD s.toNat [])) := by rw [wayGo, if_neg (by rw [h]; simp)]
theorem nodup_le : ∀ (n : Nat) (l : List Int), l.Nodup → (∀ x ∈ l, 0 ≤ x ∧ x < n) → l.length ≤ n
  | 0, l, _, h => by
    cases l with
    | nil => exact Nat.le_refl _
    | cons x l => have := h x (List.mem_cons_self ..); omega
  | n + 1, l, hn, h => by
    have h1 := nodup_le n (l.filter fun x => decide (x ≠ (n : Int))) (hn.sublist List.filter_sublist) fun x hx => by
      simp at hx
      have := h x hx.1
      omega
    have h2 : l.length = (l.filter fun x => decide (x ≠ (n : Int))).length + (l.filter fun x => !decide (x ≠ (n : Int))).length := by
      rw [← List.countP_eq_length_filter, ← List.countP_eq_length_filter]
      refine (List.length_eq_countP_add_countP (fun x : Int => decide (x ≠ (n : Int)))).trans ?_
      congr 1
      exact List.countP_congr fun x _ => by simp
    have h3 : (l.filter fun x => !decide (x ≠ (n : Int))).length ≤ 1 := by
      have hc := List.nodup_iff_count.1 hn (n : Int)
      rw [← List.countP_eq_length_filter]
      have : l.countP (fun x => !decide (x ≠ (n : Int))) = l.count (n : Int) := by
        unfold List.count
        exact List.countP_congr fun x _ => by simp
      omega
    omega
/-- What a way has when a state comes. -/
structure WayAt (b : Blow) (i : Int) (out : List Int) (s : Int) : Prop where
  nodup : out.Nodup
  inn : ∀ x ∈ out, 0 ≤ x ∧ x < b.lost.length ∧ (safeV b).getD x.toNat false = true
  s0 : 0 ≤ s ∧ s < b.lost.length ∧ (safeV b).getD s.toNat false = true
  chain : ∀ k : Nat, k < out.length → (k = 0 → out.getD 0 0 = i) ∧ (0 < k → out.getD k 0 ∈ b.moves.getD (out.getD (k - 1) 0).toNat [])
  last : (out = [] → s = i) ∧ (0 < out.length → s ∈ b.moves.getD (out.getD (out.length - 1) 0).toNat [])
theorem WayAt.len {b : Blow} {i s : Int} {out : List Int} (h : WayAt b i out s) : out.length ≤ b.lost.length := nodup_le _ _ h.nodup fun x hx => ⟨(h.inn x hx).1, (h.inn x hx).2.1⟩
theorem nextW_spec {b : Blow} (hc : checkV b = 0) {s : Int} (h0 : 0 ≤ s) (hs : (safeV b).getD s.toNat false = true) : nextW (safeV b) (b.moves.getD s.toNat []) ∈ b.moves.getD s.toNat [] ∧ 0 ≤ nextW (safeV b) (b.moves.getD s.toNat []) ∧ nextW (safeV b) (b.moves.getD s.toNat []) < b.lost.length ∧ (safeV b).getD (nextW (safeV b) (b.moves.getD s.toNat [])).toNat false = true := by
  rw [safeV_ok hc] at *
  obtain ⟨h1, h2, h3⟩ := safeF_iff.1 hs
  obtain ⟨k, hk, hk2⟩ := List.any_eq_true.1 h2
  have hat := check_at hc h1
  cases hf : (b.moves.getD s.toNat []).find? (fun k => (safeF b).getD k.toNat false) with
  | none => rw [List.find?_eq_none] at hf; exact absurd hk2 (hf k hk)
  | some x =>
    have hm := List.mem_of_find?_eq_some hf
    have hp := List.find?_some hf
    have e : nextW (safeF b) (b.moves.getD s.toNat []) = x := by unfold nextW; rw [hf]; rfl
    rw [e]
    have := hat.2.2 x hm
    exact ⟨hm, this.1, this.2, hp⟩
theorem getD_app {α : Type} {l : List α} {x d : α} {k : Nat} : (l ++ [x]).getD k d = if k < l.length then l.getD k d else if k = l.length then x else d := by
  simp only [List.getD_eq_getElem?_getD]
  split
  · rename_i h; rw [List.getElem?_append_left h]
  · rename_i h
    rw [List.getElem?_append_right (by omega)]
    split
    · rename_i h2; subst h2; simp
    · rename_i h2; rw [List.getElem?_eq_none (by simp; omega)]; rfl
theorem WayAt.step {b : Blow} (hc : checkV b = 0) {i s : Int} {out : List Int} (h : WayAt b i out s) (hn : out.contains s = false) : WayAt b i (out ++ [s]) (nextW (safeV b) (b.moves.getD s.toNat [])) := by
  obtain ⟨n1, n2, n3, n4⟩ := nextW_spec hc h.s0.1 h.s0.2.2
  refine ⟨List.nodup_append.2 ⟨h.nodup, by simp, fun a ha c hc' e => ?_⟩, fun x hx => ?_, ⟨n2, n3, n4⟩, fun k hk => ?_, fun h' => by simp at h', fun _ => ?_⟩
  · simp at hc'; subst hc'; subst e
    rw [List.contains_eq_mem, decide_eq_false_iff_not] at hn
    exact hn ha
  · rcases List.mem_append.1 hx with hx | hx
    · exact h.inn x hx
    · simp at hx; subst hx; exact h.s0
  · simp only [List.length_append, List.length_cons, List.length_nil] at hk
    refine ⟨fun hk0 => ?_, fun hk0 => ?_⟩
    · subst hk0
      rw [getD_app]
      split
      · rename_i hl; exact (h.chain 0 hl).1 rfl
      · rename_i hl
        have : out = [] := List.length_eq_zero_iff.1 (by omega)
        rw [if_pos (by omega)]; exact h.last.1 this
    · rw [getD_app, getD_app]
      rw [if_pos (show k - 1 < out.length by omega)]
      split
      · rename_i hl; exact (h.chain k hl).2 hk0
      · rename_i hl
        rw [if_pos (by omega), show k = out.length by omega]
        exact h.last.2 (by omega)
  · simp only [List.length_append, List.length_cons, List.length_nil, Nat.zero_add, Nat.add_sub_cancel]
    rw [getD_app, if_neg (by omega), if_pos rfl]
    exact n1
/-- What a way has at its end. -/
structure WayEnd (b : Blow) (i : Int) (w : List Int) : Prop where
  len : 1 < w.length
  inn : ∀ x ∈ w, 0 ≤ x ∧ x < b.lost.length ∧ b.lost.getD x.toNat false = false
  chain : ∀ k : Nat, k < w.length → (k = 0 → w.getD 0 0 = i) ∧ (0 < k → w.getD k 0 ∈ b.moves.getD (w.getD (k - 1) 0).toNat [])
  last : w.getD (w.length - 1) 0 ∈ w.take (w.length - 1)
theorem wayGo_end {b : Blow} (hc : checkV b = 0) {i : Int} : ∀ (n : Nat) (out : List Int) (s : Int), n + out.length = b.lost.length + 1 → WayAt b i out s → WayEnd b i (wayGo b.moves (safeV b) n out s)
  | 0, out, s, hn, h => by have := h.len; omega
  | n + 1, out, s, hn, h => by
    by_cases hm : out.contains s = true
    · rw [wayGo_met hm]
      have hmem : s ∈ out := by rw [List.contains_eq_mem] at hm; exact of_decide_eq_true hm
      have hpos : 0 < out.length := List.length_pos_of_mem hmem
      have hl : ∀ x : Int, (safeV b).getD x.toNat false = true → b.lost.getD x.toNat false = false := fun x hx => by rw [safeV_ok hc] at hx; exact (safeF_iff.1 hx).2.2
      refine ⟨by simp; omega, fun x hx => ?_, fun k hk => ?_, ?_⟩
      · rcases List.mem_append.1 hx with hx | hx
        · have := h.inn x hx; exact ⟨this.1, this.2.1, hl x this.2.2⟩
        · simp at hx; subst hx; exact ⟨h.s0.1, h.s0.2.1, hl _ h.s0.2.2⟩
      · simp only [List.length_append, List.length_cons, List.length_nil] at hk
        refine ⟨fun hk0 => ?_, fun hk0 => ?_⟩
        · rw [getD_app, if_pos hpos]; exact (h.chain 0 hpos).1 rfl
        · rw [getD_app, getD_app, if_pos (show k - 1 < out.length by omega)]
          split
          · rename_i hl; exact (h.chain k hl).2 hk0
          · rename_i hl
            rw [if_pos (by omega), show k = out.length by omega]
            exact h.last.2 hpos
      · simp only [List.length_append, List.length_cons, List.length_nil, Nat.zero_add, Nat.add_sub_cancel, List.take_left]
        rw [getD_app, if_neg (by omega), if_pos rfl]
        exact hmem
    · have hm : out.contains s = false := by simpa using hm
      rw [wayGo_on hm]
      exact wayGo_end hc n _ _ (by simp; omega) (h.step hc hm)
theorem WayAt.start {b : Blow} {i : Int} (h : 0 ≤ i ∧ i < b.lost.length ∧ (safeV b).getD i.toNat false = true) : WayAt b i [] i :=
  ⟨List.nodup_nil, fun x hx => (by cases hx), h, fun k hk => (by simp at hk), fun _ => rfl, fun h => (by simp at h)⟩
theorem safeV_lt {b : Blow} {i : Nat} (h : (safeV b).getD i false = true) : checkV b = 0 ∧ i < b.lost.length := by
  by_cases hc : checkV b = 0
  · rw [safeV_ok hc] at h; exact ⟨hc, (safeF_iff.1 h).1⟩
  · rw [safeV_no hc] at h; cases h
theorem way_end {b : Blow} {i : Int} (h0 : 0 ≤ i) (h : (safeV b).getD i.toNat false = true) : WayEnd b i (wayV b i) := by
  obtain ⟨hc, hl⟩ := safeV_lt h
  have hlen : (safeV b).length = b.lost.length := by rw [safeV_ok hc, safeF_len]
  unfold wayV
  rw [if_pos ⟨h0, by omega, h⟩]
  exact wayGo_end hc _ _ _ (by simp) (.start ⟨h0, by omega, h⟩)
theorem way_none {b : Blow} {i : Int} (h : ¬ ((safeV b).getD i.toNat false = true ∧ 0 ≤ i)) : wayV b i = [] := by
  unfold wayV
  rw [if_neg fun hc => h ⟨hc.2.2, hc.1⟩]
end Go.Proofs.Ytbgofenplhdllaa
/- House: contracts, more of them: the wild well, ways, comparisons. -/
namespace Go.Proofs.Ytbgofenplhdllaa
set_option linter.unusedVariables false

def wildV (l r t : Int) : Blow × Int :=
  if 1 ≤ l ∧ l ≤ 15 ∧ 1 ≤ r ∧ r ≤ 15 ∧ 0 ≤ t ∧ t ≤ 3 then (if 64 < (l + 1) * (t + 1) then (⟨[], []⟩, 8) else (wildB l.toNat r.toNat t.toNat, 0)) else (⟨[], []⟩, 2)
def ctWild : Ct := ⟨[.lf .int, .lf .int, .lf .int], [.agg [.vec 4, .vec 35], .lf .int], fun _ => True, fun cs rs => blowOf rs = (wildV (n_ cs 0) (n_ cs 1) (n_ cs 2)).1 ∧ at_ rs 2 = .i (wildV (n_ cs 0) (n_ cs 1) (n_ cs 2)).2, false⟩
def ctSameLists : Ct := ctF [.lf (.arr 35), .lf (.arr 35)] [.lf .bool] (fun _ => True) (fun cs => [.b (intss (at_ cs 0).rows == intss (at_ cs 1).rows)])
def ctSameInts : Ct := ctF [intsSh, intsSh] [.lf .bool] (fun _ => True) (fun cs => [.b (ints (at_ cs 0).rows == ints (at_ cs 1).rows)])
def ctHas : Ct := ctF [intsSh, .lf .int] [.lf .bool] (fun _ => True) (fun cs => [.b ((ints (at_ cs 0).rows).contains (n_ cs 1))])
def ctWay : Ct := ⟨[blowSh, .lf .int], [.lf (.vec 3)], fun _ => True, fun cs rs => ∃ v, rs = [.s v (ofInts (wayV (blowOf cs) (n_ cs 2)))], false⟩
/-- A blow-out that is valid, of 1 to 12 states. -/
def ctBlowL : Ct := ⟨[intsSh], [.agg [.vec 4, .vec 35]], fun _ => True, fun _ rs => checkV (blowOf rs) = 0 ∧ (blowOf rs).lost.length ≤ 12, false⟩
def tab2 : Tab where
  ct := fun f => match f with
    | 9 | 10 => some ctWild
    | 11 => some ctSameLists
    | 20 => some ctSameInts
    | 24 => some ctHas
    | 21 | 22 => some ctWay
    | 23 => some ctBlowL
    | f => tab.ct f
  inl := tab.inl
  sel := tab.sel
theorem up_ok {f : Nat} (h : tab.ok f) (he : tab2.ct f = tab.ct f := by rfl) : tab2.ok f :=
  ⟨h.1, fun ct hc => h.2.1 ct (he ▸ hc), h.2.2.1, h.2.2.2⟩
end Go.Proofs.Ytbgofenplhdllaa
/- What is to be shown of each function, as the executor has it. Printed by trees.py. -/
namespace Go.Proofs.Ytbgofenplhdllaa
noncomputable def flwild : List (Nat × Func) := [(33, Try.f33)]
theorem fxwild : ∀ p ∈ flwild, FnOK p := fns_cons ⟨Try.func33, ⟨_, Try.func33, by decide, rfl⟩⟩ (fns_nil)
noncomputable def cwild : Cx := tab2.only [] (fun r => match r with
  | 8 => [.blk 3]
  | 11 => [.blk 3]
  | _ => []) flwild 1 [] (fun _ => none)
def twild : Tree :=
  (.dfn .nil (.dfn .nil (.split (.cmp .lt (.min (.var 0) (.var 1)) (.lit 1)) (.dfn .nil (.dfn .nil (.ret [(.cnt 4 (.var 5)), (.cnt 35 (.var 6)), (.int (.lit 2))]))) (.split (.cmp .lt (.lit 15) (.max (.var 0) (.var 1))) (.dfn .nil (.dfn .nil (.ret [(.cnt 4 (.var 5)), (.cnt 35 (.var 6)), (.int (.lit 2))]))) (.split (.cmp .lt (.var 2) (.lit 0)) (.dfn .nil (.dfn .nil (.ret [(.cnt 4 (.var 5)), (.cnt 35 (.var 6)), (.int (.lit 2))]))) (.split (.cmp .lt (.lit 3) (.var 2)) (.dfn .nil (.dfn .nil (.ret [(.cnt 4 (.var 5)), (.cnt 35 (.var 6)), (.int (.lit 2))]))) (.ob (.and (.cmp .le (.lit (-9223372036854775808)) (.add (.var 0) (.lit 1))) (.cmp .le (.add (.var 0) (.lit 1)) (.lit 9223372036854775807))) (.ob (.and (.cmp .le (.lit (-9223372036854775808)) (.mul (.add (.var 0) (.lit 1)) (.add (.var 2) (.lit 1)))) (.cmp .le (.mul (.add (.var 0) (.lit 1)) (.add (.var 2) (.lit 1))) (.lit 9223372036854775807))) (.split (.cmp .lt (.lit 64) (.mul (.add (.var 0) (.lit 1)) (.add (.var 2) (.lit 1)))) (.dfn .nil (.dfn .nil (.ret [(.cnt 4 (.var 5)), (.cnt 35 (.var 6)), (.int (.lit 8))]))) (.arr [] (.dfn .nil (.dfn .nil (.ob (.and (.cmp .le (.lit (-9223372036854775808)) (.add (.var 0) (.lit 1))) (.cmp .le (.add (.var 0) (.lit 1)) (.lit 9223372036854775807))) (.loop [.int, (.vec 4), (.vec 35)] [(.int (.lit 0)), (.cnt 4 (.var 6)), (.cnt 35 (.var 7))] (.split (.cmp .lt (.var 8) (.add (.var 0) (.lit 1))) (.loop [.int, (.vec 4), (.vec 35)] [(.int (.lit 0)), (.cnt 4 (.var 9)), (.cnt 35 (.var 10))] (.split (.cmp .lt (.var 11) (.add (.var 2) (.lit 1))) (.ob (.and (.cmp .le (.lit (-9223372036854775808)) (.add (.var 8) (.var 1))) (.cmp .le (.add (.var 8) (.var 1)) (.lit 9223372036854775807))) (.ob (.and (.cmp .le (.lit (-9223372036854775808)) (.mul (.min (.var 0) (.add (.var 8) (.var 1))) (.add (.var 2) (.lit 1)))) (.cmp .le (.mul (.min (.var 0) (.add (.var 8) (.var 1))) (.add (.var 2) (.lit 1))) (.lit 9223372036854775807))) (.ob (.and (.cmp .le (.lit (-9223372036854775808)) (.add (.mul (.min (.var 0) (.add (.var 8) (.var 1))) (.add (.var 2) (.lit 1))) (.var 11))) (.cmp .le (.add (.mul (.min (.var 0) (.add (.var 8) (.var 1))) (.add (.var 2) (.lit 1))) (.var 11)) (.lit 9223372036854775807))) (.ob (.and (.cmp .le (.lit (-9223372036854775808)) (.add (.var 8) (.var 1))) (.cmp .le (.add (.var 8) (.var 1)) (.lit 9223372036854775807))) (.ob (.and (.cmp .le (.lit (-9223372036854775808)) (.mul (.min (.var 0) (.add (.var 8) (.var 1))) (.add (.var 2) (.lit 1)))) (.cmp .le (.mul (.min (.var 0) (.add (.var 8) (.var 1))) (.add (.var 2) (.lit 1))) (.lit 9223372036854775807))) (.ob (.and (.cmp .le (.lit (-9223372036854775808)) (.add (.mul (.min (.var 0) (.add (.var 8) (.var 1))) (.add (.var 2) (.lit 1))) (.add (.var 11) (.lit 1)))) (.cmp .le (.add (.mul (.min (.var 0) (.add (.var 8) (.var 1))) (.add (.var 2) (.lit 1))) (.add (.var 11) (.lit 1))) (.lit 9223372036854775807))) (.split (.cmp .eq (.var 11) (.var 2)) (.ob (.and (.cmp .le (.lit (-9223372036854775808)) (.mul (.min (.var 0) (.var 8)) (.add (.var 2) (.lit 1)))) (.cmp .le (.mul (.min (.var 0) (.var 8)) (.add (.var 2) (.lit 1))) (.lit 9223372036854775807))) (.ob (.and (.cmp .le (.lit (-9223372036854775808)) (.add (.mul (.min (.var 0) (.var 8)) (.add (.var 2) (.lit 1))) (.var 11))) (.cmp .le (.add (.mul (.min (.var 0) (.var 8)) (.add (.var 2) (.lit 1))) (.var 11)) (.lit 9223372036854775807))) (.ob (.and (.cmp .le (.lit (-9223372036854775808)) (.mul (.min (.var 0) (.var 8)) (.add (.var 2) (.lit 1)))) (.cmp .le (.mul (.min (.var 0) (.var 8)) (.add (.var 2) (.lit 1))) (.lit 9223372036854775807))) (.ob (.and (.cmp .le (.lit (-9223372036854775808)) (.add (.mul (.min (.var 0) (.var 8)) (.add (.var 2) (.lit 1))) (.var 11))) (.cmp .le (.add (.mul (.min (.var 0) (.var 8)) (.add (.var 2) (.lit 1))) (.var 11)) (.lit 9223372036854775807))) (.arr [[(.bool (.cmp .eq (.var 8) (.var 0)))]] (.ob (.cmp .le (.mul (.add (.len (.var 12)) (.len (.var 14))) (.lit 1)) (.lit 140737488355328)) (.cat (.var 12) (.var 14) (.ob (.and (.cmp .le (.lit (-9223372036854775808)) (.add (.mul (.min (.var 0) (.var 8)) (.add (.var 2) (.lit 1))) (.var 11))) (.cmp .le (.add (.mul (.min (.var 0) (.var 8)) (.add (.var 2) (.lit 1))) (.var 11)) (.lit 9223372036854775807))) (.ob (.and (.cmp .le (.lit (-9223372036854775808)) (.add (.mul (.min (.var 0) (.var 8)) (.add (.var 2) (.lit 1))) (.var 11))) (.cmp .le (.add (.mul (.min (.var 0) (.var 8)) (.add (.var 2) (.lit 1))) (.var 11)) (.lit 9223372036854775807))) (.arr [[(.int (.add (.mul (.min (.var 0) (.var 8)) (.add (.var 2) (.lit 1))) (.var 11)))], [(.int (.add (.mul (.min (.var 0) (.var 8)) (.add (.var 2) (.lit 1))) (.var 11)))]] (.dfn (.var 16) (.arr [[(.arr 3 (.var 17))]] (.ob (.cmp .le (.mul (.add (.len (.var 13)) (.len (.var 18))) (.lit 24)) (.lit 140737488355328)) (.cat (.var 13) (.var 18) (.back 1 [(.int (.add (.var 11) (.lit 1))), (.cnt 4 (.var 15)), (.cnt 35 (.var 19))]))))))))))))))) (.arr [[(.bool (.cmp .eq (.var 8) (.var 0)))]] (.ob (.cmp .le (.mul (.add (.len (.var 12)) (.len (.var 14))) (.lit 1)) (.lit 140737488355328)) (.cat (.var 12) (.var 14) (.ob (.and (.cmp .le (.lit (-9223372036854775808)) (.add (.mul (.min (.var 0) (.add (.var 8) (.var 1))) (.add (.var 2) (.lit 1))) (.var 11))) (.cmp .le (.add (.mul (.min (.var 0) (.add (.var 8) (.var 1))) (.add (.var 2) (.lit 1))) (.var 11)) (.lit 9223372036854775807))) (.ob (.and (.cmp .le (.lit (-9223372036854775808)) (.add (.mul (.min (.var 0) (.add (.var 8) (.var 1))) (.add (.var 2) (.lit 1))) (.add (.var 11) (.lit 1)))) (.cmp .le (.add (.mul (.min (.var 0) (.add (.var 8) (.var 1))) (.add (.var 2) (.lit 1))) (.add (.var 11) (.lit 1))) (.lit 9223372036854775807))) (.arr [[(.int (.add (.mul (.min (.var 0) (.add (.var 8) (.var 1))) (.add (.var 2) (.lit 1))) (.var 11)))], [(.int (.add (.mul (.min (.var 0) (.add (.var 8) (.var 1))) (.add (.var 2) (.lit 1))) (.add (.var 11) (.lit 1))))]] (.dfn (.var 16) (.arr [[(.arr 3 (.var 17))]] (.ob (.cmp .le (.mul (.add (.len (.var 13)) (.len (.var 18))) (.lit 24)) (.lit 140737488355328)) (.cat (.var 13) (.var 18) (.back 1 [(.int (.add (.var 11) (.lit 1))), (.cnt 4 (.var 15)), (.cnt 35 (.var 19))])))))))))))))))))) (.ob (.and (.cmp .le (.lit (-9223372036854775808)) (.add (.var 8) (.lit 1))) (.cmp .le (.add (.var 8) (.lit 1)) (.lit 9223372036854775807))) (.ob (.and (.cmp .le (.lit (-9223372036854775808)) (.add (.var 8) (.lit 1))) (.cmp .le (.add (.var 8) (.lit 1)) (.lit 9223372036854775807))) (.back 0 [(.int (.add (.var 8) (.lit 1))), (.cnt 4 (.var 12)), (.cnt 35 (.var 13))]))))) (.ret [(.cnt 4 (.var 9)), (.cnt 35 (.var 10)), (.int (.lit 0))]))))))))))))))))
noncomputable def crwild : Cx := tab2.only [] (fun r => match r with
  | 7 => [.blk 1]
  | 10 => [.blk 1]
  | 90015 => [.vec 13]
  | 50016 => [.blk 1, .vec 11, .vec 12, .vec 14]
  | _ => []) [] 0 [] (fun r => match r with
  | 90015 => some ([(13, true, [.vec 3])], [])
  | 50016 => some ([(13, true, [.arr 3])], [.blk 1])
  | _ => none)
def trwild : Tree :=
  (.dfn .nil (.dfn .nil (.split (.cmp .lt (.var 0) (.lit 1)) (.dfn .nil (.dfn .nil (.ret [(.cnt 4 (.var 5)), (.cnt 35 (.var 6)), (.int (.lit 2))]))) (.split (.cmp .lt (.lit 15) (.var 0)) (.dfn .nil (.dfn .nil (.ret [(.cnt 4 (.var 5)), (.cnt 35 (.var 6)), (.int (.lit 2))]))) (.split (.cmp .lt (.var 1) (.lit 1)) (.dfn .nil (.dfn .nil (.ret [(.cnt 4 (.var 5)), (.cnt 35 (.var 6)), (.int (.lit 2))]))) (.split (.cmp .lt (.lit 15) (.var 1)) (.dfn .nil (.dfn .nil (.ret [(.cnt 4 (.var 5)), (.cnt 35 (.var 6)), (.int (.lit 2))]))) (.split (.cmp .lt (.var 2) (.lit 0)) (.dfn .nil (.dfn .nil (.ret [(.cnt 4 (.var 5)), (.cnt 35 (.var 6)), (.int (.lit 2))]))) (.split (.cmp .lt (.lit 3) (.var 2)) (.dfn .nil (.dfn .nil (.ret [(.cnt 4 (.var 5)), (.cnt 35 (.var 6)), (.int (.lit 2))]))) (.dfn .nil (.dfn .nil (.loop [.int, (.vec 4), (.vec 35)] [(.int (.lit 0)), (.cnt 4 (.var 5)), (.cnt 35 (.var 6))] (.split (.cmp .le (.var 7) (.var 0)) (.loop [.int, (.vec 4), (.vec 35)] [(.int (.lit 0)), (.cnt 4 (.var 8)), (.cnt 35 (.var 9))] (.split (.cmp .le (.var 10) (.var 2)) (.ob (.and (.cmp .le (.lit (-9223372036854775808)) (.mul (.var 7) (.add (.var 2) (.lit 1)))) (.cmp .le (.mul (.var 7) (.add (.var 2) (.lit 1))) (.lit 9223372036854775807))) (.ob (.and (.cmp .le (.lit (-9223372036854775808)) (.add (.mul (.var 7) (.add (.var 2) (.lit 1))) (.var 10))) (.cmp .le (.add (.mul (.var 7) (.add (.var 2) (.lit 1))) (.var 10)) (.lit 9223372036854775807))) (.ob (.and (.cmp .le (.lit (-9223372036854775808)) (.mul (.min (.var 0) (.add (.var 7) (.var 1))) (.add (.var 2) (.lit 1)))) (.cmp .le (.mul (.min (.var 0) (.add (.var 7) (.var 1))) (.add (.var 2) (.lit 1))) (.lit 9223372036854775807))) (.ob (.and (.cmp .le (.lit (-9223372036854775808)) (.add (.mul (.min (.var 0) (.add (.var 7) (.var 1))) (.add (.var 2) (.lit 1))) (.var 10))) (.cmp .le (.add (.mul (.min (.var 0) (.add (.var 7) (.var 1))) (.add (.var 2) (.lit 1))) (.var 10)) (.lit 9223372036854775807))) (.ob (.and (.cmp .le (.lit (-9223372036854775808)) (.add (.mul (.min (.var 0) (.add (.var 7) (.var 1))) (.add (.var 2) (.lit 1))) (.var 10))) (.cmp .le (.add (.mul (.min (.var 0) (.add (.var 7) (.var 1))) (.add (.var 2) (.lit 1))) (.var 10)) (.lit 9223372036854775807))) (.ob (.and (.cmp .le (.lit (-9223372036854775808)) (.add (.add (.mul (.min (.var 0) (.add (.var 7) (.var 1))) (.add (.var 2) (.lit 1))) (.var 10)) (.lit 1))) (.cmp .le (.add (.add (.mul (.min (.var 0) (.add (.var 7) (.var 1))) (.add (.var 2) (.lit 1))) (.var 10)) (.lit 1)) (.lit 9223372036854775807))) (.ob (.and (.cmp .le (.lit (-9223372036854775808)) (.add (.mul (.min (.var 0) (.add (.var 7) (.var 1))) (.add (.var 2) (.lit 1))) (.var 10))) (.cmp .le (.add (.mul (.min (.var 0) (.add (.var 7) (.var 1))) (.add (.var 2) (.lit 1))) (.var 10)) (.lit 9223372036854775807))) (.ob (.and (.cmp .le (.lit (-9223372036854775808)) (.add (.add (.mul (.min (.var 0) (.add (.var 7) (.var 1))) (.add (.var 2) (.lit 1))) (.var 10)) (.lit 1))) (.cmp .le (.add (.add (.mul (.min (.var 0) (.add (.var 7) (.var 1))) (.add (.var 2) (.lit 1))) (.var 10)) (.lit 1)) (.lit 9223372036854775807))) (.arr [[(.int (.add (.mul (.min (.var 0) (.add (.var 7) (.var 1))) (.add (.var 2) (.lit 1))) (.var 10)))], [(.int (.add (.add (.mul (.min (.var 0) (.add (.var 7) (.var 1))) (.add (.var 2) (.lit 1))) (.var 10)) (.lit 1)))]] (.join [(.vec 3)] (.split (.cmp .eq (.var 10) (.var 2)) (.ob (.and (.cmp .le (.lit (-9223372036854775808)) (.add (.mul (.var 7) (.add (.var 2) (.lit 1))) (.var 10))) (.cmp .le (.add (.mul (.var 7) (.add (.var 2) (.lit 1))) (.var 10)) (.lit 9223372036854775807))) (.ob (.and (.cmp .le (.lit (-9223372036854775808)) (.add (.mul (.var 7) (.add (.var 2) (.lit 1))) (.var 10))) (.cmp .le (.add (.mul (.var 7) (.add (.var 2) (.lit 1))) (.var 10)) (.lit 9223372036854775807))) (.arr [[(.int (.add (.mul (.var 7) (.add (.var 2) (.lit 1))) (.var 10)))], [(.int (.add (.mul (.var 7) (.add (.var 2) (.lit 1))) (.var 10)))]] (.back 2 [(.cnt 3 (.var 14))])))) (.back 2 [(.cnt 3 (.var 13))])) (.join [(.arr 3), (.vec 4), (.vec 35)] (.both (.arr [[(.bool (.cmp .eq (.var 7) (.var 0)))]] (.both (.ob (.cmp .le (.mul (.add (.len (.var 11)) (.len (.var 15))) (.lit 1)) (.lit 140737488355328)) (.cat (.var 11) (.var 15) (.dfn (.var 14) (.arr [[(.arr 3 (.var 17))]] (.ob (.cmp .le (.mul (.add (.len (.var 12)) (.len (.var 18))) (.lit 24)) (.lit 140737488355328)) (.cat (.var 12) (.var 18) (.back 3 [(.arr 3 (.var 17)), (.cnt 4 (.var 16)), (.cnt 35 (.var 19))]))))))) (.dfn (.var 14) (.arr [[(.arr 3 (.var 16))]] (.ob (.cmp .le (.mul (.add (.len (.var 11)) (.len (.var 15))) (.lit 1)) (.lit 140737488355328)) (.cat (.var 11) (.var 15) (.ob (.cmp .le (.mul (.add (.len (.var 12)) (.len (.var 17))) (.lit 24)) (.lit 140737488355328)) (.cat (.var 12) (.var 17) (.back 3 [(.arr 3 (.var 16)), (.cnt 4 (.var 18)), (.cnt 35 (.var 19))]))))))))) (.dfn (.var 14) (.arr [[(.arr 3 (.var 15))]] (.arr [[(.bool (.cmp .eq (.var 7) (.var 0)))]] (.ob (.cmp .le (.mul (.add (.len (.var 11)) (.len (.var 17))) (.lit 1)) (.lit 140737488355328)) (.cat (.var 11) (.var 17) (.ob (.cmp .le (.mul (.add (.len (.var 12)) (.len (.var 16))) (.lit 24)) (.lit 140737488355328)) (.cat (.var 12) (.var 16) (.back 3 [(.arr 3 (.var 15)), (.cnt 4 (.var 18)), (.cnt 35 (.var 19))]))))))))) (.back 1 [(.int (.add (.var 10) (.lit 1))), (.cnt 4 (.var 16)), (.cnt 35 (.var 17))])))))))))))) (.back 0 [(.int (.add (.var 7) (.lit 1))), (.cnt 4 (.var 11)), (.cnt 35 (.var 12))]))) (.ret [(.cnt 4 (.var 8)), (.cnt 35 (.var 9)), (.int (.lit 0))])))))))))))))
noncomputable def csamelists : Cx := tab2.only [20] (fun _ => []) [] 0 [] (fun _ => none)
def tsamelists : Tree :=
  (.split (.cmp .ne (.len (.var 0)) (.len (.var 1))) (.ret [(.bool (.lit false))]) (.loop [.bool, .int] [(.bool (.lit false)), (.int (.lit 0))] (.split (.cmp .lt (.var 3) (.len (.var 0))) (.ob (.cmp .le (.lit 0) (.var 3)) (.ob (.cmp .lt (.var 3) (.len (.var 0))) (.ob (.cmp .lt (.var 3) (.len (.var 1))) (.call 20 [(.arr 3 (.cell (.var 0) (.var 3) 0)), (.arr 3 (.cell (.var 1) (.var 3) 0))] (.split (.not (.of (.var 4))) (.ret [(.bool (.lit false))]) (.back 0 [(.bool (.of (.var 2))), (.int (.add (.var 3) (.lit 1)))])))))) (.ret [(.bool (.lit true))]))))
noncomputable def csameints : Cx := tab2.only [] (fun _ => []) [] 0 [] (fun _ => none)
def tsameints : Tree :=
  (.loop [.bool, .int] [(.bool (.lit false)), (.int (.lit 0))] (.split (.cmp .lt (.var 3) (.len (.var 0))) (.split (.cmp .lt (.var 3) (.len (.var 1))) (.ob (.cmp .le (.lit 0) (.var 3)) (.ob (.cmp .lt (.var 3) (.len (.var 0))) (.ob (.cmp .lt (.var 3) (.len (.var 1))) (.split (.cmp .ne (.cell (.var 0) (.var 3) 0) (.cell (.var 1) (.var 3) 0)) (.ret [(.bool (.lit false))]) (.back 0 [(.bool (.of (.var 2))), (.int (.add (.var 3) (.lit 1)))]))))) (.ret [(.bool (.cmp .eq (.len (.var 0)) (.len (.var 1))))])) (.ret [(.bool (.cmp .eq (.len (.var 0)) (.len (.var 1))))])))
noncomputable def chasint : Cx := tab2.only [] (fun _ => []) [] 0 [] (fun _ => none)
def thasint : Tree :=
  (.loop [.bool, .int] [(.bool (.lit false)), (.int (.lit 0))] (.split (.cmp .lt (.var 3) (.len (.var 0))) (.ob (.cmp .le (.lit 0) (.var 3)) (.ob (.cmp .lt (.var 3) (.len (.var 0))) (.split (.cmp .eq (.cell (.var 0) (.var 3) 0) (.var 1)) (.ret [(.bool (.lit true))]) (.back 0 [(.bool (.of (.var 2))), (.int (.add (.var 3) (.lit 1)))])))) (.ret [(.bool (.lit false))])))
noncomputable def flway : List (Nat × Func) := [(40, Try.f40), (41, Try.f41), (42, Try.f42), (57, Try.f57)]
theorem fxway : ∀ p ∈ flway, FnOK p := fns_cons ⟨Try.func40, ⟨_, Try.func40, by decide, rfl⟩⟩ (fns_cons ⟨Try.func41, ⟨_, Try.func41, by decide, rfl⟩⟩ (fns_cons ⟨Try.func42, ⟨_, Try.func42, by decide, rfl⟩⟩ (fns_cons ⟨Try.func57, ⟨_, Try.func57, by decide, rfl⟩⟩ (fns_nil))))
noncomputable def cway : Cx := tab2.only [14] (fun _ => []) flway 4 [] (fun _ => none)
def tway : Tree :=
  (.dfn .nil (.call 14 [(.arr 4 (.var 0)), (.arr 35 (.var 1))] (.dfn .nil (.split (.cmp .lt (.var 2) (.lit 0)) (.dfn .nil (.ret [(.cnt 3 (.var 6))])) (.split (.cmp .le (.len (.var 4)) (.var 2)) (.dfn .nil (.ret [(.cnt 3 (.var 6))])) (.ob (.cmp .lt (.var 2) (.len (.var 4))) (.split (.not (.of (.cell (.var 4) (.var 2) 0))) (.dfn .nil (.ret [(.cnt 3 (.var 6))])) (.arr [[(.int (.var 2))]] (.loop [.int, (.vec 3), (.vec 3)] [(.int (.var 2)), (.cnt 3 (.var 3)), (.cnt 3 (.var 6))] (.ob (.cmp .le (.lit 0) (.var 7)) (.ob (.cmp .lt (.var 7) (.len (.var 1))) (.arr [] (.loop [.int, .int] [(.int (.lit 0)), (.int (.lit 0))] (.split (.cmp .lt (.var 12) (.len (.cell (.var 1) (.var 7) 0))) (.ob (.cmp .le (.lit 0) (.var 12)) (.ob (.cmp .lt (.var 12) (.len (.cell (.var 1) (.var 7) 0))) (.ob (.cmp .le (.lit 0) (.cell (.cell (.var 1) (.var 7) 0) (.var 12) 0)) (.ob (.cmp .lt (.cell (.cell (.var 1) (.var 7) 0) (.var 12) 0) (.len (.var 4))) (.split (.of (.cell (.var 4) (.cell (.cell (.var 1) (.var 7) 0) (.var 12) 0) 0)) (.ob (.cmp .lt (.var 12) (.len (.cell (.var 1) (.var 7) 0))) (.loop [.int, .int] [(.int (.lit 0)), (.int (.lit 0))] (.split (.cmp .lt (.var 14) (.len (.var 9))) (.ob (.cmp .le (.lit 0) (.var 14)) (.ob (.cmp .lt (.var 14) (.len (.var 9))) (.split (.cmp .eq (.cell (.cell (.var 1) (.var 7) 0) (.var 12) 0) (.cell (.var 9) (.var 14) 0)) (.arr [[(.int (.cell (.cell (.var 1) (.var 7) 0) (.var 12) 0))]] (.ob (.cmp .le (.mul (.add (.len (.var 9)) (.len (.var 15))) (.lit 8)) (.lit 140737488355328)) (.cat (.var 9) (.var 15) (.ret [(.cnt 3 (.var 16))])))) (.back 2 [(.int (.var 13)), (.int (.add (.var 14) (.lit 1)))])))) (.arr [[(.int (.cell (.cell (.var 1) (.var 7) 0) (.var 12) 0))]] (.ob (.cmp .le (.mul (.add (.len (.var 9)) (.len (.var 15))) (.lit 8)) (.lit 140737488355328)) (.cat (.var 9) (.var 15) (.back 0 [(.int (.cell (.cell (.var 1) (.var 7) 0) (.var 12) 0)), (.cnt 3 (.var 8)), (.cnt 3 (.var 16))]))))))) (.back 1 [(.int (.var 11)), (.int (.add (.var 12) (.lit 1)))])))))) (.ob (.lit false) (.loop [.int, .int] [(.int (.lit 0)), (.int (.lit 0))] (.split (.cmp .lt (.var 14) (.len (.var 9))) (.ob (.cmp .le (.lit 0) (.var 14)) (.ob (.cmp .lt (.var 14) (.len (.var 9))) (.split (.cmp .eq (.cell (.cell (.var 1) (.var 7) 0) (.lit (-1)) 0) (.cell (.var 9) (.var 14) 0)) (.arr [[(.int (.cell (.cell (.var 1) (.var 7) 0) (.lit (-1)) 0))]] (.ob (.cmp .le (.mul (.add (.len (.var 9)) (.len (.var 15))) (.lit 8)) (.lit 140737488355328)) (.cat (.var 9) (.var 15) (.ret [(.cnt 3 (.var 16))])))) (.back 2 [(.int (.var 13)), (.int (.add (.var 14) (.lit 1)))])))) (.arr [[(.int (.cell (.cell (.var 1) (.var 7) 0) (.lit (-1)) 0))]] (.ob (.cmp .le (.mul (.add (.len (.var 9)) (.len (.var 15))) (.lit 8)) (.lit 140737488355328)) (.cat (.var 9) (.var 15) (.back 0 [(.int (.cell (.cell (.var 1) (.var 7) 0) (.lit (-1)) 0)), (.cnt 3 (.var 8)), (.cnt 3 (.var 16))])))))))))))))))))))))
noncomputable def crway : Cx := tab2.only [15] (fun r => match r with
  | 6 => [.vec 5]
  | _ => []) [] 0 [] (fun _ => none)
def trway : Tree :=
  (.dfn .nil (.call 15 [(.arr 4 (.var 0)), (.arr 35 (.var 1))] (.split (.cmp .lt (.var 2) (.lit 0)) (.dfn .nil (.ret [(.cnt 3 (.var 5))])) (.split (.cmp .le (.len (.var 4)) (.var 2)) (.dfn .nil (.ret [(.cnt 3 (.var 5))])) (.ob (.cmp .lt (.var 2) (.len (.var 4))) (.split (.not (.of (.cell (.var 4) (.var 2) 0))) (.dfn .nil (.ret [(.cnt 3 (.var 5))])) (.ob (.cmp .le (.mul (.lit 1) (.len (.var 4))) (.lit 281474976710656)) (.mk (.len (.var 4)) [(.bool (.lit false))] (.dfn .nil (.loop [.int, (.vec 3), (.vec 4)] [(.int (.var 2)), (.cnt 3 (.var 6)), (.cnt 4 (.var 5))] (.ob (.cmp .le (.lit 0) (.var 7)) (.ob (.cmp .lt (.var 7) (.len (.var 9))) (.split (.not (.of (.cell (.var 9) (.var 7) 0))) (.ob (.cmp .lt (.var 7) (.len (.var 9))) (.upd (.var 9) (.var 7) 0 [(.bool (.lit true))] (.arr [[(.int (.var 7))]] (.ob (.cmp .le (.mul (.add (.len (.var 8)) (.len (.var 11))) (.lit 8)) (.lit 140737488355328)) (.cat (.var 8) (.var 11) (.loop [.int, .int] [(.int (.var 7)), (.int (.lit 0))] (.ob (.cmp .le (.lit 0) (.var 13)) (.ob (.cmp .lt (.var 13) (.len (.var 1))) (.split (.cmp .lt (.var 14) (.len (.cell (.var 1) (.var 13) 0))) (.ob (.cmp .lt (.var 13) (.len (.var 1))) (.ob (.cmp .le (.lit 0) (.var 14)) (.ob (.cmp .lt (.var 14) (.len (.cell (.var 1) (.var 13) 0))) (.ob (.cmp .le (.lit 0) (.cell (.cell (.var 1) (.var 13) 0) (.var 14) 0)) (.ob (.cmp .lt (.cell (.cell (.var 1) (.var 13) 0) (.var 14) 0) (.len (.var 4))) (.split (.of (.cell (.var 4) (.cell (.cell (.var 1) (.var 13) 0) (.var 14) 0) 0)) (.ob (.cmp .lt (.var 13) (.len (.var 1))) (.ob (.cmp .lt (.var 14) (.len (.cell (.var 1) (.var 13) 0))) (.back 0 [(.int (.cell (.cell (.var 1) (.var 13) 0) (.var 14) 0)), (.cnt 3 (.var 12)), (.cnt 4 (.var 10))]))) (.back 1 [(.int (.var 13)), (.int (.add (.var 14) (.lit 1)))]))))))) (.back 0 [(.int (.var 13)), (.cnt 3 (.var 12)), (.cnt 4 (.var 10))])))))))))) (.arr [[(.int (.var 7))]] (.ob (.cmp .le (.mul (.add (.len (.var 8)) (.len (.var 10))) (.lit 8)) (.lit 140737488355328)) (.cat (.var 8) (.var 10) (.ret [(.cnt 3 (.var 11))])))))))))))))))))
noncomputable def flblow : List (Nat × Func) := [(43, Try.f43)]
theorem fxblow : ∀ p ∈ flblow, FnOK p := fns_cons ⟨Try.func43, ⟨_, Try.func43, by decide, rfl⟩⟩ (fns_nil)
noncomputable def cblow : Cx := tab2.only [13] (fun _ => []) flblow 1 [] (fun _ => none)
def tblow : Tree :=
  (.dfn .nil (.dfn .nil (.split (.cmp .lt (.lit 0) (.len (.var 0))) (.ob (.cmp .lt (.lit 0) (.len (.var 0))) (.call 13 [(.int (.cell (.var 0) (.lit 0) 0)), (.int (.lit 12))] (.ob (.and (.cmp .le (.lit (-9223372036854775808)) (.add (.lit 1) (.var 3))) (.cmp .le (.add (.lit 1) (.var 3)) (.lit 9223372036854775807))) (.arr [] (.dfn .nil (.dfn .nil (.loop [.int] [(.int (.lit 0))] (.split (.cmp .lt (.var 7) (.add (.lit 1) (.var 3))) (.ob (.and (.cmp .le (.lit (-9223372036854775808)) (.mul (.lit 5) (.var 7))) (.cmp .le (.mul (.lit 5) (.var 7)) (.lit 9223372036854775807))) (.ob (.and (.cmp .le (.lit (-9223372036854775808)) (.add (.mul (.lit 5) (.var 7)) (.lit 1))) (.cmp .le (.add (.mul (.lit 5) (.var 7)) (.lit 1)) (.lit 9223372036854775807))) (.split (.cmp .eq (.len (.var 0)) (.lit 0)) (.fail 3 [30]) (.ob (.cmp .ne (.len (.var 0)) (.lit 0)) (.ob (.cmp .le (.lit 0) (.rem (.add (.mul (.lit 5) (.var 7)) (.lit 1)) (.len (.var 0)))) (.ob (.cmp .lt (.rem (.add (.mul (.lit 5) (.var 7)) (.lit 1)) (.len (.var 0))) (.len (.var 0))) (.call 13 [(.int (.cell (.var 0) (.rem (.add (.mul (.lit 5) (.var 7)) (.lit 1)) (.len (.var 0))) 0)), (.int (.lit 1048576))] (.ob (.cmp .ne (.len (.var 0)) (.lit 0)) (.ob (.and (.cmp .le (.lit (-9223372036854775808)) (.quo (.add (.mul (.lit 5) (.var 7)) (.lit 1)) (.len (.var 0)))) (.cmp .le (.quo (.add (.mul (.lit 5) (.var 7)) (.lit 1)) (.len (.var 0))) (.lit 9223372036854775807))) (.ob (.and (.cmp .le (.lit (-9223372036854775808)) (.add (.lit 1) (.quo (.add (.mul (.lit 5) (.var 7)) (.lit 1)) (.len (.var 0))))) (.cmp .le (.add (.lit 1) (.quo (.add (.mul (.lit 5) (.var 7)) (.lit 1)) (.len (.var 0)))) (.lit 9223372036854775807))) (.ob (.cmp .ne (.add (.lit 1) (.quo (.add (.mul (.lit 5) (.var 7)) (.lit 1)) (.len (.var 0)))) (.lit 0)) (.ob (.and (.cmp .le (.lit (-9223372036854775808)) (.quo (.var 8) (.add (.lit 1) (.quo (.add (.mul (.lit 5) (.var 7)) (.lit 1)) (.len (.var 0)))))) (.cmp .le (.quo (.var 8) (.add (.lit 1) (.quo (.add (.mul (.lit 5) (.var 7)) (.lit 1)) (.len (.var 0))))) (.lit 9223372036854775807))) (.fail 3 [30]))))))))))))) (.ret [(.cnt 4 (.var 5)), (.cnt 35 (.var 6))]))))))))) (.arr [] (.dfn .nil (.dfn .nil (.loop [.int] [(.int (.lit 0))] (.split (.cmp .lt (.var 6) (.lit 1)) (.ob (.and (.cmp .le (.lit (-9223372036854775808)) (.mul (.lit 5) (.var 6))) (.cmp .le (.mul (.lit 5) (.var 6)) (.lit 9223372036854775807))) (.ob (.and (.cmp .le (.lit (-9223372036854775808)) (.add (.mul (.lit 5) (.var 6)) (.lit 1))) (.cmp .le (.add (.mul (.lit 5) (.var 6)) (.lit 1)) (.lit 9223372036854775807))) (.split (.cmp .eq (.len (.var 0)) (.lit 0)) (.fail 3 [30]) (.ob (.cmp .ne (.len (.var 0)) (.lit 0)) (.ob (.cmp .le (.lit 0) (.rem (.add (.mul (.lit 5) (.var 6)) (.lit 1)) (.len (.var 0)))) (.ob (.cmp .lt (.rem (.add (.mul (.lit 5) (.var 6)) (.lit 1)) (.len (.var 0))) (.len (.var 0))) (.call 13 [(.int (.cell (.var 0) (.rem (.add (.mul (.lit 5) (.var 6)) (.lit 1)) (.len (.var 0))) 0)), (.int (.lit 1048576))] (.ob (.cmp .ne (.len (.var 0)) (.lit 0)) (.ob (.and (.cmp .le (.lit (-9223372036854775808)) (.quo (.add (.mul (.lit 5) (.var 6)) (.lit 1)) (.len (.var 0)))) (.cmp .le (.quo (.add (.mul (.lit 5) (.var 6)) (.lit 1)) (.len (.var 0))) (.lit 9223372036854775807))) (.ob (.and (.cmp .le (.lit (-9223372036854775808)) (.add (.lit 1) (.quo (.add (.mul (.lit 5) (.var 6)) (.lit 1)) (.len (.var 0))))) (.cmp .le (.add (.lit 1) (.quo (.add (.mul (.lit 5) (.var 6)) (.lit 1)) (.len (.var 0)))) (.lit 9223372036854775807))) (.ob (.cmp .ne (.add (.lit 1) (.quo (.add (.mul (.lit 5) (.var 6)) (.lit 1)) (.len (.var 0)))) (.lit 0)) (.ob (.and (.cmp .le (.lit (-9223372036854775808)) (.quo (.var 7) (.add (.lit 1) (.quo (.add (.mul (.lit 5) (.var 6)) (.lit 1)) (.len (.var 0)))))) (.cmp .le (.quo (.var 7) (.add (.lit 1) (.quo (.add (.mul (.lit 5) (.var 6)) (.lit 1)) (.len (.var 0))))) (.lit 9223372036854775807))) (.fail 3 [30]))))))))))))) (.ret [(.cnt 4 (.var 4)), (.cnt 35 (.var 5))])))))))))
noncomputable def clwild : Cx := tab2.only [9, 10, 11, 12] (fun _ => []) [] 0 [] (fun _ => none)
def tlwild : Tree :=
  (.call 9 [(.int (.var 0)), (.int (.var 1)), (.int (.var 2))] (.dfn .nil (.dfn .nil (.call 10 [(.int (.var 0)), (.int (.var 1)), (.int (.var 2))] (.dfn .nil (.dfn .nil (.split (.cmp .ne (.var 5) (.var 10)) (.ret [(.bool (.lit false))]) (.split (.cmp .ne (.len (.var 3)) (.len (.var 8))) (.ret [(.bool (.lit false))]) (.call 11 [(.arr 35 (.var 4)), (.arr 35 (.var 9))] (.split (.not (.of (.var 13))) (.ret [(.bool (.lit false))]) (.loop [.bool, .int] [(.bool (.lit false)), (.int (.lit 0))] (.split (.cmp .lt (.var 15) (.len (.var 3))) (.ob (.cmp .le (.lit 0) (.var 15)) (.ob (.cmp .lt (.var 15) (.len (.var 3))) (.ob (.cmp .lt (.var 15) (.len (.var 8))) (.split (.not (.beq (.of (.cell (.var 3) (.var 15) 0)) (.of (.cell (.var 8) (.var 15) 0)))) (.ret [(.bool (.lit false))]) (.back 0 [(.bool (.of (.var 14))), (.int (.add (.var 15) (.lit 1)))]))))) (.call 12 [] (.ret [(.bool (.of (.var 16)))]))))))))))))))
noncomputable def clcloses : Cx := tab2.only [13, 9, 14, 12] (fun _ => []) [] 0 [] (fun _ => none)
def tlcloses : Tree :=
  (.call 13 [(.int (.var 0)), (.int (.lit 15))] (.ob (.and (.cmp .le (.lit (-9223372036854775808)) (.add (.lit 1) (.var 5))) (.cmp .le (.add (.lit 1) (.var 5)) (.lit 9223372036854775807))) (.call 13 [(.int (.var 1)), (.int (.lit 15))] (.ob (.and (.cmp .le (.lit (-9223372036854775808)) (.add (.lit 1) (.var 6))) (.cmp .le (.add (.lit 1) (.var 6)) (.lit 9223372036854775807))) (.call 13 [(.int (.var 2)), (.int (.lit 4))] (.ob (.and (.cmp .le (.lit (-9223372036854775808)) (.add (.lit 1) (.var 5))) (.cmp .le (.add (.lit 1) (.var 5)) (.lit 9223372036854775807))) (.ob (.and (.cmp .le (.lit (-9223372036854775808)) (.add (.lit 1) (.var 6))) (.cmp .le (.add (.lit 1) (.var 6)) (.lit 9223372036854775807))) (.call 9 [(.int (.add (.lit 1) (.var 5))), (.int (.add (.lit 1) (.var 6))), (.int (.var 7))] (.dfn .nil (.dfn .nil (.split (.cmp .ne (.var 10) (.lit 0)) (.ret [(.bool (.lit false))]) (.ob (.and (.cmp .le (.lit (-9223372036854775808)) (.add (.add (.lit 1) (.var 5)) (.lit 1))) (.cmp .le (.add (.add (.lit 1) (.var 5)) (.lit 1)) (.lit 9223372036854775807))) (.ob (.and (.cmp .le (.lit (-9223372036854775808)) (.add (.add (.lit 1) (.var 5)) (.lit 1))) (.cmp .le (.add (.add (.lit 1) (.var 5)) (.lit 1)) (.lit 9223372036854775807))) (.call 13 [(.int (.var 3)), (.int (.add (.add (.lit 1) (.var 5)) (.lit 1)))] (.ob (.and (.cmp .le (.lit (-9223372036854775808)) (.add (.var 7) (.lit 1))) (.cmp .le (.add (.var 7) (.lit 1)) (.lit 9223372036854775807))) (.ob (.and (.cmp .le (.lit (-9223372036854775808)) (.add (.var 7) (.lit 1))) (.cmp .le (.add (.var 7) (.lit 1)) (.lit 9223372036854775807))) (.call 13 [(.int (.var 4)), (.int (.add (.var 7) (.lit 1)))] (.call 14 [(.arr 4 (.var 8)), (.arr 35 (.var 9))] (.ob (.and (.cmp .le (.lit (-9223372036854775808)) (.add (.var 7) (.lit 1))) (.cmp .le (.add (.var 7) (.lit 1)) (.lit 9223372036854775807))) (.ob (.and (.cmp .le (.lit (-9223372036854775808)) (.mul (.var 13) (.add (.var 7) (.lit 1)))) (.cmp .le (.mul (.var 13) (.add (.var 7) (.lit 1))) (.lit 9223372036854775807))) (.ob (.and (.cmp .le (.lit (-9223372036854775808)) (.add (.mul (.var 13) (.add (.var 7) (.lit 1))) (.var 14))) (.cmp .le (.add (.mul (.var 13) (.add (.var 7) (.lit 1))) (.var 14)) (.lit 9223372036854775807))) (.split (.cmp .lt (.add (.mul (.var 13) (.add (.var 7) (.lit 1))) (.var 14)) (.len (.var 15))) (.ob (.cmp .le (.lit 0) (.add (.mul (.var 13) (.add (.var 7) (.lit 1))) (.var 14))) (.ob (.cmp .lt (.add (.mul (.var 13) (.add (.var 7) (.lit 1))) (.var 14)) (.len (.var 15))) (.ob (.and (.cmp .le (.lit (-9223372036854775808)) (.sub (.var 7) (.var 14))) (.cmp .le (.sub (.var 7) (.var 14)) (.lit 9223372036854775807))) (.ob (.and (.cmp .le (.lit (-9223372036854775808)) (.mul (.sub (.var 7) (.var 14)) (.add (.lit 1) (.var 6)))) (.cmp .le (.mul (.sub (.var 7) (.var 14)) (.add (.lit 1) (.var 6))) (.lit 9223372036854775807))) (.ob (.and (.cmp .le (.lit (-9223372036854775808)) (.add (.var 13) (.mul (.sub (.var 7) (.var 14)) (.add (.lit 1) (.var 6))))) (.cmp .le (.add (.var 13) (.mul (.sub (.var 7) (.var 14)) (.add (.lit 1) (.var 6)))) (.lit 9223372036854775807))) (.split (.beq (.of (.cell (.var 15) (.add (.mul (.var 13) (.add (.var 7) (.lit 1))) (.var 14)) 0)) (.cmp .lt (.add (.var 13) (.mul (.sub (.var 7) (.var 14)) (.add (.lit 1) (.var 6)))) (.add (.lit 1) (.var 5)))) (.call 12 [] (.ret [(.bool (.of (.var 16)))])) (.ret [(.bool (.lit false))]))))))) (.ret [(.bool (.lit false))])))))))))))))))))))))))
noncomputable def clblows : Cx := tab2.only [14, 15, 16, 17, 18, 19, 20, 21, 22, 12] (fun _ => []) [] 0 [] (fun _ => none)
def tlblows : Tree :=
  (.split (.cmp .lt (.lit 66) (.len (.var 0))) (.call 12 [] (.ret [(.bool (.of (.var 4)))])) (.split (.cmp .lt (.lit 67) (.len (.var 1))) (.call 12 [] (.ret [(.bool (.of (.var 4)))])) (.split (.cmp .lt (.lit 402) (.len (.var 2))) (.call 12 [] (.ret [(.bool (.of (.var 4)))])) (.loop [.bool, .int] [(.bool (.lit false)), (.int (.lit 0))] (.split (.cmp .lt (.var 5) (.len (.var 1))) (.ob (.cmp .le (.lit 0) (.var 5)) (.ob (.cmp .lt (.var 5) (.len (.var 1))) (.split (.cmp .lt (.lit 6) (.len (.cell (.var 1) (.var 5) 0))) (.call 12 [] (.ret [(.bool (.of (.var 6)))])) (.back 0 [(.bool (.of (.var 4))), (.int (.add (.var 5) (.lit 1)))])))) (.call 14 [(.arr 4 (.var 0)), (.arr 35 (.var 1))] (.call 15 [(.arr 4 (.var 0)), (.arr 35 (.var 1))] (.call 16 [(.arr 4 (.var 0)), (.arr 35 (.var 1))] (.call 17 [(.arr 4 (.var 0)), (.arr 35 (.var 1))] (.split (.cmp .ne (.var 8) (.var 9)) (.ret [(.bool (.lit false))]) (.split (.cmp .ne (.len (.var 6)) (.len (.var 7))) (.ret [(.bool (.lit false))]) (.loop [.bool, .int] [(.bool (.of (.var 4))), (.int (.lit 0))] (.split (.cmp .lt (.var 11) (.len (.var 6))) (.ob (.cmp .le (.lit 0) (.var 11)) (.ob (.cmp .lt (.var 11) (.len (.var 6))) (.ob (.cmp .lt (.var 11) (.len (.var 7))) (.split (.not (.beq (.of (.cell (.var 6) (.var 11) 0)) (.of (.cell (.var 7) (.var 11) 0)))) (.ret [(.bool (.lit false))]) (.back 1 [(.bool (.of (.var 10))), (.int (.add (.var 11) (.lit 1)))]))))) (.arr [] (.ob (.cmp .le (.mul (.add (.len (.var 12)) (.len (.var 2))) (.lit 8)) (.lit 140737488355328)) (.cat (.var 12) (.var 2) (.call 18 [(.arr 4 (.var 0)), (.arr 35 (.var 1)), (.arr 3 (.var 13))] (.call 19 [(.arr 4 (.var 0)), (.arr 35 (.var 1)), (.arr 3 (.var 2))] (.split (.cmp .eq (.var 14) (.var 16)) (.split (.beq (.of (.var 15)) (.of (.var 17))) (.call 20 [(.arr 3 (.var 13)), (.arr 3 (.var 2))] (.split (.of (.var 18)) (.call 21 [(.arr 4 (.var 0)), (.arr 35 (.var 1)), (.int (.var 3))] (.call 22 [(.arr 4 (.var 0)), (.arr 35 (.var 1)), (.int (.var 3))] (.call 20 [(.arr 3 (.var 19)), (.arr 3 (.var 20))] (.split (.of (.var 21)) (.call 12 [] (.ret [(.bool (.of (.var 22)))])) (.ret [(.bool (.lit false))]))))) (.ret [(.bool (.lit false))]))) (.ret [(.bool (.lit false))])) (.ret [(.bool (.lit false))]))))))))))))))))))))
noncomputable def clchance : Cx := tab2.only [23, 13, 14, 16, 21, 24, 18, 12] (fun _ => []) [] 0 [] (fun _ => none)
def tlchance : Tree :=
  (.call 23 [(.arr 3 (.var 0))] (.dfn .nil (.dfn .nil (.dfn .nil (.loop [(.vec 3), .int] [(.cnt 3 (.var 6)), (.int (.lit 0))] (.split (.cmp .lt (.var 8) (.len (.var 1))) (.split (.cmp .lt (.var 8) (.lit 40)) (.ob (.cmp .le (.lit 0) (.var 8)) (.ob (.cmp .lt (.var 8) (.len (.var 1))) (.call 13 [(.int (.cell (.var 1) (.var 8) 0)), (.int (.len (.var 2)))] (.arr [[(.int (.var 9))]] (.ob (.cmp .le (.mul (.add (.len (.var 7)) (.len (.var 10))) (.lit 8)) (.lit 140737488355328)) (.cat (.var 7) (.var 10) (.back 0 [(.cnt 3 (.var 11)), (.int (.add (.var 8) (.lit 1)))]))))))) (.call 14 [(.arr 4 (.var 2)), (.arr 35 (.var 3))] (.split (.cmp .ne (.len (.var 9)) (.len (.var 2))) (.ret [(.bool (.lit false))]) (.call 16 [(.arr 4 (.var 2)), (.arr 35 (.var 3))] (.split (.cmp .ne (.var 10) (.lit 0)) (.ret [(.bool (.lit false))]) (.loop [.bool, .int] [(.bool (.lit false)), (.int (.lit 0))] (.split (.cmp .lt (.var 12) (.len (.var 2))) (.loop [.bool, .int] [(.bool (.lit false)), (.int (.lit 0))] (.ob (.cmp .le (.lit 0) (.var 12)) (.ob (.cmp .lt (.var 12) (.len (.var 3))) (.split (.cmp .lt (.var 14) (.len (.cell (.var 3) (.var 12) 0))) (.split (.of (.var 13)) (.back 2 [(.bool (.lit true)), (.int (.add (.var 14) (.lit 1)))]) (.ob (.cmp .lt (.var 12) (.len (.var 3))) (.ob (.cmp .le (.lit 0) (.var 14)) (.ob (.cmp .lt (.var 14) (.len (.cell (.var 3) (.var 12) 0))) (.ob (.cmp .le (.lit 0) (.cell (.cell (.var 3) (.var 12) 0) (.var 14) 0)) (.ob (.cmp .lt (.cell (.cell (.var 3) (.var 12) 0) (.var 14) 0) (.len (.var 9))) (.back 2 [(.bool (.of (.cell (.var 9) (.cell (.cell (.var 3) (.var 12) 0) (.var 14) 0) 0))), (.int (.add (.var 14) (.lit 1)))]))))))) (.ob (.cmp .lt (.var 12) (.len (.var 9))) (.split (.of (.var 13)) (.ob (.cmp .lt (.var 12) (.len (.var 2))) (.split (.not (.beq (.of (.cell (.var 9) (.var 12) 0)) (.not (.of (.cell (.var 2) (.var 12) 0))))) (.ret [(.bool (.lit false))]) (.call 21 [(.arr 4 (.var 2)), (.arr 35 (.var 3)), (.int (.var 12))] (.ob (.cmp .lt (.var 12) (.len (.var 9))) (.split (.not (.beq (.of (.cell (.var 9) (.var 12) 0)) (.cmp .lt (.lit 1) (.len (.var 15))))) (.ret [(.bool (.lit false))]) (.loop [.bool, .int] [(.bool (.of (.var 11))), (.int (.lit 0))] (.split (.cmp .lt (.var 17) (.len (.var 15))) (.ob (.cmp .le (.lit 0) (.var 17)) (.ob (.cmp .lt (.var 17) (.len (.var 15))) (.split (.cmp .lt (.cell (.var 15) (.var 17) 0) (.lit 0)) (.ret [(.bool (.lit false))]) (.ob (.cmp .lt (.var 17) (.len (.var 15))) (.split (.cmp .le (.len (.var 2)) (.cell (.var 15) (.var 17) 0)) (.ret [(.bool (.lit false))]) (.ob (.cmp .lt (.var 17) (.len (.var 15))) (.ob (.cmp .le (.lit 0) (.cell (.var 15) (.var 17) 0)) (.ob (.cmp .lt (.cell (.var 15) (.var 17) 0) (.len (.var 2))) (.split (.of (.cell (.var 2) (.cell (.var 15) (.var 17) 0) 0)) (.ret [(.bool (.lit false))]) (.split (.cmp .eq (.var 17) (.lit 0)) (.ob (.cmp .lt (.var 17) (.len (.var 15))) (.split (.cmp .ne (.cell (.var 15) (.var 17) 0) (.var 12)) (.ret [(.bool (.lit false))]) (.back 3 [(.bool (.of (.var 16))), (.int (.add (.var 17) (.lit 1)))]))) (.split (.cmp .lt (.lit 0) (.var 17)) (.ob (.cmp .lt (.sub (.var 17) (.lit 1)) (.len (.var 15))) (.ob (.cmp .le (.lit 0) (.cell (.var 15) (.sub (.var 17) (.lit 1)) 0)) (.ob (.cmp .lt (.cell (.var 15) (.sub (.var 17) (.lit 1)) 0) (.len (.var 3))) (.ob (.cmp .lt (.var 17) (.len (.var 15))) (.call 24 [(.arr 3 (.cell (.var 3) (.cell (.var 15) (.sub (.var 17) (.lit 1)) 0) 0)), (.int (.cell (.var 15) (.var 17) 0))] (.split (.not (.of (.var 18))) (.ret [(.bool (.lit false))]) (.back 3 [(.bool (.of (.var 16))), (.int (.add (.var 17) (.lit 1)))]))))))) (.back 3 [(.bool (.of (.var 16))), (.int (.add (.var 17) (.lit 1)))])))))))))))) (.fail 50029 [0])))))))) (.split (.not (.beq (.of (.cell (.var 9) (.var 12) 0)) (.lit false))) (.ret [(.bool (.lit false))]) (.call 21 [(.arr 4 (.var 2)), (.arr 35 (.var 3)), (.int (.var 12))] (.ob (.cmp .lt (.var 12) (.len (.var 9))) (.split (.not (.beq (.of (.cell (.var 9) (.var 12) 0)) (.cmp .lt (.lit 1) (.len (.var 15))))) (.ret [(.bool (.lit false))]) (.loop [.bool, .int] [(.bool (.of (.var 11))), (.int (.lit 0))] (.split (.cmp .lt (.var 17) (.len (.var 15))) (.ob (.cmp .le (.lit 0) (.var 17)) (.ob (.cmp .lt (.var 17) (.len (.var 15))) (.split (.cmp .lt (.cell (.var 15) (.var 17) 0) (.lit 0)) (.ret [(.bool (.lit false))]) (.ob (.cmp .lt (.var 17) (.len (.var 15))) (.split (.cmp .le (.len (.var 2)) (.cell (.var 15) (.var 17) 0)) (.ret [(.bool (.lit false))]) (.ob (.cmp .lt (.var 17) (.len (.var 15))) (.ob (.cmp .le (.lit 0) (.cell (.var 15) (.var 17) 0)) (.ob (.cmp .lt (.cell (.var 15) (.var 17) 0) (.len (.var 2))) (.split (.of (.cell (.var 2) (.cell (.var 15) (.var 17) 0) 0)) (.ret [(.bool (.lit false))]) (.split (.cmp .eq (.var 17) (.lit 0)) (.ob (.cmp .lt (.var 17) (.len (.var 15))) (.split (.cmp .ne (.cell (.var 15) (.var 17) 0) (.var 12)) (.ret [(.bool (.lit false))]) (.back 3 [(.bool (.of (.var 16))), (.int (.add (.var 17) (.lit 1)))]))) (.split (.cmp .lt (.lit 0) (.var 17)) (.ob (.cmp .lt (.sub (.var 17) (.lit 1)) (.len (.var 15))) (.ob (.cmp .le (.lit 0) (.cell (.var 15) (.sub (.var 17) (.lit 1)) 0)) (.ob (.cmp .lt (.cell (.var 15) (.sub (.var 17) (.lit 1)) 0) (.len (.var 3))) (.ob (.cmp .lt (.var 17) (.len (.var 15))) (.call 24 [(.arr 3 (.cell (.var 3) (.cell (.var 15) (.sub (.var 17) (.lit 1)) 0) 0)), (.int (.cell (.var 15) (.var 17) 0))] (.split (.not (.of (.var 18))) (.ret [(.bool (.lit false))]) (.back 3 [(.bool (.of (.var 16))), (.int (.add (.var 17) (.lit 1)))]))))))) (.back 3 [(.bool (.of (.var 16))), (.int (.add (.var 17) (.lit 1)))])))))))))))) (.fail 50029 [0]))))))))))))) (.call 18 [(.arr 4 (.var 2)), (.arr 35 (.var 3)), (.arr 3 (.var 7))] (.split (.of (.var 14)) (.split (.cmp .lt (.var 13) (.lit 0)) (.ret [(.bool (.lit false))]) (.split (.cmp .le (.len (.var 7)) (.var 13)) (.ret [(.bool (.lit false))]) (.ob (.cmp .lt (.var 13) (.len (.var 7))) (.ob (.cmp .le (.lit 0) (.cell (.var 7) (.var 13) 0)) (.ob (.cmp .lt (.cell (.var 7) (.var 13) 0) (.len (.var 9))) (.split (.not (.of (.cell (.var 9) (.cell (.var 7) (.var 13) 0) 0))) (.ret [(.bool (.lit false))]) (.split (.not (.of (.var 14))) (.split (.cmp .ne (.var 13) (.lit 0)) (.ret [(.bool (.lit false))]) (.loop [.bool, .int] [(.bool (.of (.var 11))), (.int (.lit 0))] (.split (.cmp .lt (.var 16) (.len (.var 7))) (.ob (.cmp .le (.lit 0) (.var 16)) (.ob (.cmp .lt (.var 16) (.len (.var 7))) (.ob (.cmp .le (.lit 0) (.cell (.var 7) (.var 16) 0)) (.ob (.cmp .lt (.cell (.var 7) (.var 16) 0) (.len (.var 9))) (.split (.of (.cell (.var 9) (.cell (.var 7) (.var 16) 0) 0)) (.split (.not (.of (.var 14))) (.ret [(.bool (.lit false))]) (.split (.cmp .lt (.var 13) (.var 16)) (.ret [(.bool (.lit false))]) (.back 2 [(.bool (.of (.var 15))), (.int (.add (.var 16) (.lit 1)))]))) (.back 2 [(.bool (.of (.var 15))), (.int (.add (.var 16) (.lit 1)))])))))) (.call 12 [] (.ret [(.bool (.of (.var 17)))]))))) (.loop [.bool, .int] [(.bool (.of (.var 11))), (.int (.lit 0))] (.split (.cmp .lt (.var 16) (.len (.var 7))) (.ob (.cmp .le (.lit 0) (.var 16)) (.ob (.cmp .lt (.var 16) (.len (.var 7))) (.ob (.cmp .le (.lit 0) (.cell (.var 7) (.var 16) 0)) (.ob (.cmp .lt (.cell (.var 7) (.var 16) 0) (.len (.var 9))) (.split (.of (.cell (.var 9) (.cell (.var 7) (.var 16) 0) 0)) (.split (.not (.of (.var 14))) (.ret [(.bool (.lit false))]) (.split (.cmp .lt (.var 13) (.var 16)) (.ret [(.bool (.lit false))]) (.back 2 [(.bool (.of (.var 15))), (.int (.add (.var 16) (.lit 1)))]))) (.back 2 [(.bool (.of (.var 15))), (.int (.add (.var 16) (.lit 1)))])))))) (.call 12 [] (.ret [(.bool (.of (.var 17)))]))))))))))) (.split (.not (.of (.var 14))) (.split (.cmp .ne (.var 13) (.lit 0)) (.ret [(.bool (.lit false))]) (.loop [.bool, .int] [(.bool (.of (.var 11))), (.int (.lit 0))] (.split (.cmp .lt (.var 16) (.len (.var 7))) (.ob (.cmp .le (.lit 0) (.var 16)) (.ob (.cmp .lt (.var 16) (.len (.var 7))) (.ob (.cmp .le (.lit 0) (.cell (.var 7) (.var 16) 0)) (.ob (.cmp .lt (.cell (.var 7) (.var 16) 0) (.len (.var 9))) (.split (.of (.cell (.var 9) (.cell (.var 7) (.var 16) 0) 0)) (.split (.not (.of (.var 14))) (.ret [(.bool (.lit false))]) (.split (.cmp .lt (.var 13) (.var 16)) (.ret [(.bool (.lit false))]) (.back 2 [(.bool (.of (.var 15))), (.int (.add (.var 16) (.lit 1)))]))) (.back 2 [(.bool (.of (.var 15))), (.int (.add (.var 16) (.lit 1)))])))))) (.call 12 [] (.ret [(.bool (.of (.var 17)))]))))) (.loop [.bool, .int] [(.bool (.of (.var 11))), (.int (.lit 0))] (.split (.cmp .lt (.var 16) (.len (.var 7))) (.ob (.cmp .le (.lit 0) (.var 16)) (.ob (.cmp .lt (.var 16) (.len (.var 7))) (.ob (.cmp .le (.lit 0) (.cell (.var 7) (.var 16) 0)) (.ob (.cmp .lt (.cell (.var 7) (.var 16) 0) (.len (.var 9))) (.split (.of (.cell (.var 9) (.cell (.var 7) (.var 16) 0) 0)) (.split (.not (.of (.var 14))) (.ret [(.bool (.lit false))]) (.split (.cmp .lt (.var 13) (.var 16)) (.ret [(.bool (.lit false))]) (.back 2 [(.bool (.of (.var 15))), (.int (.add (.var 16) (.lit 1)))]))) (.back 2 [(.bool (.of (.var 15))), (.int (.add (.var 16) (.lit 1)))])))))) (.call 12 [] (.ret [(.bool (.of (.var 17)))])))))))))))))) (.call 14 [(.arr 4 (.var 2)), (.arr 35 (.var 3))] (.split (.cmp .ne (.len (.var 9)) (.len (.var 2))) (.ret [(.bool (.lit false))]) (.call 16 [(.arr 4 (.var 2)), (.arr 35 (.var 3))] (.split (.cmp .ne (.var 10) (.lit 0)) (.ret [(.bool (.lit false))]) (.loop [.bool, .int] [(.bool (.lit false)), (.int (.lit 0))] (.split (.cmp .lt (.var 12) (.len (.var 2))) (.loop [.bool, .int] [(.bool (.lit false)), (.int (.lit 0))] (.ob (.cmp .le (.lit 0) (.var 12)) (.ob (.cmp .lt (.var 12) (.len (.var 3))) (.split (.cmp .lt (.var 14) (.len (.cell (.var 3) (.var 12) 0))) (.split (.of (.var 13)) (.back 2 [(.bool (.lit true)), (.int (.add (.var 14) (.lit 1)))]) (.ob (.cmp .lt (.var 12) (.len (.var 3))) (.ob (.cmp .le (.lit 0) (.var 14)) (.ob (.cmp .lt (.var 14) (.len (.cell (.var 3) (.var 12) 0))) (.ob (.cmp .le (.lit 0) (.cell (.cell (.var 3) (.var 12) 0) (.var 14) 0)) (.ob (.cmp .lt (.cell (.cell (.var 3) (.var 12) 0) (.var 14) 0) (.len (.var 9))) (.back 2 [(.bool (.of (.cell (.var 9) (.cell (.cell (.var 3) (.var 12) 0) (.var 14) 0) 0))), (.int (.add (.var 14) (.lit 1)))]))))))) (.ob (.cmp .lt (.var 12) (.len (.var 9))) (.split (.of (.var 13)) (.ob (.cmp .lt (.var 12) (.len (.var 2))) (.split (.not (.beq (.of (.cell (.var 9) (.var 12) 0)) (.not (.of (.cell (.var 2) (.var 12) 0))))) (.ret [(.bool (.lit false))]) (.call 21 [(.arr 4 (.var 2)), (.arr 35 (.var 3)), (.int (.var 12))] (.ob (.cmp .lt (.var 12) (.len (.var 9))) (.split (.not (.beq (.of (.cell (.var 9) (.var 12) 0)) (.cmp .lt (.lit 1) (.len (.var 15))))) (.ret [(.bool (.lit false))]) (.loop [.bool, .int] [(.bool (.of (.var 11))), (.int (.lit 0))] (.split (.cmp .lt (.var 17) (.len (.var 15))) (.ob (.cmp .le (.lit 0) (.var 17)) (.ob (.cmp .lt (.var 17) (.len (.var 15))) (.split (.cmp .lt (.cell (.var 15) (.var 17) 0) (.lit 0)) (.ret [(.bool (.lit false))]) (.ob (.cmp .lt (.var 17) (.len (.var 15))) (.split (.cmp .le (.len (.var 2)) (.cell (.var 15) (.var 17) 0)) (.ret [(.bool (.lit false))]) (.ob (.cmp .lt (.var 17) (.len (.var 15))) (.ob (.cmp .le (.lit 0) (.cell (.var 15) (.var 17) 0)) (.ob (.cmp .lt (.cell (.var 15) (.var 17) 0) (.len (.var 2))) (.split (.of (.cell (.var 2) (.cell (.var 15) (.var 17) 0) 0)) (.ret [(.bool (.lit false))]) (.split (.cmp .eq (.var 17) (.lit 0)) (.ob (.cmp .lt (.var 17) (.len (.var 15))) (.split (.cmp .ne (.cell (.var 15) (.var 17) 0) (.var 12)) (.ret [(.bool (.lit false))]) (.back 3 [(.bool (.of (.var 16))), (.int (.add (.var 17) (.lit 1)))]))) (.split (.cmp .lt (.lit 0) (.var 17)) (.ob (.cmp .lt (.sub (.var 17) (.lit 1)) (.len (.var 15))) (.ob (.cmp .le (.lit 0) (.cell (.var 15) (.sub (.var 17) (.lit 1)) 0)) (.ob (.cmp .lt (.cell (.var 15) (.sub (.var 17) (.lit 1)) 0) (.len (.var 3))) (.ob (.cmp .lt (.var 17) (.len (.var 15))) (.call 24 [(.arr 3 (.cell (.var 3) (.cell (.var 15) (.sub (.var 17) (.lit 1)) 0) 0)), (.int (.cell (.var 15) (.var 17) 0))] (.split (.not (.of (.var 18))) (.ret [(.bool (.lit false))]) (.back 3 [(.bool (.of (.var 16))), (.int (.add (.var 17) (.lit 1)))]))))))) (.back 3 [(.bool (.of (.var 16))), (.int (.add (.var 17) (.lit 1)))])))))))))))) (.fail 50029 [0])))))))) (.split (.not (.beq (.of (.cell (.var 9) (.var 12) 0)) (.lit false))) (.ret [(.bool (.lit false))]) (.call 21 [(.arr 4 (.var 2)), (.arr 35 (.var 3)), (.int (.var 12))] (.ob (.cmp .lt (.var 12) (.len (.var 9))) (.split (.not (.beq (.of (.cell (.var 9) (.var 12) 0)) (.cmp .lt (.lit 1) (.len (.var 15))))) (.ret [(.bool (.lit false))]) (.loop [.bool, .int] [(.bool (.of (.var 11))), (.int (.lit 0))] (.split (.cmp .lt (.var 17) (.len (.var 15))) (.ob (.cmp .le (.lit 0) (.var 17)) (.ob (.cmp .lt (.var 17) (.len (.var 15))) (.split (.cmp .lt (.cell (.var 15) (.var 17) 0) (.lit 0)) (.ret [(.bool (.lit false))]) (.ob (.cmp .lt (.var 17) (.len (.var 15))) (.split (.cmp .le (.len (.var 2)) (.cell (.var 15) (.var 17) 0)) (.ret [(.bool (.lit false))]) (.ob (.cmp .lt (.var 17) (.len (.var 15))) (.ob (.cmp .le (.lit 0) (.cell (.var 15) (.var 17) 0)) (.ob (.cmp .lt (.cell (.var 15) (.var 17) 0) (.len (.var 2))) (.split (.of (.cell (.var 2) (.cell (.var 15) (.var 17) 0) 0)) (.ret [(.bool (.lit false))]) (.split (.cmp .eq (.var 17) (.lit 0)) (.ob (.cmp .lt (.var 17) (.len (.var 15))) (.split (.cmp .ne (.cell (.var 15) (.var 17) 0) (.var 12)) (.ret [(.bool (.lit false))]) (.back 3 [(.bool (.of (.var 16))), (.int (.add (.var 17) (.lit 1)))]))) (.split (.cmp .lt (.lit 0) (.var 17)) (.ob (.cmp .lt (.sub (.var 17) (.lit 1)) (.len (.var 15))) (.ob (.cmp .le (.lit 0) (.cell (.var 15) (.sub (.var 17) (.lit 1)) 0)) (.ob (.cmp .lt (.cell (.var 15) (.sub (.var 17) (.lit 1)) 0) (.len (.var 3))) (.ob (.cmp .lt (.var 17) (.len (.var 15))) (.call 24 [(.arr 3 (.cell (.var 3) (.cell (.var 15) (.sub (.var 17) (.lit 1)) 0) 0)), (.int (.cell (.var 15) (.var 17) 0))] (.split (.not (.of (.var 18))) (.ret [(.bool (.lit false))]) (.back 3 [(.bool (.of (.var 16))), (.int (.add (.var 17) (.lit 1)))]))))))) (.back 3 [(.bool (.of (.var 16))), (.int (.add (.var 17) (.lit 1)))])))))))))))) (.fail 50029 [0]))))))))))))) (.call 18 [(.arr 4 (.var 2)), (.arr 35 (.var 3)), (.arr 3 (.var 7))] (.split (.of (.var 14)) (.split (.cmp .lt (.var 13) (.lit 0)) (.ret [(.bool (.lit false))]) (.split (.cmp .le (.len (.var 7)) (.var 13)) (.ret [(.bool (.lit false))]) (.ob (.cmp .lt (.var 13) (.len (.var 7))) (.ob (.cmp .le (.lit 0) (.cell (.var 7) (.var 13) 0)) (.ob (.cmp .lt (.cell (.var 7) (.var 13) 0) (.len (.var 9))) (.split (.not (.of (.cell (.var 9) (.cell (.var 7) (.var 13) 0) 0))) (.ret [(.bool (.lit false))]) (.split (.not (.of (.var 14))) (.split (.cmp .ne (.var 13) (.lit 0)) (.ret [(.bool (.lit false))]) (.loop [.bool, .int] [(.bool (.of (.var 11))), (.int (.lit 0))] (.split (.cmp .lt (.var 16) (.len (.var 7))) (.ob (.cmp .le (.lit 0) (.var 16)) (.ob (.cmp .lt (.var 16) (.len (.var 7))) (.ob (.cmp .le (.lit 0) (.cell (.var 7) (.var 16) 0)) (.ob (.cmp .lt (.cell (.var 7) (.var 16) 0) (.len (.var 9))) (.split (.of (.cell (.var 9) (.cell (.var 7) (.var 16) 0) 0)) (.split (.not (.of (.var 14))) (.ret [(.bool (.lit false))]) (.split (.cmp .lt (.var 13) (.var 16)) (.ret [(.bool (.lit false))]) (.back 2 [(.bool (.of (.var 15))), (.int (.add (.var 16) (.lit 1)))]))) (.back 2 [(.bool (.of (.var 15))), (.int (.add (.var 16) (.lit 1)))])))))) (.call 12 [] (.ret [(.bool (.of (.var 17)))]))))) (.loop [.bool, .int] [(.bool (.of (.var 11))), (.int (.lit 0))] (.split (.cmp .lt (.var 16) (.len (.var 7))) (.ob (.cmp .le (.lit 0) (.var 16)) (.ob (.cmp .lt (.var 16) (.len (.var 7))) (.ob (.cmp .le (.lit 0) (.cell (.var 7) (.var 16) 0)) (.ob (.cmp .lt (.cell (.var 7) (.var 16) 0) (.len (.var 9))) (.split (.of (.cell (.var 9) (.cell (.var 7) (.var 16) 0) 0)) (.split (.not (.of (.var 14))) (.ret [(.bool (.lit false))]) (.split (.cmp .lt (.var 13) (.var 16)) (.ret [(.bool (.lit false))]) (.back 2 [(.bool (.of (.var 15))), (.int (.add (.var 16) (.lit 1)))]))) (.back 2 [(.bool (.of (.var 15))), (.int (.add (.var 16) (.lit 1)))])))))) (.call 12 [] (.ret [(.bool (.of (.var 17)))]))))))))))) (.split (.not (.of (.var 14))) (.split (.cmp .ne (.var 13) (.lit 0)) (.ret [(.bool (.lit false))]) (.loop [.bool, .int] [(.bool (.of (.var 11))), (.int (.lit 0))] (.split (.cmp .lt (.var 16) (.len (.var 7))) (.ob (.cmp .le (.lit 0) (.var 16)) (.ob (.cmp .lt (.var 16) (.len (.var 7))) (.ob (.cmp .le (.lit 0) (.cell (.var 7) (.var 16) 0)) (.ob (.cmp .lt (.cell (.var 7) (.var 16) 0) (.len (.var 9))) (.split (.of (.cell (.var 9) (.cell (.var 7) (.var 16) 0) 0)) (.split (.not (.of (.var 14))) (.ret [(.bool (.lit false))]) (.split (.cmp .lt (.var 13) (.var 16)) (.ret [(.bool (.lit false))]) (.back 2 [(.bool (.of (.var 15))), (.int (.add (.var 16) (.lit 1)))]))) (.back 2 [(.bool (.of (.var 15))), (.int (.add (.var 16) (.lit 1)))])))))) (.call 12 [] (.ret [(.bool (.of (.var 17)))]))))) (.loop [.bool, .int] [(.bool (.of (.var 11))), (.int (.lit 0))] (.split (.cmp .lt (.var 16) (.len (.var 7))) (.ob (.cmp .le (.lit 0) (.var 16)) (.ob (.cmp .lt (.var 16) (.len (.var 7))) (.ob (.cmp .le (.lit 0) (.cell (.var 7) (.var 16) 0)) (.ob (.cmp .lt (.cell (.var 7) (.var 16) 0) (.len (.var 9))) (.split (.of (.cell (.var 9) (.cell (.var 7) (.var 16) 0) 0)) (.split (.not (.of (.var 14))) (.ret [(.bool (.lit false))]) (.split (.cmp .lt (.var 13) (.var 16)) (.ret [(.bool (.lit false))]) (.back 2 [(.bool (.of (.var 15))), (.int (.add (.var 16) (.lit 1)))]))) (.back 2 [(.bool (.of (.var 15))), (.int (.add (.var 16) (.lit 1)))])))))) (.call 12 [] (.ret [(.bool (.of (.var 17)))])))))))))))))))))))
end Go.Proofs.Ytbgofenplhdllaa
/- House: lists compared. -/
namespace Go.Proofs.Ytbgofenplhdllaa
open Go.RowKit
set_option linter.unusedSimpArgs false
set_option linter.unusedVariables false

theorem take_next {α : Type} {a b : List α} {i : Nat} (d : α) (h : a.take i = b.take i) (ha : i < a.length) (hb : i < b.length) (he : a.getD i d = b.getD i d) : a.take (i + 1) = b.take (i + 1) := by
  rw [take_snoc ha d, take_snoc hb d, h, he]
theorem take_all {α : Type} {a b : List α} {i : Nat} (h : a.take i = b.take i) (hi : a.length ≤ i ∨ b.length ≤ i) : a = b ↔ a.length = b.length := by
  constructor
  · intro e; rw [e]
  · intro e
    rw [List.take_of_length_le (by omega), List.take_of_length_le (by omega)] at h
    exact h
theorem ne_at {α : Type} {a b : List α} {i : Nat} {d : α} (h : a.getD i d ≠ b.getD i d) : a ≠ b := fun e => h (by rw [e])
theorem beq_no {α : Type} [BEq α] [LawfulBEq α] {a b : α} (h : a ≠ b) : (a == b) = false := beq_eq_false_iff_ne.2 h
theorem beq_ok {α : Type} [BEq α] [LawfulBEq α] {a b : α} (h : a = b) : (a == b) = true := beq_iff_eq.2 h
theorem sameints_ok : tab2.ok 20 := by
  refine Tab.of_ct rfl rfl ⟨_, Try.func20, by decide, rfl⟩ ?_ ctF_det
  refine ct_ok (cx := csameints) (Tab.cx_ok all_nil) Try.func20 (bds := []) (T := tsameints) (by kernel_rfl) ?_
  unfold tsameints
  simp only [VC, allC, List.map_cons, List.map_nil, List.length_cons, List.length_nil, List.getElem?_cons_zero, List.getElem?_cons_succ, List.cons.injEq, C.i.injEq, C.b.injEq, and_true, true_and, forall_const, kindsOf_nil, kindsOf_lf, kindsOf_agg, kindsOf_box, boxKinds_nil, boxKinds_lf, boxKinds_agg, boxKinds_box, List.append_nil, List.cons_append, List.nil_append, den_cmp_le, den_cmp_lt, den_cmp_eq, den_cmp_ne, den_cmp_le', den_cmp_lt', den_cmp_eq', den_cmp_ne', den_and, den_and', den_or, den_or', den_not, den_not', den_blit, den_of, ev_var, at_0, at_1, at_2, at_3, at_4, at_5, at_6, at_7, at_skip, c_int, c_bool, c_arr, c_cnt, c_vec, ev_nil, ev_join, ev_sub3, loc_s, int_i, bool_b, rows_s, cs_nil, cs_cons, E.den_lit, E.den_var, E.den_add, E.den_sub, E.den_mul, E.den_quo, E.den_rem, E.den_max, E.den_min, E.den_len, E.den_wr, E.den_cell, ev_cell, int_at, ctSameInts, ctF, intsSh]
  intro v0 r0 d0 _ hs0 v1 r1 d1 _ hs1
  have e0 := ints_len r0
  have e1 := ints_len r1
  generalize ints r0 = a at *
  generalize ints r1 = b at *
  refine ⟨bds_nil _, fun xs => match xs with | [_, .i i] => 0 ≤ i ∧ i ≤ a.length ∧ i ≤ b.length ∧ a.take i.toNat = b.take i.toNat | _ => False, fun xs => match xs with | [_, .i i] => ((a.length : Int) - i).toNat | _ => 0, ⟨by omega, by omega, by omega, by simp⟩, ?_⟩
  rintro x i _ _ ⟨i0, i1, i2, h⟩
  have fin : (a.length ≤ i.toNat ∨ b.length ≤ i.toNat) → B.den [C.s v0 r0, C.s v1 r1, C.b x, C.i i] (.cmp .eq (.len (.var 0)) (.len (.var 1))) = (a == b) := fun hle => by
    rw [Bool.eq_iff_iff, beq_iff_eq, take_all h hle]
    simp only [den_cmp_eq, E.den_len, ev_var, at_0, at_1, rows_s]
    omega
  refine ⟨fun hl => ⟨fun hr => ⟨i0, hl, hr, fun hne => ?_, fun he => ⟨⟨by omega, by omega, by omega, ?_⟩, (show ((a.length : Int) - (i + 1)).toNat < ((a.length : Int) - i).toNat by omega)⟩⟩, fun hr => fin (by omega)⟩, fun hl => fin (by omega)⟩
  · exact (beq_no (ne_at hne)).symm
  · rw [show (i + 1).toNat = i.toNat + 1 by omega]; exact take_next 0 h (by omega) (by omega) he
theorem hasint_ok : tab2.ok 24 := by
  refine Tab.of_ct rfl rfl ⟨_, Try.func24, by decide, rfl⟩ ?_ ctF_det
  refine ct_ok (cx := chasint) (Tab.cx_ok all_nil) Try.func24 (bds := []) (T := thasint) (by kernel_rfl) ?_
  unfold thasint
  simp only [VC, allC, List.map_cons, List.map_nil, List.length_cons, List.length_nil, List.getElem?_cons_zero, List.getElem?_cons_succ, List.cons.injEq, C.i.injEq, C.b.injEq, and_true, true_and, forall_const, kindsOf_nil, kindsOf_lf, kindsOf_agg, kindsOf_box, boxKinds_nil, boxKinds_lf, boxKinds_agg, boxKinds_box, List.append_nil, List.cons_append, List.nil_append, den_cmp_le, den_cmp_lt, den_cmp_eq, den_cmp_ne, den_cmp_le', den_cmp_lt', den_cmp_eq', den_cmp_ne', den_and, den_and', den_or, den_or', den_not, den_not', den_blit, den_of, ev_var, at_0, at_1, at_2, at_3, at_4, at_5, at_6, at_7, at_skip, c_int, c_bool, c_arr, c_cnt, c_vec, ev_nil, ev_join, ev_sub3, loc_s, int_i, bool_b, rows_s, cs_nil, cs_cons, E.den_lit, E.den_var, E.den_add, E.den_sub, E.den_mul, E.den_quo, E.den_rem, E.den_max, E.den_min, E.den_len, E.den_wr, E.den_cell, ev_cell, int_at, ctHas, ctF, intsSh, n_]
  intro v0 r0 d0 _ hs0 n _ _
  have e0 := ints_len r0
  generalize ints r0 = a at *
  refine ⟨bds_nil _, fun xs => match xs with | [_, .i i] => 0 ≤ i ∧ i ≤ a.length ∧ ∀ x ∈ a.take i.toNat, x ≠ n | _ => False, fun xs => match xs with | [_, .i i] => ((a.length : Int) - i).toNat | _ => 0, ⟨by omega, by omega, fun x hx => by simp at hx⟩, ?_⟩
  rintro x i _ _ ⟨i0, i1, h⟩
  refine ⟨fun hl => ⟨i0, hl, fun he => ?_, fun hne => ⟨⟨by omega, by omega, fun y hy => ?_⟩, (show ((a.length : Int) - (i + 1)).toNat < ((a.length : Int) - i).toNat by omega)⟩⟩, fun hl => ?_⟩
  · rw [List.contains_eq_mem, decide_eq_true]
    rw [← he]; exact getD_mem (by omega) 0
  · rw [show (i + 1).toNat = i.toNat + 1 by omega, take_snoc (by omega) 0] at hy
    rcases List.mem_append.1 hy with hy | hy
    · exact h y hy
    · rw [List.mem_singleton] at hy; subst hy; exact hne
  · rw [List.take_of_length_le (by omega)] at h
    rw [List.contains_eq_mem, decide_eq_false]
    exact fun hm => h n hm rfl
theorem samelists_ok : tab2.ok 11 := by
  refine Tab.of_ct rfl rfl ⟨_, Try.func11, by decide, rfl⟩ ?_ ctF_det
  refine ct_ok (cx := csamelists) (Tab.cx_ok (all_cons sameints_ok all_nil)) Try.func11 (bds := []) (T := tsamelists) (by kernel_rfl) ?_
  have h1 : csamelists.ct 20 = some ctSameInts := rfl
  unfold tsamelists
  simp only [VC, allC, List.map_cons, List.map_nil, List.length_cons, List.length_nil, List.getElem?_cons_zero, List.getElem?_cons_succ, List.cons.injEq, C.i.injEq, C.b.injEq, and_true, true_and, forall_const, kindsOf_nil, kindsOf_lf, kindsOf_agg, kindsOf_box, boxKinds_nil, boxKinds_lf, boxKinds_agg, boxKinds_box, List.append_nil, List.cons_append, List.nil_append, den_cmp_le, den_cmp_lt, den_cmp_eq, den_cmp_ne, den_cmp_le', den_cmp_lt', den_cmp_eq', den_cmp_ne', den_and, den_and', den_or, den_or', den_not, den_not', den_blit, den_of, ev_var, at_0, at_1, at_2, at_3, at_4, at_5, at_6, at_7, at_skip, c_int, c_bool, c_arr, c_cnt, c_vec, ev_nil, ev_join, ev_sub3, loc_s, int_i, bool_b, rows_s, cs_nil, cs_cons, E.den_lit, E.den_var, E.den_add, E.den_sub, E.den_mul, E.den_quo, E.den_rem, E.den_max, E.den_min, E.den_len, E.den_wr, E.den_cell, ev_cell, ints_at, h1, ctSameInts, ctSameLists, ctF, intsSh]
  intro v0 r0 d0 _ hs0 v1 r1 d1 _ hs1
  have e0 := intss_len r0
  have e1 := intss_len r1
  generalize intss r0 = a at *
  generalize intss r1 = b at *
  refine ⟨bds_nil _, fun hne => (beq_no fun e => hne (by rw [e] at e0; omega)).symm, fun he => ?_⟩
  refine ⟨fun xs => match xs with | [_, .i i] => 0 ≤ i ∧ i ≤ a.length ∧ a.take i.toNat = b.take i.toNat | _ => False, fun xs => match xs with | [_, .i i] => ((a.length : Int) - i).toNat | _ => 0, ⟨by omega, by omega, by simp⟩, ?_⟩
  rintro x i _ _ ⟨i0, i1, h⟩
  refine ⟨fun hl => ⟨i0, hl, by omega, ?_⟩, fun hl => ?_⟩
  · rintro t ht
    have ht : t = (a.getD i.toNat [] == b.getD i.toNat []) := ht
    refine ⟨fun hf => ?_, fun htt => ⟨⟨by omega, by omega, ?_⟩, (show ((a.length : Int) - (i + 1)).toNat < ((a.length : Int) - i).toNat by omega)⟩⟩
    · rw [ht, beq_eq_false_iff_ne] at hf
      exact (beq_no (ne_at hf)).symm
    · rw [ht, beq_iff_eq] at htt
      rw [show (i + 1).toNat = i.toNat + 1 by omega]; exact take_next [] h (by omega) (by omega) htt
  · exact (beq_ok ((take_all h (by omega)).2 (by omega))).symm
end Go.Proofs.Ytbgofenplhdllaa
/- House: the wild well, both texts. -/
namespace Go.Proofs.Ytbgofenplhdllaa
open Go.RowKit
set_option linter.unusedSimpArgs false
set_option linter.unusedVariables false

theorem wildV_bad {l r t : Int} (h : ¬ (1 ≤ l ∧ l ≤ 15 ∧ 1 ≤ r ∧ r ≤ 15 ∧ 0 ≤ t ∧ t ≤ 3)) : wildV l r t = (⟨[], []⟩, 2) := by unfold wildV; rw [if_neg h]
theorem wildV_full {l r t : Int} (h : 1 ≤ l ∧ l ≤ 15 ∧ 1 ≤ r ∧ r ≤ 15 ∧ 0 ≤ t ∧ t ≤ 3) (h2 : 64 < (l + 1) * (t + 1)) : wildV l r t = (⟨[], []⟩, 8) := by unfold wildV; rw [if_pos h, if_pos h2]
theorem wildV_ok {l r t : Int} (h : 1 ≤ l ∧ l ≤ 15 ∧ 1 ≤ r ∧ r ≤ 15 ∧ 0 ≤ t ∧ t ≤ 3) (h2 : (l + 1) * (t + 1) ≤ 64) : wildV l r t = (wildB l.toNat r.toNat t.toNat, 0) := by unfold wildV; rw [if_pos h, if_neg (by omega)]
theorem wild_post {l r t : Int} {b : Blow} {e : Int} {cs : List C} (h : wildV l r t = (b, e)) (h1 : blowOf cs = b) : blowOf cs = (wildV l r t).1 ∧ e = (wildV l r t).2 := by rw [h]; exact ⟨h1, rfl⟩
theorem bools_snoc (rows : List (List C)) (x : Bool) : bools (rows ++ [[.b x]]) = bools rows ++ [x] := by simp [bools, C.bool]
theorem intss_snoc (rows : List (List C)) (v : Value) (x y : Int) : intss (rows ++ [[.s v [[.i x], [.i y]]]]) = intss rows ++ [[x, y]] := by simp [intss, ints, C.int, C.rows]
theorem wild_lost_take {L R T V c : Nat} (hV : V ≤ L) (hc : c ≤ T) : (wildB L R T).lost.take (ix T V c + 1) = (wildB L R T).lost.take (ix T V c) ++ [decide (V = L)] := by
  rw [take_snoc (by rw [wild_len]; exact ix_lt hV hc) false, wild_lost (ix_lt hV hc), ix_div hc]
theorem wild_moves_take {L R T V c : Nat} (hV : V ≤ L) (hc : c ≤ T) : (wildB L R T).moves.take (ix T V c + 1) = (wildB L R T).moves.take (ix T V c) ++ [if c = T then [(ix T V c : Int), (ix T V c : Int)] else [(ix T (min L (V + R)) c : Int), (ix T (min L (V + R)) (c + 1) : Int)]] := by
  rw [take_snoc (by rw [wild_mlen]; exact ix_lt hV hc) [], wild_moves (ix_lt hV hc)]
  unfold wildM
  rw [ix_mod hc, ix_div hc]
theorem ix_int (T V c : Nat) : ((ix T V c : Nat) : Int) = (V : Int) * ((T : Int) + 1) + c := by unfold ix; push_cast; rfl
theorem ix_next (T V : Nat) : ix T V (T + 1) = ix T (V + 1) 0 := by unfold ix; rw [Nat.add_mul]; omega
/-- A state of the two loops. -/
def WAt (L R T : Nat) (n : Nat) (lr mr : List (List C)) : Prop := bools lr = (wildB L R T).lost.take n ∧ intss mr = (wildB L R T).moves.take n
theorem WAt.len {L R T n : Nat} {lr mr : List (List C)} (h : WAt L R T n lr mr) (hN : (L + 1) * (T + 1) ≤ 64) : lr.length ≤ 64 ∧ mr.length ≤ 64 := by
  have h1 := bools_len lr
  have h2 := intss_len mr
  rw [h.1, List.length_take, wild_len] at h1
  rw [h.2, List.length_take, wild_mlen] at h2
  omega
theorem WAt.step {L R T V c : Nat} {lr mr : List (List C)} (h : WAt L R T (ix T V c) lr mr) (hV : V ≤ L) (hc : c ≤ T) {x : Bool} {v : Value} {p q : Int} (hx : x = decide (V = L))
    (hp : p = if c = T then (ix T V c : Int) else (ix T (min L (V + R)) c : Int)) (hq : q = if c = T then (ix T V c : Int) else (ix T (min L (V + R)) (c + 1) : Int)) : WAt L R T (ix T V (c + 1)) (lr ++ [[.b x]]) (mr ++ [[.s v [[.i p], [.i q]]]]) := by
  have e : ix T V (c + 1) = ix T V c + 1 := rfl
  refine ⟨?_, ?_⟩
  · rw [bools_snoc, h.1, e, wild_lost_take hV hc, hx]
  · rw [intss_snoc, h.2, e, wild_moves_take hV hc, hp, hq]
    split <;> rfl
theorem WAt.done {L R T : Nat} {lr mr : List (List C)} (h : WAt L R T (ix T (L + 1) 0) lr mr) (u v : Value) (cs : List C) : blowOf (.s u lr :: .s v mr :: cs) = wildB L R T := by
  have e : ix T (L + 1) 0 = (L + 1) * (T + 1) := by unfold ix; omega
  show Blow.mk (bools lr) (intss mr) = _
  rw [h.1, h.2, e, List.take_of_length_le (by rw [wild_len]; exact Nat.le_refl _), List.take_of_length_le (by rw [wild_mlen]; exact Nat.le_refl _)]
theorem wild_ok : tab2.ok 9 := by
  refine Tab.of_ct rfl rfl ⟨_, Try.func9, by decide, rfl⟩ ?_ (fun h => by cases h)
  refine ct_ok (cx := cwild) (Tab.cx_ok all_nil fxwild) Try.func9 (bds := []) (T := twild) (by kernel_rfl) ?_
  unfold twild
  simp only [VC, allC, List.map_cons, List.map_nil, List.length_cons, List.length_nil, List.getElem?_cons_zero, List.getElem?_cons_succ, List.cons.injEq, C.i.injEq, C.b.injEq, and_true, true_and, forall_const, kindsOf_nil, kindsOf_lf, kindsOf_agg, kindsOf_box, boxKinds_nil, boxKinds_lf, boxKinds_agg, boxKinds_box, List.append_nil, List.cons_append, List.nil_append, den_cmp_le, den_cmp_lt, den_cmp_eq, den_cmp_ne, den_cmp_le', den_cmp_lt', den_cmp_eq', den_cmp_ne', den_and, den_and', den_or, den_or', den_not, den_not', den_blit, den_of, ev_var, at_0, at_1, at_2, at_3, at_4, at_5, at_6, at_7, at_skip, c_int, c_bool, c_arr, c_cnt, c_vec, ev_nil, ev_join, ev_sub3, loc_s, int_i, bool_b, rows_s, cs_nil, cs_cons, E.den_lit, E.den_var, E.den_add, E.den_sub, E.den_mul, E.den_quo, E.den_rem, E.den_max, E.den_min, E.den_len, E.den_wr, E.den_cell, ctWild, n_]
  intro l l0 l1 r r0 r1 t t0 t1
  refine ⟨bds_nil _, fun h => wild_post (l := l) (r := r) (t := t) (wildV_bad (by omega)) rfl, fun h1 => ⟨fun h => wild_post (l := l) (r := r) (t := t) (wildV_bad (by omega)) rfl, fun h2 => ⟨fun h => wild_post (l := l) (r := r) (t := t) (wildV_bad (by omega)) rfl, fun h3 => ⟨fun h => wild_post (l := l) (r := r) (t := t) (wildV_bad (by omega)) rfl, fun h4 => ?_⟩⟩⟩⟩
  have hr : 1 ≤ l ∧ l ≤ 15 ∧ 1 ≤ r ∧ r ≤ 15 ∧ 0 ≤ t ∧ t ≤ 3 := by omega
  have hm := mul_bd (a := l + 1) (b := t + 1) (A := 16) (B := 4) (by omega) (by omega) (by omega) (by omega)
  refine ⟨by omega, by omega, fun h => wild_post (wildV_full hr h) rfl, fun h5 => ?_⟩
  obtain ⟨L, rfl⟩ : ∃ L : Nat, l = L := ⟨l.toNat, by omega⟩
  obtain ⟨R, rfl⟩ : ∃ R : Nat, r = R := ⟨r.toNat, by omega⟩
  obtain ⟨T, rfl⟩ : ∃ T : Nat, t = T := ⟨t.toNat, by omega⟩
  have hN : (L + 1) * (T + 1) ≤ 64 := by
    have : (((L + 1) * (T + 1) : Nat) : Int) ≤ 64 := by push_cast; exact h5
    omega
  rw [wildV_ok hr h5]
  simp only [Int.toNat_natCast]
  intro vc
  refine ⟨by omega, fun xs => match xs with | [.i v, .s _ lr, .s _ mr] => 0 ≤ v ∧ v ≤ L + 1 ∧ WAt L R T (ix T v.toNat 0) lr mr | _ => False, fun xs => match xs with | [.i v, _, _] => ((L : Int) + 1 - v).toNat | _ => 0, ⟨by omega, by omega, ⟨by simp [ix, bools], by simp [ix, intss]⟩⟩, ?_⟩
  rintro v _ _ u1 lr _ _ _ u2 mr _ _ _ ⟨v0, v1, hw⟩
  obtain ⟨V, rfl⟩ : ∃ V : Nat, v = V := ⟨v.toNat, by omega⟩
  simp only [Int.toNat_natCast] at hw
  refine ⟨fun hlt => ?_, fun hge => ?_⟩
  · refine ⟨fun xs => match xs with | [.i c, .s _ lr, .s _ mr] => 0 ≤ c ∧ c ≤ T + 1 ∧ WAt L R T (ix T V c.toNat) lr mr | _ => False, fun xs => match xs with | [.i c, _, _] => ((T : Int) + 1 - c).toNat | _ => 0, ⟨by omega, by omega, hw⟩, ?_⟩
    rintro c _ _ u3 lr2 _ _ _ u4 mr2 _ _ _ ⟨c0, c1, hw2⟩
    obtain ⟨K, rfl⟩ : ∃ K : Nat, c = K := ⟨c.toNat, by omega⟩
    simp only [Int.toNat_natCast] at hw2
    have hlen := hw2.len hN
    have m1 := mul_bd (a := min (L : Int) (V + R)) (b := (T : Int) + 1) (A := 15) (B := 4) (by omega) (by omega) (by omega) (by omega)
    have m2 := mul_bd (a := min (L : Int) V) (b := (T : Int) + 1) (A := 15) (B := 4) (by omega) (by omega) (by omega) (by omega)
    have x1 : ∀ k : Nat, ((ix T (min L (V + R)) k : Nat) : Int) = min (L : Int) (V + R) * ((T : Int) + 1) + k := fun k => by rw [ix_int, show ((min L (V + R) : Nat) : Int) = min (L : Int) (V + R) by omega]
    have x2 : ((ix T V K : Nat) : Int) = min (L : Int) V * ((T : Int) + 1) + K := by rw [ix_int, show min (L : Int) V = V by omega]
    have hnext : ((K : Int) + 1).toNat = K + 1 := by omega
    generalize min (L : Int) (V + R) * ((T : Int) + 1) = X at *
    generalize min (L : Int) V * ((T : Int) + 1) = Y at *
    refine ⟨fun hlt2 => ⟨by omega, by omega, by omega, by omega, by omega, by omega, fun hc => ?_, fun hc => ?_⟩, fun hge2 => ⟨by omega, by omega, ⟨by omega, by omega, ?_⟩, (show ((L : Int) + 1 - (V + 1)).toNat < ((L : Int) + 1 - V).toNat by omega)⟩⟩
    · refine ⟨by omega, by omega, by omega, by omega, by omega, fun v => ⟨by omega, by omega, fun v1 => ⟨by omega, fun v2 => ⟨⟨by omega, by omega, ?_⟩, (show ((T : Int) + 1 - (K + 1)).toNat < ((T : Int) + 1 - K).toNat by omega)⟩⟩⟩⟩
      rw [hnext]
      exact hw2.step (by omega) (by omega) (show ((V : Int) == (L : Int)) = decide (V = L) by rw [Bool.eq_iff_iff, beq_iff_eq, decide_eq_true_eq]; omega) (by rw [if_pos (by omega), x2]) (by rw [if_pos (by omega), x2])
    · refine ⟨by omega, fun v => ⟨by omega, by omega, fun v1 => ⟨by omega, fun v2 => ⟨⟨by omega, by omega, ?_⟩, (show ((T : Int) + 1 - (K + 1)).toNat < ((T : Int) + 1 - K).toNat by omega)⟩⟩⟩⟩
      rw [hnext]
      exact hw2.step (by omega) (by omega) (show ((V : Int) == (L : Int)) = decide (V = L) by rw [Bool.eq_iff_iff, beq_iff_eq, decide_eq_true_eq]; omega) (by rw [if_neg (by omega), x1]) (by rw [if_neg (by omega), x1]; push_cast; rfl)
    · have hK : K = T + 1 := by omega
      subst hK
      rw [show ((V : Int) + 1).toNat = V + 1 by omega, ← ix_next]; exact hw2
  · refine ⟨?_, trivial⟩
    have : V = L + 1 := by omega
    subst this
    exact hw.done _ _ _
end Go.Proofs.Ytbgofenplhdllaa
/- House: the document's wild well. -/
namespace Go.Proofs.Ytbgofenplhdllaa
open Go.RowKit
set_option linter.unusedSimpArgs false
set_option linter.unusedVariables false

theorem rwild_ok : tab2.ok 10 := by
  refine Tab.of_ct rfl rfl ⟨_, Try.func10, by decide, rfl⟩ ?_ (fun h => by cases h)
  refine ct_ok (cx := crwild) (Tab.cx_ok all_nil) Try.func10 (bds := []) (T := trwild) (by kernel_rfl) ?_
  unfold trwild
  simp only [VC, allC, List.map_cons, List.map_nil, List.length_cons, List.length_nil, List.getElem?_cons_zero, List.getElem?_cons_succ, List.cons.injEq, C.i.injEq, C.b.injEq, and_true, true_and, forall_const, kindsOf_nil, kindsOf_lf, kindsOf_agg, kindsOf_box, boxKinds_nil, boxKinds_lf, boxKinds_agg, boxKinds_box, List.append_nil, List.cons_append, List.nil_append, den_cmp_le, den_cmp_lt, den_cmp_eq, den_cmp_ne, den_cmp_le', den_cmp_lt', den_cmp_eq', den_cmp_ne', den_and, den_and', den_or, den_or', den_not, den_not', den_blit, den_of, ev_var, at_0, at_1, at_2, at_3, at_4, at_5, at_6, at_7, at_skip, c_int, c_bool, c_arr, c_cnt, c_vec, ev_nil, ev_join, ev_sub3, loc_s, int_i, bool_b, rows_s, cs_nil, cs_cons, E.den_lit, E.den_var, E.den_add, E.den_sub, E.den_mul, E.den_quo, E.den_rem, E.den_max, E.den_min, E.den_len, E.den_wr, E.den_cell, ctWild, n_]
  intro l l0 l1 r r0 r1 t t0 t1
  refine ⟨bds_nil _, fun h => wild_post (l := l) (r := r) (t := t) (wildV_bad (by omega)) rfl, fun h1 => ⟨fun h => wild_post (l := l) (r := r) (t := t) (wildV_bad (by omega)) rfl, fun h2 => ⟨fun h => wild_post (l := l) (r := r) (t := t) (wildV_bad (by omega)) rfl, fun h3 => ⟨fun h => wild_post (l := l) (r := r) (t := t) (wildV_bad (by omega)) rfl, fun h4 => ⟨fun h => wild_post (l := l) (r := r) (t := t) (wildV_bad (by omega)) rfl, fun h5 => ⟨fun h => wild_post (l := l) (r := r) (t := t) (wildV_bad (by omega)) rfl, fun h6 => ?_⟩⟩⟩⟩⟩⟩
  have hr : 1 ≤ l ∧ l ≤ 15 ∧ 1 ≤ r ∧ r ≤ 15 ∧ 0 ≤ t ∧ t ≤ 3 := by omega
  have hm := mul_bd (a := l + 1) (b := t + 1) (A := 16) (B := 4) (by omega) (by omega) (by omega) (by omega)
  have hf : (l + 1) * (t + 1) ≤ 64 := by omega
  obtain ⟨L, rfl⟩ : ∃ L : Nat, l = L := ⟨l.toNat, by omega⟩
  obtain ⟨R, rfl⟩ : ∃ R : Nat, r = R := ⟨r.toNat, by omega⟩
  obtain ⟨T, rfl⟩ : ∃ T : Nat, t = T := ⟨t.toNat, by omega⟩
  have hN : (L + 1) * (T + 1) ≤ 64 := by
    have : (((L + 1) * (T + 1) : Nat) : Int) ≤ 64 := by push_cast; exact hf
    omega
  rw [wildV_ok hr hf]
  simp only [Int.toNat_natCast]
  refine ⟨fun xs => match xs with | [.i v, .s _ lr, .s _ mr] => 0 ≤ v ∧ v ≤ L + 1 ∧ WAt L R T (ix T v.toNat 0) lr mr | _ => False, fun xs => match xs with | [.i v, _, _] => ((L : Int) + 1 - v).toNat | _ => 0, ⟨by omega, by omega, ⟨by simp [ix, bools], by simp [ix, intss]⟩⟩, ?_⟩
  rintro v _ _ u1 lr _ _ _ u2 mr _ _ _ ⟨v0, v1, hw⟩
  obtain ⟨V, rfl⟩ : ∃ V : Nat, v = V := ⟨v.toNat, by omega⟩
  simp only [Int.toNat_natCast] at hw
  refine ⟨fun hlt => ?_, fun hge => ?_⟩
  · refine ⟨fun xs => match xs with | [.i c, .s _ lr, .s _ mr] => 0 ≤ c ∧ c ≤ T + 1 ∧ WAt L R T (ix T V c.toNat) lr mr | _ => False, fun xs => match xs with | [.i c, _, _] => ((T : Int) + 1 - c).toNat | _ => 0, ⟨by omega, by omega, hw⟩, ?_⟩
    rintro c _ _ u3 lr2 _ _ _ u4 mr2 _ _ _ ⟨c0, c1, hw2⟩
    obtain ⟨K, rfl⟩ : ∃ K : Nat, c = K := ⟨c.toNat, by omega⟩
    simp only [Int.toNat_natCast] at hw2
    have hlen := hw2.len hN
    have m1 := mul_bd (a := min (L : Int) (V + R)) (b := (T : Int) + 1) (A := 15) (B := 4) (by omega) (by omega) (by omega) (by omega)
    have m2 := mul_bd (a := (V : Int)) (b := (T : Int) + 1) (A := 15) (B := 4) (by omega) (by omega) (by omega) (by omega)
    have x1 : ∀ k : Nat, ((ix T (min L (V + R)) k : Nat) : Int) = min (L : Int) (V + R) * ((T : Int) + 1) + k := fun k => by rw [ix_int, show ((min L (V + R) : Nat) : Int) = min (L : Int) (V + R) by omega]
    have x2 : ((ix T V K : Nat) : Int) = (V : Int) * ((T : Int) + 1) + K := by rw [ix_int]
    have hnext : ((K : Int) + 1).toNat = K + 1 := by omega
    generalize min (L : Int) (V + R) * ((T : Int) + 1) = X at *
    generalize (V : Int) * ((T : Int) + 1) = Y at *
    have hB : ((V : Int) == (L : Int)) = decide (V = L) := by rw [Bool.eq_iff_iff, beq_iff_eq, decide_eq_true_eq]; omega
    refine ⟨fun hlt2 => ⟨by omega, by omega, by omega, by omega, by omega, by omega, by omega, by omega, fun v13 => ?_⟩, fun hge2 => ⟨⟨by omega, by omega, ?_⟩, (show ((L : Int) + 1 - (V + 1)).toNat < ((L : Int) + 1 - V).toNat by omega)⟩⟩
    · refine ⟨fun xs => match xs with | [.s _ rows] => rows = [[.i (if (K : Int) = T then Y + K else X + K)], [.i (if (K : Int) = T then Y + K else X + K + 1)]] | _ => False, ⟨fun hc => ⟨by omega, by omega, fun v14 => ?_⟩, fun hc => ?_⟩, ?_⟩
      · show _ = _
        rw [if_pos hc, if_pos hc]
      · show _ = _
        rw [if_neg hc, if_neg hc]
      rintro v14 rows14 _ _ _ rfl
      have hst : ∀ v : Value, WAt L R T (ix T V (K + 1)) (lr2 ++ [[.b ((V : Int) == (L : Int))]]) (mr2 ++ [[.s v [[.i (if (K : Int) = T then Y + K else X + K)], [.i (if (K : Int) = T then Y + K else X + K + 1)]]]]) := fun v =>
        hw2.step (by omega) (by omega) hB (by
          rw [x1, x2]
          by_cases hc : K = T
          · rw [if_pos hc, if_pos (show (K : Int) = T by omega)]
          · rw [if_neg hc, if_neg (show ¬ (K : Int) = T by omega)]) (by
          rw [x1, x2]
          by_cases hc : K = T
          · rw [if_pos hc, if_pos (show (K : Int) = T by omega)]
          · rw [if_neg hc, if_neg (show ¬ (K : Int) = T by omega)]; push_cast; omega)
      refine ⟨fun xs => match xs with | [_, .s _ lr, .s _ mr] => WAt L R T (ix T V (K + 1)) lr mr | _ => False, ⟨⟨⟨by omega, fun v16 => ⟨by omega, fun v19 => hst _⟩⟩, ⟨by omega, fun v16 => ⟨by omega, fun v19 => hst _⟩⟩⟩, fun v16 => ⟨by omega, fun v18 => ⟨by omega, fun v19 => hst _⟩⟩⟩, ?_⟩
      rintro v15 r15 _ _ _ v16 r16 _ _ _ v17 r17 _ _ _ h
      refine ⟨⟨by omega, by omega, ?_⟩, (show ((T : Int) + 1 - (K + 1)).toNat < ((T : Int) + 1 - K).toNat by omega)⟩
      rw [hnext]; exact h
    · have hK : K = T + 1 := by omega
      subst hK
      rw [show ((V : Int) + 1).toNat = V + 1 by omega, ← ix_next]; exact hw2
  · refine ⟨?_, trivial⟩
    have : V = L + 1 := by omega
    subst this
    exact hw.done _ _ _
end Go.Proofs.Ytbgofenplhdllaa
/- House: the wild well, both texts: the call of HouseWild. -/
namespace Go.Proofs.Ytbgofenplhdllaa
open Go.RowKit
set_option linter.unusedSimpArgs false
set_option linter.unusedVariables false

theorem lwild_ok : CtOK Try.prog 3 (ctLaw [.lf .int, .lf .int, .lf .int]) := by
  refine ct_ok (cx := clwild) (Tab.cx_ok (all_cons wild_ok (all_cons rwild_ok (all_cons samelists_ok (all_cons (up_ok awake_ok) all_nil))))) Try.func3 (bds := []) (T := tlwild) (by kernel_rfl) ?_
  have h1 : clwild.ct 9 = some ctWild := rfl
  have h2 : clwild.ct 10 = some ctWild := rfl
  have h3 : clwild.ct 11 = some ctSameLists := rfl
  have h4 : clwild.ct 12 = some ctAwake := rfl
  unfold tlwild
  simp only [VC, allC, List.map_cons, List.map_nil, List.length_cons, List.length_nil, List.getElem?_cons_zero, List.getElem?_cons_succ, List.cons.injEq, C.i.injEq, C.b.injEq, and_true, true_and, forall_const, kindsOf_nil, kindsOf_lf, kindsOf_agg, kindsOf_box, boxKinds_nil, boxKinds_lf, boxKinds_agg, boxKinds_box, List.append_nil, List.cons_append, List.nil_append, den_cmp_le, den_cmp_lt, den_cmp_eq, den_cmp_ne, den_cmp_le', den_cmp_lt', den_cmp_eq', den_cmp_ne', den_and, den_and', den_or, den_or', den_not, den_not', den_blit, den_of, ev_var, at_0, at_1, at_2, at_3, at_4, at_5, at_6, at_7, at_skip, c_int, c_bool, c_arr, c_cnt, c_vec, ev_nil, ev_join, ev_sub3, loc_s, int_i, bool_b, rows_s, cs_nil, cs_cons, E.den_lit, E.den_var, E.den_add, E.den_sub, E.den_mul, E.den_quo, E.den_rem, E.den_max, E.den_min, E.den_len, E.den_wr, E.den_cell, ev_cell, bool_at, h1, h2, h3, h4, ctWild, ctSameLists, ctAwake, ctLaw, ctF, n_]
  intro l _ _ r _ _ t _ _
  refine ⟨bds_nil _, ?_⟩
  rintro u1 lr _ _ _ u2 mr _ _ _ e1 _ _ ⟨hw1, he1⟩ u3 lr2 _ _ _ u4 mr2 _ _ _ e2 _ _ ⟨hw2, he2⟩
  have he1 : e1 = (wildV l r t).2 := by simpa using he1
  have he2 : e2 = (wildV l r t).2 := by simpa using he2
  have hw := hw1.trans hw2.symm
  have hb : bools lr = bools lr2 := congrArg Blow.lost hw
  have hm : intss mr = intss mr2 := congrArg Blow.moves hw
  have hbl := congrArg List.length hb
  rw [bools_len, bools_len] at hbl
  refine ⟨fun hne => absurd (he1.trans he2.symm) hne, fun _ => ⟨fun hne => absurd (by omega) hne, fun _ => ?_⟩⟩
  rintro s hs
  have hs : s = (intss mr == intss mr2) := hs
  rw [hm, beq_self_eq_true] at hs
  refine ⟨fun hf => (by rw [hs] at hf; cases hf), fun _ => ?_⟩
  refine ⟨fun xs => match xs with | [_, .i i] => 0 ≤ i ∧ i ≤ lr.length | _ => False, fun xs => match xs with | [_, .i i] => ((lr.length : Int) - i).toNat | _ => 0, ⟨by omega, by omega⟩, ?_⟩
  rintro x i _ _ ⟨i0, i1⟩
  refine ⟨fun hl => ⟨i0, hl, by omega, fun hne => ?_, fun _ => ⟨⟨by omega, by omega⟩, (show ((lr.length : Int) - (i + 1)).toNat < ((lr.length : Int) - i).toNat by omega)⟩⟩, fun hl => fun t ht => ht⟩
  have hne : (((C.s u1 lr).at i.toNat 0).bool == ((C.s u3 lr2).at i.toNat 0).bool) = false := hne
  rw [bool_at, bool_at, hb, beq_self_eq_true] at hne
  cases hne
end Go.Proofs.Ytbgofenplhdllaa
/- The call of HouseWild. -/
namespace Go.Proofs.Ytbgofenplhdllaa
open Go.RowKit
theorem walk_HouseWild (a b c : Int) (W : World) (ha : -9223372036854775808 ≤ a ∧ a ≤ 9223372036854775807) (hb : -9223372036854775808 ≤ b ∧ b ≤ 9223372036854775807) (hc : -9223372036854775808 ≤ c ∧ c ≤ 9223372036854775807) :
    Calls Try.prog 3 #[.int .i64 a, .int .i64 b, .int .i64 c] W fun e w' => e = .returned (.bool true) ∧ Below W.heap.size W w' :=
  law_walk lwild_ok rfl (rep_lf ha (rep_lf hb (rep_lf hc rfl)))
end Go.Proofs.Ytbgofenplhdllaa
namespace Go.Proofs.Ytbgofenplhdllaa.lawHouseWild
open Go.ChangeShapes Go.WideShapes Go.ChangeAt Go.RowKit
set_option linter.unusedVariables false

set_option maxRecDepth 100000 in
theorem lifted (os : Os) (started : os.Started) (H : Type) (enc : TypeId × Value → H) :
    ReturnsInHanded {} Try.checked os 3 .any (Rows.houseWildSpec.pre6 enc Try.prog Try.f3 Rows.houseWildRow.domain false) (Rows.houseWildSpec.post enc Try.prog Try.f3 false true false false) := by
  refine returnsInHanded_of_change (C := Try.checked) own started (by kernel_rfl) Try.func3
    (ChangeSpec.witness6 (enc := enc) (C := Try.checked) false ⟨#[], #[.int .i64 0, .int .i64 0, .int .i64 0], []⟩ 8 (by kernel_rfl) (by kernel_rfl) (by kernel_rfl) (by kernel_rfl)) ?_
  intro W base args ds gs before hval0 hW hcnd _
  have hval : ∀ (j : Nat) t v, Try.f3.params[j]? = some t → args[j]? = some v → Value.okWide Try.prog W .any base t v := hval0
  have hW' := hW
  obtain ⟨p, q, hA0, hV, rfl, hfz, hnd⟩ := hW
  have hA : DataW.TrodAll enc Try.prog W 0 (fun _ => true) true Try.f3.params.toList args.toList ds p := hA0
  rw [Try.params3] at hA hval
  obtain ⟨v0, vs0, d0, ds0, p0, q0, hargs, rfl, rfl, h0, r0⟩ := trodAll_cons hA
  obtain ⟨v1, vs1, d1, ds1, p1, q1, rfl, rfl, rfl, h1, r1⟩ := trodAll_cons r0
  obtain ⟨v2, vs2, d2, ds2, p2, q2, rfl, rfl, rfl, h2, r2⟩ := trodAll_cons r1
  obtain ⟨rfl, rfl, rfl⟩ := trodAll_nil r2
  obtain rfl : args = #[v0, v1, v2] := by cases args; simp_all
  obtain ⟨rfl, rfl⟩ := trodVars_none hV
  have k0 := h0
  have lt0 : ∀ x ∈ p0, x.block < W.heap.size := by obtain ⟨m, hm⟩ := k0; exact DataW.trod_lt m _ _ _ hm
  obtain ⟨a0, e0, -, -, wf0⟩ := open_int Try.underlying3 (hval 0 3 v0 rfl rfl) h0
  subst e0
  have b0 := wf_bd wf0
  have k1 := h1
  have lt1 : ∀ x ∈ p1, x.block < W.heap.size := by obtain ⟨m, hm⟩ := k1; exact DataW.trod_lt m _ _ _ hm
  obtain ⟨a1, e1, -, -, wf1⟩ := open_int Try.underlying3 (hval 1 3 v1 rfl rfl) h1
  subst e1
  have b1 := wf_bd wf1
  have k2 := h2
  have lt2 : ∀ x ∈ p2, x.block < W.heap.size := by obtain ⟨m, hm⟩ := k2; exact DataW.trod_lt m _ _ _ hm
  obtain ⟨a2, e2, -, -, wf2⟩ := open_int Try.underlying3 (hval 2 3 v2 rfl rfl) h2
  subst e2
  have b2 := wf_bd wf2
  clear hA0 hval0
  refine (walk_HouseWild a0 a1 a2 W b0 b1 b2).mono fun e W' ⟨he, bel⟩ => ?_
  subst he
  exact ⟨_, rfl, _, _, _, [], _, [], hW', trodAll_mk1 (shut_bool Try.underlying4 _), (trodAll_cons_mk (Below.trod laidOut (by kernel_rfl) (of_decide_eq_true (by kernel_rfl)) k0 bel lt0) (trodAll_cons_mk (Below.trod laidOut (by kernel_rfl) (of_decide_eq_true (by kernel_rfl)) k1 bel lt1) (trodAll_cons_mk (Below.trod laidOut (by kernel_rfl) (of_decide_eq_true (by kernel_rfl)) k2 bel lt2) trodAll_mk0))), rfl, bel.frame _, fun h => by cases h⟩

theorem over : Rows.houseWildRow.holds Try.pinned (OpenSpec.ofChange Rows.houseWildSpec) :=
  OpenClaim.holds_of_wide 3 Try.f3 rfl rfl rfl rfl rfl rfl rfl ⟨rfl, rfl, rfl, rfl, rfl⟩ rfl rfl rfl rfl rfl (by kernel_rfl) Try.func3 (by kernel_rfl)
    (of_decide_eq_true (by kernel_rfl)) (by unfold Func.isWrapper; first | (rw [if_pos (by decide +kernel)]; kernel_rfl) | (rw [if_neg (by decide +kernel)]; exact ⟨rfl, rfl⟩))
    (fun os started H enc _ => lifted os started H enc)

theorem proved : Rows.HouseWildSaid := over
#print axioms proved
end Go.Proofs.Ytbgofenplhdllaa.lawHouseWild
