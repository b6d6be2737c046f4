/- Texts laid into one: XQ XR XU XS2 XT2 XV XW XX Ac XA XS3 XT3 XB1 XB2 XB3 XS4 XT4 XB4 XB5 XB6 XS5 XT5 XM1 XB7 XB8 Fz XS6 Sh. -/
import Derived.Test.YtcglpbchejkolaaKnown6
import Derived.Shelf.SortG.Plain
import Derived.Shelf.SlicesG.CompactI
import Derived.Shelf.SlGeneric
import Derived.Test.YtcglpbchejkolaaProg
/- Earth: the values of lines: plain laws. -/
namespace Go.Proofs.Ytcglpbchejkolaa
open Go.RowKit
set_option linter.unusedSimpArgs false
set_option linter.unusedVariables false

theorem badKs_ok {a v : Int} : ∀ {ks : List Kn} {last : Int}, badKs a v last ks = 0 → Asc ks ∧ (∀ k ∈ ks, 0 ≤ k.1 ∧ k.1 ≤ a ∧ 0 ≤ k.2 ∧ k.2 ≤ v) ∧ ∀ k l, ks = k :: l → last < k.1
  | [], last, _ => ⟨.nil, fun k hk => by simp at hk, fun k l h => by simp at h⟩
  | k :: ks, last, h => by
    rw [badKs] at h
    split at h
    rotate_left
    · omega
    rename_i hr
    rw [Bool.and_eq_true, inV_iff, inV_iff] at hr
    split at h
    · omega
    rename_i hl
    obtain ⟨h1, h2, h3⟩ := badKs_ok h
    refine ⟨?_, fun k' hk' => ?_, fun k' l e => by cases e; omega⟩
    · cases ks with
      | nil => exact .one k
      | cons b l => exact .cons (h3 b l rfl) h1
    · rcases List.mem_cons.1 hk' with rfl | hk'
      · omega
      · exact h2 k' hk'
/-- A line that is right. -/
structure Good (ks : List Kn) : Prop where
  ne : ks ≠ []
  len : ks.length ≤ 24
  asc : Asc ks
  box : (∀ k ∈ ks, 0 ≤ k.1 ∧ k.1 ≤ 1048576 ∧ 0 ≤ k.2 ∧ k.2 ≤ 68719476736) ∨ (∀ k ∈ ks, 0 ≤ k.1 ∧ k.1 ≤ 1099511627776 ∧ 0 ≤ k.2 ∧ k.2 ≤ 1048576)
theorem lineV_ok {ks : List Kn} {a v : Int} (h : lineV ks a v = 0) : ks ≠ [] ∧ ks.length ≤ 24 ∧ Asc ks ∧ (∀ k ∈ ks, 0 ≤ k.1 ∧ k.1 ≤ a ∧ 0 ≤ k.2 ∧ k.2 ≤ v) := by
  unfold lineV at h
  split at h
  rotate_left
  · omega
  split at h
  · omega
  rename_i h0
  split at h
  · omega
  rename_i h1
  obtain ⟨h2, h3, -⟩ := badKs_ok h
  exact ⟨fun e => h0 (by rw [e]; rfl), by omega, h2, h3⟩
theorem good {ks : List Kn} (h : rightB ks = true) : Good ks := by
  unfold rightB at h
  rw [Bool.or_eq_true, beq_iff_eq, beq_iff_eq] at h
  rcases h with h | h
  · obtain ⟨h1, h2, h3, h4⟩ := lineV_ok h; exact ⟨h1, h2, h3, .inl h4⟩
  · obtain ⟨h1, h2, h3, h4⟩ := lineV_ok h; exact ⟨h1, h2, h3, .inr h4⟩
theorem Good.bd {ks : List Kn} (h : Good ks) {k : Kn} (hk : k ∈ ks) : 0 ≤ k.1 ∧ k.1 ≤ 1099511627776 ∧ 0 ≤ k.2 ∧ k.2 ≤ 68719476736 := by
  rcases h.box with hb | hb
  · have := hb k hk; omega
  · have := hb k hk; omega
theorem Asc.tail {k : Kn} {l : List Kn} (h : Asc (k :: l)) : Asc l := by
  cases h with
  | one => exact .nil
  | cons h ht => exact ht
theorem Asc.head_lt : ∀ {l : List Kn} {k : Kn}, Asc (k :: l) → ∀ x ∈ l, k.1 < x.1
  | [], k, _, x, hx => by simp at hx
  | b :: l, k, h, x, hx => by
    cases h with
    | cons hkb ht =>
      rcases List.mem_cons.1 hx with rfl | hx
      · exact hkb
      · have := ht.head_lt x hx; omega
theorem Asc.lt : ∀ {ks : List Kn}, Asc ks → ∀ {i j : Nat}, i < j → j < ks.length → (ks.getD i (0, 0)).1 < (ks.getD j (0, 0)).1
  | [], _, i, j, _, hj => by simp at hj
  | k :: l, h, 0, j + 1, _, hj => by
    show k.1 < (l.getD j (0, 0)).1
    exact h.head_lt _ (getD_mem (by simpa using hj) _)
  | k :: l, h, i + 1, j + 1, hij, hj => by
    show (l.getD i (0, 0)).1 < (l.getD j (0, 0)).1
    exact h.tail.lt (by omega) (by simpa using hj)
/-! Where a place lies -/
theorem findG_spec : ∀ {l : List Kn} {p : Kn} {x : Int}, p.1 < x → (findG p l x).1 ∈ p :: l ∧ (findG p l x).2 ∈ p :: l ∧ ((findG p l x).1 = (findG p l x).2 ∨ ((findG p l x).1.1 < x ∧ x < (findG p l x).2.1))
  | [], p, x, _ => ⟨by simp [findG], by simp [findG], .inl rfl⟩
  | k :: l, p, x, hp => by
    rw [findG]
    split
    · rename_i h
      obtain ⟨h1, h2, h3⟩ := findG_spec (l := l) h
      exact ⟨List.mem_cons_of_mem _ h1, List.mem_cons_of_mem _ h2, h3⟩
    · split
      · exact ⟨by simp, by simp, .inl rfl⟩
      · exact ⟨by simp, by simp, .inr ⟨hp, by show x < k.1; omega⟩⟩
theorem findV_spec {ks : List Kn} (hne : ks ≠ []) (x : Int) : (findV ks x).1 ∈ ks ∧ (findV ks x).2 ∈ ks ∧ ((findV ks x).1 = (findV ks x).2 ∨ ((findV ks x).1.1 < x ∧ x < (findV ks x).2.1)) := by
  cases ks with
  | nil => exact absurd rfl hne
  | cons k l =>
    rw [findV]
    split
    · rename_i h; exact findG_spec h
    · exact ⟨by simp, by simp, .inl rfl⟩
theorem findG_at : ∀ {l : List Kn} {p : Kn} {x : Int} {i : Nat}, i ≤ l.length → (∀ k < i, (l.getD k (0, 0)).1 < x) → (∀ k, i ≤ k → k < l.length → x ≤ (l.getD k (0, 0)).1) →
    findG p l x = if i < l.length ∧ (l.getD i (0, 0)).1 = x then (l.getD i (0, 0), l.getD i (0, 0)) else ((p :: l).getD i (0, 0), (p :: l).getD (min (i + 1) l.length) (0, 0))
  | [], p, x, i, hi, _, _ => by
    have : i = 0 := by simpa using hi
    subst this
    rfl
  | k :: l, p, x, 0, hi, h1, h2 => by
    have hk : x ≤ k.1 := h2 0 (Nat.le_refl _) (by simp)
    rw [findG, if_neg (by omega)]
    by_cases e : k.1 = x
    · rw [if_pos e, if_pos ⟨by simp, e⟩]; rfl
    · rw [if_neg e, if_neg (fun h => e h.2)]
      have : min (0 + 1) (k :: l).length = 1 := by simp only [List.length_cons]; omega
      rw [this]; rfl
  | k :: l, p, x, i + 1, hi, h1, h2 => by
    have hk : k.1 < x := h1 0 (by omega)
    rw [findG, if_pos hk, findG_at (l := l) (i := i) (by simpa using hi) (fun j hj => h1 (j + 1) (by omega)) (fun j hj hj2 => h2 (j + 1) (by omega) (by simpa using hj2))]
    have e1 : min (i + 1 + 1) (k :: l).length = min (i + 1) l.length + 1 := by simp only [List.length_cons]; omega
    rw [e1]
    simp only [List.length_cons, Nat.add_lt_add_iff_right]
    rfl
theorem findV_at {ks : List Kn} (hne : ks ≠ []) {x : Int} {i : Nat} (hi : i ≤ ks.length) (h1 : ∀ k < i, (ks.getD k (0, 0)).1 < x) (h2 : ∀ k, i ≤ k → k < ks.length → x ≤ (ks.getD k (0, 0)).1) :
    findV ks x = if i < ks.length ∧ (ks.getD i (0, 0)).1 = x then (ks.getD i (0, 0), ks.getD i (0, 0)) else (ks.getD (i - 1) (0, 0), ks.getD (min i (ks.length - 1)) (0, 0)) := by
  cases ks with
  | nil => exact absurd rfl hne
  | cons k l =>
    rw [findV]
    match i, hi, h1, h2 with
    | 0, hi, h1, h2 =>
      have hk : x ≤ k.1 := h2 0 (Nat.le_refl _) (by simp)
      rw [if_neg (by omega), Nat.zero_sub, Nat.zero_min]
      split <;> rfl
    | i + 1, hi, h1, h2 =>
      have hk : k.1 < x := h1 0 (by omega)
      rw [if_pos hk, findG_at (l := l) (i := i) (by simpa using hi) (fun j hj => h1 (j + 1) (by omega)) (fun j hj hj2 => h2 (j + 1) (by omega) (by simpa using hj2))]
      have e1 : min (i + 1) ((k :: l).length - 1) = min (i + 1) l.length := by simp
      rw [e1]
      simp only [List.length_cons, Nat.add_lt_add_iff_right, Nat.add_sub_cancel]
      rfl
/-! Bounds -/
theorem mul_abs {y z V A : Int} (h1 : -V ≤ y) (h2 : y ≤ V) (h3 : 0 ≤ z) (h4 : z ≤ A) : -(V * A) ≤ y * z ∧ y * z ≤ V * A := by
  have hV : 0 ≤ V := by omega
  have a1 : V * z ≤ V * A := Int.mul_le_mul_of_nonneg_left h4 hV
  have a2 : y * z ≤ V * z := Int.mul_le_mul_of_nonneg_right h2 h3
  have a3 : -V * z ≤ y * z := Int.mul_le_mul_of_nonneg_right h1 h3
  rw [Int.neg_mul] at a3
  omega
theorem Good.part {ks : List Kn} (h : Good ks) (x : Int) : PartOK (findV ks x) x := by
  obtain ⟨m1, m2, hc⟩ := findV_spec h.ne x
  have b1 := h.bd m1
  have b2 := h.bd m2
  refine ⟨b1.2.2.1, b1.2.2.2, hc.imp id fun hc => ⟨b1.1, by omega, b2.2.1, by omega, by omega, b2.2.2.1, b2.2.2.2, ?_⟩⟩
  rcases h.box with hb | hb
  · have c1 := hb _ m1
    have c2 := hb _ m2
    have := mul_abs (y := (findV ks x).2.2 - (findV ks x).1.2) (z := x - (findV ks x).1.1) (V := 68719476736) (A := 1048576) (by omega) (by omega) (by omega) (by omega)
    omega
  · have c1 := hb _ m1
    have c2 := hb _ m2
    have := mul_abs (y := (findV ks x).2.2 - (findV ks x).1.2) (z := x - (findV ks x).1.1) (V := 1048576) (A := 1099511627776) (by omega) (by omega) (by omega) (by omega)
    omega
theorem seg_bd {y t d : Int} (hd : 0 < d) (h0 : 0 ≤ t) (h1 : t ≤ d) : min 0 y ≤ y * t / d ∧ y * t / d ≤ max 0 y := by
  rcases Int.le_total 0 y with hy | hy
  · have a1 : 0 ≤ y * t := Int.mul_nonneg hy h0
    have a2 : y * t ≤ y * d := Int.mul_le_mul_of_nonneg_left h1 hy
    have a3 := Int.ediv_nonneg a1 (Int.le_of_lt hd)
    have a4 : y * t / d ≤ y * d / d := Int.ediv_le_ediv hd a2
    rw [Int.mul_ediv_cancel _ (by omega)] at a4
    omega
  · have a1 : y * t ≤ 0 := Int.mul_nonpos_of_nonpos_of_nonneg hy h0
    have a2 : y * d ≤ y * t := Int.mul_le_mul_of_nonpos_left hy h1
    have a3 : y * t / d ≤ 0 / d := Int.ediv_le_ediv hd a1
    have a4 : y * d / d ≤ y * t / d := Int.ediv_le_ediv hd a2
    rw [Int.mul_ediv_cancel _ (by omega)] at a4
    simp at a3
    omega
/-- What the value of a part is. -/
theorem part_bd {p : Kn × Kn} {x : Int} (h : PartOK p x) : 0 ≤ (partAt p x).2.1 ∧ (partAt p x).2.1 < (partAt p x).2.2 ∧ (partAt p x).2.2 ≤ 1099511627776 ∧ 0 ≤ (partAt p x).1 ∧ (partAt p x).1 ≤ 68719476736 := by
  obtain ⟨h1, h2, h3⟩ := h
  unfold partAt
  split
  · exact ⟨Int.le_refl _, (by show (0 : Int) < 1; omega), (by show (1 : Int) ≤ _; omega), h1, h2⟩
  · rename_i hne
    obtain ⟨h4, h5, h6, h7, h8, h9, h10, -⟩ := h3.resolve_left hne
    have a1 := Int.emod_nonneg ((p.2.2 - p.1.2) * (x - p.1.1)) (b := p.2.1 - p.1.1) (by omega)
    have a2 := Int.emod_lt_of_pos ((p.2.2 - p.1.2) * (x - p.1.1)) (b := p.2.1 - p.1.1) (by omega)
    have a3 := seg_bd (y := p.2.2 - p.1.2) (t := x - p.1.1) (d := p.2.1 - p.1.1) (by omega) (by omega) (by omega)
    exact ⟨a1, a2, by show p.2.1 - p.1.1 ≤ _; omega, by show 0 ≤ p.1.2 + _; omega, by show p.1.2 + _ ≤ _; omega⟩
theorem Good.val {ks : List Kn} (h : Good ks) (x : Int) : 0 ≤ (valP ks x).2.1 ∧ (valP ks x).2.1 < (valP ks x).2.2 ∧ (valP ks x).2.2 ≤ 1099511627776 ∧ 0 ≤ (valP ks x).1 ∧ (valP ks x).1 ≤ 68719476736 := part_bd (h.part x)
/-- The value at a knot. -/
theorem findG_knot : ∀ {l : List Kn} {p k : Kn}, Asc (p :: l) → k ∈ l → findG p l k.1 = (k, k)
  | [], p, k, _, hk => by simp at hk
  | b :: l, p, k, h, hk => by
    rw [findG]
    rcases List.mem_cons.1 hk with rfl | hk
    · rw [if_neg (by omega), if_pos rfl]
    · rw [if_pos (h.tail.head_lt k hk)]
      exact findG_knot h.tail hk
theorem findV_knot {ks : List Kn} (h : Asc ks) {k : Kn} (hk : k ∈ ks) : findV ks k.1 = (k, k) := by
  cases ks with
  | nil => simp at hk
  | cons b l =>
    rw [findV]
    rcases List.mem_cons.1 hk with rfl | hk
    · rw [if_neg (by omega)]
    · rw [if_pos (h.head_lt k hk)]; exact findG_knot h hk
theorem valP_knot {ks : List Kn} (h : Asc ks) {k : Kn} (hk : k ∈ ks) : valP ks k.1 = (k.2, 0, 1) := by
  unfold valP partAt
  rw [findV_knot h hk, if_pos rfl]
theorem ceil_law {n d : Int} (hd : 0 < d) : -(-n / d) = n / d + min (n % d) 1 := by
  have h1 := Int.emod_nonneg n (b := d) (by omega)
  have h2 := Int.emod_lt_of_pos n hd
  have h3 := Int.mul_ediv_add_emod n d
  generalize hq : n / d = q at *
  generalize hr : n % d = r at *
  by_cases h0 : r = 0
  · have := ((Int.ediv_emod_unique (a := -n) (b := d) (r := 0) (q := -q) hd).2 ⟨by rw [Int.mul_neg]; omega, by omega, by omega⟩).1
    rw [this]; omega
  · have := ((Int.ediv_emod_unique (a := -n) (b := d) (r := d - r) (q := -q - 1) hd).2 ⟨by rw [Int.mul_sub, Int.mul_neg]; omega, by omega, by omega⟩).1
    rw [this]; omega
/-! Lines compared -/
theorem geP_left {v : Int} {q : Int × Int × Int} (hm : 0 ≤ q.2.1) : geP (v, 0, 1) q = decide (q.1 + min q.2.1 1 ≤ v) := by
  unfold geP
  simp only [Int.mul_one, Int.zero_mul]
  rw [Bool.eq_iff_iff]
  simp only [Bool.or_eq_true, Bool.and_eq_true, decide_eq_true_eq, beq_iff_eq]
  omega
theorem geP_right {v : Int} {p : Int × Int × Int} (hn : 0 ≤ p.2.1) : geP p (v, 0, 1) = decide (v ≤ p.1) := by
  unfold geP
  simp only [Int.mul_one, Int.zero_mul]
  rw [Bool.eq_iff_iff]
  simp only [Bool.or_eq_true, Bool.and_eq_true, decide_eq_true_eq, beq_iff_eq]
  omega
theorem aboveV_iff {a b : List Kn} (ha : Good a) (hb : Good b) {to : Int} : aboveV a b to = true ↔ (∀ k ∈ a, to < k.1 ∨ (rangeP b k.1).2 ≤ k.2) ∧ ∀ k ∈ b, to < k.1 ∨ k.2 ≤ (rangeP a k.1).1 := by
  unfold aboveV
  rw [List.all_eq_true]
  constructor
  · intro h
    refine ⟨fun k hk => ?_, fun k hk => ?_⟩
    · have := h k (by simp [hk])
      rw [valP_knot ha.asc hk, geP_left (hb.val _).1] at this
      simpa [rangeP] using this
    · have := h k (by simp [hk])
      rw [valP_knot hb.asc hk, geP_right (ha.val _).1] at this
      simpa [rangeP] using this
  · rintro ⟨h1, h2⟩ k hk
    rcases List.mem_append.1 hk with hk | hk
    · have := h1 k hk
      rw [valP_knot ha.asc hk, geP_left (hb.val _).1]
      simpa [rangeP] using this
    · have := h2 k hk
      rw [valP_knot hb.asc hk, geP_right (ha.val _).1]
      simpa [rangeP] using this
end Go.Proofs.Ytcglpbchejkolaa
/- Earth: the values of lines: what the functions compute. -/
namespace Go.Proofs.Ytcglpbchejkolaa
open Go.RowKit
set_option linter.unusedSimpArgs false
set_option linter.unusedVariables false

theorem find_ok : tab.ok 93 := by
  refine Tab.of_ct rfl rfl ⟨_, Try.func93, by decide, rfl⟩ ?_ ctF_det
  refine ct_ok (cx := cfind) (Tab.cx_ok (all_cons nan_ok all_nil) fxfind) Try.func93 (bds := []) (T := tfind) (by kernel_rfl) ?_
  unfold tfind
  simp only [VC, allC, List.map_cons, List.map_nil, List.length_cons, List.length_nil, List.getElem?_cons_zero, List.getElem?_cons_succ, List.cons.injEq, C.i.injEq, C.b.injEq, and_true, true_and, forall_const, kindsOf_nil, kindsOf_lf, kindsOf_agg, kindsOf_box, boxKinds_nil, boxKinds_lf, boxKinds_agg, boxKinds_box, List.append_nil, List.cons_append, List.nil_append, den_cmp_le, den_cmp_lt, den_cmp_eq, den_cmp_ne, den_cmp_le', den_cmp_lt', den_cmp_eq', den_cmp_ne', den_and, den_and', den_or, den_or', den_not, den_not', den_blit, den_of, ev_var, at_0, at_1, at_2, at_3, at_4, at_5, at_6, at_7, at_skip, c_int, c_bool, c_arr, c_cnt, c_vec, ev_nil, ev_join, ev_sub3, loc_s, int_i, bool_b, rows_s, cs_nil, cs_cons, E.den_lit, E.den_var, E.den_add, E.den_sub, E.den_mul, E.den_quo, E.den_rem, E.den_max, E.den_min, E.den_len, E.den_wr, E.den_cell, ev_cell, kn1, kn2, ctFind, ctF, lineSh, n_, k_, ofKn]
  intro u r d ty hs x _ _ hp
  have hk := knots_len r
  generalize hks : knots r = ks at *
  rw [← hk]
  obtain ⟨hasc, hne, hlen⟩ := hp
  have hpos : 0 < ks.length := List.length_pos_iff.2 hne
  refine ⟨bds_nil _, fun xs => match xs with | [.i i, .i j] => 0 ≤ i ∧ i ≤ j ∧ j ≤ ks.length ∧ (∀ k : Nat, (k : Int) < i → (ks.getD k (0, 0)).1 < x) ∧ ∀ k : Nat, j ≤ k → k < ks.length → x ≤ (ks.getD k (0, 0)).1 | _ => False, fun xs => match xs with | [.i i, .i j] => (j - i).toNat | _ => 0, ⟨by omega, by omega, by omega, fun k hk => by omega, fun k h1 h2 => by omega⟩, ?_⟩
  rintro i _ _ j _ _ ⟨i0, ij, jn, hlo, hhi⟩
  refine ⟨fun hlt => ?_, fun hge => ?_⟩
  · rw [Int.tdiv_eq_ediv_of_nonneg (by omega)]
    have hm1 : i ≤ (i + j) / 2 := by omega
    have hm2 : (i + j) / 2 < j := by omega
    generalize (i + j) / 2 = m at *
    refine ⟨⟨by omega, by omega⟩, by omega, by omega, by omega, by omega, by omega, by omega, by omega, fun h => ?_, fun h => ?_⟩
    · refine ⟨⟨by omega, by omega⟩, ⟨by omega, by omega⟩, ⟨by omega, by omega, by omega, fun k hk => ?_, hhi⟩, (show (j - (m + 1)).toNat < (j - i).toNat by omega)⟩
      by_cases e : (k : Int) = m
      · have : k = m.toNat := by omega
        rw [this]; exact h
      · have := hasc.lt (i := k) (j := m.toNat) (by omega) (by omega)
        omega
    · have key : ∀ k : Nat, m ≤ k → k < ks.length → x ≤ (ks.getD k (0, 0)).1 := fun k h1 h2 => by
        by_cases e : (k : Int) = m
        · have : k = m.toNat := by omega
          rw [this]; exact h
        · have := hasc.lt (i := m.toNat) (j := k) (by omega) h2
          omega
      exact ⟨fun _ => ⟨⟨by omega, by omega⟩, ⟨by omega, by omega, by omega, hlo, key⟩, (show (m - i).toNat < (j - i).toNat by omega)⟩, fun _ => ⟨⟨by omega, by omega⟩, ⟨by omega, by omega, by omega, hlo, key⟩, (show (m - i).toNat < (j - i).toNat by omega)⟩⟩
  · have e : j = i := by omega
    subst e
    have hf := findV_at hne (x := x) (i := j.toNat) (by omega) (fun k hk => hlo k (by omega)) (fun k h1 h2 => hhi k (by omega) h2)
    have e1 : (max (j - 1) 0).toNat = j.toNat - 1 := by omega
    have e2 : (min j ((ks.length : Int) - 1)).toNat = min j.toNat (ks.length - 1) := by omega
    rw [e1, e2]
    refine ⟨fun h => ⟨by omega, by omega, fun h2 => absurd h2 (by have := hhi j.toNat (by omega) (by omega); omega), fun h2 => ⟨fun h3 => ?_, fun h3 => ?_⟩⟩, fun h => ?_⟩
    · rw [if_neg (fun hc => by omega)] at hf
      rw [hf]
      exact ⟨by omega, by omega, by omega, rfl, rfl, rfl, rfl⟩
    · rw [if_pos ⟨by omega, by omega⟩] at hf
      rw [hf, show min j.toNat (ks.length - 1) = j.toNat by omega]
      exact ⟨by omega, by omega, by omega, by omega, rfl, rfl, rfl, rfl⟩
    · rw [if_neg (fun hc => by omega)] at hf
      rw [hf]
      exact ⟨by omega, by omega, by omega, rfl, rfl, rfl, rfl⟩
theorem at4_ok : tab.ok 94 := by
  refine Tab.of_ct rfl rfl ⟨_, Try.func94, by decide, rfl⟩ ?_ ctF_det
  refine ct_ok (cx := cat4) (Tab.cx_ok (all_cons floor_ok all_nil)) Try.func94 (bds := []) (T := tat4) (by kernel_rfl) ?_
  have h1 : cat4.ct 115 = some ctFloor := rfl
  unfold tat4
  simp only [VC, allC, List.map_cons, List.map_nil, List.length_cons, List.length_nil, List.getElem?_cons_zero, List.getElem?_cons_succ, List.cons.injEq, C.i.injEq, C.b.injEq, and_true, true_and, forall_const, kindsOf_nil, kindsOf_lf, kindsOf_agg, kindsOf_box, boxKinds_nil, boxKinds_lf, boxKinds_agg, boxKinds_box, List.append_nil, List.cons_append, List.nil_append, den_cmp_le, den_cmp_lt, den_cmp_eq, den_cmp_ne, den_cmp_le', den_cmp_lt', den_cmp_eq', den_cmp_ne', den_and, den_and', den_or, den_or', den_not, den_not', den_blit, den_of, ev_var, at_0, at_1, at_2, at_3, at_4, at_5, at_6, at_7, at_skip, c_int, c_bool, c_arr, c_cnt, c_vec, ev_nil, ev_join, ev_sub3, loc_s, int_i, bool_b, rows_s, cs_nil, cs_cons, E.den_lit, E.den_var, E.den_add, E.den_sub, E.den_mul, E.den_quo, E.den_rem, E.den_max, E.den_min, E.den_len, E.den_wr, E.den_cell, h1, ctFloor, ctAt4, ctF, n_]
  intro a0 _ _ a1 _ _ b0 _ _ b1 _ _ x _ _ hp
  have hbd := part_bd hp
  obtain ⟨p1, p2, p3⟩ := hp
  simp only [] at p1 p2 p3
  refine ⟨bds_nil _, fun h => ?_, fun h => ?_⟩
  · unfold partAt
    rw [if_pos (by rw [Prod.mk.injEq]; exact h)]
    exact ⟨rfl, rfl, rfl⟩
  · have hne : ¬ ((a0, a1) : Kn) = (b0, b1) := fun e => by
      rw [Prod.mk.injEq] at e
      exact h e.1 e.2
    obtain ⟨g1, g2, g3, g4, g5, g6, g7, g8, g9⟩ := p3.resolve_left hne
    unfold partAt at hbd ⊢
    rw [if_neg hne] at hbd ⊢
    unfold segP at hbd ⊢
    simp only [] at hbd ⊢
    have hde := Int.mul_ediv_add_emod ((b1 - a1) * (x - a0)) (b0 - a0)
    rw [Int.mul_comm (b0 - a0)] at hde
    generalize (b1 - a1) * (x - a0) = N at *
    refine ⟨⟨by omega, by omega⟩, ⟨by omega, by omega⟩, ⟨by omega, by omega⟩, ⟨by omega, by omega⟩, ⟨by omega, by omega⟩, ⟨by omega, by omega⟩, ⟨by omega, by omega⟩, ?_⟩
    rintro q _ _ rfl
    generalize N % (b0 - a0) = rr at *
    generalize hQ : N / (b0 - a0) = Q at *
    generalize hM : Q * (b0 - a0) = M at *
    exact ⟨⟨by omega, by omega⟩, ⟨by omega, by omega⟩, ⟨by omega, by omega⟩, ⟨by omega, by omega⟩, ⟨by omega, by omega⟩, ⟨by omega, by omega⟩, rfl, by omega, trivial⟩
theorem value_ok : tab.ok 65 := by
  refine Tab.of_ct rfl rfl ⟨_, Try.func65, by decide, rfl⟩ ?_ ctF_det
  refine ct_ok (cx := cvalue) (Tab.cx_ok (all_cons find_ok (all_cons at4_ok all_nil))) Try.func65 (bds := []) (T := tvalue) (by kernel_rfl) ?_
  have h1 : cvalue.ct 93 = some ctFind := rfl
  have h2 : cvalue.ct 94 = some ctAt4 := rfl
  unfold tvalue
  simp only [VC, allC, List.map_cons, List.map_nil, List.length_cons, List.length_nil, List.getElem?_cons_zero, List.getElem?_cons_succ, List.cons.injEq, C.i.injEq, C.b.injEq, and_true, true_and, forall_const, kindsOf_nil, kindsOf_lf, kindsOf_agg, kindsOf_box, boxKinds_nil, boxKinds_lf, boxKinds_agg, boxKinds_box, List.append_nil, List.cons_append, List.nil_append, den_cmp_le, den_cmp_lt, den_cmp_eq, den_cmp_ne, den_cmp_le', den_cmp_lt', den_cmp_eq', den_cmp_ne', den_and, den_and', den_or, den_or', den_not, den_not', den_blit, den_of, ev_var, at_0, at_1, at_2, at_3, at_4, at_5, at_6, at_7, at_skip, c_int, c_bool, c_arr, c_cnt, c_vec, ev_nil, ev_join, ev_sub3, loc_s, int_i, bool_b, rows_s, cs_nil, cs_cons, E.den_lit, E.den_var, E.den_add, E.den_sub, E.den_mul, E.den_quo, E.den_rem, E.den_max, E.den_min, E.den_len, E.den_wr, E.den_cell, h1, h2, ctFind, ctAt4, ctValue, ctF, lineSh, rangeSh, n_, k_, ofKn]
  intro u r d ty hs x _ _ hp
  generalize knots r = ks at *
  have hg := good hp
  refine ⟨bds_nil _, ⟨hg.asc, hg.ne, by have := hg.len; omega⟩, ?_⟩
  rintro a0 _ _ a1 _ _ b0 _ _ b1 _ _ ⟨rfl, rfl, rfl, rfl⟩
  refine ⟨hg.part x, ?_⟩
  have hv := hg.val x
  rintro p _ _ n _ _ dd _ _ ⟨rfl, rfl, rfl⟩
  change (0 ≤ (valP ks x).2.1 ∧ (valP ks x).2.1 < (valP ks x).2.2 ∧ (valP ks x).2.2 ≤ 1099511627776 ∧ 0 ≤ (valP ks x).1 ∧ (valP ks x).1 ≤ 68719476736) at hv
  show (-9223372036854775808 ≤ (valP ks x).1 + min (valP ks x).2.1 1 ∧ (valP ks x).1 + min (valP ks x).2.1 1 ≤ 9223372036854775807) ∧ (-9223372036854775808 ≤ (valP ks x).1 + min (valP ks x).2.1 1 ∧ (valP ks x).1 + min (valP ks x).2.1 1 ≤ 9223372036854775807) ∧ _
  exact ⟨⟨by omega, by omega⟩, ⟨by omega, by omega⟩, rfl, rfl⟩
theorem at_ok : tab.ok 23 := by
  refine Tab.of_ct rfl rfl ⟨_, Try.func23, by decide, rfl⟩ ?_ ctF_det
  refine ct_ok (cx := cat) (Tab.cx_ok (all_cons right_ok (all_cons value_ok all_nil))) Try.func23 (bds := []) (T := tat) (by kernel_rfl) ?_
  have h1 : cat.ct 63 = some ctRight := rfl
  have h2 : cat.ct 65 = some ctValue := rfl
  unfold tat
  simp only [VC, allC, List.map_cons, List.map_nil, List.length_cons, List.length_nil, List.getElem?_cons_zero, List.getElem?_cons_succ, List.cons.injEq, C.i.injEq, C.b.injEq, and_true, true_and, forall_const, kindsOf_nil, kindsOf_lf, kindsOf_agg, kindsOf_box, boxKinds_nil, boxKinds_lf, boxKinds_agg, boxKinds_box, List.append_nil, List.cons_append, List.nil_append, den_cmp_le, den_cmp_lt, den_cmp_eq, den_cmp_ne, den_cmp_le', den_cmp_lt', den_cmp_eq', den_cmp_ne', den_and, den_and', den_or, den_or', den_not, den_not', den_blit, den_of, ev_var, at_0, at_1, at_2, at_3, at_4, at_5, at_6, at_7, at_skip, c_int, c_bool, c_arr, c_cnt, c_vec, ev_nil, ev_join, ev_sub3, loc_s, int_i, bool_b, rows_s, cs_nil, cs_cons, E.den_lit, E.den_var, E.den_add, E.den_sub, E.den_mul, E.den_quo, E.den_rem, E.den_max, E.den_min, E.den_len, E.den_wr, E.den_cell, h1, h2, ctRight, ctValue, ctAt, ctF, lineSh, rangeSh, n_, k_, ofKn]
  intro u r d ty hs x _ _
  refine ⟨bds_nil _, fun t ht => ?_⟩
  have ht : t = rightB (knots r) := by rw [ht]; show (rightB (knots r) && true) = _; rw [Bool.and_true]
  subst ht
  unfold atV
  refine ⟨fun h => by rw [if_neg (by rw [h]; simp)]; exact ⟨rfl, rfl⟩, fun h => ⟨h, ?_⟩⟩
  rw [if_pos h]
  rintro a _ _ b _ _ hh
  exact hh
end Go.Proofs.Ytcglpbchejkolaa
/- Earth: lines compared. -/
namespace Go.Proofs.Ytcglpbchejkolaa
open Go.RowKit
set_option linter.unusedSimpArgs false
set_option linter.unusedVariables false

theorem atleast_ok : tab.ok 92 := by
  refine Tab.of_ct rfl rfl ⟨_, Try.func92, by decide, rfl⟩ ?_ ctF_det
  refine ct_ok (cx := catleast) (Tab.cx_ok (all_cons find_ok (all_cons at4_ok all_nil))) Try.func92 (bds := []) (T := tatleast) (by kernel_rfl) ?_
  have h1 : catleast.ct 93 = some ctFind := rfl
  have h2 : catleast.ct 94 = some ctAt4 := rfl
  unfold tatleast
  simp only [VC, allC, List.map_cons, List.map_nil, List.length_cons, List.length_nil, List.getElem?_cons_zero, List.getElem?_cons_succ, List.cons.injEq, C.i.injEq, C.b.injEq, and_true, true_and, forall_const, kindsOf_nil, kindsOf_lf, kindsOf_agg, kindsOf_box, boxKinds_nil, boxKinds_lf, boxKinds_agg, boxKinds_box, List.append_nil, List.cons_append, List.nil_append, den_cmp_le, den_cmp_lt, den_cmp_eq, den_cmp_ne, den_cmp_le', den_cmp_lt', den_cmp_eq', den_cmp_ne', den_and, den_and', den_or, den_or', den_not, den_not', den_blit, den_of, ev_var, at_0, at_1, at_2, at_3, at_4, at_5, at_6, at_7, at_skip, c_int, c_bool, c_arr, c_cnt, c_vec, ev_nil, ev_join, ev_sub3, loc_s, int_i, bool_b, rows_s, cs_nil, cs_cons, E.den_lit, E.den_var, E.den_add, E.den_sub, E.den_mul, E.den_quo, E.den_rem, E.den_max, E.den_min, E.den_len, E.den_wr, E.den_cell, h1, h2, ctFind, ctAt4, ctAtLeast, ctF, lineSh, rangeSh, n_, k_, ofKn]
  intro u r d ty hs u2 r2 d2 ty2 hs2 x _ _ hp
  generalize knots r = a at *
  generalize knots r2 = b at *
  obtain ⟨ha, hb, hge⟩ := hp
  have ga := good ha
  have gb := good hb
  refine ⟨bds_nil _, ⟨ga.asc, ga.ne, by have := ga.len; omega⟩, ?_⟩
  rintro a0 _ _ a1 _ _ b0 _ _ b1 _ _ ⟨rfl, rfl, rfl, rfl⟩
  refine ⟨ga.part x, ?_⟩
  rintro p _ _ n _ _ dd _ _ ⟨rfl, rfl, rfl⟩
  refine ⟨⟨gb.asc, gb.ne, by have := gb.len; omega⟩, ?_⟩
  rintro a0 _ _ a1 _ _ b0 _ _ b1 _ _ ⟨rfl, rfl, rfl, rfl⟩
  refine ⟨gb.part x, ?_⟩
  rintro q _ _ m _ _ f _ _ ⟨rfl, rfl, rfl⟩
  change _ ∧ _
  have e1 : ∀ ks : List Kn, partAt (((findV ks x).1.1, (findV ks x).1.2), ((findV ks x).2.1, (findV ks x).2.2)) x = valP ks x := fun _ => rfl
  simp only [e1]
  unfold geP
  obtain ⟨g1, g2, g3, g4⟩ := hge
  refine ⟨fun h => by rw [decide_eq_true h]; rfl, fun h => ⟨fun he => ⟨⟨by omega, by omega⟩, ⟨by omega, by omega⟩, ?_⟩, fun hne => ?_⟩⟩
  · show decide _ = _
    rw [decide_eq_false (p := (valP b x).1 < (valP a x).1) (by omega), Bool.false_or, he, beq_self_eq_true, Bool.true_and]
    rfl
  · rw [decide_eq_false (by omega), Bool.false_or, show ((valP a x).1 == (valP b x).1) = false by simpa using hne, Bool.false_and]
theorem Good.ge {a b : List Kn} (ha : Good a) (hb : Good b) {k : Kn} (hk : k ∈ a ∨ k ∈ b) : GeOK (valP a k.1) (valP b k.1) := by
  have va := ha.val k.1
  have vb := hb.val k.1
  rcases hk with hk | hk
  · rw [valP_knot ha.asc hk]
    refine ⟨?_, ?_, ?_, ?_⟩ <;> simp only [Int.mul_one, Int.zero_mul] <;> omega
  · rw [valP_knot hb.asc hk]
    refine ⟨?_, ?_, ?_, ?_⟩ <;> simp only [Int.mul_one, Int.zero_mul] <;> omega
theorem above_ok : tab.ok 64 := by
  refine Tab.of_ct rfl rfl ⟨_, Try.func64, by decide, rfl⟩ ?_ ctF_det
  refine ct_ok (cx := cabove) (Tab.cx_ok (all_cons atleast_ok all_nil)) Try.func64 (bds := []) (T := tabove) (by kernel_rfl) ?_
  have h1 : cabove.ct 92 = some ctAtLeast := rfl
  unfold tabove
  simp only [VC, allC, List.map_cons, List.map_nil, List.length_cons, List.length_nil, List.getElem?_cons_zero, List.getElem?_cons_succ, List.cons.injEq, C.i.injEq, C.b.injEq, and_true, true_and, forall_const, kindsOf_nil, kindsOf_lf, kindsOf_agg, kindsOf_box, boxKinds_nil, boxKinds_lf, boxKinds_agg, boxKinds_box, List.append_nil, List.cons_append, List.nil_append, den_cmp_le, den_cmp_lt, den_cmp_eq, den_cmp_ne, den_cmp_le', den_cmp_lt', den_cmp_eq', den_cmp_ne', den_and, den_and', den_or, den_or', den_not, den_not', den_blit, den_of, ev_var, at_0, at_1, at_2, at_3, at_4, at_5, at_6, at_7, at_skip, c_int, c_bool, c_arr, c_cnt, c_vec, ev_nil, ev_join, ev_sub3, loc_s, int_i, bool_b, rows_s, cs_nil, cs_cons, E.den_lit, E.den_var, E.den_add, E.den_sub, E.den_mul, E.den_quo, E.den_rem, E.den_max, E.den_min, E.den_len, E.den_wr, E.den_cell, ev_cell, kn1, kn2, h1, ctAtLeast, ctAboveI, ctF, lineSh, rangeSh, n_, k_, ofKn]
  intro u r d ty hs u2 r2 d2 ty2 hs2 to _ _ hp
  have hk := knots_len r
  have hk2 := knots_len r2
  generalize knots r = a at *
  generalize knots r2 = b at *
  rw [← hk, ← hk2]
  have ga := good hp.1
  have gb := good hp.2
  have one : ∀ {k : Kn}, (k ∈ a ∨ k ∈ b) → k.1 ≤ to → geP (valP a k.1) (valP b k.1) = false → false = aboveV a b to := fun {k} hk h1 h2 => by
    symm
    unfold aboveV
    rw [List.all_eq_false]
    exact ⟨k, List.mem_append.2 hk, by rw [h2, decide_eq_false (by omega)]; simp⟩
  refine ⟨bds_nil _, fun xs => match xs with | [_, .i i] => 0 ≤ i ∧ i ≤ a.length ∧ ∀ k ∈ a.take i.toNat, (decide (to < k.1) || geP (valP a k.1) (valP b k.1)) = true | _ => False, fun xs => match xs with | [_, .i i] => ((a.length : Int) - i).toNat | _ => 0, ⟨by omega, by omega, fun k hk => by simp at hk⟩, ?_⟩
  rintro x i _ _ ⟨i0, i1, hi⟩
  refine ⟨fun hlt => ⟨i0, hlt, ?_⟩, fun hge => ?_⟩
  · have hm := getD_mem (l := a) (i := i.toNat) (by omega) (0, 0)
    have next : (decide (to < (a.getD i.toNat (0, 0)).1) || geP (valP a (a.getD i.toNat (0, 0)).1) (valP b (a.getD i.toNat (0, 0)).1)) = true → ∀ k ∈ a.take (i + 1).toNat, (decide (to < k.1) || geP (valP a k.1) (valP b k.1)) = true := fun h k hk => by
      rw [show (i + 1).toNat = i.toNat + 1 by omega, take_snoc (by omega) (0, 0)] at hk
      rcases List.mem_append.1 hk with hk | hk
      · exact hi k hk
      · rw [List.mem_singleton] at hk; subst hk; exact h
    generalize a.getD i.toNat (0, 0) = k at *
    refine ⟨fun hle => ⟨⟨hp.1, hp.2, ga.ge gb (.inl hm)⟩, ?_⟩, fun hgt => ⟨⟨by omega, by omega, next (by rw [decide_eq_true hgt]; rfl)⟩, (show ((a.length : Int) - (i + 1)).toNat < ((a.length : Int) - i).toNat by omega)⟩⟩
    rintro t ht
    refine ⟨fun hf => one (.inl hm) hle (by rw [← ht]; exact hf), fun htt => ⟨⟨by omega, by omega, next (by rw [← ht, htt, Bool.or_true])⟩, (show ((a.length : Int) - (i + 1)).toNat < ((a.length : Int) - i).toNat by omega)⟩⟩
  · rw [List.take_of_length_le (by omega)] at hi
    refine ⟨fun xs => match xs with | [_, .i i, _] => 0 ≤ i ∧ i ≤ b.length ∧ ∀ k ∈ b.take i.toNat, (decide (to < k.1) || geP (valP a k.1) (valP b k.1)) = true | _ => False, fun xs => match xs with | [_, .i i, _] => ((b.length : Int) - i).toNat | _ => 0, ⟨by omega, by omega, fun k hk => by simp at hk⟩, ?_⟩
    rintro x2 j _ _ t2 ⟨j0, j1, hj⟩
    refine ⟨fun hlt => ⟨j0, hlt, ?_⟩, fun hge2 => ?_⟩
    · have hm := getD_mem (l := b) (i := j.toNat) (by omega) (0, 0)
      have next : (decide (to < (b.getD j.toNat (0, 0)).1) || geP (valP a (b.getD j.toNat (0, 0)).1) (valP b (b.getD j.toNat (0, 0)).1)) = true → ∀ k ∈ b.take (j + 1).toNat, (decide (to < k.1) || geP (valP a k.1) (valP b k.1)) = true := fun h k hk => by
        rw [show (j + 1).toNat = j.toNat + 1 by omega, take_snoc (by omega) (0, 0)] at hk
        rcases List.mem_append.1 hk with hk | hk
        · exact hj k hk
        · rw [List.mem_singleton] at hk; subst hk; exact h
      generalize b.getD j.toNat (0, 0) = k at *
      refine ⟨fun hle => ⟨⟨hp.1, hp.2, ga.ge gb (.inr hm)⟩, ?_⟩, fun hgt => ⟨⟨by omega, by omega, next (by rw [decide_eq_true hgt]; rfl)⟩, (show ((b.length : Int) - (j + 1)).toNat < ((b.length : Int) - j).toNat by omega)⟩⟩
      rintro t ht
      refine ⟨fun hf => one (.inr hm) hle (by rw [← ht]; exact hf), fun htt => ⟨⟨by omega, by omega, next (by rw [← ht, htt, Bool.or_true])⟩, (show ((b.length : Int) - (j + 1)).toNat < ((b.length : Int) - j).toNat by omega)⟩⟩
    · rw [List.take_of_length_le (by omega)] at hj
      symm
      unfold aboveV
      rw [List.all_eq_true]
      intro k hk
      rcases List.mem_append.1 hk with hk | hk
      · exact hi k hk
      · exact hj k hk
theorem above2_ok : tab.ok 21 := by
  refine Tab.of_ct rfl rfl ⟨_, Try.func21, by decide, rfl⟩ ?_ ctF_det
  refine ct_ok (cx := cabove2) (Tab.cx_ok (all_cons right_ok (all_cons above_ok all_nil))) Try.func21 (bds := []) (T := tabove2) (by kernel_rfl) ?_
  have h1 : cabove2.ct 63 = some ctRight := rfl
  have h2 : cabove2.ct 64 = some ctAboveI := rfl
  unfold tabove2
  simp only [VC, allC, List.map_cons, List.map_nil, List.length_cons, List.length_nil, List.getElem?_cons_zero, List.getElem?_cons_succ, List.cons.injEq, C.i.injEq, C.b.injEq, and_true, true_and, forall_const, kindsOf_nil, kindsOf_lf, kindsOf_agg, kindsOf_box, boxKinds_nil, boxKinds_lf, boxKinds_agg, boxKinds_box, List.append_nil, List.cons_append, List.nil_append, den_cmp_le, den_cmp_lt, den_cmp_eq, den_cmp_ne, den_cmp_le', den_cmp_lt', den_cmp_eq', den_cmp_ne', den_and, den_and', den_or, den_or', den_not, den_not', den_blit, den_of, ev_var, at_0, at_1, at_2, at_3, at_4, at_5, at_6, at_7, at_skip, c_int, c_bool, c_arr, c_cnt, c_vec, ev_nil, ev_join, ev_sub3, loc_s, int_i, bool_b, rows_s, cs_nil, cs_cons, E.den_lit, E.den_var, E.den_add, E.den_sub, E.den_mul, E.den_quo, E.den_rem, E.den_max, E.den_min, E.den_len, E.den_wr, E.den_cell, ev_cell, kn1, kn2, h1, h2, ctRight, ctAboveI, ctAbove, ctF, lineSh, rangeSh, n_, k_, ofKn]
  intro u r d ty hs u2 r2 d2 ty2 hs2
  refine ⟨bds_nil _, fun t ht => ?_⟩
  have ht : t = (rightB (knots r) && rightB (knots r2)) := by rw [ht]; show (rightB (knots r) && (rightB (knots r2) && true)) = _; rw [Bool.and_true]
  subst ht
  refine ⟨fun h => ⟨by rw [Bool.and_eq_true] at h; exact h, fun t ht => by rw [h, Bool.true_and]; exact ht⟩, fun h => by rw [h, Bool.false_and]⟩
end Go.Proofs.Ytcglpbchejkolaa
/- Earth: contracts, more of them: earths. -/
namespace Go.Proofs.Ytcglpbchejkolaa
set_option linter.unusedVariables false

structure Rep where
  kind : Int
  z : Int
  p : Int
structure Ear where
  bottom : Int
  pl : List Kn
  ph : List Kn
  fl : List Kn
  fh : List Kn
  gl : Int
  gh : Int
  reps : List Rep
def repsOf (rows : List (List C)) : List Rep := rows.map fun r => ⟨(r.getD 0 (.i 0)).int, (r.getD 1 (.i 0)).int, (r.getD 2 (.i 0)).int⟩
def earOf (cs : List C) : Ear := ⟨n_ cs 0, k_ cs 1, k_ cs 2, k_ cs 3, k_ cs 4, n_ cs 5, n_ cs 6, repsOf (at_ cs 7).rows⟩
def badReps (bottom : Int) : List Rep → Int
  | [] => 0
  | r :: l => if inV r.kind 1 4 then (if inV r.z 0 bottom && inV r.p 0 68719476736 then badReps bottom l else 2) else 4
/-- The first number that is not 0. -/
def orE (a b : Int) : Int := if a = 0 then b else a
def lineE (ks : List Kn) : Int := lineV ks 1048576 68719476736
def ab (a b : List Kn) : Bool := aboveV a b 2199023255552
def checkV (e : Ear) : Int :=
  if inV e.bottom 1 1048576 && decide (0 ≤ e.gl) && decide (e.gl ≤ e.gh) && decide (e.gh ≤ 40000) then
    orE (lineE e.pl) (orE (lineE e.ph) (orE (lineE e.fl) (orE (lineE e.fh) (if ab e.ph e.pl && ab e.fh e.fl && ab e.fh e.pl then (if 24 < e.reps.length then 8 else badReps e.bottom e.reps) else 12))))
  else 2
def pointsV (bottom : Int) (reps : List Rep) (l : List Kn) (kind : Int) : List Kn := l.filter (fun k => decide (k.1 ≤ bottom)) ++ (reps.filter fun r => r.kind == kind).map fun r => (r.z, r.p)
/-- What one upper point allows, what one lower point asks for. -/
def upP (gl gh z : Int) (k : Kn) : Int := k.2 + (if z < k.1 then gl else gh) * (z - k.1)
def loP (gl gh z : Int) (k : Kn) : Int := k.2 + (if z < k.1 then gh else gl) * (z - k.1)
def upV (gl gh : Int) (l : List Kn) (z so : Int) : Int := l.foldl (fun so k => min so (upP gl gh z k)) so
def loV (gl gh : Int) (l : List Kn) (z so : Int) : Int := l.foldl (fun so k => max so (loP gl gh z k)) so
def fhV (e : Ear) (z : Int) : Int := upV e.gl e.gh (pointsV e.bottom e.reps e.fh 4) z (rangeP e.fh z).2
def phV (e : Ear) (z : Int) : Int := min (fhV e z) (upV e.gl e.gh (pointsV e.bottom e.reps e.ph 2) z (rangeP e.ph z).2)
def plV (e : Ear) (z : Int) : Int := max 0 (loV e.gl e.gh (pointsV e.bottom e.reps e.pl 1) z (rangeP e.pl z).1)
def flV (e : Ear) (z : Int) : Int := max (plV e z) (loV e.gl e.gh (pointsV e.bottom e.reps e.fl 3) z (rangeP e.fl z).1)
def okE (e : Ear) (z : Int) : Bool := checkV e == 0 && inV z 0 e.bottom
def poreV (e : Ear) (z : Int) : Kn := if okE e z = true then (plV e z, phV e z) else (0, 0)
def fracV (e : Ear) (z : Int) : Kn := if okE e z = true then (flV e z, fhV e z) else (0, 0)
def winV (e : Ear) (z : Int) : Kn := if okE e z = true then (phV e z, flV e z) else (0, 0)

def earthKs : List Lk := [.int, .arr 44, .arr 44, .arr 44, .arr 44, .int, .int, .arr 57]
def earthSh : Sh0 := .agg earthKs
def ctCheck : Ct := ctF [earthSh] [.lf .int] (fun _ => True) (fun cs => [.i (checkV (earOf cs))])
/-- What is asked of points and of a place. -/
def PointsOK (l : List Kn) : Prop := l.length ≤ 1000 ∧ ∀ k ∈ l, 0 ≤ k.1 ∧ k.1 ≤ 1048576 ∧ 0 ≤ k.2 ∧ k.2 ≤ 68719476736
def GOK (gl gh z : Int) : Prop := 0 ≤ gl ∧ gl ≤ 40000 ∧ 0 ≤ gh ∧ gh ≤ 40000 ∧ 0 ≤ z ∧ z ≤ 1048576
def ctClone (t : TypeId) : Ct := ⟨[.lf (.arr t)], [.lf (.vec t)], fun cs => (at_ cs 0).rows.length ≤ 1000, fun cs rs => ∃ v, rs = [.s v (at_ cs 0).rows], false⟩
def ctPoints : Ct := ⟨[earthSh, lineSh, .lf .int], [.lf (.vec 44)], fun cs => (k_ cs 8).length ≤ 100 ∧ (at_ cs 7).rows.length ≤ 100, fun cs rs => ∃ v rows, rs = [.s v rows] ∧ knots rows = pointsV (earOf cs).bottom (earOf cs).reps (k_ cs 8) (n_ cs 9), false⟩
def ctUp : Ct := ctF [earthSh, .lf (.arr 44), .lf .int, .lf .int] [.lf .int] (fun cs => PointsOK (k_ cs 8) ∧ GOK (earOf cs).gl (earOf cs).gh (n_ cs 9)) (fun cs => [.i (upV (earOf cs).gl (earOf cs).gh (k_ cs 8) (n_ cs 9) (n_ cs 10))])
def ctLo : Ct := ctF [earthSh, .lf (.arr 44), .lf .int, .lf .int] [.lf .int] (fun cs => PointsOK (k_ cs 8) ∧ GOK (earOf cs).gl (earOf cs).gh (n_ cs 9)) (fun cs => [.i (loV (earOf cs).gl (earOf cs).gh (k_ cs 8) (n_ cs 9) (n_ cs 10))])
def ctBoth : Ct := ctF [earthSh, .lf .int] [rangeSh, rangeSh] (fun cs => okE (earOf cs) (n_ cs 8) = true) (fun cs => [.i (plV (earOf cs) (n_ cs 8)), .i (phV (earOf cs) (n_ cs 8)), .i (flV (earOf cs) (n_ cs 8)), .i (fhV (earOf cs) (n_ cs 8))])
def ctAsked : Ct := ctF [earthSh, .lf .int] [rangeSh, rangeSh] (fun _ => True) (fun cs => ofKn (poreV (earOf cs) (n_ cs 8)) ++ ofKn (fracV (earOf cs) (n_ cs 8)))
def ctRange (f : Ear → Int → Kn) : Ct := ctF [earthSh, .lf .int] [rangeSh] (fun _ => True) (fun cs => ofKn (f (earOf cs) (n_ cs 8)))
def ctIn : Ct := ctF [earthSh, .lf .int] [.lf .bool] (fun _ => True) (fun cs => [.b (okE (earOf cs) (n_ cs 8))])
/-- A line made of numbers. -/
def pairs : List Int → List Kn
  | a :: b :: l => (a, b) :: pairs l
  | _ => []
def ints (rows : List (List C)) : List Int := rows.map fun r => (r.getD 0 (.i 0)).int
def ctMkLine : Ct := ⟨[.lf (.arr 2)], [.agg [.vec 44]], fun cs => (at_ cs 0).rows.length ≤ 100, fun cs rs => ∃ v rows, rs = [.s v rows] ∧ knots rows = pairs (ints (at_ cs 0).rows), false⟩
def shownE : Ear := ⟨100000, [(0, 0), (100000, 900000000)], [(0, 0), (100000, 1200000000)], [(0, 0), (100000, 1500000000)], [(0, 0), (100000, 2000000000)], 0, 30000, []⟩
def ctShown : Ct := ⟨[], [.agg [.int, .vec 44, .vec 44, .vec 44, .vec 44, .int, .int, .vec 57]], fun _ => True, fun _ rs => earOf rs = shownE, false⟩
def ctAwake : Ct := ctF [] [.lf .bool] (fun _ => True) (fun _ => [.b true])
def tab2 : Tab where
  ct := fun f => match f with
    | 35 | 47 => some ctCheck
    | 99 => some (ctClone 44)
    | 100 => some (ctClone 57)
    | 117 | 97 => some ctPoints
    | 116 | 96 => some ctUp
    | 118 | 98 => some ctLo
    | 95 | 68 => some ctBoth
    | 66 => some ctAsked
    | 27 | 28 => some (ctRange poreV)
    | 29 | 30 => some (ctRange fracV)
    | 31 | 32 => some (ctRange winV)
    | 67 => some ctIn
    | 55 => some ctMkLine
    | 56 => some ctShown
    | 17 => some ctAwake
    | f => tab.ct f
  inl := tab.inl
  sel := tab.sel
theorem up_ok {f : Nat} (h : tab.ok f) (he : tab2.ct f = tab.ct f := by rfl) : tab2.ok f :=
  ⟨h.1, fun ct hc => h.2.1 ct (he ▸ hc), h.2.2.1, h.2.2.2⟩
end Go.Proofs.Ytcglpbchejkolaa
/- What is to be shown of each function, as the executor has it. Printed by trees.py. -/
namespace Go.Proofs.Ytcglpbchejkolaa
noncomputable def flcheck : List (Nat × Func) := [(69, Try.f69)]
theorem fxcheck : ∀ p ∈ flcheck, FnOK p := fns_cons ⟨Try.func69, ⟨_, Try.func69, by decide, rfl⟩⟩ (fns_nil)
noncomputable def ccheck : Cx := tab2.only [60, 18, 21] (fun r => match r with
  | 4 => [.blk 2000005]
  | _ => []) flcheck 1 [] (fun _ => none)
def tcheck : Tree :=
  (.split (.not (.and (.cmp .le (.lit 1) (.var 0)) (.cmp .le (.var 0) (.lit 1048576)))) (.ret [(.int (.lit 2))]) (.split (.cmp .lt (.var 5) (.lit 0)) (.ret [(.int (.lit 2))]) (.split (.cmp .lt (.var 6) (.var 5)) (.ret [(.int (.lit 2))]) (.split (.cmp .lt (.lit 40000) (.var 6)) (.ret [(.int (.lit 2))]) (.dfn .nil (.dfn .nil (.dfn .nil (.dfn .nil (.dfn .nil (.call 18 [(.arr 44 (.var 1)), (.int (.lit 1048576)), (.int (.lit 68719476736))] (.split (.cmp .ne (.var 13) (.lit 0)) (.ret [(.int (.var 13))]) (.dfn .nil (.call 18 [(.arr 44 (.var 2)), (.int (.lit 1048576)), (.int (.lit 68719476736))] (.split (.cmp .ne (.var 15) (.lit 0)) (.ret [(.int (.var 15))]) (.dfn .nil (.call 18 [(.arr 44 (.var 3)), (.int (.lit 1048576)), (.int (.lit 68719476736))] (.split (.cmp .ne (.var 17) (.lit 0)) (.ret [(.int (.var 17))]) (.dfn .nil (.call 18 [(.arr 44 (.var 4)), (.int (.lit 1048576)), (.int (.lit 68719476736))] (.split (.cmp .ne (.var 19) (.lit 0)) (.ret [(.int (.var 19))]) (.call 21 [(.arr 44 (.var 2)), (.arr 44 (.var 1))] (.split (.not (.of (.var 20))) (.ret [(.int (.lit 12))]) (.call 21 [(.arr 44 (.var 4)), (.arr 44 (.var 3))] (.split (.not (.of (.var 21))) (.ret [(.int (.lit 12))]) (.call 21 [(.arr 44 (.var 4)), (.arr 44 (.var 1))] (.split (.not (.of (.var 22))) (.ret [(.int (.lit 12))]) (.split (.cmp .lt (.lit 24) (.len (.var 7))) (.ret [(.int (.lit 8))]) (.loop [.int, .int] [(.int (.lit 0)), (.int (.lit 0))] (.split (.cmp .lt (.var 24) (.len (.var 7))) (.ob (.cmp .le (.lit 0) (.var 24)) (.ob (.cmp .lt (.var 24) (.len (.var 7))) (.split (.cmp .lt (.cell (.var 7) (.var 24) 0) (.lit 1)) (.ret [(.int (.lit 4))]) (.split (.cmp .le (.lit 5) (.cell (.var 7) (.var 24) 0)) (.ret [(.int (.lit 4))]) (.split (.not (.and (.cmp .le (.lit 0) (.cell (.var 7) (.var 24) 1)) (.cmp .le (.cell (.var 7) (.var 24) 1) (.var 0)))) (.ret [(.int (.lit 2))]) (.split (.not (.and (.cmp .le (.lit 0) (.cell (.var 7) (.var 24) 2)) (.cmp .le (.cell (.var 7) (.var 24) 2) (.lit 68719476736)))) (.ret [(.int (.lit 2))]) (.back 0 [(.int (.var 23)), (.int (.add (.var 24) (.lit 1)))]))))))) (.ret [(.int (.lit 0))]))))))))))))))))))))))))))))))
noncomputable def cclone : Cx := tab2.only [] (fun _ => []) [] 0 [] (fun _ => none)
def tclone : Tree :=
  (.dfn .nil (.both (.split (.cmp .eq (.len (.var 0)) (.lit 0)) (.dfn .nil (.ret [(.cnt 44 (.var 2))])) (.arr [] (.ob (.cmp .le (.mul (.add (.len (.var 2)) (.len (.var 0))) (.lit 16)) (.lit 140737488355328)) (.cat (.var 2) (.var 0) (.ret [(.cnt 44 (.var 3))]))))) (.arr [] (.ob (.cmp .le (.mul (.add (.len (.var 2)) (.len (.var 0))) (.lit 16)) (.lit 140737488355328)) (.cat (.var 2) (.var 0) (.ret [(.cnt 44 (.var 3))]))))))
noncomputable def flpoints : List (Nat × Func) := [(126, Try.f126), (140, Try.f140), (127, Try.f127)]
theorem fxpoints : ∀ p ∈ flpoints, FnOK p := fns_cons ⟨Try.func126, ⟨_, Try.func126, by decide, rfl⟩⟩ (fns_cons ⟨Try.func140, ⟨_, Try.func140, by decide, rfl⟩⟩ (fns_cons ⟨Try.func127, ⟨_, Try.func127, by decide, rfl⟩⟩ (fns_nil)))
noncomputable def cpoints : Cx := tab2.only [99] (fun r => match r with
  | 1500005 => [.vec 11]
  | _ => []) flpoints 3 [] (fun _ => none)
def tpoints : Tree :=
  (.dfn .nil (.call 99 [(.arr 44 (.var 8))] (.arr [] (.dfn .nil (.loop [.int, .int] [(.int (.lit 0)), (.int (.lit 0))] (.split (.cmp .lt (.var 15) (.len (.var 11))) (.ob (.cmp .le (.lit 0) (.var 15)) (.ob (.cmp .lt (.var 15) (.len (.var 11))) (.split (.cmp .lt (.var 0) (.cell (.var 11) (.var 15) 0)) (.loop [.int, .int, (.vec 44)] [(.int (.var 15)), (.int (.add (.var 15) (.lit 1))), (.cnt 44 (.var 11))] (.split (.cmp .lt (.var 17) (.len (.var 18))) (.ob (.cmp .le (.lit 0) (.var 17)) (.ob (.cmp .lt (.var 17) (.len (.var 18))) (.split (.not (.cmp .lt (.var 0) (.cell (.var 18) (.var 17) 0))) (.ob (.cmp .le (.lit 0) (.var 16)) (.ob (.cmp .lt (.var 16) (.len (.var 18))) (.upd (.var 18) (.var 16) 0 [(.int (.cell (.var 18) (.var 17) 0)), (.int (.cell (.var 18) (.var 17) 1))] (.back 1 [(.int (.add (.var 16) (.lit 1))), (.int (.add (.var 17) (.lit 1))), (.cnt 44 (.var 19))])))) (.back 1 [(.int (.var 16)), (.int (.add (.var 17) (.lit 1))), (.cnt 44 (.var 18))])))) (.ob (.cmp .le (.lit 0) (.var 16)) (.ob (.cmp .le (.var 16) (.len (.var 18))) (.mk (.sub (.len (.var 18)) (.var 16)) [(.int (.lit 0)), (.int (.lit 0))] (.cat (.sub3 (.var 18) (.lit 0) (.var 16) 0) (.var 19) (.ob (.cmp .le (.lit 0) (.var 16)) (.ob (.cmp .le (.var 16) (.len (.var 20))) (.cat (.sub3 (.var 20) (.lit 0) (.var 16) 0) .nil (.loop [(.vec 44), .int] [(.cnt 44 (.var 21)), (.int (.lit 0))] (.split (.cmp .lt (.var 23) (.len (.var 7))) (.ob (.cmp .le (.lit 0) (.var 23)) (.ob (.cmp .lt (.var 23) (.len (.var 7))) (.split (.cmp .eq (.cell (.var 7) (.var 23) 0) (.var 9)) (.arr [[(.int (.cell (.var 7) (.var 23) 1)), (.int (.cell (.var 7) (.var 23) 2))]] (.ob (.cmp .le (.mul (.add (.len (.var 22)) (.len (.var 24))) (.lit 16)) (.lit 140737488355328)) (.cat (.var 22) (.var 24) (.back 2 [(.cnt 44 (.var 25)), (.int (.add (.var 23) (.lit 1)))])))) (.back 2 [(.cnt 44 (.var 22)), (.int (.add (.var 23) (.lit 1)))])))) (.ret [(.cnt 44 (.var 22))])))))))))))) (.back 0 [(.int (.var 14)), (.int (.add (.var 15) (.lit 1)))])))) (.loop [(.vec 44), .int] [(.cnt 44 (.var 11)), (.int (.lit 0))] (.split (.cmp .lt (.var 17) (.len (.var 7))) (.ob (.cmp .le (.lit 0) (.var 17)) (.ob (.cmp .lt (.var 17) (.len (.var 7))) (.split (.cmp .eq (.cell (.var 7) (.var 17) 0) (.var 9)) (.arr [[(.int (.cell (.var 7) (.var 17) 1)), (.int (.cell (.var 7) (.var 17) 2))]] (.ob (.cmp .le (.mul (.add (.len (.var 16)) (.len (.var 18))) (.lit 16)) (.lit 140737488355328)) (.cat (.var 16) (.var 18) (.back 1 [(.cnt 44 (.var 19)), (.int (.add (.var 17) (.lit 1)))])))) (.back 1 [(.cnt 44 (.var 16)), (.int (.add (.var 17) (.lit 1)))])))) (.ret [(.cnt 44 (.var 16))])))))))))
noncomputable def flbounded : List (Nat × Func) := [(124, Try.f124), (125, Try.f125)]
theorem fxbounded : ∀ p ∈ flbounded, FnOK p := fns_cons ⟨Try.func124, ⟨_, Try.func124, by decide, rfl⟩⟩ (fns_cons ⟨Try.func125, ⟨_, Try.func125, by decide, rfl⟩⟩ (fns_nil))
noncomputable def cbounded : Cx := tab2.only [] (fun _ => []) flbounded 2 [] (fun _ => none)
def tbounded : Tree :=
  (.arr [] (.loop [.int, .int] [(.int (.var 10)), (.int (.lit 0))] (.split (.cmp .lt (.var 13) (.len (.var 8))) (.ob (.cmp .le (.lit 0) (.var 13)) (.ob (.cmp .lt (.var 13) (.len (.var 8))) (.split (.cmp .lt (.var 9) (.cell (.var 8) (.var 13) 0)) (.ob (.and (.cmp .le (.lit (-9223372036854775808)) (.sub (.var 9) (.cell (.var 8) (.var 13) 0))) (.cmp .le (.sub (.var 9) (.cell (.var 8) (.var 13) 0)) (.lit 9223372036854775807))) (.ob (.and (.cmp .le (.lit (-9223372036854775808)) (.mul (.var 5) (.sub (.var 9) (.cell (.var 8) (.var 13) 0)))) (.cmp .le (.mul (.var 5) (.sub (.var 9) (.cell (.var 8) (.var 13) 0))) (.lit 9223372036854775807))) (.ob (.and (.cmp .le (.lit (-9223372036854775808)) (.add (.cell (.var 8) (.var 13) 1) (.mul (.var 5) (.sub (.var 9) (.cell (.var 8) (.var 13) 0))))) (.cmp .le (.add (.cell (.var 8) (.var 13) 1) (.mul (.var 5) (.sub (.var 9) (.cell (.var 8) (.var 13) 0)))) (.lit 9223372036854775807))) (.ob (.and (.cmp .le (.lit (-9223372036854775808)) (.min (.var 12) (.add (.cell (.var 8) (.var 13) 1) (.mul (.var 5) (.sub (.var 9) (.cell (.var 8) (.var 13) 0)))))) (.cmp .le (.min (.var 12) (.add (.cell (.var 8) (.var 13) 1) (.mul (.var 5) (.sub (.var 9) (.cell (.var 8) (.var 13) 0))))) (.lit 9223372036854775807))) (.back 0 [(.int (.min (.var 12) (.add (.cell (.var 8) (.var 13) 1) (.mul (.var 5) (.sub (.var 9) (.cell (.var 8) (.var 13) 0)))))), (.int (.add (.var 13) (.lit 1)))]))))) (.ob (.and (.cmp .le (.lit (-9223372036854775808)) (.sub (.var 9) (.cell (.var 8) (.var 13) 0))) (.cmp .le (.sub (.var 9) (.cell (.var 8) (.var 13) 0)) (.lit 9223372036854775807))) (.ob (.and (.cmp .le (.lit (-9223372036854775808)) (.mul (.var 6) (.sub (.var 9) (.cell (.var 8) (.var 13) 0)))) (.cmp .le (.mul (.var 6) (.sub (.var 9) (.cell (.var 8) (.var 13) 0))) (.lit 9223372036854775807))) (.ob (.and (.cmp .le (.lit (-9223372036854775808)) (.add (.cell (.var 8) (.var 13) 1) (.mul (.var 6) (.sub (.var 9) (.cell (.var 8) (.var 13) 0))))) (.cmp .le (.add (.cell (.var 8) (.var 13) 1) (.mul (.var 6) (.sub (.var 9) (.cell (.var 8) (.var 13) 0)))) (.lit 9223372036854775807))) (.ob (.and (.cmp .le (.lit (-9223372036854775808)) (.min (.var 12) (.add (.cell (.var 8) (.var 13) 1) (.mul (.var 6) (.sub (.var 9) (.cell (.var 8) (.var 13) 0)))))) (.cmp .le (.min (.var 12) (.add (.cell (.var 8) (.var 13) 1) (.mul (.var 6) (.sub (.var 9) (.cell (.var 8) (.var 13) 0))))) (.lit 9223372036854775807))) (.back 0 [(.int (.min (.var 12) (.add (.cell (.var 8) (.var 13) 1) (.mul (.var 6) (.sub (.var 9) (.cell (.var 8) (.var 13) 0)))))), (.int (.add (.var 13) (.lit 1)))])))))))) (.ret [(.int (.var 12))]))))
noncomputable def flraised : List (Nat × Func) := [(124, Try.f124), (128, Try.f128)]
theorem fxraised : ∀ p ∈ flraised, FnOK p := fns_cons ⟨Try.func124, ⟨_, Try.func124, by decide, rfl⟩⟩ (fns_cons ⟨Try.func128, ⟨_, Try.func128, by decide, rfl⟩⟩ (fns_nil))
noncomputable def craised : Cx := tab2.only [] (fun _ => []) flraised 2 [] (fun _ => none)
def traised : Tree :=
  (.arr [] (.loop [.int, .int] [(.int (.var 10)), (.int (.lit 0))] (.split (.cmp .lt (.var 13) (.len (.var 8))) (.ob (.cmp .le (.lit 0) (.var 13)) (.ob (.cmp .lt (.var 13) (.len (.var 8))) (.split (.cmp .lt (.var 9) (.cell (.var 8) (.var 13) 0)) (.ob (.and (.cmp .le (.lit (-9223372036854775808)) (.sub (.var 9) (.cell (.var 8) (.var 13) 0))) (.cmp .le (.sub (.var 9) (.cell (.var 8) (.var 13) 0)) (.lit 9223372036854775807))) (.ob (.and (.cmp .le (.lit (-9223372036854775808)) (.mul (.var 6) (.sub (.var 9) (.cell (.var 8) (.var 13) 0)))) (.cmp .le (.mul (.var 6) (.sub (.var 9) (.cell (.var 8) (.var 13) 0))) (.lit 9223372036854775807))) (.ob (.and (.cmp .le (.lit (-9223372036854775808)) (.add (.cell (.var 8) (.var 13) 1) (.mul (.var 6) (.sub (.var 9) (.cell (.var 8) (.var 13) 0))))) (.cmp .le (.add (.cell (.var 8) (.var 13) 1) (.mul (.var 6) (.sub (.var 9) (.cell (.var 8) (.var 13) 0)))) (.lit 9223372036854775807))) (.ob (.and (.cmp .le (.lit (-9223372036854775808)) (.max (.var 12) (.add (.cell (.var 8) (.var 13) 1) (.mul (.var 6) (.sub (.var 9) (.cell (.var 8) (.var 13) 0)))))) (.cmp .le (.max (.var 12) (.add (.cell (.var 8) (.var 13) 1) (.mul (.var 6) (.sub (.var 9) (.cell (.var 8) (.var 13) 0))))) (.lit 9223372036854775807))) (.back 0 [(.int (.max (.var 12) (.add (.cell (.var 8) (.var 13) 1) (.mul (.var 6) (.sub (.var 9) (.cell (.var 8) (.var 13) 0)))))), (.int (.add (.var 13) (.lit 1)))]))))) (.ob (.and (.cmp .le (.lit (-9223372036854775808)) (.sub (.var 9) (.cell (.var 8) (.var 13) 0))) (.cmp .le (.sub (.var 9) (.cell (.var 8) (.var 13) 0)) (.lit 9223372036854775807))) (.ob (.and (.cmp .le (.lit (-9223372036854775808)) (.mul (.var 5) (.sub (.var 9) (.cell (.var 8) (.var 13) 0)))) (.cmp .le (.mul (.var 5) (.sub (.var 9) (.cell (.var 8) (.var 13) 0))) (.lit 9223372036854775807))) (.ob (.and (.cmp .le (.lit (-9223372036854775808)) (.add (.cell (.var 8) (.var 13) 1) (.mul (.var 5) (.sub (.var 9) (.cell (.var 8) (.var 13) 0))))) (.cmp .le (.add (.cell (.var 8) (.var 13) 1) (.mul (.var 5) (.sub (.var 9) (.cell (.var 8) (.var 13) 0)))) (.lit 9223372036854775807))) (.ob (.and (.cmp .le (.lit (-9223372036854775808)) (.max (.var 12) (.add (.cell (.var 8) (.var 13) 1) (.mul (.var 5) (.sub (.var 9) (.cell (.var 8) (.var 13) 0)))))) (.cmp .le (.max (.var 12) (.add (.cell (.var 8) (.var 13) 1) (.mul (.var 5) (.sub (.var 9) (.cell (.var 8) (.var 13) 0))))) (.lit 9223372036854775807))) (.back 0 [(.int (.max (.var 12) (.add (.cell (.var 8) (.var 13) 1) (.mul (.var 5) (.sub (.var 9) (.cell (.var 8) (.var 13) 0)))))), (.int (.add (.var 13) (.lit 1)))])))))))) (.ret [(.int (.var 12))]))))
noncomputable def cboth : Cx := tab2.only [117, 116, 118, 65] (fun _ => []) [] 0 [] (fun _ => none)
def tboth : Tree :=
  (.call 117 [(.int (.var 0)), (.arr 44 (.var 1)), (.arr 44 (.var 2)), (.arr 44 (.var 3)), (.arr 44 (.var 4)), (.int (.var 5)), (.int (.var 6)), (.arr 57 (.var 7)), (.arr 44 (.var 4)), (.int (.lit 4))] (.call 65 [(.arr 44 (.var 4)), (.int (.var 8))] (.call 116 [(.int (.var 0)), (.arr 44 (.var 1)), (.arr 44 (.var 2)), (.arr 44 (.var 3)), (.arr 44 (.var 4)), (.int (.var 5)), (.int (.var 6)), (.arr 57 (.var 7)), (.arr 44 (.var 9)), (.int (.var 8)), (.int (.var 11))] (.call 117 [(.int (.var 0)), (.arr 44 (.var 1)), (.arr 44 (.var 2)), (.arr 44 (.var 3)), (.arr 44 (.var 4)), (.int (.var 5)), (.int (.var 6)), (.arr 57 (.var 7)), (.arr 44 (.var 2)), (.int (.lit 2))] (.call 65 [(.arr 44 (.var 2)), (.int (.var 8))] (.call 116 [(.int (.var 0)), (.arr 44 (.var 1)), (.arr 44 (.var 2)), (.arr 44 (.var 3)), (.arr 44 (.var 4)), (.int (.var 5)), (.int (.var 6)), (.arr 57 (.var 7)), (.arr 44 (.var 13)), (.int (.var 8)), (.int (.var 15))] (.call 117 [(.int (.var 0)), (.arr 44 (.var 1)), (.arr 44 (.var 2)), (.arr 44 (.var 3)), (.arr 44 (.var 4)), (.int (.var 5)), (.int (.var 6)), (.arr 57 (.var 7)), (.arr 44 (.var 1)), (.int (.lit 1))] (.call 65 [(.arr 44 (.var 1)), (.int (.var 8))] (.call 118 [(.int (.var 0)), (.arr 44 (.var 1)), (.arr 44 (.var 2)), (.arr 44 (.var 3)), (.arr 44 (.var 4)), (.int (.var 5)), (.int (.var 6)), (.arr 57 (.var 7)), (.arr 44 (.var 17)), (.int (.var 8)), (.int (.var 18))] (.call 117 [(.int (.var 0)), (.arr 44 (.var 1)), (.arr 44 (.var 2)), (.arr 44 (.var 3)), (.arr 44 (.var 4)), (.int (.var 5)), (.int (.var 6)), (.arr 57 (.var 7)), (.arr 44 (.var 3)), (.int (.lit 3))] (.call 65 [(.arr 44 (.var 3)), (.int (.var 8))] (.call 118 [(.int (.var 0)), (.arr 44 (.var 1)), (.arr 44 (.var 2)), (.arr 44 (.var 3)), (.arr 44 (.var 4)), (.int (.var 5)), (.int (.var 6)), (.arr 57 (.var 7)), (.arr 44 (.var 21)), (.int (.var 8)), (.int (.var 22))] (.ret [(.int (.max (.lit 0) (.var 20))), (.int (.min (.var 12) (.var 16))), (.int (.max (.max (.lit 0) (.var 20)) (.var 24))), (.int (.var 12))])))))))))))))
noncomputable def casked : Cx := tab2.only [35, 60, 95] (fun _ => []) [] 0 [] (fun _ => none)
def tasked : Tree :=
  (.call 35 [(.int (.var 0)), (.arr 44 (.var 1)), (.arr 44 (.var 2)), (.arr 44 (.var 3)), (.arr 44 (.var 4)), (.int (.var 5)), (.int (.var 6)), (.arr 57 (.var 7))] (.split (.cmp .ne (.var 9) (.lit 0)) (.ret [(.int (.lit 0)), (.int (.lit 0)), (.int (.lit 0)), (.int (.lit 0))]) (.split (.not (.and (.cmp .le (.lit 0) (.var 8)) (.cmp .le (.var 8) (.var 0)))) (.ret [(.int (.lit 0)), (.int (.lit 0)), (.int (.lit 0)), (.int (.lit 0))]) (.call 95 [(.int (.var 0)), (.arr 44 (.var 1)), (.arr 44 (.var 2)), (.arr 44 (.var 3)), (.arr 44 (.var 4)), (.int (.var 5)), (.int (.var 6)), (.arr 57 (.var 7)), (.int (.var 8))] (.ret [(.int (.var 10)), (.int (.var 11)), (.int (.var 12)), (.int (.var 13))])))))
noncomputable def cpore : Cx := tab2.only [66] (fun _ => []) [] 0 [] (fun _ => none)
def tpore : Tree :=
  (.call 66 [(.int (.var 0)), (.arr 44 (.var 1)), (.arr 44 (.var 2)), (.arr 44 (.var 3)), (.arr 44 (.var 4)), (.int (.var 5)), (.int (.var 6)), (.arr 57 (.var 7)), (.int (.var 8))] (.ret [(.int (.var 9)), (.int (.var 10))]))
noncomputable def cfrac : Cx := tab2.only [66] (fun _ => []) [] 0 [] (fun _ => none)
def tfrac : Tree :=
  (.call 66 [(.int (.var 0)), (.arr 44 (.var 1)), (.arr 44 (.var 2)), (.arr 44 (.var 3)), (.arr 44 (.var 4)), (.int (.var 5)), (.int (.var 6)), (.arr 57 (.var 7)), (.int (.var 8))] (.ret [(.int (.var 11)), (.int (.var 12))]))
noncomputable def cwindow : Cx := tab2.only [66] (fun _ => []) [] 0 [] (fun _ => none)
def twindow : Tree :=
  (.call 66 [(.int (.var 0)), (.arr 44 (.var 1)), (.arr 44 (.var 2)), (.arr 44 (.var 3)), (.arr 44 (.var 4)), (.int (.var 5)), (.int (.var 6)), (.arr 57 (.var 7)), (.int (.var 8))] (.ret [(.int (.var 10)), (.int (.var 11))]))
noncomputable def cmkline : Cx := tab2.only [] (fun r => match r with
  | 3 => [.blk 1]
  | 50005 => [.blk 1, .vec 4]
  | _ => []) [] 0 [] (fun _ => none)
def tmkline : Tree :=
  (.dfn .nil (.dfn .nil (.loop [.int, (.vec 44)] [(.int (.lit 0)), (.cnt 44 (.var 2))] (.ob (.and (.cmp .le (.lit (-9223372036854775808)) (.add (.var 3) (.lit 1))) (.cmp .le (.add (.var 3) (.lit 1)) (.lit 9223372036854775807))) (.split (.cmp .lt (.add (.var 3) (.lit 1)) (.len (.var 0))) (.ob (.cmp .le (.lit 0) (.var 3)) (.ob (.cmp .lt (.var 3) (.len (.var 0))) (.ob (.cmp .lt (.add (.var 3) (.lit 1)) (.len (.var 0))) (.arr [[(.int (.cell (.var 0) (.var 3) 0)), (.int (.cell (.var 0) (.add (.var 3) (.lit 1)) 0))]] (.ob (.cmp .le (.mul (.add (.len (.var 4)) (.len (.var 5))) (.lit 16)) (.lit 140737488355328)) (.cat (.var 4) (.var 5) (.ob (.and (.cmp .le (.lit (-9223372036854775808)) (.add (.var 3) (.lit 2))) (.cmp .le (.add (.var 3) (.lit 2)) (.lit 9223372036854775807))) (.ob (.and (.cmp .le (.lit (-9223372036854775808)) (.add (.var 3) (.lit 2))) (.cmp .le (.add (.var 3) (.lit 2)) (.lit 9223372036854775807))) (.back 0 [(.int (.add (.var 3) (.lit 2))), (.cnt 44 (.var 6))]))))))))) (.ret [(.cnt 44 (.var 4))]))))))
noncomputable def cshown : Cx := tab2.only [55] (fun _ => []) [] 0 [] (fun _ => none)
def tshown : Tree :=
  (.dfn .nil (.dfn .nil (.dfn .nil (.dfn .nil (.dfn .nil (.arr [[(.int (.lit 0))], [(.int (.lit 0))], [(.int (.lit 100000))], [(.int (.lit 900000000))]] (.call 55 [(.arr 2 (.var 5))] (.arr [[(.int (.lit 0))], [(.int (.lit 0))], [(.int (.lit 100000))], [(.int (.lit 1200000000))]] (.call 55 [(.arr 2 (.var 7))] (.arr [[(.int (.lit 0))], [(.int (.lit 0))], [(.int (.lit 100000))], [(.int (.lit 1500000000))]] (.call 55 [(.arr 2 (.var 9))] (.arr [[(.int (.lit 0))], [(.int (.lit 0))], [(.int (.lit 100000))], [(.int (.lit 2000000000))]] (.call 55 [(.arr 2 (.var 11))] (.dfn .nil (.ret [(.int (.lit 100000)), (.cnt 44 (.var 6)), (.cnt 44 (.var 8)), (.cnt 44 (.var 10)), (.cnt 44 (.var 12)), (.int (.lit 0)), (.int (.lit 30000)), (.cnt 57 (.var 13))])))))))))))))))
noncomputable def cawake : Cx := tab2.only [55, 56, 23, 31, 35] (fun _ => []) [] 0 [] (fun _ => none)
def tawake : Tree :=
  (.arr [[(.int (.lit 0))], [(.int (.lit 100))], [(.int (.lit 10))], [(.int (.lit 200))], [(.int (.lit 30))], [(.int (.lit 100))]] (.call 55 [(.arr 2 (.var 0))] (.call 23 [(.arr 44 (.var 1)), (.int (.lit 13))] (.split (.and (.cmp .eq (.var 2) (.lit 185)) (.cmp .eq (.var 3) (.lit 185))) (.call 56 [] (.call 31 [(.int (.var 4)), (.arr 44 (.var 5)), (.arr 44 (.var 6)), (.arr 44 (.var 7)), (.arr 44 (.var 8)), (.int (.var 9)), (.int (.var 10)), (.arr 57 (.var 11)), (.int (.lit 50000))] (.split (.and (.cmp .eq (.var 12) (.lit 600000000)) (.cmp .eq (.var 13) (.lit 750000000))) (.call 56 [] (.call 35 [(.int (.var 14)), (.arr 44 (.var 15)), (.arr 44 (.var 16)), (.arr 44 (.var 17)), (.arr 44 (.var 18)), (.int (.var 19)), (.int (.var 20)), (.arr 57 (.var 21))] (.ret [(.bool (.cmp .eq (.var 22) (.lit 0)))]))) (.ret [(.bool (.lit false))])))) (.ret [(.bool (.lit false))])))))
end Go.Proofs.Ytcglpbchejkolaa
/- Earth: which earths are valid; copies; points. -/
namespace Go.Proofs.Ytcglpbchejkolaa
open Go.RowKit
set_option linter.unusedSimpArgs false
set_option linter.unusedVariables false

theorem reps_len (rows : List (List C)) : (repsOf rows).length = rows.length := by simp [repsOf]
theorem rp0 (v : Value) (rows : List (List C)) (i : Nat) : ((C.s v rows).at i 0).int = ((repsOf rows).getD i ⟨0, 0, 0⟩).kind := by
  simp only [cell_at, repsOf, List.getD_eq_getElem?_getD, List.getElem?_map]
  cases rows[i]? <;> rfl
theorem rp1 (v : Value) (rows : List (List C)) (i : Nat) : ((C.s v rows).at i 1).int = ((repsOf rows).getD i ⟨0, 0, 0⟩).z := by
  simp only [cell_at, repsOf, List.getD_eq_getElem?_getD, List.getElem?_map]
  cases rows[i]? <;> rfl
theorem rp2 (v : Value) (rows : List (List C)) (i : Nat) : ((C.s v rows).at i 2).int = ((repsOf rows).getD i ⟨0, 0, 0⟩).p := by
  simp only [cell_at, repsOf, List.getD_eq_getElem?_getD, List.getElem?_map]
  cases rows[i]? <;> rfl
theorem badReps_kind {bottom : Int} {r : Rep} {l : List Rep} (h : r.kind < 1 ∨ 5 ≤ r.kind) : badReps bottom (r :: l) = 4 := by
  rw [badReps, if_neg]
  rw [inV_iff]; omega
theorem badReps_range {bottom : Int} {r : Rep} {l : List Rep} (h : 1 ≤ r.kind ∧ r.kind ≤ 4) (h2 : r.z < 0 ∨ bottom < r.z ∨ r.p < 0 ∨ 68719476736 < r.p) : badReps bottom (r :: l) = 2 := by
  rw [badReps, if_pos (by rw [inV_iff]; omega), if_neg]
  rw [Bool.and_eq_true, inV_iff, inV_iff]; omega
theorem badReps_next {bottom : Int} {r : Rep} {l : List Rep} (h : 1 ≤ r.kind ∧ r.kind ≤ 4) (h2 : 0 ≤ r.z ∧ r.z ≤ bottom ∧ 0 ≤ r.p ∧ r.p ≤ 68719476736) : badReps bottom (r :: l) = badReps bottom l := by
  rw [badReps, if_pos (by rw [inV_iff]; omega), if_pos]
  rw [Bool.and_eq_true, inV_iff, inV_iff]; omega
theorem orE_ne {a b : Int} (h : a ≠ 0) : orE a b = a := if_neg h
theorem orE_eq {a b : Int} (h : a = 0) : orE a b = b := if_pos h
/-- What is asked behind the lines. -/
def restV (e : Ear) : Int := if ab e.ph e.pl && ab e.fh e.fl && ab e.fh e.pl then (if 24 < e.reps.length then 8 else badReps e.bottom e.reps) else 12
theorem checkV_range {e : Ear} (h : e.bottom < 1 ∨ 1048576 < e.bottom ∨ e.gl < 0 ∨ e.gh < e.gl ∨ 40000 < e.gh) : checkV e = 2 := by
  unfold checkV
  rw [if_neg]
  simp only [Bool.and_eq_true, decide_eq_true_eq, inV_iff]; omega
theorem checkV_in {e : Ear} (h : 1 ≤ e.bottom ∧ e.bottom ≤ 1048576 ∧ 0 ≤ e.gl ∧ e.gl ≤ e.gh ∧ e.gh ≤ 40000) : checkV e = [lineE e.pl, lineE e.ph, lineE e.fl, lineE e.fh].foldr orE (restV e) := by
  unfold checkV
  rw [if_pos]
  · rfl
  · simp only [Bool.and_eq_true, decide_eq_true_eq, inV_iff]; omega
theorem rightB_of {ks : List Kn} (h : lineE ks = 0) : rightB ks = true := by
  unfold rightB
  have : lineV ks 1048576 68719476736 = 0 := h
  rw [this]; rfl
theorem restV_clash {e : Ear} (h : ab e.ph e.pl = false ∨ ab e.fh e.fl = false ∨ ab e.fh e.pl = false) : restV e = 12 := by
  unfold restV
  rw [if_neg]
  simp only [Bool.and_eq_true]
  rintro ⟨⟨h1, h2⟩, h3⟩
  rcases h with h | h | h
  · rw [h1] at h; cases h
  · rw [h2] at h; cases h
  · rw [h3] at h; cases h
theorem restV_in {e : Ear} (h : ab e.ph e.pl = true ∧ ab e.fh e.fl = true ∧ ab e.fh e.pl = true) : restV e = if 24 < e.reps.length then 8 else badReps e.bottom e.reps := by
  unfold restV
  rw [if_pos]
  rw [h.1, h.2.1, h.2.2]; rfl
theorem check_ok : tab2.ok 35 := by
  refine Tab.of_ct rfl rfl ⟨_, Try.func35, by decide, rfl⟩ ?_ ctF_det
  refine ct_ok (cx := ccheck) (Tab.cx_ok (all_cons (up_ok within_ok) (all_cons (up_ok line_ok) (all_cons (up_ok above2_ok) all_nil))) fxcheck) Try.func35 (bds := []) (T := tcheck) (by kernel_rfl) ?_
  have h1 : ccheck.ct 18 = some ctLine := rfl
  have h2 : ccheck.ct 21 = some ctAbove := rfl
  unfold tcheck
  simp only [VC, allC, List.map_cons, List.map_nil, List.length_cons, List.length_nil, List.getElem?_cons_zero, List.getElem?_cons_succ, List.cons.injEq, C.i.injEq, C.b.injEq, and_true, true_and, forall_const, kindsOf_nil, kindsOf_lf, kindsOf_agg, kindsOf_box, boxKinds_nil, boxKinds_lf, boxKinds_agg, boxKinds_box, List.append_nil, List.cons_append, List.nil_append, den_cmp_le, den_cmp_lt, den_cmp_eq, den_cmp_ne, den_cmp_le', den_cmp_lt', den_cmp_eq', den_cmp_ne', den_and, den_and', den_or, den_or', den_not, den_not', den_blit, den_of, ev_var, at_0, at_1, at_2, at_3, at_4, at_5, at_6, at_7, at_skip, c_int, c_bool, c_arr, c_cnt, c_vec, ev_nil, ev_join, ev_sub3, loc_s, int_i, bool_b, rows_s, cs_nil, cs_cons, E.den_lit, E.den_var, E.den_add, E.den_sub, E.den_mul, E.den_quo, E.den_rem, E.den_max, E.den_min, E.den_len, E.den_wr, E.den_cell, ev_cell, h1, h2, ctLine, ctAbove, ctCheck, ctF, lineSh, earthSh, earthKs, n_, k_, earOf]
  intro b _ _ u1 r1 _ _ _ u2 r2 _ _ _ u3 r3 _ _ _ u4 r4 _ _ _ gl _ _ gh _ _ u7 r7 _ _ _
  have hr := reps_len r7
  simp only [rp0 u7 r7, rp1 u7 r7, rp2 u7 r7]
  rw [← hr]
  generalize knots r1 = k1 at *
  generalize knots r2 = k2 at *
  generalize knots r3 = k3 at *
  generalize knots r4 = k4 at *
  generalize repsOf r7 = rs at *
  generalize hE : (⟨b, k1, k2, k3, k4, gl, gh, rs⟩ : Ear) = e
  have eb : e.bottom = b := by rw [← hE]
  have e1 : e.pl = k1 := by rw [← hE]
  have e2 : e.ph = k2 := by rw [← hE]
  have e3 : e.fl = k3 := by rw [← hE]
  have e4 : e.fh = k4 := by rw [← hE]
  have egl : e.gl = gl := by rw [← hE]
  have egh : e.gh = gh := by rw [← hE]
  have ers : e.reps = rs := by rw [← hE]
  refine ⟨bds_nil _, fun h => (checkV_range (by omega)).symm, fun c1 => ⟨fun h => (checkV_range (by omega)).symm, fun c2 => ⟨fun h => (checkV_range (by omega)).symm, fun c3 => ⟨fun h => (checkV_range (by omega)).symm, fun c4 => ?_⟩⟩⟩⟩
  rw [checkV_in (by omega), e1, e2, e3, e4]
  simp only [List.foldr_cons, List.foldr_nil]
  rintro n1 _ _ hn1
  have hn1 : n1 = lineE k1 := hn1
  rw [← hn1]
  refine ⟨fun h => (orE_ne h).symm, fun z1 => ?_⟩
  rw [orE_eq z1]
  rintro n2 _ _ hn2
  have hn2 : n2 = lineE k2 := hn2
  rw [← hn2]
  refine ⟨fun h => (orE_ne h).symm, fun z2 => ?_⟩
  rw [orE_eq z2]
  rintro n3 _ _ hn3
  have hn3 : n3 = lineE k3 := hn3
  rw [← hn3]
  refine ⟨fun h => (orE_ne h).symm, fun z3 => ?_⟩
  rw [orE_eq z3]
  rintro n4 _ _ hn4
  have hn4 : n4 = lineE k4 := hn4
  rw [← hn4]
  refine ⟨fun h => (orE_ne h).symm, fun z4 => ?_⟩
  rw [orE_eq z4]
  have g1 := rightB_of (ks := k1) (by omega)
  have g2 := rightB_of (ks := k2) (by omega)
  have g3 := rightB_of (ks := k3) (by omega)
  have g4 := rightB_of (ks := k4) (by omega)
  rintro t1 ht1
  have ht1 : t1 = ab k2 k1 := by rw [ht1, g1, g2]; rfl
  refine ⟨fun h => (restV_clash (.inl (by rw [e1, e2, ← ht1, h]))).symm, fun y1 => ?_⟩
  rintro t2 ht2
  have ht2 : t2 = ab k4 k3 := by rw [ht2, g3, g4]; rfl
  refine ⟨fun h => (restV_clash (.inr (.inl (by rw [e3, e4, ← ht2, h])))).symm, fun y2 => ?_⟩
  rintro t3 ht3
  have ht3 : t3 = ab k4 k1 := by rw [ht3, g1, g4]; rfl
  refine ⟨fun h => (restV_clash (.inr (.inr (by rw [e1, e4, ← ht3, h])))).symm, fun y3 => ?_⟩
  rw [restV_in (by rw [e1, e2, e3, e4, ← ht1, ← ht2, ← ht3]; exact ⟨y1, y2, y3⟩), ers, eb]
  refine ⟨fun h => by rw [if_pos (by omega)], fun hlen => ?_⟩
  rw [if_neg (by omega)]
  refine ⟨fun xs => match xs with | [_, .i i] => 0 ≤ i ∧ i ≤ rs.length ∧ badReps b rs = badReps b (rs.drop i.toNat) | _ => False, fun xs => match xs with | [_, .i i] => ((rs.length : Int) - i).toNat | _ => 0, ⟨by omega, by omega, rfl⟩, ?_⟩
  rintro x _ _ i _ _ ⟨i0, i1, hi⟩
  refine ⟨fun hlt => ⟨i0, hlt, ?_⟩, fun hge => ?_⟩
  · rw [drop_cons (by omega) ⟨0, 0, 0⟩, ← show (i + 1).toNat = i.toNat + 1 by omega] at hi
    generalize rs.getD i.toNat ⟨0, 0, 0⟩ = k at *
    refine ⟨fun h => by rw [hi, badReps_kind (by omega)], fun h5 => ⟨fun h => by rw [hi, badReps_kind (by omega)], fun h6 => ⟨fun h => by rw [hi, badReps_range (by omega) (by omega)], fun h7 => ⟨fun h => by rw [hi, badReps_range (by omega) (by omega)], fun h8 => ?_⟩⟩⟩⟩
    exact ⟨⟨by omega, by omega, by rw [hi, badReps_next (by omega) (by omega)]⟩, (show ((rs.length : Int) - (i + 1)).toNat < ((rs.length : Int) - i).toNat by omega)⟩
  · rw [hi, List.drop_of_length_le (by omega)]; rfl
theorem clone_ok : tab2.ok 99 := by
  refine Tab.of_ct rfl rfl ⟨_, Try.func99, by decide, rfl⟩ ?_ (fun h => by cases h)
  refine ct_ok (cx := cclone) (Tab.cx_ok all_nil) Try.func99 (bds := []) (T := tclone) (by kernel_rfl) ?_
  unfold tclone
  simp only [VC, allC, List.map_cons, List.map_nil, List.length_cons, List.length_nil, List.getElem?_cons_zero, List.getElem?_cons_succ, List.cons.injEq, C.i.injEq, C.b.injEq, and_true, true_and, forall_const, kindsOf_nil, kindsOf_lf, kindsOf_agg, kindsOf_box, boxKinds_nil, boxKinds_lf, boxKinds_agg, boxKinds_box, List.append_nil, List.cons_append, List.nil_append, den_cmp_le, den_cmp_lt, den_cmp_eq, den_cmp_ne, den_cmp_le', den_cmp_lt', den_cmp_eq', den_cmp_ne', den_and, den_and', den_or, den_or', den_not, den_not', den_blit, den_of, ev_var, at_0, at_1, at_2, at_3, at_4, at_5, at_6, at_7, at_skip, c_int, c_bool, c_arr, c_cnt, c_vec, ev_nil, ev_join, ev_sub3, loc_s, int_i, bool_b, rows_s, cs_nil, cs_cons, E.den_lit, E.den_var, E.den_add, E.den_sub, E.den_mul, E.den_quo, E.den_rem, E.den_max, E.den_min, E.den_len, E.den_wr, E.den_cell, ev_cell, ctClone, ctF]
  intro u r _ _ _ hp; have hp : r.length ≤ 1000 := hp; refine ⟨bds_nil _, ⟨fun h => ⟨_, by rw [List.length_eq_zero_iff.1 (show r.length = 0 by omega)]⟩, fun _ => ⟨by omega, fun v' => ⟨v', rfl⟩⟩⟩, by omega, fun v' => ⟨v', rfl⟩⟩
end Go.Proofs.Ytcglpbchejkolaa
/- Earth: points, and what they allow and ask for. -/
namespace Go.Proofs.Ytcglpbchejkolaa
open Go.RowKit
set_option linter.unusedSimpArgs false
set_option linter.unusedVariables false

theorem knots_app (a b : List (List C)) : knots (a ++ b) = knots a ++ knots b := by simp [knots]
theorem knots_one (a b : Int) : knots [[.i a, .i b]] = [(a, b)] := rfl
theorem knots_upd (rows : List (List C)) (i : Nat) (a b : Int) : knots (updRow rows i 0 [.i a, .i b]) = (knots rows).set i (a, b) := by
  unfold updRow knots
  rw [List.map_set]
  rfl
theorem knots_take (rows : List (List C)) (n : Nat) : knots (rows.take n) = (knots rows).take n := by simp [knots]
/-- The points of the reports of a kind. -/
def repP (reps : List Rep) (kind : Int) : List Kn := (reps.filter fun r => r.kind == kind).map fun r => (r.z, r.p)
theorem repP_snoc_yes {l : List Rep} {r : Rep} {kind : Int} (h : r.kind = kind) : repP (l ++ [r]) kind = repP l kind ++ [(r.z, r.p)] := by
  unfold repP
  rw [List.filter_append, List.map_append, List.filter_cons_of_pos (by simpa using h)]; rfl
theorem repP_snoc_no {l : List Rep} {r : Rep} {kind : Int} (h : r.kind ≠ kind) : repP (l ++ [r]) kind = repP l kind := by
  unfold repP
  rw [List.filter_append, List.map_append, List.filter_cons_of_neg (by simpa using h)]; simp
theorem repP_len (l : List Rep) (kind : Int) : (repP l kind).length ≤ l.length := by
  unfold repP
  rw [List.length_map]
  exact List.length_filter_le _ _
def lowP (bottom : Int) (l : List Kn) : List Kn := l.filter fun k => decide (k.1 ≤ bottom)
theorem lowP_snoc_yes {b : Int} {l : List Kn} {k : Kn} (h : k.1 ≤ b) : lowP b (l ++ [k]) = lowP b l ++ [k] := by
  unfold lowP
  rw [List.filter_append, List.filter_cons_of_pos (by simpa using h)]; rfl
theorem lowP_snoc_no {b : Int} {l : List Kn} {k : Kn} (h : b < k.1) : lowP b (l ++ [k]) = lowP b l := by
  unfold lowP
  rw [List.filter_append, List.filter_cons_of_neg (by simp; omega)]; simp
theorem lowP_len (b : Int) (l : List Kn) : (lowP b l).length ≤ l.length := List.length_filter_le _ _
theorem lowP_all {b : Int} {l : List Kn} (h : ∀ k ∈ l, k.1 ≤ b) : lowP b l = l := List.filter_eq_self.2 fun k hk => by simpa using h k hk
theorem pointsV_eq (b : Int) (reps : List Rep) (l : List Kn) (kind : Int) : pointsV b reps l kind = lowP b l ++ repP reps kind := rfl
theorem rep_step {rows : List (List C)} {A : List Kn} {rs : List Rep} {kind : Int} {i : Int} (i0 : 0 ≤ i) (i1 : i < rs.length) (hr : knots rows = A ++ repP (rs.take i.toNat) kind) :
    ((rs.getD i.toNat ⟨0, 0, 0⟩).kind = kind → ∀ c : List C, c = [.i (rs.getD i.toNat ⟨0, 0, 0⟩).z, .i (rs.getD i.toNat ⟨0, 0, 0⟩).p] → knots (rows ++ [c]) = A ++ repP (rs.take (i + 1).toNat) kind) ∧
    ((rs.getD i.toNat ⟨0, 0, 0⟩).kind ≠ kind → knots rows = A ++ repP (rs.take (i + 1).toNat) kind) := by
  rw [show (i + 1).toNat = i.toNat + 1 by omega, take_snoc (by omega) ⟨0, 0, 0⟩]
  refine ⟨fun h c hc => ?_, fun h => ?_⟩
  · rw [hc, knots_app, knots_one, repP_snoc_yes h, hr, List.append_assoc]
  · rw [repP_snoc_no h, hr]
theorem rows_le {rows : List (List C)} {A : List Kn} {rs : List Rep} {kind : Int} {n : Nat} (hA : A.length ≤ 100) (hrs : rs.length ≤ 100) (hr : knots rows = A ++ repP (rs.take n) kind) : rows.length ≤ 200 := by
  rw [← knots_len rows, hr, List.length_append]
  have := repP_len (rs.take n) kind
  rw [List.length_take] at this
  omega
theorem points_ok : tab2.ok 117 := by
  refine Tab.of_ct rfl rfl ⟨_, Try.func117, by decide, rfl⟩ ?_ (fun h => by cases h)
  refine ct_ok (cx := cpoints) (Tab.cx_ok (all_cons clone_ok all_nil) fxpoints) Try.func117 (bds := []) (T := tpoints) (by kernel_rfl) ?_
  have h1 : cpoints.ct 99 = some (ctClone 44) := rfl
  unfold tpoints
  simp only [VC, allC, List.map_cons, List.map_nil, List.length_cons, List.length_nil, List.getElem?_cons_zero, List.getElem?_cons_succ, List.cons.injEq, C.i.injEq, C.b.injEq, and_true, true_and, forall_const, kindsOf_nil, kindsOf_lf, kindsOf_agg, kindsOf_box, boxKinds_nil, boxKinds_lf, boxKinds_agg, boxKinds_box, List.append_nil, List.cons_append, List.nil_append, den_cmp_le, den_cmp_lt, den_cmp_eq, den_cmp_ne, den_cmp_le', den_cmp_lt', den_cmp_eq', den_cmp_ne', den_and, den_and', den_or, den_or', den_not, den_not', den_blit, den_of, ev_var, at_0, at_1, at_2, at_3, at_4, at_5, at_6, at_7, at_skip, c_int, c_bool, c_arr, c_cnt, c_vec, ev_nil, ev_join, ev_sub3, loc_s, int_i, bool_b, rows_s, cs_nil, cs_cons, E.den_lit, E.den_var, E.den_add, E.den_sub, E.den_mul, E.den_quo, E.den_rem, E.den_max, E.den_min, E.den_len, E.den_wr, E.den_cell, ev_cell, h1, ctClone, ctPoints, ctF, lineSh, earthSh, earthKs, n_, k_, earOf]
  intro b _ _ u1 r1 _ _ _ u2 r2 _ _ _ u3 r3 _ _ _ u4 r4 _ _ _ gl _ _ gh _ _ u7 r7 _ _ _ u8 r8 _ _ _ kind _ _ hp
  obtain ⟨hp1, hp2⟩ := hp
  have hr := reps_len r7
  have hk := knots_len r8
  simp only [rp0 u7 r7, rp1 u7 r7, rp2 u7 r7]
  rw [← hr] at hp2 ⊢
  generalize repsOf r7 = rs at *
  have hrs : rs.length ≤ 100 := hp2
  refine ⟨bds_nil _, (show r8.length ≤ 1000 by omega), ?_⟩
  rintro u11 r11 _ _ _ ⟨u11', h11⟩
  obtain rfl : r11 = r8 := by simpa using (show u11 = u11' ∧ r11 = r8 by simpa using h11).2
  simp only [kn1 u11 r11, kn2 u11 r11]
  rw [← hk]
  generalize hks : knots r11 = ks at *
  have hA : (lowP b ks).length ≤ 100 := by have := lowP_len b ks; omega
  refine ⟨fun xs => match xs with | [_, .i i] => 0 ≤ i ∧ i ≤ ks.length ∧ ∀ k ∈ ks.take i.toNat, k.1 ≤ b | _ => False, fun xs => match xs with | [_, .i i] => ((ks.length : Int) - i).toNat | _ => 0, ⟨by omega, by omega, fun k hk => by simp at hk⟩, ?_⟩
  rintro x _ _ i _ _ ⟨i0, i1, hi⟩
  refine ⟨fun hlt => ⟨i0, hlt, fun hb => ?_, fun hb => ?_⟩, fun hge => ?_⟩
  · -- the first one that is struck
    have hst : lowP b (ks.take (i + 1).toNat) = ks.take i.toNat := by
      rw [show (i + 1).toNat = i.toNat + 1 by omega, take_snoc (by omega) (0, 0), lowP_snoc_no hb, lowP_all hi]
    refine ⟨fun xs => match xs with | [.i p, .i q, .s _ rows] => 0 ≤ p ∧ p < q ∧ q ≤ ks.length ∧ rows.length = ks.length ∧ (knots rows).take p.toNat = lowP b (ks.take q.toNat) ∧ ∀ k : Nat, q ≤ k → (knots rows).getD k (0, 0) = ks.getD k (0, 0) | _ => False, fun xs => match xs with | [_, .i q, _] => ((ks.length : Int) - q).toNat | _ => 0, ⟨by omega, by omega, by omega, by omega, by rw [hks, hst], fun k _ => by rw [hks]⟩, ?_⟩
    rintro p _ _ q _ _ v18 r18 _ _ _ ⟨p0, pq, qn, hlen, htake, hrest⟩
    have hk18 := knots_len r18
    simp only [kn1 v18 r18, kn2 v18 r18]
    rw [hlen]
    generalize hK : knots r18 = K at *
    refine ⟨fun hlq => ⟨by omega, hlq, fun hle => ?_, fun hgt => ?_⟩, fun hgq => ?_⟩
    · have hle : (ks.getD q.toNat (0, 0)).1 ≤ b := by rw [← hrest q.toNat (by omega)]; exact hle
      refine ⟨p0, by omega, fun v19 => ⟨⟨by omega, by omega, by omega, ?_, ?_, fun k hk => ?_⟩, (show ((ks.length : Int) - (q + 1)).toNat < ((ks.length : Int) - q).toNat by omega)⟩⟩
      · rw [← hlen]; unfold updRow; simp
      · rw [knots_upd, hK, show (p + 1).toNat = p.toNat + 1 by omega, take_snoc (by rw [List.length_set]; omega) (0, 0), List.take_set_of_le (by omega), htake, show (q + 1).toNat = q.toNat + 1 by omega, take_snoc (by omega) (0, 0), lowP_snoc_yes hle]
        congr 2
        rw [List.getD_eq_getElem?_getD, List.getElem?_set_self (by omega)]
        show ((K.getD q.toNat (0, 0)).1, (K.getD q.toNat (0, 0)).2) = _
        rw [hrest q.toNat (by omega)]
      · rw [knots_upd, hK, List.getD_eq_getElem?_getD, List.getElem?_set_ne (by omega), ← List.getD_eq_getElem?_getD]
        exact hrest k (by omega)
    · have hgt : b < (ks.getD q.toNat (0, 0)).1 := by rw [← hrest q.toNat (by omega)]; exact hgt
      refine ⟨⟨by omega, by omega, by omega, rfl, ?_, fun k hk => hrest k (by omega)⟩, (show ((ks.length : Int) - (q + 1)).toNat < ((ks.length : Int) - q).toNat by omega)⟩
      rw [htake, show (q + 1).toNat = q.toNat + 1 by omega, take_snoc (by omega) (0, 0), lowP_snoc_no hgt]
    · refine ⟨p0, by omega, p0, ?_, fun v21 => ?_⟩
      · simp only [List.length_append, List.length_drop, List.length_take, List.length_replicate]; omega
      rw [List.take_of_length_le (l := ks) (i := q.toNat) (by omega)] at htake
      have hstart : knots (List.drop (0 : Int).toNat (List.take p.toNat (List.drop (0 : Int).toNat (List.take p.toNat r18) ++ List.replicate ((ks.length : Int) - p).toNat [C.i 0, C.i 0]))) = lowP b ks ++ repP (rs.take (0 : Int).toNat) kind := by
        show knots (List.drop 0 (List.take p.toNat (List.drop 0 (List.take p.toNat r18) ++ List.replicate ((ks.length : Int) - p).toNat [C.i 0, C.i 0]))) = lowP b ks ++ repP [] kind
        rw [List.drop_zero, List.drop_zero, List.take_append, List.take_take, Nat.min_self, List.length_take, Nat.min_eq_left (by omega), Nat.sub_self, List.take_zero, List.append_nil, knots_take, hK, htake]
        simp [repP]
      refine ⟨fun xs => match xs with | [.s _ rows, .i i] => 0 ≤ i ∧ i ≤ rs.length ∧ knots rows = lowP b ks ++ repP (rs.take i.toNat) kind | _ => False, fun xs => match xs with | [_, .i i] => ((rs.length : Int) - i).toNat | _ => 0, ⟨by omega, by omega, hstart⟩, ?_⟩; rintro v22 r22 _ _ _ i _ _ ⟨i0, i1, hi⟩; have hle := rows_le hA hrs hi; refine ⟨fun hlt => ?_, fun hge => ⟨v22, r22, rfl, by rw [hi, List.take_of_length_le (by omega)]; rfl⟩⟩; obtain ⟨s1, s2⟩ := rep_step (by omega) hlt hi
      refine ⟨i0, hlt, fun he => ⟨by omega, fun v25 => ⟨⟨by omega, by omega, s1 he _ rfl⟩, (show ((rs.length : Int) - (i + 1)).toNat < ((rs.length : Int) - i).toNat by omega)⟩⟩, fun hne => ⟨⟨by omega, by omega, s2 hne⟩, (show ((rs.length : Int) - (i + 1)).toNat < ((rs.length : Int) - i).toNat by omega)⟩⟩
  · refine ⟨⟨by omega, by omega, fun k hk => ?_⟩, (show ((ks.length : Int) - (i + 1)).toNat < ((ks.length : Int) - i).toNat by omega)⟩
    rw [show (i + 1).toNat = i.toNat + 1 by omega, take_snoc (by omega) (0, 0)] at hk
    rcases List.mem_append.1 hk with hk | hk
    · exact hi k hk
    · rw [List.mem_singleton] at hk; subst hk; exact hb
  · rw [List.take_of_length_le (by omega)] at hi
    have hstart : knots r11 = lowP b ks ++ repP (rs.take (0 : Int).toNat) kind := by
      rw [hks, lowP_all hi]
      show ks = ks ++ repP [] kind
      simp [repP]
    refine ⟨fun xs => match xs with | [.s _ rows, .i i] => 0 ≤ i ∧ i ≤ rs.length ∧ knots rows = lowP b ks ++ repP (rs.take i.toNat) kind | _ => False, fun xs => match xs with | [_, .i i] => ((rs.length : Int) - i).toNat | _ => 0, ⟨by omega, by omega, hstart⟩, ?_⟩; rintro v22 r22 _ _ _ i _ _ ⟨i0, i1, hi⟩; have hle := rows_le hA hrs hi; refine ⟨fun hlt => ?_, fun hge => ⟨v22, r22, rfl, by rw [hi, List.take_of_length_le (by omega)]; rfl⟩⟩; obtain ⟨s1, s2⟩ := rep_step (by omega) hlt hi
    refine ⟨i0, hlt, fun he => ⟨by omega, fun v25 => ⟨⟨by omega, by omega, s1 he _ rfl⟩, (show ((rs.length : Int) - (i + 1)).toNat < ((rs.length : Int) - i).toNat by omega)⟩⟩, fun hne => ⟨⟨by omega, by omega, s2 hne⟩, (show ((rs.length : Int) - (i + 1)).toNat < ((rs.length : Int) - i).toNat by omega)⟩⟩
/-! What points allow and ask for -/
theorem g_bd {g z k : Int} (h0 : 0 ≤ g) (h1 : g ≤ 40000) (z0 : 0 ≤ z) (z1 : z ≤ 1048576) (k0 : 0 ≤ k) (k1 : k ≤ 1048576) : -41943040000 ≤ g * (z - k) ∧ g * (z - k) ≤ 41943040000 ∧ g * (k - z) = -(g * (z - k)) := by
  have := mul_abs (y := z - k) (z := g) (V := 1048576) (A := 40000) (by omega) (by omega) h0 h1
  rw [Int.mul_comm (z - k) g] at this
  refine ⟨by omega, by omega, ?_⟩
  rw [← Int.mul_neg, Int.neg_sub]
theorem upP_lt {gl gh z : Int} {k : Kn} (h : z < k.1) : upP gl gh z k = k.2 + gl * (z - k.1) := by unfold upP; rw [if_pos h]
theorem upP_ge {gl gh z : Int} {k : Kn} (h : k.1 ≤ z) : upP gl gh z k = k.2 + gh * (z - k.1) := by unfold upP; rw [if_neg (by omega)]
theorem loP_lt {gl gh z : Int} {k : Kn} (h : z < k.1) : loP gl gh z k = k.2 + gh * (z - k.1) := by unfold loP; rw [if_pos h]
theorem loP_ge {gl gh z : Int} {k : Kn} (h : k.1 ≤ z) : loP gl gh z k = k.2 + gl * (z - k.1) := by unfold loP; rw [if_neg (by omega)]
theorem bounded_ok : tab2.ok 116 := by
  refine Tab.of_ct rfl rfl ⟨_, Try.func116, by decide, rfl⟩ ?_ ctF_det
  refine ct_ok (cx := cbounded) (Tab.cx_ok all_nil fxbounded) Try.func116 (bds := []) (T := tbounded) (by kernel_rfl) ?_
  unfold tbounded
  simp only [VC, allC, List.map_cons, List.map_nil, List.length_cons, List.length_nil, List.getElem?_cons_zero, List.getElem?_cons_succ, List.cons.injEq, C.i.injEq, C.b.injEq, and_true, true_and, forall_const, kindsOf_nil, kindsOf_lf, kindsOf_agg, kindsOf_box, boxKinds_nil, boxKinds_lf, boxKinds_agg, boxKinds_box, List.append_nil, List.cons_append, List.nil_append, den_cmp_le, den_cmp_lt, den_cmp_eq, den_cmp_ne, den_cmp_le', den_cmp_lt', den_cmp_eq', den_cmp_ne', den_and, den_and', den_or, den_or', den_not, den_not', den_blit, den_of, ev_var, at_0, at_1, at_2, at_3, at_4, at_5, at_6, at_7, at_skip, c_int, c_bool, c_arr, c_cnt, c_vec, ev_nil, ev_join, ev_sub3, loc_s, int_i, bool_b, rows_s, cs_nil, cs_cons, E.den_lit, E.den_var, E.den_add, E.den_sub, E.den_mul, E.den_quo, E.den_rem, E.den_max, E.den_min, E.den_len, E.den_wr, E.den_cell, ev_cell, kn1, kn2, ctUp, ctF, lineSh, earthSh, earthKs, n_, k_, earOf]
  intro b _ _ u1 r1 _ _ _ u2 r2 _ _ _ u3 r3 _ _ _ u4 r4 _ _ _ gl _ _ gh _ _ u7 r7 _ _ _ u8 r8 _ _ _ z _ _ so s0 s1 hp; have hk := knots_len r8; rw [← hk]; generalize knots r8 = ks at *; obtain ⟨⟨-, hpt⟩, g1, g2, g3, g4, g5, g6⟩ := hp; change 0 ≤ gl at g1; change gl ≤ 40000 at g2; change 0 ≤ gh at g3; change gh ≤ 40000 at g4
  refine ⟨bds_nil _, fun xs => match xs with | [.i so', .i i] => 0 ≤ i ∧ i ≤ ks.length ∧ upV gl gh ks z so = upV gl gh (ks.drop i.toNat) z so' | _ => False, fun xs => match xs with | [_, .i i] => ((ks.length : Int) - i).toNat | _ => 0, ⟨by omega, by omega, rfl⟩, ?_⟩
  rintro so' s0 s1 i _ _ ⟨i0, i1, hi⟩
  refine ⟨fun hlt => ⟨i0, hlt, ?_⟩, fun hge => by rw [hi, List.drop_of_length_le (by omega)]; rfl⟩
  rw [drop_cons (by omega) (0, 0), ← show (i + 1).toNat = i.toNat + 1 by omega] at hi
  have hm := hpt _ (getD_mem (l := ks) (i := i.toNat) (by omega) (0, 0)); have hl := g_bd g1 g2 g5 g6 hm.1 hm.2.1; have hh := g_bd g3 g4 g5 g6 hm.1 hm.2.1; generalize ks.getD i.toNat (0, 0) = k at *
  refine ⟨fun h => ⟨⟨by omega, by omega⟩, ⟨by omega, by omega⟩, ⟨by omega, by omega⟩, ⟨by omega, by omega⟩, ⟨by omega, by omega, by rw [hi, ← upP_lt (gh := gh) h]; rfl⟩, (show ((ks.length : Int) - (i + 1)).toNat < ((ks.length : Int) - i).toNat by omega)⟩, fun h => ⟨⟨by omega, by omega⟩, ⟨by omega, by omega⟩, ⟨by omega, by omega⟩, ⟨by omega, by omega⟩, ⟨by omega, by omega, by rw [hi, ← upP_ge (gl := gl) h]; rfl⟩, (show ((ks.length : Int) - (i + 1)).toNat < ((ks.length : Int) - i).toNat by omega)⟩⟩
theorem raised_ok : tab2.ok 118 := by
  refine Tab.of_ct rfl rfl ⟨_, Try.func118, by decide, rfl⟩ ?_ ctF_det
  refine ct_ok (cx := craised) (Tab.cx_ok all_nil fxraised) Try.func118 (bds := []) (T := traised) (by kernel_rfl) ?_
  unfold traised
  simp only [VC, allC, List.map_cons, List.map_nil, List.length_cons, List.length_nil, List.getElem?_cons_zero, List.getElem?_cons_succ, List.cons.injEq, C.i.injEq, C.b.injEq, and_true, true_and, forall_const, kindsOf_nil, kindsOf_lf, kindsOf_agg, kindsOf_box, boxKinds_nil, boxKinds_lf, boxKinds_agg, boxKinds_box, List.append_nil, List.cons_append, List.nil_append, den_cmp_le, den_cmp_lt, den_cmp_eq, den_cmp_ne, den_cmp_le', den_cmp_lt', den_cmp_eq', den_cmp_ne', den_and, den_and', den_or, den_or', den_not, den_not', den_blit, den_of, ev_var, at_0, at_1, at_2, at_3, at_4, at_5, at_6, at_7, at_skip, c_int, c_bool, c_arr, c_cnt, c_vec, ev_nil, ev_join, ev_sub3, loc_s, int_i, bool_b, rows_s, cs_nil, cs_cons, E.den_lit, E.den_var, E.den_add, E.den_sub, E.den_mul, E.den_quo, E.den_rem, E.den_max, E.den_min, E.den_len, E.den_wr, E.den_cell, ev_cell, kn1, kn2, ctLo, ctF, lineSh, earthSh, earthKs, n_, k_, earOf]
  intro b _ _ u1 r1 _ _ _ u2 r2 _ _ _ u3 r3 _ _ _ u4 r4 _ _ _ gl _ _ gh _ _ u7 r7 _ _ _ u8 r8 _ _ _ z _ _ so s0 s1 hp; have hk := knots_len r8; rw [← hk]; generalize knots r8 = ks at *; obtain ⟨⟨-, hpt⟩, g1, g2, g3, g4, g5, g6⟩ := hp; change 0 ≤ gl at g1; change gl ≤ 40000 at g2; change 0 ≤ gh at g3; change gh ≤ 40000 at g4
  refine ⟨bds_nil _, fun xs => match xs with | [.i so', .i i] => 0 ≤ i ∧ i ≤ ks.length ∧ loV gl gh ks z so = loV gl gh (ks.drop i.toNat) z so' | _ => False, fun xs => match xs with | [_, .i i] => ((ks.length : Int) - i).toNat | _ => 0, ⟨by omega, by omega, rfl⟩, ?_⟩
  rintro so' s0 s1 i _ _ ⟨i0, i1, hi⟩
  refine ⟨fun hlt => ⟨i0, hlt, ?_⟩, fun hge => by rw [hi, List.drop_of_length_le (by omega)]; rfl⟩
  rw [drop_cons (by omega) (0, 0), ← show (i + 1).toNat = i.toNat + 1 by omega] at hi
  have hm := hpt _ (getD_mem (l := ks) (i := i.toNat) (by omega) (0, 0)); have hl := g_bd g1 g2 g5 g6 hm.1 hm.2.1; have hh := g_bd g3 g4 g5 g6 hm.1 hm.2.1; generalize ks.getD i.toNat (0, 0) = k at *
  refine ⟨fun h => ⟨⟨by omega, by omega⟩, ⟨by omega, by omega⟩, ⟨by omega, by omega⟩, ⟨by omega, by omega⟩, ⟨by omega, by omega, by rw [hi, ← loP_lt (gl := gl) h]; rfl⟩, (show ((ks.length : Int) - (i + 1)).toNat < ((ks.length : Int) - i).toNat by omega)⟩, fun h => ⟨⟨by omega, by omega⟩, ⟨by omega, by omega⟩, ⟨by omega, by omega⟩, ⟨by omega, by omega⟩, ⟨by omega, by omega, by rw [hi, ← loP_ge (gh := gh) h]; rfl⟩, (show ((ks.length : Int) - (i + 1)).toNat < ((ks.length : Int) - i).toNat by omega)⟩⟩
end Go.Proofs.Ytcglpbchejkolaa
/- Earth: the ranges at a depth. -/
namespace Go.Proofs.Ytcglpbchejkolaa
open Go.RowKit
set_option linter.unusedSimpArgs false
set_option linter.unusedVariables false

theorem badReps_ok {b : Int} : ∀ {l : List Rep}, badReps b l = 0 → ∀ r ∈ l, 1 ≤ r.kind ∧ r.kind ≤ 4 ∧ 0 ≤ r.z ∧ r.z ≤ b ∧ 0 ≤ r.p ∧ r.p ≤ 68719476736
  | [], _, r, hr => by simp at hr
  | x :: l, h, r, hr => by
    rw [badReps] at h
    split at h
    rotate_left
    · omega
    rename_i h1
    split at h
    rotate_left
    · omega
    rename_i h2
    rw [inV_iff] at h1
    rw [Bool.and_eq_true, inV_iff, inV_iff] at h2
    rcases List.mem_cons.1 hr with rfl | hr
    · omega
    · exact badReps_ok h r hr
/-- A valid earth. -/
structure Valid (e : Ear) : Prop where
  b : 1 ≤ e.bottom ∧ e.bottom ≤ 1048576
  g : 0 ≤ e.gl ∧ e.gl ≤ e.gh ∧ e.gh ≤ 40000
  pl : lineE e.pl = 0
  ph : lineE e.ph = 0
  fl : lineE e.fl = 0
  fh : lineE e.fh = 0
  ab1 : ab e.ph e.pl = true
  ab2 : ab e.fh e.fl = true
  ab3 : ab e.fh e.pl = true
  reps : e.reps.length ≤ 24
  rep : ∀ r ∈ e.reps, 1 ≤ r.kind ∧ r.kind ≤ 4 ∧ 0 ≤ r.z ∧ r.z ≤ e.bottom ∧ 0 ≤ r.p ∧ r.p ≤ 68719476736
theorem orE_zero {a b : Int} (h : orE a b = 0) : a = 0 ∧ b = 0 := by
  unfold orE at h
  split at h
  · exact ⟨by assumption, h⟩
  · omega
theorem valid {e : Ear} (h : checkV e = 0) : Valid e := by
  unfold checkV at h
  split at h
  rotate_left
  · omega
  rename_i h0
  simp only [Bool.and_eq_true, decide_eq_true_eq, inV_iff] at h0
  obtain ⟨h1, h⟩ := orE_zero h
  obtain ⟨h2, h⟩ := orE_zero h
  obtain ⟨h3, h⟩ := orE_zero h
  obtain ⟨h4, h⟩ := orE_zero h
  split at h
  rotate_left
  · omega
  rename_i h5
  simp only [Bool.and_eq_true] at h5
  split at h
  · omega
  exact ⟨by omega, by omega, h1, h2, h3, h4, h5.1.1, h5.1.2, h5.2, by omega, badReps_ok h⟩
theorem valid_iff {e : Ear} : checkV e = 0 ↔ Valid e := by
  refine ⟨valid, fun h => ?_⟩
  have := h.b
  have := h.g
  rw [checkV_in (by omega), h.pl, h.ph, h.fl, h.fh]
  show restV e = 0
  rw [restV_in ⟨h.ab1, h.ab2, h.ab3⟩, if_neg (by have := h.reps; omega)]
  have : ∀ (b : Int) (l : List Rep), (∀ r ∈ l, 1 ≤ r.kind ∧ r.kind ≤ 4 ∧ 0 ≤ r.z ∧ r.z ≤ b ∧ 0 ≤ r.p ∧ r.p ≤ 68719476736) → badReps b l = 0 := fun b l => by
    induction l with
    | nil => intro _; rfl
    | cons r l ih =>
      intro hl
      have := hl r (by simp)
      rw [badReps_next (by omega) (by omega)]
      exact ih fun x hx => hl x (by simp [hx])
  exact this _ _ h.rep
theorem lineE_box {ks : List Kn} (h : lineE ks = 0) : ks.length ≤ 24 ∧ ∀ k ∈ ks, 0 ≤ k.1 ∧ k.1 ≤ 1048576 ∧ 0 ≤ k.2 ∧ k.2 ≤ 68719476736 := by
  obtain ⟨-, h2, -, h4⟩ := lineV_ok h
  exact ⟨h2, h4⟩
theorem Valid.points {e : Ear} (h : Valid e) {ks : List Kn} (hk : lineE ks = 0) (kind : Int) : PointsOK (pointsV e.bottom e.reps ks kind) := by
  obtain ⟨h1, h2⟩ := lineE_box hk
  refine ⟨?_, fun k hkk => ?_⟩
  · rw [pointsV_eq, List.length_append]
    have a1 := lowP_len e.bottom ks
    have a2 := repP_len e.reps kind
    have := h.reps
    omega
  · rw [pointsV_eq] at hkk
    rcases List.mem_append.1 hkk with hm | hm
    · exact h2 k (List.mem_filter.1 hm).1
    · unfold repP at hm
      obtain ⟨r, hr, rfl⟩ := List.mem_map.1 hm
      have := h.rep r (List.mem_filter.1 hr).1
      have := h.b
      simp only []
      omega
theorem okE_iff {e : Ear} {z : Int} : okE e z = true ↔ checkV e = 0 ∧ 0 ≤ z ∧ z ≤ e.bottom := by
  unfold okE
  rw [Bool.and_eq_true, beq_iff_eq, inV_iff]
theorem Valid.gok {e : Ear} (h : Valid e) {z : Int} (h0 : 0 ≤ z) (h1 : z ≤ e.bottom) : GOK e.gl e.gh z := by
  have := h.b
  have := h.g
  exact ⟨by omega, by omega, by omega, by omega, h0, by omega⟩
theorem both_ok : tab2.ok 95 := by
  refine Tab.of_ct rfl rfl ⟨_, Try.func95, by decide, rfl⟩ ?_ ctF_det
  refine ct_ok (cx := cboth) (Tab.cx_ok (all_cons points_ok (all_cons bounded_ok (all_cons raised_ok (all_cons (up_ok value_ok) all_nil))))) Try.func95 (bds := []) (T := tboth) (by kernel_rfl) ?_
  have h1 : cboth.ct 117 = some ctPoints := rfl
  have h2 : cboth.ct 116 = some ctUp := rfl
  have h3 : cboth.ct 118 = some ctLo := rfl
  have h4 : cboth.ct 65 = some ctValue := rfl
  unfold tboth
  simp only [VC, allC, List.map_cons, List.map_nil, List.length_cons, List.length_nil, List.getElem?_cons_zero, List.getElem?_cons_succ, List.cons.injEq, C.i.injEq, C.b.injEq, and_true, true_and, forall_const, kindsOf_nil, kindsOf_lf, kindsOf_agg, kindsOf_box, boxKinds_nil, boxKinds_lf, boxKinds_agg, boxKinds_box, List.append_nil, List.cons_append, List.nil_append, den_cmp_le, den_cmp_lt, den_cmp_eq, den_cmp_ne, den_cmp_le', den_cmp_lt', den_cmp_eq', den_cmp_ne', den_and, den_and', den_or, den_or', den_not, den_not', den_blit, den_of, ev_var, at_0, at_1, at_2, at_3, at_4, at_5, at_6, at_7, at_skip, c_int, c_bool, c_arr, c_cnt, c_vec, ev_nil, ev_join, ev_sub3, loc_s, int_i, bool_b, rows_s, cs_nil, cs_cons, E.den_lit, E.den_var, E.den_add, E.den_sub, E.den_mul, E.den_quo, E.den_rem, E.den_max, E.den_min, E.den_len, E.den_wr, E.den_cell, h1, h2, h3, h4, ctPoints, ctUp, ctLo, ctValue, ctBoth, ctF, lineSh, rangeSh, earthSh, earthKs, n_, k_, earOf, ofKn]
  intro b _ _ u1 r1 _ _ _ u2 r2 _ _ _ u3 r3 _ _ _ u4 r4 _ _ _ gl _ _ gh _ _ u7 r7 _ _ _ z _ _ hp
  have hrl := reps_len r7; generalize knots r1 = k1 at *; generalize knots r2 = k2 at *; generalize knots r3 = k3 at *; generalize knots r4 = k4 at *; generalize repsOf r7 = rs at *; generalize hE : (⟨b, k1, k2, k3, k4, gl, gh, rs⟩ : Ear) = e at *; have eb : b = e.bottom := by rw [← hE]
  have e1 : k1 = e.pl := by rw [← hE]
  have e2 : k2 = e.ph := by rw [← hE]
  have e3 : k3 = e.fl := by rw [← hE]
  have e4 : k4 = e.fh := by rw [← hE]
  have egl : gl = e.gl := by rw [← hE]
  have egh : gh = e.gh := by rw [← hE]
  have ers : rs = e.reps := by rw [← hE]
  subst e1 e2 e3 e4 eb egl egh ers
  obtain ⟨hc, z0, z1⟩ := okE_iff.1 hp
  have hv := valid hc
  have hg := hv.gok z0 z1
  have hr7 : r7.length ≤ 100 := by rw [← hrl]; have := hv.reps; omega
  have l1 := (lineE_box hv.pl).1
  have l2 := (lineE_box hv.ph).1
  have l3 := (lineE_box hv.fl).1
  have l4 := (lineE_box hv.fh).1
  refine ⟨bds_nil _, ⟨by omega, hr7⟩, ?_⟩
  rintro v9 r9 _ _ _ ⟨v, rows, hh, h9⟩
  obtain rfl : r9 = rows := by simp at hh; exact hh.2
  refine ⟨rightB_of hv.fh, ?_⟩
  rintro n10 _ _ n11 _ _ ⟨-, rfl⟩
  rw [h9]
  refine ⟨⟨hv.points hv.fh 4, hg⟩, ?_⟩
  rintro n12 _ _ h12
  refine ⟨⟨by omega, hr7⟩, ?_⟩
  rintro v13 r13 _ _ _ ⟨v, rows, hh, h13⟩
  obtain rfl : r13 = rows := by simp at hh; exact hh.2
  refine ⟨rightB_of hv.ph, ?_⟩
  rintro n14 _ _ n15 _ _ ⟨-, rfl⟩
  rw [h13]
  refine ⟨⟨hv.points hv.ph 2, hg⟩, ?_⟩
  rintro n16 _ _ h16
  refine ⟨⟨by omega, hr7⟩, ?_⟩
  rintro v17 r17 _ _ _ ⟨v, rows, hh, h17⟩
  obtain rfl : r17 = rows := by simp at hh; exact hh.2
  refine ⟨rightB_of hv.pl, ?_⟩
  rintro n18 _ _ n19 _ _ ⟨rfl, -⟩
  rw [h17]
  refine ⟨⟨hv.points hv.pl 1, hg⟩, ?_⟩
  rintro n20 _ _ h20
  refine ⟨⟨by omega, hr7⟩, ?_⟩
  rintro v21 r21 _ _ _ ⟨v, rows, hh, h21⟩
  obtain rfl : r21 = rows := by simp at hh; exact hh.2
  refine ⟨rightB_of hv.fl, ?_⟩
  rintro n22 _ _ n23 _ _ ⟨rfl, -⟩
  rw [h21]
  refine ⟨⟨hv.points hv.fl 3, hg⟩, ?_⟩
  rintro n24 _ _ h24
  rw [h12, h16, h20, h24]
  exact ⟨rfl, rfl, rfl, rfl⟩
theorem asked_ok : tab2.ok 66 := by
  refine Tab.of_ct rfl rfl ⟨_, Try.func66, by decide, rfl⟩ ?_ ctF_det
  refine ct_ok (cx := casked) (Tab.cx_ok (all_cons check_ok (all_cons (up_ok within_ok) (all_cons both_ok all_nil)))) Try.func66 (bds := []) (T := tasked) (by kernel_rfl) ?_
  have h1 : casked.ct 35 = some ctCheck := rfl
  have h2 : casked.ct 95 = some ctBoth := rfl
  unfold tasked
  simp only [VC, allC, List.map_cons, List.map_nil, List.length_cons, List.length_nil, List.getElem?_cons_zero, List.getElem?_cons_succ, List.cons.injEq, C.i.injEq, C.b.injEq, and_true, true_and, forall_const, kindsOf_nil, kindsOf_lf, kindsOf_agg, kindsOf_box, boxKinds_nil, boxKinds_lf, boxKinds_agg, boxKinds_box, List.append_nil, List.cons_append, List.nil_append, den_cmp_le, den_cmp_lt, den_cmp_eq, den_cmp_ne, den_cmp_le', den_cmp_lt', den_cmp_eq', den_cmp_ne', den_and, den_and', den_or, den_or', den_not, den_not', den_blit, den_of, ev_var, at_0, at_1, at_2, at_3, at_4, at_5, at_6, at_7, at_skip, c_int, c_bool, c_arr, c_cnt, c_vec, ev_nil, ev_join, ev_sub3, loc_s, int_i, bool_b, rows_s, cs_nil, cs_cons, E.den_lit, E.den_var, E.den_add, E.den_sub, E.den_mul, E.den_quo, E.den_rem, E.den_max, E.den_min, E.den_len, E.den_wr, E.den_cell, h1, h2, ctCheck, ctBoth, ctAsked, ctF, lineSh, rangeSh, earthSh, earthKs, n_, k_, earOf, ofKn]
  intro b _ _ u1 r1 _ _ _ u2 r2 _ _ _ u3 r3 _ _ _ u4 r4 _ _ _ gl _ _ gh _ _ u7 r7 _ _ _ z _ _
  have hrl := reps_len r7; generalize knots r1 = k1 at *; generalize knots r2 = k2 at *; generalize knots r3 = k3 at *; generalize knots r4 = k4 at *; generalize repsOf r7 = rs at *; generalize hE : (⟨b, k1, k2, k3, k4, gl, gh, rs⟩ : Ear) = e at *; have eb : b = e.bottom := by rw [← hE]
  have no : ¬ (checkV e = 0 ∧ 0 ≤ z ∧ z ≤ e.bottom) → (0 : Int) = (poreV e z).1 ∧ (0 : Int) = (poreV e z).2 ∧ (0 : Int) = (fracV e z).1 ∧ (0 : Int) = (fracV e z).2 := fun h => by
    unfold poreV fracV
    rw [if_neg (fun hc => h (okE_iff.1 hc)), if_neg (fun hc => h (okE_iff.1 hc))]
    exact ⟨rfl, rfl, rfl, rfl⟩
  refine ⟨bds_nil _, ?_⟩
  rintro n _ _ rfl
  refine ⟨fun h => no fun hc => h hc.1, fun h => ⟨fun h2 => ?_, fun h2 => ?_⟩⟩
  · refine no fun hc => ?_
    have := h2 hc.2.1
    omega
  have hok : okE e z = true := okE_iff.2 ⟨h, by omega⟩
  refine ⟨hok, ?_⟩
  unfold poreV fracV
  rw [if_pos hok, if_pos hok]
  rintro a _ _ b _ _ c _ _ d _ _ hh
  exact hh
theorem pore_ok : tab2.ok 27 := by
  refine Tab.of_ct rfl rfl ⟨_, Try.func27, by decide, rfl⟩ ?_ ctF_det
  refine ct_ok (cx := cpore) (Tab.cx_ok (all_cons asked_ok all_nil)) Try.func27 (bds := []) (T := tpore) (by kernel_rfl) ?_
  have h1 : cpore.ct 66 = some ctAsked := rfl
  unfold tpore
  simp only [VC, allC, List.map_cons, List.map_nil, List.length_cons, List.length_nil, List.getElem?_cons_zero, List.getElem?_cons_succ, List.cons.injEq, C.i.injEq, C.b.injEq, and_true, true_and, forall_const, kindsOf_nil, kindsOf_lf, kindsOf_agg, kindsOf_box, boxKinds_nil, boxKinds_lf, boxKinds_agg, boxKinds_box, List.append_nil, List.cons_append, List.nil_append, den_cmp_le, den_cmp_lt, den_cmp_eq, den_cmp_ne, den_cmp_le', den_cmp_lt', den_cmp_eq', den_cmp_ne', den_and, den_and', den_or, den_or', den_not, den_not', den_blit, den_of, ev_var, at_0, at_1, at_2, at_3, at_4, at_5, at_6, at_7, at_skip, c_int, c_bool, c_arr, c_cnt, c_vec, ev_nil, ev_join, ev_sub3, loc_s, int_i, bool_b, rows_s, cs_nil, cs_cons, E.den_lit, E.den_var, E.den_add, E.den_sub, E.den_mul, E.den_quo, E.den_rem, E.den_max, E.den_min, E.den_len, E.den_wr, E.den_cell, h1, ctAsked, ctRange, ctF, lineSh, rangeSh, earthSh, earthKs, n_, k_, earOf, ofKn]
  intro b _ _ u1 r1 _ _ _ u2 r2 _ _ _ u3 r3 _ _ _ u4 r4 _ _ _ gl _ _ gh _ _ u7 r7 _ _ _ z _ _; generalize hE : (⟨b, knots r1, knots r2, knots r3, knots r4, gl, gh, repsOf r7⟩ : Ear) = e at *
  refine ⟨bds_nil _, ?_⟩
  rintro a _ _ b _ _ c _ _ d _ _ ⟨h1, h2, -, -⟩
  exact ⟨h1, h2⟩
theorem frac_ok : tab2.ok 29 := by
  refine Tab.of_ct rfl rfl ⟨_, Try.func29, by decide, rfl⟩ ?_ ctF_det
  refine ct_ok (cx := cfrac) (Tab.cx_ok (all_cons asked_ok all_nil)) Try.func29 (bds := []) (T := tfrac) (by kernel_rfl) ?_
  have h1 : cfrac.ct 66 = some ctAsked := rfl
  unfold tfrac
  simp only [VC, allC, List.map_cons, List.map_nil, List.length_cons, List.length_nil, List.getElem?_cons_zero, List.getElem?_cons_succ, List.cons.injEq, C.i.injEq, C.b.injEq, and_true, true_and, forall_const, kindsOf_nil, kindsOf_lf, kindsOf_agg, kindsOf_box, boxKinds_nil, boxKinds_lf, boxKinds_agg, boxKinds_box, List.append_nil, List.cons_append, List.nil_append, den_cmp_le, den_cmp_lt, den_cmp_eq, den_cmp_ne, den_cmp_le', den_cmp_lt', den_cmp_eq', den_cmp_ne', den_and, den_and', den_or, den_or', den_not, den_not', den_blit, den_of, ev_var, at_0, at_1, at_2, at_3, at_4, at_5, at_6, at_7, at_skip, c_int, c_bool, c_arr, c_cnt, c_vec, ev_nil, ev_join, ev_sub3, loc_s, int_i, bool_b, rows_s, cs_nil, cs_cons, E.den_lit, E.den_var, E.den_add, E.den_sub, E.den_mul, E.den_quo, E.den_rem, E.den_max, E.den_min, E.den_len, E.den_wr, E.den_cell, h1, ctAsked, ctRange, ctF, lineSh, rangeSh, earthSh, earthKs, n_, k_, earOf, ofKn]
  intro b _ _ u1 r1 _ _ _ u2 r2 _ _ _ u3 r3 _ _ _ u4 r4 _ _ _ gl _ _ gh _ _ u7 r7 _ _ _ z _ _; generalize hE : (⟨b, knots r1, knots r2, knots r3, knots r4, gl, gh, repsOf r7⟩ : Ear) = e at *
  refine ⟨bds_nil _, ?_⟩
  rintro a _ _ b _ _ c _ _ d _ _ ⟨-, -, h1, h2⟩
  exact ⟨h1, h2⟩
theorem win_eq (e : Ear) (z : Int) : winV e z = ((poreV e z).2, (fracV e z).1) := by
  unfold winV poreV fracV
  split <;> rfl
theorem window_ok : tab2.ok 31 := by
  refine Tab.of_ct rfl rfl ⟨_, Try.func31, by decide, rfl⟩ ?_ ctF_det
  refine ct_ok (cx := cwindow) (Tab.cx_ok (all_cons asked_ok all_nil)) Try.func31 (bds := []) (T := twindow) (by kernel_rfl) ?_
  have h1 : cwindow.ct 66 = some ctAsked := rfl
  unfold twindow
  simp only [VC, allC, List.map_cons, List.map_nil, List.length_cons, List.length_nil, List.getElem?_cons_zero, List.getElem?_cons_succ, List.cons.injEq, C.i.injEq, C.b.injEq, and_true, true_and, forall_const, kindsOf_nil, kindsOf_lf, kindsOf_agg, kindsOf_box, boxKinds_nil, boxKinds_lf, boxKinds_agg, boxKinds_box, List.append_nil, List.cons_append, List.nil_append, den_cmp_le, den_cmp_lt, den_cmp_eq, den_cmp_ne, den_cmp_le', den_cmp_lt', den_cmp_eq', den_cmp_ne', den_and, den_and', den_or, den_or', den_not, den_not', den_blit, den_of, ev_var, at_0, at_1, at_2, at_3, at_4, at_5, at_6, at_7, at_skip, c_int, c_bool, c_arr, c_cnt, c_vec, ev_nil, ev_join, ev_sub3, loc_s, int_i, bool_b, rows_s, cs_nil, cs_cons, E.den_lit, E.den_var, E.den_add, E.den_sub, E.den_mul, E.den_quo, E.den_rem, E.den_max, E.den_min, E.den_len, E.den_wr, E.den_cell, h1, ctAsked, ctRange, ctF, lineSh, rangeSh, earthSh, earthKs, n_, k_, earOf, ofKn]
  intro b _ _ u1 r1 _ _ _ u2 r2 _ _ _ u3 r3 _ _ _ u4 r4 _ _ _ gl _ _ gh _ _ u7 r7 _ _ _ z _ _; generalize hE : (⟨b, knots r1, knots r2, knots r3, knots r4, gl, gh, repsOf r7⟩ : Ear) = e at *
  refine ⟨bds_nil _, ?_⟩
  rintro a _ _ b _ _ c _ _ d _ _ ⟨-, h1, h2, -⟩
  rw [win_eq]
  exact ⟨h1, h2⟩
end Go.Proofs.Ytcglpbchejkolaa
/- Wide structs: the cells by their number, never written out. -/
namespace Go.Proofs.Ytcglpbchejkolaa
open Go.RowKit
set_option linter.unusedSimpArgs false
set_option linter.unusedVariables false

theorem CTy.int {P : Program} : ∀ {ks : List Lk} {cs : List C}, CTy P ks cs → ∀ {i : Nat}, ks[i]? = some .int → at_ cs i = .i (at_ cs i).int ∧ -9223372036854775808 ≤ (at_ cs i).int ∧ (at_ cs i).int ≤ 9223372036854775807
  | k :: ks, c :: cs, h, 0, hi => by
    cases hi
    obtain ⟨⟨hs, n, rfl⟩, -⟩ := h
    exact ⟨rfl, (hs 0)⟩
  | k :: ks, c :: cs, h, i + 1, hi => CTy.int h.2 (i := i) (by simpa using hi)
  | [], _, _, i, hi => by simp at hi
/-! A tree, one node after another -/
section
variable {cx : Cx} {R : List C → Prop} {ρ : List C} {Ls : List (List C → Prop)} {t e : Tree}
end
end Go.Proofs.Ytcglpbchejkolaa
/- Earth: the chapter's examples. -/
namespace Go.Proofs.Ytcglpbchejkolaa
open Go.RowKit
set_option linter.unusedSimpArgs false
set_option linter.unusedVariables false

theorem ints_len (rows : List (List C)) : (ints rows).length = rows.length := by simp [ints]
theorem in1 (v : Value) (rows : List (List C)) (i : Nat) : ((C.s v rows).at i 0).int = (ints rows).getD i 0 := by
  simp only [cell_at, ints, List.getD_eq_getElem?_getD, List.getElem?_map]
  cases rows[i]? <;> rfl
theorem pairs_at : ∀ {l : List Int} {n : Nat}, 2 * n + 1 < l.length → pairs (l.take (2 * (n + 1))) = pairs (l.take (2 * n)) ++ [(l.getD (2 * n) 0, l.getD (2 * n + 1) 0)]
  | [], n, h => by simp at h
  | [a], n, h => by simp at h
  | a :: b :: l, 0, h => by simp [pairs]
  | a :: b :: l, n + 1, h => by
    have ih := pairs_at (l := l) (n := n) (by simp at h; omega)
    rw [show 2 * (n + 1 + 1) = 2 * (n + 1) + 1 + 1 by omega, show 2 * (n + 1) = 2 * n + 1 + 1 by omega] at *
    simp only [List.take_succ_cons, pairs, List.getD_cons_succ, List.cons_append]
    rw [ih]
theorem pairs_end : ∀ {l : List Int} {n : Nat}, l.length ≤ 2 * n + 1 → pairs (l.take (2 * n)) = pairs l
  | [], n, h => by simp
  | [a], n, h => by cases n <;> simp [pairs, Nat.mul_add]
  | a :: b :: l, 0, h => by simp at h
  | a :: b :: l, n + 1, h => by
    have ih := pairs_end (l := l) (n := n) (by simp at h; omega)
    rw [show 2 * (n + 1) = 2 * n + 1 + 1 by omega]
    simp only [List.take_succ_cons, pairs]
    rw [ih]
theorem mkline_ok : tab2.ok 55 := by
  refine Tab.of_ct rfl rfl ⟨_, Try.func55, by decide, rfl⟩ ?_ (fun h => by cases h)
  refine ct_ok (cx := cmkline) (Tab.cx_ok all_nil) Try.func55 (bds := []) (T := tmkline) (by kernel_rfl) ?_
  unfold tmkline
  simp only [VC, allC, List.map_cons, List.map_nil, List.length_cons, List.length_nil, List.getElem?_cons_zero, List.getElem?_cons_succ, List.cons.injEq, C.i.injEq, C.b.injEq, and_true, true_and, forall_const, kindsOf_nil, kindsOf_lf, kindsOf_agg, kindsOf_box, boxKinds_nil, boxKinds_lf, boxKinds_agg, boxKinds_box, List.append_nil, List.cons_append, List.nil_append, den_cmp_le, den_cmp_lt, den_cmp_eq, den_cmp_ne, den_cmp_le', den_cmp_lt', den_cmp_eq', den_cmp_ne', den_and, den_and', den_or, den_or', den_not, den_not', den_blit, den_of, ev_var, at_0, at_1, at_2, at_3, at_4, at_5, at_6, at_7, at_skip, c_int, c_bool, c_arr, c_cnt, c_vec, ev_nil, ev_join, ev_sub3, loc_s, int_i, bool_b, rows_s, cs_nil, cs_cons, E.den_lit, E.den_var, E.den_add, E.den_sub, E.den_mul, E.den_quo, E.den_rem, E.den_max, E.den_min, E.den_len, E.den_wr, E.den_cell, ev_cell, in1, ctMkLine, ctF]
  intro u r _ _ _ hp
  have hl := ints_len r
  have hp : r.length ≤ 100 := hp
  rw [← hl] at hp ⊢
  generalize ints r = l at *
  refine ⟨bds_nil _, fun xs => match xs with | [.i i, .s _ rows] => ∃ n : Nat, i = 2 * n ∧ n ≤ l.length ∧ knots rows = pairs (l.take (2 * n)) ∧ rows.length = n | _ => False, fun xs => match xs with | [.i i, _] => ((l.length : Int) - i).toNat | _ => 0, ⟨0, rfl, by omega, rfl, rfl⟩, ?_⟩
  rintro i _ _ v4 r4 _ _ _ ⟨n, rfl, hn, hr, hrl⟩
  refine ⟨⟨by omega, by omega⟩, fun hlt => ?_, fun hge => ⟨v4, r4, rfl, by rw [hr, pairs_end (by omega)]⟩⟩
  have e1 : (2 * (n : Int)).toNat = 2 * n := by omega
  have e2 : (2 * (n : Int) + 1).toNat = 2 * n + 1 := by omega
  rw [e1, e2]
  refine ⟨by omega, by omega, by omega, by omega, fun v6 => ⟨⟨by omega, by omega⟩, ⟨by omega, by omega⟩, ⟨n + 1, by omega, by omega, ?_, by simp [hrl]⟩, (show ((l.length : Int) - (2 * (n : Int) + 2)).toNat < ((l.length : Int) - 2 * (n : Int)).toNat by omega)⟩⟩
  rw [knots_app, hr, pairs_at (by omega)]
  rfl
theorem shown_ok : tab2.ok 56 := by
  refine Tab.of_ct rfl rfl ⟨_, Try.func56, by decide, rfl⟩ ?_ (fun h => by cases h)
  refine ct_ok (cx := cshown) (Tab.cx_ok (all_cons mkline_ok all_nil)) Try.func56 (bds := []) (T := tshown) (by kernel_rfl) ?_
  have h1 : cshown.ct 55 = some ctMkLine := rfl
  unfold tshown
  simp only [VC, allC, List.map_cons, List.map_nil, List.length_cons, List.length_nil, List.getElem?_cons_zero, List.getElem?_cons_succ, List.cons.injEq, C.i.injEq, C.b.injEq, and_true, true_and, forall_const, kindsOf_nil, kindsOf_lf, kindsOf_agg, kindsOf_box, boxKinds_nil, boxKinds_lf, boxKinds_agg, boxKinds_box, List.append_nil, List.cons_append, List.nil_append, den_cmp_le, den_cmp_lt, den_cmp_eq, den_cmp_ne, den_cmp_le', den_cmp_lt', den_cmp_eq', den_cmp_ne', den_and, den_and', den_or, den_or', den_not, den_not', den_blit, den_of, ev_var, at_0, at_1, at_2, at_3, at_4, at_5, at_6, at_7, at_skip, c_int, c_bool, c_arr, c_cnt, c_vec, ev_nil, ev_join, ev_sub3, loc_s, int_i, bool_b, rows_s, cs_nil, cs_cons, E.den_lit, E.den_var, E.den_add, E.den_sub, E.den_mul, E.den_quo, E.den_rem, E.den_max, E.den_min, E.den_len, E.den_wr, E.den_cell, h1, ctMkLine, ctShown, ctF, earOf, n_, k_]
  refine ⟨bds_nil _, by decide, ?_⟩
  rintro v6 r6 _ _ _ ⟨_, _, hh, h6⟩
  obtain rfl := (by simpa using hh : v6 = _ ∧ r6 = _).2
  refine ⟨by decide, ?_⟩
  rintro v8 r8 _ _ _ ⟨_, _, hh, h8⟩
  obtain rfl := (by simpa using hh : v8 = _ ∧ r8 = _).2
  refine ⟨by decide, ?_⟩
  rintro v10 r10 _ _ _ ⟨_, _, hh, h10⟩
  obtain rfl := (by simpa using hh : v10 = _ ∧ r10 = _).2
  refine ⟨by decide, ?_⟩
  rintro v12 r12 _ _ _ ⟨_, _, hh, h12⟩
  obtain rfl := (by simpa using hh : v12 = _ ∧ r12 = _).2
  rw [h6, h8, h10, h12]
  rfl
theorem at_known : atV [(0, 100), (10, 200), (30, 100)] 13 = (185, 185) := by decide
theorem check_known : checkV shownE = 0 := by decide +kernel
theorem win_known : winV shownE 50000 = (600000000, 750000000) := by decide +kernel
theorem awake_ok : tab2.ok 17 := by
  refine Tab.of_ct rfl rfl ⟨_, Try.func17, by decide, rfl⟩ ?_ ctF_det
  refine ct_ok (cx := cawake) (Tab.cx_ok (all_cons mkline_ok (all_cons shown_ok (all_cons (up_ok at_ok) (all_cons window_ok (all_cons check_ok all_nil)))))) Try.func17 (bds := []) (T := tawake) (by kernel_rfl) ?_
  have h1 : cawake.ct 55 = some ctMkLine := rfl
  have h2 : cawake.ct 56 = some ctShown := rfl
  have h3 : cawake.ct 23 = some ctAt := rfl
  have h4 : cawake.ct 31 = some (ctRange winV) := rfl
  have h5 : cawake.ct 35 = some ctCheck := rfl
  unfold tawake
  simp only [VC, allC, List.map_cons, List.map_nil, List.length_cons, List.length_nil, List.getElem?_cons_zero, List.getElem?_cons_succ, List.cons.injEq, C.i.injEq, C.b.injEq, and_true, true_and, forall_const, kindsOf_nil, kindsOf_lf, kindsOf_agg, kindsOf_box, boxKinds_nil, boxKinds_lf, boxKinds_agg, boxKinds_box, List.append_nil, List.cons_append, List.nil_append, den_cmp_le, den_cmp_lt, den_cmp_eq, den_cmp_ne, den_cmp_le', den_cmp_lt', den_cmp_eq', den_cmp_ne', den_and, den_and', den_or, den_or', den_not, den_not', den_blit, den_of, ev_var, at_0, at_1, at_2, at_3, at_4, at_5, at_6, at_7, at_skip, c_int, c_bool, c_arr, c_cnt, c_vec, ev_nil, ev_join, ev_sub3, loc_s, int_i, bool_b, rows_s, cs_nil, cs_cons, E.den_lit, E.den_var, E.den_add, E.den_sub, E.den_mul, E.den_quo, E.den_rem, E.den_max, E.den_min, E.den_len, E.den_wr, E.den_cell, h1, h2, h3, h4, h5, ctMkLine, ctShown, ctAt, ctRange, ctCheck, ctAwake, ctF, lineSh, rangeSh, earthSh, earthKs, ofKn, earOf, n_, k_]
  refine ⟨bds_nil _, by decide, ?_⟩
  rintro v1 r1 _ _ _ ⟨_, _, hh, e1⟩
  obtain rfl := (by simpa using hh : v1 = _ ∧ r1 = _).2
  rw [e1]
  rintro a _ _ b _ _ ⟨ha, hb⟩
  have ha : a = 185 := ha.trans (congrArg Prod.fst at_known)
  have hb : b = 185 := hb.trans (congrArg Prod.snd at_known)
  refine ⟨fun _ => ?_, fun h => absurd hb (h ha)⟩
  rintro b0 _ _ v1 r1 _ _ _ v2 r2 _ _ _ v3 r3 _ _ _ v4 r4 _ _ _ gl _ _ gh _ _ v7 r7 _ _ _ hE
  rw [hE]
  rintro c _ _ d _ _ ⟨hc, hd⟩
  have hc : c = 600000000 := hc.trans (congrArg Prod.fst win_known)
  have hd : d = 750000000 := hd.trans (congrArg Prod.snd win_known)
  refine ⟨fun _ => ?_, fun h => absurd hd (h hc)⟩
  rintro b0 _ _ v1 r1 _ _ _ v2 r2 _ _ _ v3 r3 _ _ _ v4 r4 _ _ _ gl _ _ gh _ _ v7 r7 _ _ _ hE
  rw [hE]
  rintro n _ _ hn
  rw [check_known] at hn
  subst hn
  rfl
end Go.Proofs.Ytcglpbchejkolaa
/- Earth: contracts, more of them: what the statements call. -/
namespace Go.Proofs.Ytcglpbchejkolaa
set_option linter.unusedVariables false

deriving instance DecidableEq for Rep
deriving instance DecidableEq for Ear
/-- The places at which the least and the greatest value of a part may be. -/
def innerV (ks : List Kn) (a b : Int) : List Int := [a, b] ++ (ks.filter fun k => decide (a < k.1) && decide (k.1 < b)).map (·.1)
def foldMin (l : List Int) (so : Int) : Int := l.foldl min so
def foldMax (l : List Int) (so : Int) : Int := l.foldl max so
def leastV (ks : List Kn) (a b : Int) : Kn := if rightB ks = true ∧ a ≤ b then (foldMin ((innerV ks a b).map fun x => (rangeP ks x).1) (rangeP ks a).1, foldMin ((innerV ks a b).map fun x => (rangeP ks x).2) (rangeP ks a).2) else (0, 0)
def mostV (ks : List Kn) (a b : Int) : Kn := if rightB ks = true ∧ a ≤ b then (foldMax ((innerV ks a b).map fun x => (rangeP ks x).1) (rangeP ks a).1, foldMax ((innerV ks a b).map fun x => (rangeP ks x).2) (rangeP ks a).2) else (0, 0)
def ctPart (f : List Kn → Int → Int → Kn) : Ct := ctF [lineSh, .lf .int, .lf .int] [rangeSh] (fun cs => (at_ cs 0).rows.length ≤ 1000) (fun cs => ofKn (f (k_ cs 0) (n_ cs 1) (n_ cs 2)))
def ctInner : Ct := ⟨[lineSh, .lf .int, .lf .int], [.lf (.vec 2)], fun cs => (at_ cs 0).rows.length ≤ 1000, fun cs rs => ∃ v rows, rs = [.s v rows] ∧ ints rows = innerV (k_ cs 0) (n_ cs 1) (n_ cs 2), false⟩
def le26 (c : C) : Bool := decide ((c.rows.length : Int) ≤ 26)
def ctShort : Ct := ctF [lineSh] [.lf .bool] (fun _ => True) (fun cs => [.b (le26 (at_ cs 0))])
def smallB (cs : List C) : Bool := le26 (at_ cs 1) && le26 (at_ cs 2) && le26 (at_ cs 3) && le26 (at_ cs 4) && le26 (at_ cs 7)
def ctSmall : Ct := ctF [earthSh] [.lf .bool] (fun _ => True) (fun cs => [.b (smallB cs)])
def ctOwn : Ct := ⟨[lineSh], [.agg [.vec 44]], fun cs => (at_ cs 0).rows.length ≤ 1000, fun cs rs => ∃ v, rs = [.s v (at_ cs 0).rows], false⟩
def shortE (cs : List C) : Prop := (at_ cs 1).rows.length ≤ 1000 ∧ (at_ cs 2).rows.length ≤ 1000 ∧ (at_ cs 3).rows.length ≤ 1000 ∧ (at_ cs 4).rows.length ≤ 1000 ∧ (at_ cs 7).rows.length ≤ 1000
def ctCopy : Ct := ⟨[earthSh], [.agg [.int, .vec 44, .vec 44, .vec 44, .vec 44, .int, .int, .vec 57]], fun cs => shortE cs, fun cs rs => (at_ rs 0 = at_ cs 0 ∧ at_ rs 5 = at_ cs 5 ∧ at_ rs 6 = at_ cs 6) ∧ ∀ i : Nat, i < 8 → (at_ rs i).rows = (at_ cs i).rows, false⟩
def ctSameLine : Ct := ctF [lineSh, lineSh] [.lf .bool] (fun _ => True) (fun cs => [.b (k_ cs 0 == k_ cs 1)])
def ear8 (cs : List C) : Ear := ⟨n_ cs 8, k_ cs 9, k_ cs 10, k_ cs 11, k_ cs 12, n_ cs 13, n_ cs 14, repsOf (at_ cs 15).rows⟩
def ctSame : Ct := ctF [earthSh, earthSh] [.lf .bool] (fun _ => True) (fun cs => [.b (earOf cs == ear8 cs)])
def ctMod : Ct := ctF [.lf .int, .lf .int] [.lf .int] (fun cs => 1 ≤ n_ cs 1) (fun cs => [.i (n_ cs 0 % n_ cs 1)])
def tab3 : Tab where
  ct := fun f => match f with
    | 39 | 40 => some (ctPart leastV)
    | 41 | 42 => some (ctPart mostV)
    | 75 => some ctInner
    | 16 => some ctShort
    | 25 => some ctSmall
    | 24 => some ctOwn
    | 26 | 70 => some ctCopy
    | 44 => some ctSameLine
    | 33 => some ctSame
    | 22 | 53 => some ctMod
    | f => tab2.ct f
  inl := tab2.inl
  sel := tab2.sel
theorem up3_ok {f : Nat} (h : tab2.ok f) (he : tab3.ct f = tab2.ct f := by rfl) : tab3.ok f :=
  ⟨h.1, fun ct hc => h.2.1 ct (he ▸ hc), h.2.2.1, h.2.2.2⟩
end Go.Proofs.Ytcglpbchejkolaa
/- What is to be shown of each function, as the executor has it. Printed by trees.py. -/
namespace Go.Proofs.Ytcglpbchejkolaa
def tmod : Tree :=
  (.ob (.cmp .ne (.var 1) (.lit 0)) (.split (.cmp .lt (.rem (.var 0) (.var 1)) (.lit 0)) (.ob (.and (.cmp .le (.lit (-9223372036854775808)) (.add (.rem (.var 0) (.var 1)) (.var 1))) (.cmp .le (.add (.rem (.var 0) (.var 1)) (.var 1)) (.lit 9223372036854775807))) (.ob (.and (.cmp .le (.lit (-9223372036854775808)) (.add (.rem (.var 0) (.var 1)) (.var 1))) (.cmp .le (.add (.rem (.var 0) (.var 1)) (.var 1)) (.lit 9223372036854775807))) (.ret [(.int (.add (.rem (.var 0) (.var 1)) (.var 1)))]))) (.ob (.and (.cmp .le (.lit (-9223372036854775808)) (.rem (.var 0) (.var 1))) (.cmp .le (.rem (.var 0) (.var 1)) (.lit 9223372036854775807))) (.ret [(.int (.rem (.var 0) (.var 1)))]))))
noncomputable def flleast : List (Nat × Func) := [(73, Try.f73), (103, Try.f103), (104, Try.f104), (102, Try.f102), (74, Try.f74)]
theorem fxleast : ∀ p ∈ flleast, FnOK p := fns_cons ⟨Try.func73, ⟨_, Try.func73, by decide, rfl⟩⟩ (fns_cons ⟨Try.func103, ⟨_, Try.func103, by decide, rfl⟩⟩ (fns_cons ⟨Try.func104, ⟨_, Try.func104, by decide, rfl⟩⟩ (fns_cons ⟨Try.func102, ⟨_, Try.func102, by decide, rfl⟩⟩ (fns_cons ⟨Try.func74, ⟨_, Try.func74, by decide, rfl⟩⟩ (fns_nil)))))
noncomputable def cleast : Cx := tab3.only [63, 65] (fun _ => []) flleast 5 [] (fun _ => none)
def tleast : Tree :=
  (.arr [[(.arr 44 (.var 0))]] (.call 63 [(.arr 24 (.var 3))] (.split (.not (.of (.var 4))) (.ret [(.int (.lit 0)), (.int (.lit 0))]) (.split (.cmp .lt (.var 2) (.var 1)) (.ret [(.int (.lit 0)), (.int (.lit 0))]) (.arr [[(.int (.var 1))], [(.int (.var 2))]] (.loop [(.vec 2), .int] [(.cnt 2 (.var 5)), (.int (.lit 0))] (.split (.cmp .lt (.var 7) (.len (.var 0))) (.ob (.cmp .le (.lit 0) (.var 7)) (.ob (.cmp .lt (.var 7) (.len (.var 0))) (.split (.cmp .lt (.var 1) (.cell (.var 0) (.var 7) 0)) (.split (.cmp .lt (.cell (.var 0) (.var 7) 0) (.var 2)) (.arr [[(.int (.cell (.var 0) (.var 7) 0))]] (.ob (.cmp .le (.mul (.add (.len (.var 6)) (.len (.var 8))) (.lit 8)) (.lit 140737488355328)) (.cat (.var 6) (.var 8) (.back 0 [(.cnt 2 (.var 9)), (.int (.add (.var 7) (.lit 1)))])))) (.back 0 [(.cnt 2 (.var 6)), (.int (.add (.var 7) (.lit 1)))])) (.back 0 [(.cnt 2 (.var 6)), (.int (.add (.var 7) (.lit 1)))])))) (.call 65 [(.arr 44 (.var 0)), (.int (.var 1))] (.arr [] (.loop [.int, .int] [(.int (.var 8)), (.int (.lit 0))] (.split (.cmp .lt (.var 12) (.len (.var 6))) (.ob (.cmp .le (.lit 0) (.var 12)) (.ob (.cmp .lt (.var 12) (.len (.var 6))) (.call 65 [(.arr 44 (.var 0)), (.int (.cell (.var 6) (.var 12) 0))] (.back 1 [(.int (.min (.var 11) (.var 13))), (.int (.add (.var 12) (.lit 1)))])))) (.arr [] (.loop [.int, .int] [(.int (.var 9)), (.int (.lit 0))] (.split (.cmp .lt (.var 15) (.len (.var 6))) (.ob (.cmp .le (.lit 0) (.var 15)) (.ob (.cmp .lt (.var 15) (.len (.var 6))) (.call 65 [(.arr 44 (.var 0)), (.int (.cell (.var 6) (.var 15) 0))] (.back 2 [(.int (.min (.var 14) (.var 17))), (.int (.add (.var 15) (.lit 1)))])))) (.ret [(.int (.var 11)), (.int (.var 14))])))))))))))))))
noncomputable def flmost : List (Nat × Func) := [(73, Try.f73), (103, Try.f103), (104, Try.f104), (102, Try.f102), (76, Try.f76)]
theorem fxmost : ∀ p ∈ flmost, FnOK p := fns_cons ⟨Try.func73, ⟨_, Try.func73, by decide, rfl⟩⟩ (fns_cons ⟨Try.func103, ⟨_, Try.func103, by decide, rfl⟩⟩ (fns_cons ⟨Try.func104, ⟨_, Try.func104, by decide, rfl⟩⟩ (fns_cons ⟨Try.func102, ⟨_, Try.func102, by decide, rfl⟩⟩ (fns_cons ⟨Try.func76, ⟨_, Try.func76, by decide, rfl⟩⟩ (fns_nil)))))
noncomputable def cmost : Cx := tab3.only [63, 65] (fun _ => []) flmost 5 [] (fun _ => none)
def tmost : Tree :=
  (.arr [[(.arr 44 (.var 0))]] (.call 63 [(.arr 24 (.var 3))] (.split (.not (.of (.var 4))) (.ret [(.int (.lit 0)), (.int (.lit 0))]) (.split (.cmp .lt (.var 2) (.var 1)) (.ret [(.int (.lit 0)), (.int (.lit 0))]) (.arr [[(.int (.var 1))], [(.int (.var 2))]] (.loop [(.vec 2), .int] [(.cnt 2 (.var 5)), (.int (.lit 0))] (.split (.cmp .lt (.var 7) (.len (.var 0))) (.ob (.cmp .le (.lit 0) (.var 7)) (.ob (.cmp .lt (.var 7) (.len (.var 0))) (.split (.cmp .lt (.var 1) (.cell (.var 0) (.var 7) 0)) (.split (.cmp .lt (.cell (.var 0) (.var 7) 0) (.var 2)) (.arr [[(.int (.cell (.var 0) (.var 7) 0))]] (.ob (.cmp .le (.mul (.add (.len (.var 6)) (.len (.var 8))) (.lit 8)) (.lit 140737488355328)) (.cat (.var 6) (.var 8) (.back 0 [(.cnt 2 (.var 9)), (.int (.add (.var 7) (.lit 1)))])))) (.back 0 [(.cnt 2 (.var 6)), (.int (.add (.var 7) (.lit 1)))])) (.back 0 [(.cnt 2 (.var 6)), (.int (.add (.var 7) (.lit 1)))])))) (.call 65 [(.arr 44 (.var 0)), (.int (.var 1))] (.arr [] (.loop [.int, .int] [(.int (.var 8)), (.int (.lit 0))] (.split (.cmp .lt (.var 12) (.len (.var 6))) (.ob (.cmp .le (.lit 0) (.var 12)) (.ob (.cmp .lt (.var 12) (.len (.var 6))) (.call 65 [(.arr 44 (.var 0)), (.int (.cell (.var 6) (.var 12) 0))] (.back 1 [(.int (.max (.var 11) (.var 13))), (.int (.add (.var 12) (.lit 1)))])))) (.arr [] (.loop [.int, .int] [(.int (.var 9)), (.int (.lit 0))] (.split (.cmp .lt (.var 15) (.len (.var 6))) (.ob (.cmp .le (.lit 0) (.var 15)) (.ob (.cmp .lt (.var 15) (.len (.var 6))) (.call 65 [(.arr 44 (.var 0)), (.int (.cell (.var 6) (.var 15) 0))] (.back 2 [(.int (.max (.var 14) (.var 17))), (.int (.add (.var 15) (.lit 1)))])))) (.ret [(.int (.var 11)), (.int (.var 14))])))))))))))))))
end Go.Proofs.Ytcglpbchejkolaa
/- Earth: copies, comparisons, numbers brought into range. -/
namespace Go.Proofs.Ytcglpbchejkolaa
open Go.RowKit
set_option linter.unusedSimpArgs false
set_option linter.unusedVariables false

end Go.Proofs.Ytcglpbchejkolaa
/- Earth: the least and the greatest value of a part. -/
namespace Go.Proofs.Ytcglpbchejkolaa
open Go.RowKit
set_option linter.unusedSimpArgs false
set_option linter.unusedVariables false

theorem ints_app (a b : List (List C)) : ints (a ++ b) = ints a ++ ints b := by simp [ints]
def midP (a b : Int) (k : Kn) : Bool := decide (a < k.1) && decide (k.1 < b)
theorem innerV_eq (ks : List Kn) (a b : Int) : innerV ks a b = [a, b] ++ (ks.filter (midP a b)).map (·.1) := rfl
theorem inner_snoc_yes {l : List Kn} {a b : Int} {k : Kn} (h : a < k.1) (h2 : k.1 < b) : innerV (l ++ [k]) a b = innerV l a b ++ [k.1] := by
  have hm : midP a b k = true := by unfold midP; rw [decide_eq_true h, decide_eq_true h2]; rfl
  rw [innerV_eq, innerV_eq, List.filter_append, List.map_append, List.filter_cons_of_pos hm, List.append_assoc]; rfl
theorem inner_snoc_no {l : List Kn} {a b : Int} {k : Kn} (h : k.1 ≤ a ∨ b ≤ k.1) : innerV (l ++ [k]) a b = innerV l a b := by
  have hm : midP a b k = false := by
    unfold midP
    rcases h with h | h
    · rw [decide_eq_false (by omega), Bool.false_and]
    · rw [decide_eq_false (p := k.1 < b) (by omega), Bool.and_false]
  rw [innerV_eq, innerV_eq, List.filter_append, List.map_append, List.filter_cons_of_neg (by rw [hm]; simp)]; simp
theorem inner_len (l : List Kn) (a b : Int) : (innerV l a b).length ≤ l.length + 2 := by
  rw [innerV_eq, List.length_append, List.length_map]
  have := List.length_filter_le (midP a b) l
  simp only [List.length_cons, List.length_nil]
  omega
theorem foldMin_step (f : Int → Int) (l : List Int) (i : Nat) (hi : i < l.length) (so : Int) : foldMin ((l.drop i).map f) so = foldMin ((l.drop (i + 1)).map f) (min so (f (l.getD i 0))) := by
  rw [drop_cons hi 0]; rfl
theorem foldMax_step (f : Int → Int) (l : List Int) (i : Nat) (hi : i < l.length) (so : Int) : foldMax ((l.drop i).map f) so = foldMax ((l.drop (i + 1)).map f) (max so (f (l.getD i 0))) := by
  rw [drop_cons hi 0]; rfl
theorem least_ok : tab3.ok 39 := by
  refine Tab.of_ct rfl rfl ⟨_, Try.func39, by decide, rfl⟩ ?_ ctF_det
  refine ct_ok (cx := cleast) (Tab.cx_ok (all_cons (up3_ok (up_ok right_ok)) (all_cons (up3_ok (up_ok value_ok)) all_nil)) fxleast) Try.func39 (bds := []) (T := tleast) (by kernel_rfl) ?_
  have h1 : cleast.ct 63 = some ctRight := rfl
  have h2 : cleast.ct 65 = some ctValue := rfl
  unfold tleast
  simp only [VC, allC, List.map_cons, List.map_nil, List.length_cons, List.length_nil, List.getElem?_cons_zero, List.getElem?_cons_succ, List.cons.injEq, C.i.injEq, C.b.injEq, and_true, true_and, forall_const, kindsOf_nil, kindsOf_lf, kindsOf_agg, kindsOf_box, boxKinds_nil, boxKinds_lf, boxKinds_agg, boxKinds_box, List.append_nil, List.cons_append, List.nil_append, den_cmp_le, den_cmp_lt, den_cmp_eq, den_cmp_ne, den_cmp_le', den_cmp_lt', den_cmp_eq', den_cmp_ne', den_and, den_and', den_or, den_or', den_not, den_not', den_blit, den_of, ev_var, at_0, at_1, at_2, at_3, at_4, at_5, at_6, at_7, at_skip, c_int, c_bool, c_arr, c_cnt, c_vec, ev_nil, ev_join, ev_sub3, loc_s, int_i, bool_b, rows_s, cs_nil, cs_cons, E.den_lit, E.den_var, E.den_add, E.den_sub, E.den_mul, E.den_quo, E.den_rem, E.den_max, E.den_min, E.den_len, E.den_wr, E.den_cell, ev_cell, h1, h2, ctRight, ctValue, ctPart, ctF, lineSh, rangeSh, k_, n_, ofKn]
  intro u r _ _ _ a _ _ b _ _ hp
  have hp : r.length ≤ 1000 := hp
  have hk := knots_len r
  simp only [kn1 u r]
  rw [← hk] at hp ⊢
  refine ⟨bds_nil _, fun t ht => ?_⟩
  have ht : t = rightB (knots r) := by rw [ht]; show (rightB (knots r) && true) = _; rw [Bool.and_true]
  subst ht
  generalize knots r = ks at *
  unfold leastV
  refine ⟨fun h => by rw [if_neg (by rw [h]; simp)]; exact ⟨rfl, rfl⟩, fun hr => ⟨fun h => by rw [if_neg (by omega)]; exact ⟨rfl, rfl⟩, fun hab v5 => ?_⟩⟩
  rw [if_pos ⟨hr, hab⟩]
  refine ⟨fun xs => match xs with | [.s _ rows, .i i] => 0 ≤ i ∧ i ≤ ks.length ∧ ints rows = innerV (ks.take i.toNat) a b | _ => False, fun xs => match xs with | [_, .i i] => ((ks.length : Int) - i).toNat | _ => 0, ⟨by omega, by omega, rfl⟩, ?_⟩; rintro v6 r6 _ _ _ i _ _ ⟨i0, i1, hi⟩; have hle : r6.length ≤ 2000 := by rw [← ints_len, hi]; have := inner_len (ks.take i.toNat) a b; rw [List.length_take] at this; omega
  refine ⟨fun hlt => ?_, fun hge => ⟨hr, ?_⟩⟩
  · have yes : a < (ks.getD i.toNat (0, 0)).1 → (ks.getD i.toNat (0, 0)).1 < b → ∀ v : Value, (0 ≤ i + 1 ∧ i + 1 ≤ ks.length ∧ ints (r6 ++ [[C.i (ks.getD i.toNat (0, 0)).1]]) = innerV (ks.take (i + 1).toNat) a b) ∧ ((ks.length : Int) - (i + 1)).toNat < ((ks.length : Int) - i).toNat := fun h1 h2 _ => ⟨⟨by omega, by omega, by rw [ints_app, hi, show (i + 1).toNat = i.toNat + 1 by omega, take_snoc (by omega) (0, 0), inner_snoc_yes h1 h2]; rfl⟩, by omega⟩
    have nay : ((ks.getD i.toNat (0, 0)).1 ≤ a ∨ b ≤ (ks.getD i.toNat (0, 0)).1) → (0 ≤ i + 1 ∧ i + 1 ≤ ks.length ∧ ints r6 = innerV (ks.take (i + 1).toNat) a b) ∧ ((ks.length : Int) - (i + 1)).toNat < ((ks.length : Int) - i).toNat := fun h => ⟨⟨by omega, by omega, by rw [hi, show (i + 1).toNat = i.toNat + 1 by omega, take_snoc (by omega) (0, 0), inner_snoc_no h]⟩, by omega⟩
    exact ⟨i0, hlt, fun h1 => ⟨fun h2 => ⟨by omega, fun v => yes h1 h2 v⟩, fun h2 => nay (.inr h2)⟩, fun h1 => nay (.inl h1)⟩
  rw [List.take_of_length_le (by omega)] at hi
  have hl6 := ints_len r6
  simp only [in1]
  rw [← hl6]
  rw [hi]
  generalize innerV ks a b = L at *
  rintro lo _ _ hv _ _ ⟨rfl, rfl⟩
  refine ⟨fun xs => match xs with | [.i so, .i i] => 0 ≤ i ∧ i ≤ L.length ∧ foldMin (L.map fun x => (rangeP ks x).1) (rangeP ks a).1 = foldMin ((L.drop i.toNat).map fun x => (rangeP ks x).1) so | _ => False, fun xs => match xs with | [_, .i i] => ((L.length : Int) - i).toNat | _ => 0, ⟨by omega, by omega, rfl⟩, ?_⟩
  rintro so s0 s1 j _ _ ⟨j0, j1, hj⟩
  refine ⟨fun hlt => ⟨j0, hlt, hr, ?_⟩, fun hge2 => ?_⟩
  · rintro x x0 x1 y _ _ ⟨rfl, -⟩
    rw [foldMin_step _ _ _ (by omega)] at hj
    exact ⟨⟨by omega, by omega, by rw [hj, show (j + 1).toNat = j.toNat + 1 by omega]⟩, (show ((L.length : Int) - (j + 1)).toNat < ((L.length : Int) - j).toNat by omega)⟩
  rw [List.drop_of_length_le (by omega)] at hj
  refine ⟨fun xs => match xs with | [.i so, .i i] => 0 ≤ i ∧ i ≤ L.length ∧ foldMin (L.map fun x => (rangeP ks x).2) (rangeP ks a).2 = foldMin ((L.drop i.toNat).map fun x => (rangeP ks x).2) so | _ => False, fun xs => match xs with | [_, .i i] => ((L.length : Int) - i).toNat | _ => 0, ⟨by omega, by omega, rfl⟩, ?_⟩
  rintro so2 s0 s1 m _ _ ⟨m0, m1, hm⟩
  refine ⟨fun hlt => ⟨m0, hlt, hr, ?_⟩, fun hge3 => ?_⟩
  · rintro x _ _ y y0 y1 ⟨-, rfl⟩
    rw [foldMin_step _ _ _ (by omega)] at hm
    exact ⟨⟨by omega, by omega, by rw [hm, show (m + 1).toNat = m.toNat + 1 by omega]⟩, (show ((L.length : Int) - (m + 1)).toNat < ((L.length : Int) - m).toNat by omega)⟩
  rw [List.drop_of_length_le (by omega)] at hm
  exact ⟨hj.symm, hm.symm⟩
theorem most_ok : tab3.ok 41 := by
  refine Tab.of_ct rfl rfl ⟨_, Try.func41, by decide, rfl⟩ ?_ ctF_det
  refine ct_ok (cx := cmost) (Tab.cx_ok (all_cons (up3_ok (up_ok right_ok)) (all_cons (up3_ok (up_ok value_ok)) all_nil)) fxmost) Try.func41 (bds := []) (T := tmost) (by kernel_rfl) ?_
  have h1 : cmost.ct 63 = some ctRight := rfl
  have h2 : cmost.ct 65 = some ctValue := rfl
  unfold tmost
  simp only [VC, allC, List.map_cons, List.map_nil, List.length_cons, List.length_nil, List.getElem?_cons_zero, List.getElem?_cons_succ, List.cons.injEq, C.i.injEq, C.b.injEq, and_true, true_and, forall_const, kindsOf_nil, kindsOf_lf, kindsOf_agg, kindsOf_box, boxKinds_nil, boxKinds_lf, boxKinds_agg, boxKinds_box, List.append_nil, List.cons_append, List.nil_append, den_cmp_le, den_cmp_lt, den_cmp_eq, den_cmp_ne, den_cmp_le', den_cmp_lt', den_cmp_eq', den_cmp_ne', den_and, den_and', den_or, den_or', den_not, den_not', den_blit, den_of, ev_var, at_0, at_1, at_2, at_3, at_4, at_5, at_6, at_7, at_skip, c_int, c_bool, c_arr, c_cnt, c_vec, ev_nil, ev_join, ev_sub3, loc_s, int_i, bool_b, rows_s, cs_nil, cs_cons, E.den_lit, E.den_var, E.den_add, E.den_sub, E.den_mul, E.den_quo, E.den_rem, E.den_max, E.den_min, E.den_len, E.den_wr, E.den_cell, ev_cell, h1, h2, ctRight, ctValue, ctPart, ctF, lineSh, rangeSh, k_, n_, ofKn]
  intro u r _ _ _ a _ _ b _ _ hp
  have hp : r.length ≤ 1000 := hp
  have hk := knots_len r
  simp only [kn1 u r]
  rw [← hk] at hp ⊢
  refine ⟨bds_nil _, fun t ht => ?_⟩
  have ht : t = rightB (knots r) := by rw [ht]; show (rightB (knots r) && true) = _; rw [Bool.and_true]
  subst ht
  generalize knots r = ks at *
  unfold mostV
  refine ⟨fun h => by rw [if_neg (by rw [h]; simp)]; exact ⟨rfl, rfl⟩, fun hr => ⟨fun h => by rw [if_neg (by omega)]; exact ⟨rfl, rfl⟩, fun hab v5 => ?_⟩⟩
  rw [if_pos ⟨hr, hab⟩]
  refine ⟨fun xs => match xs with | [.s _ rows, .i i] => 0 ≤ i ∧ i ≤ ks.length ∧ ints rows = innerV (ks.take i.toNat) a b | _ => False, fun xs => match xs with | [_, .i i] => ((ks.length : Int) - i).toNat | _ => 0, ⟨by omega, by omega, rfl⟩, ?_⟩; rintro v6 r6 _ _ _ i _ _ ⟨i0, i1, hi⟩; have hle : r6.length ≤ 2000 := by rw [← ints_len, hi]; have := inner_len (ks.take i.toNat) a b; rw [List.length_take] at this; omega
  refine ⟨fun hlt => ?_, fun hge => ⟨hr, ?_⟩⟩
  · have yes : a < (ks.getD i.toNat (0, 0)).1 → (ks.getD i.toNat (0, 0)).1 < b → ∀ v : Value, (0 ≤ i + 1 ∧ i + 1 ≤ ks.length ∧ ints (r6 ++ [[C.i (ks.getD i.toNat (0, 0)).1]]) = innerV (ks.take (i + 1).toNat) a b) ∧ ((ks.length : Int) - (i + 1)).toNat < ((ks.length : Int) - i).toNat := fun h1 h2 _ => ⟨⟨by omega, by omega, by rw [ints_app, hi, show (i + 1).toNat = i.toNat + 1 by omega, take_snoc (by omega) (0, 0), inner_snoc_yes h1 h2]; rfl⟩, by omega⟩
    have nay : ((ks.getD i.toNat (0, 0)).1 ≤ a ∨ b ≤ (ks.getD i.toNat (0, 0)).1) → (0 ≤ i + 1 ∧ i + 1 ≤ ks.length ∧ ints r6 = innerV (ks.take (i + 1).toNat) a b) ∧ ((ks.length : Int) - (i + 1)).toNat < ((ks.length : Int) - i).toNat := fun h => ⟨⟨by omega, by omega, by rw [hi, show (i + 1).toNat = i.toNat + 1 by omega, take_snoc (by omega) (0, 0), inner_snoc_no h]⟩, by omega⟩
    exact ⟨i0, hlt, fun h1 => ⟨fun h2 => ⟨by omega, fun v => yes h1 h2 v⟩, fun h2 => nay (.inr h2)⟩, fun h1 => nay (.inl h1)⟩
  rw [List.take_of_length_le (by omega)] at hi
  have hl6 := ints_len r6
  simp only [in1]
  rw [← hl6]
  rw [hi]
  generalize innerV ks a b = L at *
  rintro lo _ _ hv _ _ ⟨rfl, rfl⟩
  refine ⟨fun xs => match xs with | [.i so, .i i] => 0 ≤ i ∧ i ≤ L.length ∧ foldMax (L.map fun x => (rangeP ks x).1) (rangeP ks a).1 = foldMax ((L.drop i.toNat).map fun x => (rangeP ks x).1) so | _ => False, fun xs => match xs with | [_, .i i] => ((L.length : Int) - i).toNat | _ => 0, ⟨by omega, by omega, rfl⟩, ?_⟩
  rintro so s0 s1 j _ _ ⟨j0, j1, hj⟩
  refine ⟨fun hlt => ⟨j0, hlt, hr, ?_⟩, fun hge2 => ?_⟩
  · rintro x x0 x1 y _ _ ⟨rfl, -⟩
    rw [foldMax_step _ _ _ (by omega)] at hj
    exact ⟨⟨by omega, by omega, by rw [hj, show (j + 1).toNat = j.toNat + 1 by omega]⟩, (show ((L.length : Int) - (j + 1)).toNat < ((L.length : Int) - j).toNat by omega)⟩
  rw [List.drop_of_length_le (by omega)] at hj
  refine ⟨fun xs => match xs with | [.i so, .i i] => 0 ≤ i ∧ i ≤ L.length ∧ foldMax (L.map fun x => (rangeP ks x).2) (rangeP ks a).2 = foldMax ((L.drop i.toNat).map fun x => (rangeP ks x).2) so | _ => False, fun xs => match xs with | [_, .i i] => ((L.length : Int) - i).toNat | _ => 0, ⟨by omega, by omega, rfl⟩, ?_⟩
  rintro so2 s0 s1 m _ _ ⟨m0, m1, hm⟩
  refine ⟨fun hlt => ⟨m0, hlt, hr, ?_⟩, fun hge3 => ?_⟩
  · rintro x _ _ y y0 y1 ⟨-, rfl⟩
    rw [foldMax_step _ _ _ (by omega)] at hm
    exact ⟨⟨by omega, by omega, by rw [hm, show (m + 1).toNat = m.toNat + 1 by omega]⟩, (show ((L.length : Int) - (m + 1)).toNat < ((L.length : Int) - m).toNat by omega)⟩
  rw [List.drop_of_length_le (by omega)] at hm
  exact ⟨hj.symm, hm.symm⟩
end Go.Proofs.Ytcglpbchejkolaa
/- Earth: EarthLines, EarthValues, EarthRanges, by the table. -/
namespace Go.Proofs.Ytcglpbchejkolaa
open Go.RowKit
set_option linter.unusedSimpArgs false
set_option linter.unusedVariables false

end Go.Proofs.Ytcglpbchejkolaa
/- Earth: contracts, more of them: truths, reports more. -/
namespace Go.Proofs.Ytcglpbchejkolaa
set_option linter.unusedVariables false

def truthSh : Sh0 := .agg [.arr 44, .arr 44]
def reportSh : Sh0 := .agg [.int, .int, .int]
def endsB (ks : List Kn) (bottom : Int) : Bool := (ks.getD 0 (0, 0)).1 == 0 && (ks.getD (ks.length - 1) (0, 0)).1 == bottom
def truthV (tp tf : List Kn) (bottom : Int) : Int := orE (lineE tp) (orE (lineE tf) (if endsB tp bottom && endsB tf bottom then 0 else 3))
def growsV (gl gh : Int) : List Kn → Bool
  | a :: b :: l => inV (b.2 - a.2) (gl * (b.1 - a.1)) (gh * (b.1 - a.1)) && growsV gl gh (b :: l)
  | _ => true
def spansV (a b : List Kn) (bottom : Int) : Bool := geP (valP a 0) (valP b 0) && geP (valP a bottom) (valP b bottom) && aboveV a b bottom
def trueV (tp tf : List Kn) (r : Rep) : Bool :=
  if r.kind = 1 ∨ r.kind = 3 then decide (r.p ≤ (rangeP (if 3 ≤ r.kind then tf else tp) r.z).1) else decide ((rangeP (if 3 ≤ r.kind then tf else tp) r.z).2 ≤ r.p)
def fitsV (e : Ear) (tp tf : List Kn) : Bool :=
  checkV e == 0 && truthV tp tf e.bottom == 0 && growsV e.gl e.gh tp && growsV e.gl e.gh tf && spansV tp e.pl e.bottom && spansV e.ph tp e.bottom && spansV tf e.fl e.bottom && spansV e.fh tf e.bottom && spansV tf tp e.bottom && e.reps.all (trueV tp tf)
def zeroE : Ear := ⟨0, [], [], [], [], 0, 0, []⟩
def Ear.more (e : Ear) (r : Rep) : Ear := { e with reps := e.reps ++ [r] }
def addV (e : Ear) (r : Rep) : Ear × Int := if checkV e = 0 then (if checkV (e.more r) = 0 then (e.more r, 0) else (zeroE, checkV (e.more r))) else (zeroE, checkV e)

def ctTruth : Ct := ctF [truthSh, .lf .int] [.lf .int] (fun _ => True) (fun cs => [.i (truthV (k_ cs 0) (k_ cs 1) (n_ cs 2))])
def ctGrows : Ct := ctF [earthSh, lineSh] [.lf .bool] (fun cs => checkV (earOf cs) = 0 ∧ lineE (k_ cs 8) = 0) (fun cs => [.b (growsV (earOf cs).gl (earOf cs).gh (k_ cs 8))])
def OverOK (a b : List Kn) (bottom : Int) : Prop := lineE a = 0 ∧ lineE b = 0 ∧ 0 ≤ bottom ∧ bottom ≤ 1048576
def ctCovers : Ct := ctF [lineSh, lineSh, .lf .int] [.lf .bool] (fun cs => OverOK (k_ cs 0) (k_ cs 1) (n_ cs 2)) (fun cs => [.b (spansV (k_ cs 0) (k_ cs 1) (n_ cs 2))])
def ctRAtLeast : Ct := ctF [lineSh, lineSh, .lf .int] [.lf .bool] (fun cs => OverOK (k_ cs 0) (k_ cs 1) (n_ cs 2)) (fun cs => [.b (geP (valP (k_ cs 0) (n_ cs 2)) (valP (k_ cs 1) (n_ cs 2)))])
def ctRest : Ct := ⟨[lineSh, .lf .int], [.lf .int, .lf .int], fun cs => lineE (k_ cs 0) = 0 ∧ 0 ≤ n_ cs 1 ∧ n_ cs 1 ≤ 1048576, fun cs rs => ∃ n d, rs = [.i n, .i d] ∧ 0 < d ∧ d ≤ 1048576 ∧ 0 ≤ n ∧ n < d ∧ ((n = (valP (k_ cs 0) (n_ cs 1)).2.1 ∧ d = (valP (k_ cs 0) (n_ cs 1)).2.2) ∨ (n = 0 ∧ (valP (k_ cs 0) (n_ cs 1)).2.1 = 0)), false⟩
def ctTrue4 : Ct := ctF [reportSh, truthSh] [.lf .bool] (fun cs => lineE (k_ cs 3) = 0 ∧ lineE (k_ cs 4) = 0) (fun cs => [.b (trueV (k_ cs 3) (k_ cs 4) ⟨n_ cs 0, n_ cs 1, n_ cs 2⟩)])
def ctTold : Ct := ctF [earthSh, truthSh] [.lf .bool] (fun cs => checkV (earOf cs) = 0 ∧ lineE (k_ cs 8) = 0 ∧ lineE (k_ cs 9) = 0) (fun cs => [.b ((earOf cs).reps.all (trueV (k_ cs 8) (k_ cs 9)))])
def ctFits : Ct := ctF [earthSh, truthSh] [.lf .bool] (fun _ => True) (fun cs => [.b (fitsV (earOf cs) (k_ cs 8) (k_ cs 9))])
def vecEarth : Sh0 := .agg [.int, .vec 44, .vec 44, .vec 44, .vec 44, .int, .int, .vec 57]
def ctAdd : Ct := ⟨[earthSh, reportSh], [vecEarth, .lf .int], fun cs => shortE cs, fun cs rs => earOf rs = (addV (earOf cs) ⟨n_ cs 8, n_ cs 9, n_ cs 10⟩).1 ∧ at_ rs 8 = .i (addV (earOf cs) ⟨n_ cs 8, n_ cs 9, n_ cs 10⟩).2, false⟩
def tab4 : Tab where
  ct := fun f => match f with
    | 48 | 49 => some ctTruth
    | 78 | 83 => some ctGrows
    | 79 | 84 => some ctCovers
    | 106 => some ctRAtLeast
    | 119 => some ctRest
    | 82 => some ctTrue4
    | 85 => some ctTold
    | 45 | 46 => some ctFits
    | 36 | 37 => some ctAdd
    | f => tab3.ct f
  inl := tab3.inl
  sel := tab3.sel
theorem up4_ok {f : Nat} (h : tab3.ok f) (he : tab4.ct f = tab3.ct f := by rfl) : tab4.ok f :=
  ⟨h.1, fun ct hc => h.2.1 ct (he ▸ hc), h.2.2.1, h.2.2.2⟩
end Go.Proofs.Ytcglpbchejkolaa
/- What is to be shown of each function, as the executor has it. Printed by trees.py. -/
namespace Go.Proofs.Ytcglpbchejkolaa
end Go.Proofs.Ytcglpbchejkolaa
/- Earth: truths: valid ones; lines over lines. -/
namespace Go.Proofs.Ytcglpbchejkolaa
open Go.RowKit
set_option linter.unusedSimpArgs false
set_option linter.unusedVariables false

/-! How lines grow -/
/-! Lines over lines -/
theorem split_at : ∀ {ks : List Kn}, Asc ks → ∀ x : Int, ∃ i ≤ ks.length, (∀ k < i, (ks.getD k (0, 0)).1 < x) ∧ ∀ k, i ≤ k → k < ks.length → x ≤ (ks.getD k (0, 0)).1
  | [], _, x => ⟨0, Nat.le_refl _, fun k hk => by omega, fun k _ hk => by simp at hk⟩
  | a :: l, h, x => by
    by_cases hx : a.1 < x
    · obtain ⟨i, hi, h1, h2⟩ := split_at h.tail x
      refine ⟨i + 1, by simpa using hi, fun k hk => ?_, fun k h3 h4 => ?_⟩
      · match k, hk with
        | 0, _ => exact hx
        | k + 1, hk => exact h1 k (by omega)
      · match k, h3, h4 with
        | k + 1, h3, h4 => exact h2 k (by omega) (by simpa using h4)
    · refine ⟨0, by omega, fun k hk => by omega, fun k _ hk => ?_⟩
      match k, hk with
      | 0, _ => show x ≤ a.1; omega
      | k + 1, hk =>
        have := h.head_lt _ (getD_mem (l := l) (i := k) (by simpa using hk) (0, 0))
        show x ≤ (l.getD k (0, 0)).1
        omega
end Go.Proofs.Ytcglpbchejkolaa
/- Earth: fits, and EarthFits by the table. -/
namespace Go.Proofs.Ytcglpbchejkolaa
open Go.RowKit
set_option linter.unusedSimpArgs false
set_option linter.unusedVariables false

theorem true1 {tp tf : List Kn} {r : Rep} (h : r.kind = 1) : trueV tp tf r = decide (r.p ≤ (rangeP tp r.z).1) := by
  unfold trueV; rw [if_pos (Or.inl h), if_neg (by omega)]
theorem true2 {tp tf : List Kn} {r : Rep} (h : r.kind ≠ 1) (h2 : r.kind < 3) : trueV tp tf r = decide ((rangeP tp r.z).2 ≤ r.p) := by
  unfold trueV; rw [if_neg (by omega), if_neg (by omega)]
theorem true3 {tp tf : List Kn} {r : Rep} (h : r.kind = 3) : trueV tp tf r = decide (r.p ≤ (rangeP tf r.z).1) := by
  unfold trueV; rw [if_pos (Or.inr h), if_pos (by omega)]
theorem true4 {tp tf : List Kn} {r : Rep} (h : 4 ≤ r.kind) : trueV tp tf r = decide ((rangeP tf r.z).2 ≤ r.p) := by
  unfold trueV; rw [if_neg (by omega), if_pos (by omega)]
end Go.Proofs.Ytcglpbchejkolaa
/- Earth: reports added, and EarthAdds by the table. -/
namespace Go.Proofs.Ytcglpbchejkolaa
open Go.RowKit
set_option linter.unusedSimpArgs false
set_option linter.unusedVariables false

def Rep.up (r : Rep) : Rep := ⟨r.kind, r.z, r.p + 1⟩
end Go.Proofs.Ytcglpbchejkolaa
/- Earth: contracts, more of them: earths and truths made of numbers. -/
namespace Go.Proofs.Ytcglpbchejkolaa
set_option linter.unusedVariables false

structure Gr where
  bottom : Int
  steps : List Int
  off : List Int
  marks : List Int
def grOf (cs : List C) : Gr := ⟨n_ cs 0, ints (at_ cs 1).rows, ints (at_ cs 2).rows, ints (at_ cs 3).rows⟩
def pickV (l : List Int) (i : Int) : Int := if l.length = 0 then 0 else l.getD (i % l.length).toNat 0 % 1099511627776
def stepV (g : Gr) (B i at_ : Int) : Int := if i = 4 ∨ B < at_ + (1 + pickV g.steps (i + 2) % B) then B - at_ else 1 + pickV g.steps (i + 2) % B
def gainA (g : Gr) (i : Int) : Int := 2000 + pickV g.steps (i + 3) / 7 % 20001
def gainB (g : Gr) (i : Int) : Int := gainA g i + pickV g.steps (i + 4) / 11 % (30001 - gainA g i)
def truthGo (g : Gr) (B : Int) : Nat → Int → Int → Int → Int → List (Int × Int × Int)
  | 0, _, _, _, _ => []
  | n + 1, i, a, p, f => (a, p, f) :: (if a = B then [] else truthGo g B n (i + 1) (a + stepV g B i a) (p + gainA g i * stepV g B i a) (f + gainB g i * stepV g B i a))
def bottomV (g : Gr) : Int := 1000 + g.bottom % 499001
def truthL (g : Gr) : List (Int × Int × Int) := truthGo g (bottomV g) 6 0 0 (pickV g.steps 0 % 1000000) (pickV g.steps 0 % 1000000 + pickV g.steps 1 % 20000000)
def tpV (g : Gr) : List Kn := (truthL g).map fun k => (k.1, k.2.1)
def tfV (g : Gr) : List Kn := (truthL g).map fun k => (k.1, k.2.2)
def shiftGo (off : List Int) (up : Bool) : Int → List Kn → List Kn
  | _, [] => []
  | i, k :: l => (k.1, if up = true then k.2 + pickV off i % 40000000 else max 0 (k.2 - pickV off i % 40000000)) :: shiftGo off up (i + 1) l
def endV (ks : List Kn) : Int := (ks.getD (ks.length - 1) (0, 0)).1
def repV (tp tf : List Kn) (n : Int) : Rep :=
  ⟨1 + n % 1099511627776 % 4, n % 1099511627776 / 4 % (endV tp + 1),
    if n % 1099511627776 % 4 = 0 then max 0 ((rangeP tp (n % 1099511627776 / 4 % (endV tp + 1))).1 - n % 1099511627776 / 4096 % 1000000)
    else if n % 1099511627776 % 4 = 1 then (rangeP tp (n % 1099511627776 / 4 % (endV tp + 1))).2 + n % 1099511627776 / 4096 % 1000000
    else if n % 1099511627776 % 4 = 2 then max 0 ((rangeP tf (n % 1099511627776 / 4 % (endV tp + 1))).1 - n % 1099511627776 / 4096 % 1000000)
    else (rangeP tf (n % 1099511627776 / 4 % (endV tp + 1))).2 + n % 1099511627776 / 4096 % 1000000⟩
def knownV (g : Gr) : Ear :=
  ⟨endV (tpV g), shiftGo g.off false 0 (tpV g), shiftGo g.off true 3 (tpV g), shiftGo g.off false 5 (tfV g), shiftGo g.off true 7 (tfV g), pickV g.off 1 % 2001, 30000 + pickV g.off 2 % 10001, (g.marks.take 8).map (repV (tpV g) (tfV g))⟩

def groundSh : Sh0 := .agg [.int, .arr 2, .arr 2, .arr 2]
def vecTruth : Sh0 := .agg [.vec 44, .vec 44]
def ctPick : Ct := ctF [.lf (.arr 2), .lf .int] [.lf .int] (fun cs => 0 ≤ n_ cs 1) (fun cs => [.i (pickV (ints (at_ cs 0).rows) (n_ cs 1))])
def ctTrue : Ct := ⟨[groundSh], [vecTruth], fun _ => True, fun cs rs => k_ rs 0 = tpV (grOf cs) ∧ k_ rs 1 = tfV (grOf cs), false⟩
def ctShifted : Ct := ⟨[lineSh, .lf (.arr 2), .lf .int, .lf .bool], [.agg [.vec 44]], fun cs => (k_ cs 0).length ≤ 100 ∧ (∀ k ∈ k_ cs 0, -1152921504606846976 ≤ k.2 ∧ k.2 ≤ 1152921504606846976) ∧ 0 ≤ n_ cs 2 ∧ n_ cs 2 ≤ 1000, fun cs rs => k_ rs 0 = shiftGo (ints (at_ cs 1).rows) (at_ cs 3).bool (n_ cs 2) (k_ cs 0), false⟩
def ctReport : Ct := ctF [.agg [.arr 44, .arr 44], .lf .int] [.agg [.int, .int, .int]] (fun cs => lineE (k_ cs 0) = 0 ∧ lineE (k_ cs 1) = 0) (fun cs => [.i (repV (k_ cs 0) (k_ cs 1) (n_ cs 2)).kind, .i (repV (k_ cs 0) (k_ cs 1) (n_ cs 2)).z, .i (repV (k_ cs 0) (k_ cs 1) (n_ cs 2)).p])
def ctKnown : Ct := ⟨[groundSh], [vecEarth], fun _ => True, fun cs rs => earOf rs = knownV (grOf cs), false⟩
def tab5 : Tab where
  ct := fun f => match f with
    | 61 => some ctPick
    | 34 => some ctTrue
    | 62 => some ctShifted
    | 59 => some ctReport
    | 20 => some ctKnown
    | f => tab4.ct f
  inl := tab4.inl
  sel := tab4.sel
theorem up5_ok {f : Nat} (h : tab4.ok f) (he : tab5.ct f = tab4.ct f := by rfl) : tab5.ok f :=
  ⟨h.1, fun ct hc => h.2.1 ct (he ▸ hc), h.2.2.1, h.2.2.2⟩
end Go.Proofs.Ytcglpbchejkolaa
/- What is to be shown of each function, as the executor has it. Printed by trees.py. -/
namespace Go.Proofs.Ytcglpbchejkolaa
end Go.Proofs.Ytcglpbchejkolaa
/- Earth: truths and earths made of numbers: plain laws. -/
namespace Go.Proofs.Ytcglpbchejkolaa
open Go.RowKit
set_option linter.unusedSimpArgs false
set_option linter.unusedVariables false

/-- A truth's knots: both lines. -/
inductive TR (B : Int) : List (Int × Int × Int) → Prop
  | one (p f : Int) : TR B [(B, p, f)]
  | cons {a p f a' p' f' x y : Int} {l : List (Int × Int × Int)} (ha : a < a') (hB : a' ≤ B) (hx : 2000 ≤ x) (hxy : x ≤ y) (hy : y ≤ 30000) (hp : p' = p + x * (a' - a)) (hf : f' = f + y * (a' - a)) (ht : TR B ((a', p', f') :: l)) : TR B ((a, p, f) :: (a', p', f') :: l)
theorem TR.box {B : Int} : ∀ {l : List (Int × Int × Int)} {a p f : Int}, TR B ((a, p, f) :: l) → p ≤ f → ∀ k ∈ (a, p, f) :: l, a ≤ k.1 ∧ k.1 ≤ B ∧ p ≤ k.2.1 ∧ k.2.1 ≤ p + 30000 * (k.1 - a) ∧ f ≤ k.2.2 ∧ k.2.2 ≤ f + 30000 * (k.1 - a) ∧ k.2.1 ≤ k.2.2
  | [], a, p, f, h, hpf, k, hk => by
    cases h
    rw [List.mem_singleton] at hk
    subst hk
    exact ⟨Int.le_refl _, Int.le_refl _, Int.le_refl _, by simp, Int.le_refl _, by simp, hpf⟩
  | (a', p', f') :: l, a, p, f, h, hpf, k, hk => by
    cases h with
    | @cons _ _ _ _ _ _ x y _ ha hB hx hxy hy hp hf ht =>
      have m1 : x * (a' - a) ≤ 30000 * (a' - a) := Int.mul_le_mul_of_nonneg_right (by omega) (by omega)
      have m2 : y * (a' - a) ≤ 30000 * (a' - a) := Int.mul_le_mul_of_nonneg_right (by omega) (by omega)
      have m3 : x * (a' - a) ≤ y * (a' - a) := Int.mul_le_mul_of_nonneg_right (by omega) (by omega)
      have m4 : 0 ≤ x * (a' - a) := Int.mul_nonneg (by omega) (by omega)
      rcases List.mem_cons.1 hk with rfl | hk
      · exact ⟨Int.le_refl _, by show a ≤ B; omega, Int.le_refl _, by simp, Int.le_refl _, by simp, hpf⟩
      · have ih := ht.box (by omega) k hk
        refine ⟨by omega, by omega, by omega, by omega, by omega, by omega, by omega⟩
/-- A line that goes up from its first place to its last one, by so much a step at least and at most. -/
inductive Rise (gl gh B : Int) : List Kn → Prop
  | one (v : Int) : Rise gl gh B [(B, v)]
  | cons {a v a' v' : Int} {l : List Kn} (ha : a < a') (hB : a' ≤ B) (h1 : gl * (a' - a) ≤ v' - v) (h2 : v' - v ≤ gh * (a' - a)) (ht : Rise gl gh B ((a', v') :: l)) : Rise gl gh B ((a, v) :: (a', v') :: l)
theorem Rise.asc {gl gh B : Int} : ∀ {l : List Kn}, Rise gl gh B l → Asc l
  | [], _ => .nil
  | [k], _ => .one k
  | _ :: _ :: _, .cons ha hB h1 h2 ht => .cons ha ht.asc
theorem Rise.end {gl gh B : Int} : ∀ {l : List Kn}, Rise gl gh B l → endV l = B
  | [], h => by cases h
  | [k], h => by cases h; rfl
  | k :: k' :: l, .cons ha hB h1 h2 ht => by
    have := ht.end
    unfold endV at this ⊢
    simpa using this
theorem Rise.wide {gl gh gl' gh' B : Int} (g1 : gl' ≤ gl) (g2 : gh ≤ gh') : ∀ {l : List Kn}, Rise gl gh B l → Rise gl' gh' B l
  | [], h => by cases h
  | [k], h => by cases h; exact .one _
  | _ :: _ :: _, .cons ha hB h1 h2 ht => .cons ha hB
    (by have := Int.mul_le_mul_of_nonneg_right g1 (show 0 ≤ _ from Int.sub_nonneg_of_le (Int.le_of_lt ha)); omega)
    (by have := Int.mul_le_mul_of_nonneg_right g2 (show 0 ≤ _ from Int.sub_nonneg_of_le (Int.le_of_lt ha)); omega) (ht.wide g1 g2)
/-! The truth of some numbers -/
theorem Rise.ne {gl gh B : Int} {l : List Kn} (h : Rise gl gh B l) : l ≠ [] := by intro e; subst e; cases h
end Go.Proofs.Ytcglpbchejkolaa
/- Earth: what makes earths and truths of numbers. -/
namespace Go.Proofs.Ytcglpbchejkolaa
open Go.RowKit
set_option linter.unusedSimpArgs false
set_option linter.unusedVariables false

end Go.Proofs.Ytcglpbchejkolaa
/- Earth: True and Known of numbers. -/
namespace Go.Proofs.Ytcglpbchejkolaa
open Go.RowKit
set_option linter.unusedSimpArgs false
set_option linter.unusedVariables false

end Go.Proofs.Ytcglpbchejkolaa
/- A result that is a slice of one's own may be taken as any slice. -/
namespace Go.Proofs.Ytcglpbchejkolaa
open Go.RowKit
set_option linter.unusedVariables false
section
variable {P : Program}
theorem outs_any {w : World} {B B' : Nat → Nat → Prop} : ∀ {ss : List Sh0} {vs : List Value} {cs : List C}, ss.all (fun s => !s.isBox) = true → Outs P w B ss vs cs → Outs P w B' ss vs cs
  | [], [], _, _, h => h
  | [], _ :: _, _, _, h => h
  | .lf _ :: ss, [], _, _, h => h
  | .agg _ :: ss, [], _, _, h => h
  | .box .. :: ss, [], _, _, h => h
  | .lf _ :: ss, v :: vs, cs, hno, h => outs_any (ss := ss) (vs := vs) (cs := cs) (by simp only [List.all_cons, Bool.and_eq_true] at hno; exact hno.2) h
  | .agg _ :: ss, v :: vs, cs, hno, h => outs_any (ss := ss) (vs := vs) (cs := cs) (by simp only [List.all_cons, Bool.and_eq_true] at hno; exact hno.2) h
  | .box .. :: ss, v :: vs, cs, hno, h => by simp [Sh0.isBox] at hno
def toArr : Lk → Lk
  | .vec t => .arr t
  | k => k
theorem vecB_toArr : ∀ (ks : List Lk) (cs : List C), vecB (ks.map toArr) cs = []
  | [], cs => by cases cs <;> rfl
  | k :: ks, [] => by cases k <;> rfl
  | k :: ks, c :: cs => by cases k <;> exact vecB_toArr ks cs
theorem lreps_arr {w : World} {O O' : Nat → Nat → Prop} (hO : ∀ b o, O' b o → O b o) : ∀ {ks : List Lk} {us : List Value} {cs : List C}, LReps P w O ks us cs → (∀ b ∈ vecB ks cs, ∀ o, ¬ O' b o) → LReps P w O' (ks.map toArr) us cs
  | [], [], [], _, _ => trivial
  | k :: ks, u :: us, c :: cs, ⟨h1, h2⟩, hb => by
    have hb2 : ∀ b ∈ vecB ks cs, ∀ o, ¬ O' b o := fun b hb' => hb b (by
      cases k with
      | vec t => simp only [vecB]; exact List.mem_append_right _ hb'
      | _ => exact hb')
    refine ⟨?_, lreps_arr hO h2 hb2⟩
    cases k with
    | int => exact h1
    | bool => exact h1
    | arr t => exact ⟨h1.1, h1.2.1, ArrOK.anti h1.2.2 hO⟩
    | vec t =>
      obtain ⟨hs, hu, hvec⟩ := h1
      obtain ⟨v', hc⟩ : ∃ v', c = .s v' c.rows := by obtain ⟨ks, us', -, hc, -⟩ := hvec; exact hc
      have key := VecOK.arr hvec hO (fun b hb' => hb b (by simp only [vecB]; rw [← hu, hb']; simp))
      have he : C.s u c.rows = c := by rw [hu]; rw [hc]; rfl
      rw [he] at key
      exact ⟨hs, hu, key⟩
  | [], _ :: _, _, h, _ => h.elim
  | [], [], _ :: _, h, _ => h.elim
  | _ :: _, [], _, h, _ => h.elim
  | _ :: _, _ :: _, [], h, _ => h.elim
/-- .. and one with a struct of such. -/
theorem ct_arrs {f : FuncId} {args : List Sh0} {ks : List Lk} {pre : List C → Prop} {post : List C → List C → Prop} {det : Bool} (hno : args.all (fun s => !s.isBox) = true)
    (h : CtOK P f ⟨args, [.agg ks], pre, post, det⟩) : CtOK P f ⟨args, [.agg (ks.map toArr)], pre, post, det⟩ := by
  intro Base w vs cs hB hr hp
  refine (h Base w vs cs hB hr hp).mono ?_
  rintro e w' ⟨v, rs, outs, rfl, ⟨us, hv, hres, hnd, hnew⟩, hout, hpost, hk⟩
  have hz : vecB (kindsOf [Sh0.agg (ks.map toArr)]) rs = [] := by
    rw [show kindsOf [Sh0.agg (ks.map toArr)] = ks.map toArr by simp [kindsOf, Sh0.kinds]]
    exact vecB_toArr _ _
  have hy : vecB (kindsOf [Sh0.agg ks]) rs = vecB ks rs := by
    rw [show kindsOf [Sh0.agg ks] = ks by simp [kindsOf, Sh0.kinds]]
  refine ⟨v, rs, outs, rfl, ⟨us, hv, ?_, by rw [hz]; simp, by rw [hz]; simp⟩, outs_any hno hout, hpost, hk⟩
  rw [hz]
  rw [hy] at hres hnew
  match us, hres with
  | [u], hres =>
    obtain ⟨c1, c2, rfl, ⟨us', rfl, hl⟩, h2⟩ := hres
    cases h2
    refine ⟨c1, [], rfl, ⟨us', rfl, lreps_arr (fun b o hb => ?_) hl fun b hb o hx => ?_⟩, rfl⟩
    · rcases hb with hb | hb
      · exact .inl hb
      · cases hb
    · rcases hx with hx | hx
      · have h1 := hB b o hx
        have h2 := hnew b (by rw [List.append_nil]; exact hb)
        omega
      · cases hx
  | [], hres => exact hres.elim
  | _ :: _ :: _, hres => obtain ⟨c1, c2, rfl, -, h2⟩ := hres; exact h2.elim
end
end Go.Proofs.Ytcglpbchejkolaa
/- Earth: contracts, more of them: earths and truths made of numbers whose lists are not turned. -/
namespace Go.Proofs.Ytcglpbchejkolaa
set_option linter.unusedVariables false

def ctTrueA : Ct := ⟨[groundSh], [truthSh], fun _ => True, fun cs rs => k_ rs 0 = tpV (grOf cs) ∧ k_ rs 1 = tfV (grOf cs), false⟩
def ctKnownA : Ct := ⟨[groundSh], [earthSh], fun _ => True, fun cs rs => earOf rs = knownV (grOf cs), false⟩
def tab6 : Tab where
  ct := fun f => match f with
    | 34 => some ctTrueA
    | 20 => some ctKnownA
    | f => tab5.ct f
  inl := tab5.inl
  sel := tab5.sel
theorem up6_ok {f : Nat} (h : tab5.ok f) (he : tab6.ct f = tab5.ct f := by rfl) : tab6.ok f :=
  ⟨h.1, fun ct hc => h.2.1 ct (he ▸ hc), h.2.2.1, h.2.2.2⟩
end Go.Proofs.Ytcglpbchejkolaa
/- Earth: the library's slices.Sort and slices.Compact at []int64: what the shelf asks of this program (laid by the shelf's own plain mode). -/
namespace Go.Proofs.Ytcglpbchejkolaa
open Go.Shelf
def sort64_ren : Go.Shelf.Ren := ⟨fun | 53 => 107 | 64 => 121 | 63 => 120 | 78 => 138 | 79 => 139 | 70 => 129 | 71 => 130 | 72 => 131 | 73 => 132 | 74 => 133 | 75 => 134 | 59 => 135 | 76 => 136 | 77 => 137 | 88 => 141 | 89 => 142 | 90 => 143 | 91 => 144 | 92 => 145 | 68 => 123 | 96 => 146 | n => n, fun | 22 => 30 | 23 => 2 | 3 => 3 | 51 => 129 | 0 => 0 | 67 => 144 | 69 => 146 | 4 => 4 | 61 => 137 | 60 => 136 | 44 => 121 | 5 => 5 | 9 => 9 | 75 => 148 | 79 => 152 | 83 => 154 | 84 => 155 | n => n, fun | n => n⟩
theorem sort64 : Go.Proofs.SlLaysN.n53 Try.prog sort64_ren := {
  mixed := by kernel_rfl
  f53 := ⟨Try.f107.name, by decide, Try.func107.trans (congrArg some (by kernel_rfl))⟩
  f59 := ⟨Try.f135.name, by decide, Try.func135.trans (congrArg some (by kernel_rfl))⟩
  f63 := ⟨Try.f120.name, by decide, Try.func120.trans (congrArg some (by kernel_rfl))⟩
  f64 := Try.func121.trans (congrArg some (by kernel_rfl))
  f68 := ⟨Try.f123.name, by decide, Try.func123.trans (congrArg some (by kernel_rfl))⟩
  f70 := ⟨Try.f129.name, by decide, Try.func129.trans (congrArg some (by kernel_rfl))⟩
  f71 := ⟨Try.f130.name, by decide, Try.func130.trans (congrArg some (by kernel_rfl))⟩
  f72 := ⟨Try.f131.name, by decide, Try.func131.trans (congrArg some (by kernel_rfl))⟩
  f73 := ⟨Try.f132.name, by decide, Try.func132.trans (congrArg some (by kernel_rfl))⟩
  f74 := ⟨Try.f133.name, by decide, Try.func133.trans (congrArg some (by kernel_rfl))⟩
  f75 := ⟨Try.f134.name, by decide, Try.func134.trans (congrArg some (by kernel_rfl))⟩
  f76 := ⟨Try.f136.name, by decide, Try.func136.trans (congrArg some (by kernel_rfl))⟩
  f77 := ⟨Try.f137.name, by decide, Try.func137.trans (congrArg some (by kernel_rfl))⟩
  f78 := Try.func138.trans (congrArg some (by kernel_rfl))
  f79 := Try.func139.trans (congrArg some (by kernel_rfl))
  f88 := ⟨Try.f141.name, by decide, Try.func141.trans (congrArg some (by kernel_rfl))⟩
  f89 := Try.func142.trans (congrArg some (by kernel_rfl))
  f90 := Try.func143.trans (congrArg some (by kernel_rfl))
  f91 := ⟨Try.f144.name, by decide, Try.func144.trans (congrArg some (by kernel_rfl))⟩
  f92 := ⟨Try.f145.name, by decide, Try.func145.trans (congrArg some (by kernel_rfl))⟩
  f96 := ⟨Try.f146.name, by decide, Try.func146.trans (congrArg some (by kernel_rfl))⟩
  t0 := Try.underlying0
  a0 := Try.isAgg0
  z0 := Try.sizeOf0
  v0 := Try.zeroValue0
  t3 := Try.underlying3
  a3 := Try.isAgg3
  z3 := Try.sizeOf3
  v3 := Try.zeroValue3
  t4 := Try.underlying4
  a4 := Try.isAgg4
  z4 := Try.sizeOf4
  v4 := Try.zeroValue4
  t5 := Try.underlying5
  a5 := Try.isAgg5
  z5 := Try.sizeOf5
  v5 := Try.zeroValue5
  t9 := Try.underlying9
  a9 := Try.isAgg9
  z9 := Try.sizeOf9
  v9 := Try.zeroValue9
  t22 := Try.underlying30
  a22 := Try.isAgg30
  z22 := Try.sizeOf30
  v22 := Try.zeroValue30
  t23 := Try.underlying2
  a23 := Try.isAgg2
  z23 := Try.sizeOf2
  v23 := Try.zeroValue2
  t44 := Try.underlying121
  a44 := Try.isAgg121
  z44 := Try.sizeOf121
  v44 := Try.zeroValue121
  t51 := Try.underlying129
  a51 := Try.isAgg129
  z51 := Try.sizeOf129
  v51 := Try.zeroValue129
  t60 := Try.underlying136
  a60 := Try.isAgg136
  z60 := Try.sizeOf136
  v60 := Try.zeroValue136
  t61 := Try.underlying137
  a61 := Try.isAgg137
  z61 := Try.sizeOf137
  v61 := Try.zeroValue137
  t67 := Try.underlying144
  a67 := Try.isAgg144
  z67 := Try.sizeOf144
  v67 := Try.zeroValue144
  t69 := Try.underlying146
  a69 := Try.isAgg146
  z69 := Try.sizeOf146
  v69 := Try.zeroValue146
  t75 := Try.underlying148
  a75 := Try.isAgg148
  z75 := Try.sizeOf148
  v75 := Try.zeroValue148
  t79 := Try.underlying152
  a79 := Try.isAgg152
  z79 := Try.sizeOf152
  v79 := Try.zeroValue152
  t83 := Try.underlying154
  a83 := Try.isAgg154
  z83 := Try.sizeOf154
  v83 := Try.zeroValue154
  t84 := Try.underlying155
  a84 := Try.isAgg155
  z84 := Try.sizeOf155
  v84 := Try.zeroValue155 }
def comp64_ren : Go.Shelf.Ren := ⟨fun | 43 => 108 | n => n, fun | 22 => 30 | 23 => 2 | 3 => 3 | 4 => 4 | 0 => 0 | n => n, fun | n => n⟩
theorem comp64 : Go.Proofs.SlLaysN.n43 Try.prog comp64_ren := {
  mixed := by kernel_rfl
  f43 := ⟨Try.f108.name, by decide, Try.func108.trans (congrArg some (by kernel_rfl))⟩
  t0 := Try.underlying0
  a0 := Try.isAgg0
  z0 := Try.sizeOf0
  v0 := Try.zeroValue0
  t3 := Try.underlying3
  a3 := Try.isAgg3
  z3 := Try.sizeOf3
  v3 := Try.zeroValue3
  t4 := Try.underlying4
  a4 := Try.isAgg4
  z4 := Try.sizeOf4
  v4 := Try.zeroValue4
  t22 := Try.underlying30
  a22 := Try.isAgg30
  z22 := Try.sizeOf30
  v22 := Try.zeroValue30
  t23 := Try.underlying2
  a23 := Try.isAgg2
  z23 := Try.sizeOf2
  v23 := Try.zeroValue2
  i23 := by kernel_rfl }
end Go.Proofs.Ytcglpbchejkolaa
