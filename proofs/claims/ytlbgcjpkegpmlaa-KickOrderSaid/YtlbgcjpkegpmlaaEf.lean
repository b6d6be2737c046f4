/- The engine, part 6: structs built and compared; one operation that leaves the world alone. -/
import Derived.Test.YtlbgcjpkegpmlaaEe
namespace Go.Proofs.Ytlbgcjpkegpmlaa
open Go.RowKit
set_option linter.unusedSimpArgs false

/-! build -/
def setAll (off : Nat) (new : List Lf) (cs : List Lf) : List Lf := new.zipIdx.foldl (fun cs (c, j) => cs.set (off + j) c) cs
def fillLf (place : Nat → Option (Nat × Nat)) (cells : List Lf) : List (Nat × S0) → Option (List Lf)
  | [] => some cells
  | (i, v) :: rest => match place i with
    | none => none
    | some p => if v.cells.length = p.2 ∧ p.1 + v.cells.length ≤ cells.length then fillLf place (setAll p.1 v.cells cells) rest else none
theorem S0.den_cells (Γ : Env) (s : S0) (hs : ∀ l ∈ s.cells, (l.den Γ).cells = #[l.den Γ]) : (s.den Γ).cells = dens Γ s.cells := by
  cases s with
  | lf l => simp only [S0.den, S0.cells, dens]; rw [hs l (by simp [S0.cells])]; rfl
  | agg l => rfl
theorem foldl_dens (Γ : Env) (off : Nat) : ∀ (new : List (Lf × Nat)) (cs : List Lf),
    (new.map fun p => (p.1.den Γ, p.2)).foldl (fun (cs : Array Value) (p : Value × Nat) => cs.setIfInBounds (off + p.2) p.1) (dens Γ cs) = dens Γ (new.foldl (fun cs (p : Lf × Nat) => cs.set (off + p.2) p.1) cs)
  | [], cs => rfl
  | p :: rest, cs => by
    simp only [List.map_cons, List.foldl_cons]
    rw [← foldl_dens Γ off rest]
    congr 1
    apply Array.ext'
    simp [dens, List.map_set]
theorem setAll_length (off : Nat) (new cs : List Lf) : (setAll off new cs).length = cs.length := by
  unfold setAll
  generalize new.zipIdx = l
  induction l generalizing cs with
  | nil => rfl
  | cons p rest ih => simp [ih]
theorem fill_dens (Γ : Env) (place : Nat → Option (Nat × Nat)) : ∀ (parts : List (Nat × S0)) (cells out : List Lf), (∀ p ∈ parts, ∀ l ∈ p.2.cells, (l.den Γ).cells = #[l.den Γ]) →
    fillLf place cells parts = some out → Instr.fill place (dens Γ cells) (parts.map fun p => (p.1, p.2.den Γ)) = some (dens Γ out)
  | [], cells, out, _, h => by simp [fillLf] at h; subst h; simp [Instr.fill]
  | (i, v) :: rest, cells, out, hs, h => by
    simp only [fillLf] at h
    split at h
    · cases h
    · rename_i p hp
      obtain ⟨off, size⟩ := p
      split at h
      · rename_i hc
        have hcl := S0.den_cells Γ v (hs (i, v) (by simp))
        simp only [List.map_cons, Instr.fill, hp, hcl, dens_size]
        rw [if_neg (by simp; simp at hc; omega)]
        have := foldl_dens Γ off v.cells.zipIdx cells
        have e : (dens Γ v.cells).zipIdx = ((v.cells.zipIdx.map fun p => (p.1.den Γ, p.2)).toArray) := by
          apply Array.ext'
          simp [dens, List.zipIdx_map]
        rw [e]
        simp only [List.foldl_toArray]
        rw [show (List.foldl (fun (cs : Array Value) (x : Value × Nat) => match x with | (c, j) => cs.setIfInBounds (off + j) c) (dens Γ cells) (v.cells.zipIdx.map fun p => (p.1.den Γ, p.2))) = dens Γ (setAll off v.cells cells) from this]
        exact fill_dens Γ place rest _ _ (fun p hp => hs p (by simp [hp])) h
      · cases h
def zeroLf (P : Program) (t : TypeId) : Option (List Lf) :=
  match P.info? t with
  | some it => it.zero.map fun z => z.cells.toList.map Lf.ofValue
  | none => none
theorem dens_ofValues (Γ : Env) (l : List Value) : dens Γ (l.map Lf.ofValue) = l.toArray := by
  simp [dens, Function.comp_def, Lf.den_ofValue]
theorem zeroLf_spec {P : Program} {t : TypeId} {cs : List Lf} (h : zeroLf P t = some cs) (Γ : Env) : ∃ it z, P.info? t = some it ∧ it.zero = some z ∧ z.cells = dens Γ cs := by
  unfold zeroLf at h
  split at h
  · rename_i it hi
    cases hz : it.zero with
    | none => simp [hz] at h
    | some z =>
      simp [hz] at h
      subst h
      exact ⟨it, z, hi, hz, by rw [dens_ofValues]⟩
  · cases h
def buildLf (P : Program) (t : TypeId) (parts : List (Nat × S0)) : Option (List Lf) :=
  match zeroLf P t, P.underlying t with
  | some z, some (.array _ e) => match P.info? e with
    | some ie => fillLf (fun i => some (i * ie.size, ie.size)) z parts
    | none => none
  | some z, some (.struct fields) => match fields.toList.mapM (fun f => (P.info? f.type).map fun i => (f.offset, i.size)) with
    | some places => fillLf (places.toArray[·]?) z parts
    | none => none
  | _, _ => none
theorem built_buildLf {P : Program} {t : TypeId} {parts : List (Nat × S0)} {out : List Lf} (h : buildLf P t parts = some out) (Γ : Env) (hs : ∀ p ∈ parts, ∀ l ∈ p.2.cells, (l.den Γ).cells = #[l.den Γ]) :
    P.built t (parts.map fun p => (p.1, p.2.den Γ)) = some (dens Γ out) := by
  unfold buildLf at h
  unfold Program.built
  split at h
  · rename_i z n e hz hu
    obtain ⟨it, zv, hi, hzz, hc⟩ := zeroLf_spec hz Γ
    split at h
    · rename_i ie hie
      simp only [hi, hu, hzz, hie, hc]
      exact fill_dens Γ _ _ _ _ hs h
    · cases h
  · rename_i z fs hz hu
    obtain ⟨it, zv, hi, hzz, hc⟩ := zeroLf_spec hz Γ
    split at h
    · rename_i places hp
      simp only [hi, hu, hzz, hp, hc]
      exact fill_dens Γ _ _ _ _ hs h
    · cases h
  · cases h
/-- Where the cells of what was built come from. -/
theorem fillLf_mem (place : Nat → Option (Nat × Nat)) : ∀ (parts : List (Nat × S0)) (cells out : List Lf), fillLf place cells parts = some out → ∀ l ∈ out, l ∈ cells ∨ ∃ p ∈ parts, l ∈ p.2.cells
  | [], cells, out, h => by simp [fillLf] at h; subst h; exact fun l hl => .inl hl
  | (i, v) :: rest, cells, out, h => by
    simp only [fillLf] at h
    split at h
    · cases h
    · rename_i p hp
      split at h
      · intro l hl
        rcases fillLf_mem place rest _ _ h l hl with h1 | ⟨p', hp', h1⟩
        · have key : ∀ (new : List (Lf × Nat)) (cs : List Lf), l ∈ new.foldl (fun cs (q : Lf × Nat) => cs.set (p.1 + q.2) q.1) cs → l ∈ cs ∨ ∃ q ∈ new, l = q.1 := by
            intro new
            induction new with
            | nil => intro cs h; exact .inl h
            | cons q new ih =>
              intro cs h
              rcases ih _ h with h | ⟨q', hq', h⟩
              · rcases List.mem_or_eq_of_mem_set h with h | h
                · exact .inl h
                · exact .inr ⟨q, by simp, h⟩
              · exact .inr ⟨q', by simp [hq'], h⟩
          rcases key _ _ h1 with h2 | ⟨q, hq, rfl⟩
          · exact .inl h2
          · refine .inr ⟨(i, v), by simp, ?_⟩
            have := List.fst_mem_of_mem_zipIdx hq
            exact this
        · exact .inr ⟨p', by simp [hp'], h1⟩
      · cases h

/-! Structs compared -/
def B.mkAnd : B → B → B
  | .lit true, b => b
  | .lit false, _ => .lit false
  | a, .lit true => a
  | a, b => .and a b
theorem B.den_mkAnd (ρ : List C) (a b : B) : (B.mkAnd a b).den ρ = (a.den ρ && b.den ρ) := by
  unfold B.mkAnd; split <;> simp [B.den]
def eqFs (rec : TypeId → S0 → S0 → Option B) (P : Program) (xs ys : List Lf) : List Field → Option B
  | [] => some (.lit true)
  | f :: fs => if f.name = "_" then none else match partS P f.type xs f.offset, partS P f.type ys f.offset with
    | some a, some b => match rec f.type a b, eqFs rec P xs ys fs with
      | some r, some s => some (B.mkAnd r s)
      | _, _ => none
    | _, _ => none
def eq1 (P : Program) (bd : Bds) (rec : TypeId → S0 → S0 → Option B) (t : TypeId) : S0 → S0 → Option B
  | .lf (.int a), .lf (.int b) => match P.underlying t with
    | some (.int _) => some (B.mkCmp bd .eq a b)
    | _ => none
  | .lf (.bool a), .lf (.bool b) => match P.underlying t with
    | some .bool => some (.beq a b)
    | _ => none
  | .agg xs, .agg ys => match P.underlying t with
    | some (.struct fs) => if P.stoodInHeld t then none else eqFs rec P xs ys fs.toList
    | _ => none
  | _, _ => none
def eqT (P : Program) (bd : Bds) : Nat → TypeId → S0 → S0 → Option B
  | 0 => fun _ _ _ => none
  | d + 1 => eq1 P bd (eqT P bd d)
theorem run_eqFs {P : Program} {bd : Bds} {Γ : Env} (d D : Nat) (ih : ∀ t x y b, eqT P bd d t x y = some b → ∀ w, (Op.equalIn (D + d) t (x.den Γ) (y.den Γ)).run P w = .ok (b.den Γ.ρ) w)
    (xs ys : List Lf) : ∀ (fs : List Field) (b : B), eqFs (eqT P bd d) P xs ys fs = some b → ∀ w, (Op.eqFields (D + d) (dens Γ xs) (dens Γ ys) fs).run P w = .ok (b.den Γ.ρ) w
  | [], b, h, w => by simp [eqFs] at h; subst h; simp [Op.eqFields, B.den]
  | f :: fs, b, h, w => by
    simp only [eqFs] at h
    split at h
    · cases h
    · rename_i hn
      split at h
      · rename_i a c ha hc
        split at h
        · rename_i r s hr hs
          cases h
          have i1 := ih _ _ _ _ hr w
          have i2 := run_eqFs d D ih xs ys fs s hs w
          simp only [Op.eqFields, ne_eq, hn, not_false_eq_true, if_true, Sem.run_bind, run_partS ha, run_partS hc, Result.andThen_ok, i1, B.den_mkAnd]
          cases r.den Γ.ρ
          · simp
          · simp [i2]
        · cases h
      · cases h
theorem run_eqT {P : Program} {bd : Bds} {Γ : Env} (hn : Num bd Γ.ρ) (D : Nat) : ∀ (d : Nat) (t : TypeId) (x y : S0) (b : B), eqT P bd d t x y = some b → ∀ w, (Op.equalIn (D + d) t (x.den Γ) (y.den Γ)).run P w = .ok (b.den Γ.ρ) w := by
  intro d
  induction d with
  | zero => intro t x y b h; cases h
  | succ d ih =>
    intro t x y b h w
    unfold eqT at h
    rw [show D + (d + 1) = (D + d) + 1 from rfl]
    unfold eq1 at h
    split at h
    · split at h
      · rename_i k hu
        cases h
        simp only [S0.den, Lf.den, B.den_mkCmp hn, Cmp.den]
        exact run_equalIn_int w (D + d) t _ k _ _ hu
      · cases h
    · split at h
      · rename_i hu
        cases h
        exact run_equalIn_bool w (D + d) t _ _ hu
      · cases h
    · split at h
      · rename_i fs hu
        split at h
        · cases h
        · rename_i hst
          have hf : P.fieldsOf t = fs := by simp [Program.fieldsOf, hu]
          simp only [S0.den]
          rw [run_equalIn_struct w (D + d) t _ _ (by rw [hf]; exact hu) (by simpa using hst), hf]
          exact run_eqFs d D ih _ _ fs.toList b h w
      · cases h
    · cases h
end Go.Proofs.Ytlbgcjpkegpmlaa
