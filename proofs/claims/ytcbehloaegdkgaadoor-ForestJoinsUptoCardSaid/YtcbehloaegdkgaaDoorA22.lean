/- Abstract layer: data read off, by types. -/
import Derived.Test.YtcbehloaegdkgaaDoorA21
set_option linter.unusedVariables false
set_option linter.unusedSimpArgs false
namespace Go.Abs
open Go
variable {H : Type} {P : Program}

theorem int_data {n : Nat} {t : TypeId} {k : IntKind} {d : DataW H} (hu : P.underlying t = some (.int k)) (h : hasType P n t d) : ∃ m : Int, d = .lit (.int k m) ∧ (Lit.int k m).wf = true ∧ toDs P n t d = [.v (.int k m)] := by
  cases n with
  | zero => exact h.elim
  | succ n =>
    simp only [hasType, hu] at h
    obtain ⟨m, rfl, hw⟩ := h
    exact ⟨m, rfl, hw, by simp only [toDs, hu]⟩
theorem str_data {n : Nat} {t : TypeId} {d : DataW H} (hu : P.underlying t = some .string) (h : hasType P n t d) : ∃ s : ByteArray, d = .lit (.string s.data.toList) ∧ toDs P n t d = [.v (.string s)] := by
  cases n with
  | zero => exact h.elim
  | succ n =>
    simp only [hasType, hu] at h
    obtain ⟨l, rfl, _⟩ := h
    exact ⟨⟨l.toArray⟩, by simp, by simp only [toDs, hu]⟩
theorem slice_data {n : Nat} {t e : TypeId} {d : DataW H} (hu : P.underlying t = some (.slice e)) (hc : P.cellsOf e ≠ 0) (h : hasType P n t d) : ∃ (m : Nat) (elems spare : List (DataW H)), n = m + 1 ∧ (d = .nil ∧ elems = [] ∨ d = .slice elems spare) ∧ (∀ x ∈ elems, hasType P m e x) ∧ toDs P n t d = [.ro (P.cellsOf e) (elems.map (toDs P m e)) elems.length] := by
  cases n with
  | zero => exact h.elim
  | succ n =>
    simp only [hasType, hu] at h
    rcases h with rfl | ⟨elems, spare, rfl, h⟩
    · exact ⟨n, [], [], rfl, .inl ⟨rfl, rfl⟩, fun x hx => (by cases hx), by simp only [toDs, hu]; rfl⟩
    · exact ⟨n, elems, spare, rfl, .inr rfl, h, by simp only [toDs, hu]; rw [if_neg hc]⟩
theorem struct_data {n : Nat} {t : TypeId} {fs : Array Field} {d : DataW H} (hu : P.underlying t = some (.struct fs)) (h : hasType P n t d) : ∃ (m : Nat) (parts : List (DataW H)), n = m + 1 ∧ d = .agg parts ∧ parts.length = fs.size ∧ (∀ (i : Nat) f p, fs[i]? = some f → parts[i]? = some p → hasType P m f.type p) ∧ toDs P n t d = (List.range (P.cellsOf t)).map (cellAt (toDs P m) P fs.toList parts) := by
  cases n with
  | zero => exact h.elim
  | succ n =>
    simp only [hasType, hu] at h
    obtain ⟨parts, rfl, h1, h2⟩ := h
    exact ⟨n, parts, rfl, rfl, h1, h2, by simp only [toDs, hu]⟩

/-- Elements, each of which is some datum. -/
theorem list_data {α : Type} {f : DataW H → List D} {g : α → List D} {wt : α → Nat} {bk : DataW H → Nat} {elems : List (DataW H)} (h : ∀ x ∈ elems, ∃ a, f x = g a ∧ wt a ≤ bk x) : ∃ xs : List α, elems.map f = xs.map g ∧ (xs.map wt).sum ≤ (elems.map bk).sum ∧ xs.length = elems.length := by
  induction elems with
  | nil => exact ⟨[], rfl, Nat.le_refl _, rfl⟩
  | cons x r ih =>
    obtain ⟨xs, h1, h2, h3⟩ := ih fun y hy => h y (by simp [hy])
    obtain ⟨a, h4, h5⟩ := h x (by simp)
    exact ⟨a :: xs, by simp [h1, h4], by simp only [List.map_cons, List.sum_cons]; omega, by simp [h3]⟩
end Go.Abs
