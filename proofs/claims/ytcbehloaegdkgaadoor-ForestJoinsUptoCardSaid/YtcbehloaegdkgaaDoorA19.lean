/- Abstract layer: bytes appended to bytes. -/
import Derived.Test.YtcbehloaegdkgaaDoorA18
set_option linter.unusedVariables false
set_option linter.unusedSimpArgs false
namespace Go.Abs
open Go
variable {P : Program} {W0 : World} {env : Env} {σ : List Chunk} {K : D → List Chunk → Prop} {X : D → List Chunk → Prop}

/-- A row of bytes that nobody writes. -/
def roBytes (l : List UInt8) : D := .ro 1 (byteCells l) l.length

theorem OpT.appSb {e : TypeId} {x y : Operand} {q : Nat} {sl : Sl} {l : List UInt8} {s : ByteArray} (hx : aget env x = some (.sl sl l.length)) (hq : σ[q]? = some (.arr sl 1 (byteCells l))) (hy : aget env y = some (.v (.string s)))
    (hroom : l.length + s.size ≤ 140737488355328) (hk : ∀ s', K (.sl s' (l ++ s.data.toList).length) (σ.set q (.arr s' 1 (byteCells (l ++ s.data.toList))))) : OpT P W0 (.appS e x y) env σ K X :=
  OpT.appS hx hq (by rw [byteCells_len']; exact Nat.le_refl _) hy hroom fun s' => by
    have := hk s'
    rw [byteCells_append] at this
    rw [List.length_append] at this
    rwa [List.take_of_length_le (by rw [byteCells_len']; exact Nat.le_refl _)]

theorem OpT.appBb {e : TypeId} {x y : Operand} {q : Nat} {sl : Sl} {l m : List UInt8} (hx : aget env x = some (.sl sl l.length)) (hq : σ[q]? = some (.arr sl 1 (byteCells l))) (hy : aget env y = some (.ro 1 (byteCells m) m.length))
    (hroom : l.length + m.length ≤ 140737488355328) (hk : ∀ s', K (.sl s' (l ++ m).length) (σ.set q (.arr s' 1 (byteCells (l ++ m))))) : OpT P W0 (.app e 1 1 x y) env σ K X := by
  have hm : (byteCells m).take m.length = byteCells m := List.take_of_length_le (by rw [byteCells_len']; exact Nat.le_refl _)
  refine OpT.app (src := byteCells m) hx hq (by rw [byteCells_len']; exact Nat.le_refl _) (SrcOK.ro hy hm (fun e he => (byteCells_all m e he).2) (fun e he => (byteCells_all m e he).1)) (by rw [byteCells_len']; omega) fun s' => ?_
  have := hk s'
  rw [byteCells_append] at this
  rw [List.length_append] at this
  rwa [List.take_of_length_le (by rw [byteCells_len']; exact Nat.le_refl _), byteCells_len']

theorem ACalls.frozenB {W0 : World} {f : FuncId} {args : List D} {l : List UInt8} (h : ACalls P W0 f args [] (GivesOwn 1 (byteCells l))) : ACalls P W0 f args [] (Gives (roBytes l)) := by
  have := h.frozen
  rwa [byteCells_len'] at this
theorem finOwnB {t q : Nat} {s : Sl} {l : List UInt8} (h : eget env t = some (.sl s l.length)) (hq : σ[q]? = some (.arr s 1 (byteCells l))) (hl : σ.length = q + 1) : Fin [.tmp t] (GivesOwn 1 (byteCells l)) .ret env σ :=
  finOwn (by rw [byteCells_len']; exact h) hq hl
end Go.Abs
