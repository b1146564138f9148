/- Abstract layer: comparisons that are decided ahead; guards parted on. -/
import Derived.Test.YtcbehloaegdkgaaDoorA14
set_option linter.unusedVariables false
set_option linter.unusedSimpArgs false
namespace Go.Abs
open Go
variable {P : Program} {W0 : World} {env : Env} {σ : List Chunk} {K : D → List Chunk → Prop} {X : D → List Chunk → Prop}

theorem OpT.ltIT {x y : Operand} {k : IntKind} {m n : Int} (hx : aget env x = some (.v (.int k m))) (hy : aget env y = some (.v (.int k n))) (h : m < n) (hk : K (.v (.bool true)) σ) : OpT P W0 (.bin .lss x y) env σ K X :=
  OpT.ltI hx hy (by rw [decide_eq_true h]; exact hk)
theorem OpT.ltIF {x y : Operand} {k : IntKind} {m n : Int} (hx : aget env x = some (.v (.int k m))) (hy : aget env y = some (.v (.int k n))) (h : ¬ (m < n)) (hk : K (.v (.bool false)) σ) : OpT P W0 (.bin .lss x y) env σ K X :=
  OpT.ltI hx hy (by rw [decide_eq_false h]; exact hk)
theorem OpT.gtIT {x y : Operand} {k : IntKind} {m n : Int} (hx : aget env x = some (.v (.int k m))) (hy : aget env y = some (.v (.int k n))) (h : m > n) (hk : K (.v (.bool true)) σ) : OpT P W0 (.bin .gtr x y) env σ K X :=
  OpT.gtI hx hy (by rw [decide_eq_true h]; exact hk)
theorem OpT.gtIF {x y : Operand} {k : IntKind} {m n : Int} (hx : aget env x = some (.v (.int k m))) (hy : aget env y = some (.v (.int k n))) (h : ¬ (m > n)) (hk : K (.v (.bool false)) σ) : OpT P W0 (.bin .gtr x y) env σ K X :=
  OpT.gtI hx hy (by rw [decide_eq_false h]; exact hk)
theorem OpT.leIT {x y : Operand} {k : IntKind} {m n : Int} (hx : aget env x = some (.v (.int k m))) (hy : aget env y = some (.v (.int k n))) (h : m ≤ n) (hk : K (.v (.bool true)) σ) : OpT P W0 (.bin .leq x y) env σ K X :=
  OpT.leI hx hy (by rw [decide_eq_true h]; exact hk)
theorem OpT.leIF {x y : Operand} {k : IntKind} {m n : Int} (hx : aget env x = some (.v (.int k m))) (hy : aget env y = some (.v (.int k n))) (h : ¬ (m ≤ n)) (hk : K (.v (.bool false)) σ) : OpT P W0 (.bin .leq x y) env σ K X :=
  OpT.leI hx hy (by rw [decide_eq_false h]; exact hk)
theorem OpT.geIT {x y : Operand} {k : IntKind} {m n : Int} (hx : aget env x = some (.v (.int k m))) (hy : aget env y = some (.v (.int k n))) (h : m ≥ n) (hk : K (.v (.bool true)) σ) : OpT P W0 (.bin .geq x y) env σ K X :=
  OpT.geI hx hy (by rw [decide_eq_true h]; exact hk)
theorem OpT.geIF {x y : Operand} {k : IntKind} {m n : Int} (hx : aget env x = some (.v (.int k m))) (hy : aget env y = some (.v (.int k n))) (h : ¬ (m ≥ n)) (hk : K (.v (.bool false)) σ) : OpT P W0 (.bin .geq x y) env σ K X :=
  OpT.geI hx hy (by rw [decide_eq_false h]; exact hk)
theorem OpT.eqIT {x y : Operand} {k : IntKind} {m n : Int} (hx : aget env x = some (.v (.int k m))) (hy : aget env y = some (.v (.int k n))) (h : m = n) (hk : K (.v (.bool true)) σ) : OpT P W0 (.bin .eql x y) env σ K X :=
  OpT.eqI hx hy (by rw [decide_eq_true h]; exact hk)
theorem OpT.eqIF {x y : Operand} {k : IntKind} {m n : Int} (hx : aget env x = some (.v (.int k m))) (hy : aget env y = some (.v (.int k n))) (h : ¬ (m = n)) (hk : K (.v (.bool false)) σ) : OpT P W0 (.bin .eql x y) env σ K X :=
  OpT.eqI hx hy (by rw [decide_eq_false h]; exact hk)
theorem OpT.neIT {x y : Operand} {k : IntKind} {m n : Int} (hx : aget env x = some (.v (.int k m))) (hy : aget env y = some (.v (.int k n))) (h : m ≠ n) (hk : K (.v (.bool true)) σ) : OpT P W0 (.bin .neq x y) env σ K X :=
  OpT.neI hx hy (by rw [decide_eq_true h]; exact hk)
theorem OpT.neIF {x y : Operand} {k : IntKind} {m n : Int} (hx : aget env x = some (.v (.int k m))) (hy : aget env y = some (.v (.int k n))) (h : ¬ (m ≠ n)) (hk : K (.v (.bool false)) σ) : OpT P W0 (.bin .neq x y) env σ K X :=
  OpT.neI hx hy (by rw [decide_eq_false h]; exact hk)
theorem OpT.eqST {x y : Operand} {s t : ByteArray} (hx : aget env x = some (.v (.string s))) (hy : aget env y = some (.v (.string t))) (h : s = t) (hk : K (.v (.bool true)) σ) : OpT P W0 (.bin .eql x y) env σ K X :=
  OpT.eqS hx hy (by rw [decide_eq_true h]; exact hk)
theorem OpT.eqSF {x y : Operand} {s t : ByteArray} (hx : aget env x = some (.v (.string s))) (hy : aget env y = some (.v (.string t))) (h : ¬ s = t) (hk : K (.v (.bool false)) σ) : OpT P W0 (.bin .eql x y) env σ K X :=
  OpT.eqS hx hy (by rw [decide_eq_false h]; exact hk)
theorem OpT.neST {x y : Operand} {s t : ByteArray} (hx : aget env x = some (.v (.string s))) (hy : aget env y = some (.v (.string t))) (h : ¬ s = t) (hk : K (.v (.bool true)) σ) : OpT P W0 (.bin .neq x y) env σ K X :=
  OpT.neS hx hy (by rw [decide_eq_true h]; exact hk)
theorem OpT.neSF {x y : Operand} {s t : ByteArray} (hx : aget env x = some (.v (.string s))) (hy : aget env y = some (.v (.string t))) (h : s = t) (hk : K (.v (.bool false)) σ) : OpT P W0 (.bin .neq x y) env σ K X :=
  OpT.neS hx hy (by rw [decide_eq_false (fun e => e h)]; exact hk)

/-- A slot's truth is parted on. -/
theorem AOps.part {N : Nat} {Q : AX → Env → List Chunk → Prop} {l : List SOper} (t : Nat) {b : Bool} (ht : eget env t = some (.v (.bool b))) (h1 : b = true → AOps P W0 N l ((t, .v (.bool true)) :: env) σ Q) (h2 : b = false → AOps P W0 N l ((t, .v (.bool false)) :: env) σ Q) : AOps P W0 N l env σ Q := by
  cases b with
  | true => exact AOps.subSlot t ht (Sub.refl _) (h1 rfl)
  | false => exact AOps.subSlot t ht (Sub.refl _) (h2 rfl)
theorem AWP.condT {N : Nat} {Q : AX → Env → List Chunk → Prop} {c : Operand} {x y : SCode} (hb : aget env c = some (.v (.bool true))) (h1 : AWP P W0 N x env σ Q) : AWP P W0 N (.cond c x y) env σ Q :=
  AWP.cond hb (fun _ => h1) (fun h => by cases h)
theorem AWP.condF {N : Nat} {Q : AX → Env → List Chunk → Prop} {c : Operand} {x y : SCode} (hb : aget env c = some (.v (.bool false))) (h1 : AWP P W0 N y env σ Q) : AWP P W0 N (.cond c x y) env σ Q :=
  AWP.cond hb (fun h => by cases h) (fun _ => h1)
/-- A pure call whose answer is known to be this. -/
theorem OpT.callb {f : FuncId} {xs : List Operand} {ds : List D} {b c : Bool} (ha : argsOf env xs = some ds) (hc : ACalls P W0 f ds [] (Gives (.v (.bool b)))) (hb : b = c) (hk : K (.v (.bool c)) σ) : OpT P W0 (.call f xs) env σ K X :=
  OpT.callp ha hc (by rw [hb]; exact hk)
end Go.Abs
