/-
  An abstract layer over the model: the operations that touch no memory.
-/
import Derived.Test.YtcbehloaegdkgaaDoorA2
set_option linter.unusedVariables false
set_option linter.unusedSimpArgs false
namespace Go.Abs
open Go
variable {P : Program} {W0 : World} {env : Env} {σ : List Chunk} {K : D → List Chunk → Prop} {X : D → List Chunk → Prop}

theorem AOps.st {N : Nat} {Q : AX → Env → List Chunk → Prop} {t : Nat} {op : SOp} {af : List Nat} {l : List SOper}
    (h : OpT P W0 op env σ (fun d σ' => AOps P W0 N l ((t, d) :: env) σ' Q) (fun d σ' => Q (.pan d) env σ')) : AOps P W0 N (⟨some t, none, op, af⟩ :: l) env σ Q := AOps.step h
theorem AOps.sn {N : Nat} {Q : AX → Env → List Chunk → Prop} {op : SOp} {af : List Nat} {l : List SOper}
    (h : OpT P W0 op env σ (fun _ σ' => AOps P W0 N l env σ' Q) (fun d σ' => Q (.pan d) env σ')) : AOps P W0 N (⟨none, none, op, af⟩ :: l) env σ Q := AOps.step h

theorem OpT.move {x : Operand} {d : D} (hx : aget env x = some d) (hk : K d σ) : OpT P W0 (.move x) env σ K X := by
  refine OpT.pure (fun o ho N Z F a w hc => ?_) hk
  obtain ⟨dst, op, ty, pos, after, guard⟩ := o
  cases ho
  all_goals exact ⟨_, rfl, hc.eval hx⟩

theorem OpT.moveAny {x : Operand} (hk : K .any σ) : OpT P W0 (.move x) env σ K X := by
  refine OpT.pure (fun o ho N Z F a w hc => ?_) hk
  obtain ⟨dst, op, ty, pos, after, guard⟩ := o
  cases ho
  all_goals exact ⟨_, rfl, .any _⟩

theorem OpT.pick {c x y : Operand} {b : Bool} {d : D} (hc : aget env c = some (.v (.bool b))) (h1 : b = true → aget env x = some d) (h2 : b = false → aget env y = some d) (hk : K d σ) : OpT P W0 (.pick c x y) env σ K X := by
  refine OpT.pure (fun o ho N Z F a w hg => ?_) hk
  obtain ⟨dst, op, ty, pos, after, guard⟩ := o
  cases ho
  cases b with
  | true => exact ⟨_, by simp [execOp, hg.eval_v hc, asBool], hg.eval (h1 rfl)⟩
  | false => exact ⟨_, by simp [execOp, hg.eval_v hc, asBool], hg.eval (h2 rfl)⟩

def intOp (op : BinOp) (k : IntKind) (m n : Int) : Sem Value :=
  match op with
  | .add | .sub | .mul => Op.intArith op k m n
  | .quo | .rem => Op.intDiv op k m n
  | .and | .or | .xor | .andNot => Op.intBits op k m n
  | _ => Op.intCmp op m n

theorem run_bin_int (op : BinOp) (s : TypeId) (x y : Operand) (k : IntKind) (m n : Int) (w : World) (h1 : op ≠ .shl) (h2 : op ≠ .shr) :
    (do eqGuard op s x y (.int k m) (.int k n); binOp op s (.int k m) (.int k n) : Sem Value).run P w = (intOp op k m n).run P w := by
  cases op <;> first | exact absurd rfl h1 | exact absurd rfl h2 | (simp [eqGuard, binOp, intOp])

theorem bin_int {op : BinOp} {x y : Operand} {k : IntKind} {m n : Int} {v : Value} (h1 : op ≠ .shl) (h2 : op ≠ .shr)
    (hv : ∀ w, (intOp op k m n).run P w = .ok v w) (hx : aget env x = some (.v (.int k m))) (hy : aget env y = some (.v (.int k n))) (hk : K (.v v) σ) : OpT P W0 (.bin op x y) env σ K X := by
  refine OpT.pure (fun o ho N Z F a w hc => ?_) hk
  obtain ⟨dst, op, ty, pos, after, guard⟩ := o
  cases ho
  refine ⟨v, ?_, .v _⟩
  simp only [execOp, hc.eval_v hx, hc.eval_v hy]
  rw [Sem.run_bind, run_bin_int op _ x y k m n w h1 h2, hv w]
  rfl

theorem wrap64_in {n : Int} (h1 : -9223372036854775808 ≤ n) (h2 : n ≤ 9223372036854775807) : IntKind.i64.wrap n = n := by
  rw [IntKind.wrap_i64]; omega

theorem OpT.add {x y : Operand} {k : IntKind} {m n : Int} (hx : aget env x = some (.v (.int k m))) (hy : aget env y = some (.v (.int k n))) (hk : K (.v (.int k (k.wrap (m + n)))) σ) : OpT P W0 (.bin .add x y) env σ K X :=
  bin_int (by simp) (by simp) (fun _ => rfl) hx hy hk
theorem OpT.sub {x y : Operand} {k : IntKind} {m n : Int} (hx : aget env x = some (.v (.int k m))) (hy : aget env y = some (.v (.int k n))) (hk : K (.v (.int k (k.wrap (m - n)))) σ) : OpT P W0 (.bin .sub x y) env σ K X :=
  bin_int (by simp) (by simp) (fun _ => rfl) hx hy hk
theorem OpT.mul {x y : Operand} {k : IntKind} {m n : Int} (hx : aget env x = some (.v (.int k m))) (hy : aget env y = some (.v (.int k n))) (hk : K (.v (.int k (k.wrap (m * n)))) σ) : OpT P W0 (.bin .mul x y) env σ K X :=
  bin_int (by simp) (by simp) (fun _ => rfl) hx hy hk
theorem OpT.add64 {x y : Operand} {m n : Int} (hx : aget env x = some (.v (.int .i64 m))) (hy : aget env y = some (.v (.int .i64 n))) (h : -9223372036854775808 ≤ m + n ∧ m + n ≤ 9223372036854775807) (hk : K (.v (.int .i64 (m + n))) σ) : OpT P W0 (.bin .add x y) env σ K X :=
  .add hx hy (by rw [wrap64_in h.1 h.2]; exact hk)
theorem OpT.sub64 {x y : Operand} {m n : Int} (hx : aget env x = some (.v (.int .i64 m))) (hy : aget env y = some (.v (.int .i64 n))) (h : -9223372036854775808 ≤ m - n ∧ m - n ≤ 9223372036854775807) (hk : K (.v (.int .i64 (m - n))) σ) : OpT P W0 (.bin .sub x y) env σ K X :=
  .sub hx hy (by rw [wrap64_in h.1 h.2]; exact hk)
theorem OpT.mul64 {x y : Operand} {m n : Int} (hx : aget env x = some (.v (.int .i64 m))) (hy : aget env y = some (.v (.int .i64 n))) (h : -9223372036854775808 ≤ m * n ∧ m * n ≤ 9223372036854775807) (hk : K (.v (.int .i64 (m * n))) σ) : OpT P W0 (.bin .mul x y) env σ K X :=
  .mul hx hy (by rw [wrap64_in h.1 h.2]; exact hk)

theorem beq_decide (m n : Int) : (m == n) = decide (m = n) := by by_cases h : m = n <;> simp [h]
theorem bne_decide (m n : Int) : (m != n) = decide (m ≠ n) := by by_cases h : m = n <;> simp [h]

theorem OpT.eqI {x y : Operand} {k : IntKind} {m n : Int} (hx : aget env x = some (.v (.int k m))) (hy : aget env y = some (.v (.int k n))) (hk : K (.v (.bool (decide (m = n)))) σ) : OpT P W0 (.bin .eql x y) env σ K X :=
  bin_int (v := .bool (decide (m = n))) (by simp) (by simp) (fun _ => by simp [intOp, Op.intCmp, beq_decide]) hx hy hk
theorem OpT.neI {x y : Operand} {k : IntKind} {m n : Int} (hx : aget env x = some (.v (.int k m))) (hy : aget env y = some (.v (.int k n))) (hk : K (.v (.bool (decide (m ≠ n)))) σ) : OpT P W0 (.bin .neq x y) env σ K X :=
  bin_int (v := .bool (decide (m ≠ n))) (by simp) (by simp) (fun _ => by simp [intOp, Op.intCmp, bne_decide]) hx hy hk
theorem OpT.ltI {x y : Operand} {k : IntKind} {m n : Int} (hx : aget env x = some (.v (.int k m))) (hy : aget env y = some (.v (.int k n))) (hk : K (.v (.bool (decide (m < n)))) σ) : OpT P W0 (.bin .lss x y) env σ K X :=
  bin_int (by simp) (by simp) (fun _ => rfl) hx hy hk
theorem OpT.leI {x y : Operand} {k : IntKind} {m n : Int} (hx : aget env x = some (.v (.int k m))) (hy : aget env y = some (.v (.int k n))) (hk : K (.v (.bool (decide (m ≤ n)))) σ) : OpT P W0 (.bin .leq x y) env σ K X :=
  bin_int (by simp) (by simp) (fun _ => rfl) hx hy hk
theorem OpT.gtI {x y : Operand} {k : IntKind} {m n : Int} (hx : aget env x = some (.v (.int k m))) (hy : aget env y = some (.v (.int k n))) (hk : K (.v (.bool (decide (m > n)))) σ) : OpT P W0 (.bin .gtr x y) env σ K X :=
  bin_int (by simp) (by simp) (fun _ => rfl) hx hy hk
theorem OpT.geI {x y : Operand} {k : IntKind} {m n : Int} (hx : aget env x = some (.v (.int k m))) (hy : aget env y = some (.v (.int k n))) (hk : K (.v (.bool (decide (m ≥ n)))) σ) : OpT P W0 (.bin .geq x y) env σ K X :=
  bin_int (by simp) (by simp) (fun _ => rfl) hx hy hk
theorem OpT.andI {x y : Operand} {k : IntKind} {m n : Int} (hx : aget env x = some (.v (.int k m))) (hy : aget env y = some (.v (.int k n))) (hk : K (.v (.int k (k.wrap ((BitVec.ofInt k.bits m &&& BitVec.ofInt k.bits n).toNat)))) σ) : OpT P W0 (.bin .and x y) env σ K X :=
  bin_int (by simp) (by simp) (fun _ => rfl) hx hy hk
theorem OpT.orI {x y : Operand} {k : IntKind} {m n : Int} (hx : aget env x = some (.v (.int k m))) (hy : aget env y = some (.v (.int k n))) (hk : K (.v (.int k (k.wrap ((BitVec.ofInt k.bits m ||| BitVec.ofInt k.bits n).toNat)))) σ) : OpT P W0 (.bin .or x y) env σ K X :=
  bin_int (by simp) (by simp) (fun _ => rfl) hx hy hk
theorem OpT.xorI {x y : Operand} {k : IntKind} {m n : Int} (hx : aget env x = some (.v (.int k m))) (hy : aget env y = some (.v (.int k n))) (hk : K (.v (.int k (k.wrap ((BitVec.ofInt k.bits m ^^^ BitVec.ofInt k.bits n).toNat)))) σ) : OpT P W0 (.bin .xor x y) env σ K X :=
  bin_int (by simp) (by simp) (fun _ => rfl) hx hy hk
theorem OpT.quoI {x y : Operand} {k : IntKind} {m n : Int} (hx : aget env x = some (.v (.int k m))) (hy : aget env y = some (.v (.int k n))) (h0 : n ≠ 0) (hk : K (.v (.int k (k.wrap (m.tdiv n)))) σ) : OpT P W0 (.bin .quo x y) env σ K X :=
  bin_int (v := .int k (k.wrap (m.tdiv n))) (by simp) (by simp) (fun _ => by simp [intOp, Op.intDiv, h0]) hx hy hk
theorem OpT.remI {x y : Operand} {k : IntKind} {m n : Int} (hx : aget env x = some (.v (.int k m))) (hy : aget env y = some (.v (.int k n))) (h0 : n ≠ 0) (hk : K (.v (.int k (m.tmod n))) σ) : OpT P W0 (.bin .rem x y) env σ K X :=
  bin_int (v := .int k (m.tmod n)) (by simp) (by simp) (fun _ => by simp [intOp, Op.intDiv, h0]) hx hy hk

theorem OpT.shl {x y : Operand} {k k' : IntKind} {m n : Int} (hx : aget env x = some (.v (.int k m))) (hy : aget env y = some (.v (.int k' n))) (h0 : 0 ≤ n) (hk : K (.v (.int k (k.wrap (m * 2 ^ (Nat.min n.toNat k.bits))))) σ) : OpT P W0 (.bin .shl x y) env σ K X := by
  refine OpT.pure (fun o ho N Z F a w hc => ?_) hk
  obtain ⟨dst, op, ty, pos, after, guard⟩ := o
  cases ho
  refine ⟨_, ?_, .v _⟩
  simp only [execOp, hc.eval_v hx, hc.eval_v hy]
  have : ¬ n < 0 := by omega
  simp [eqGuard, binOp, Op.shift, this]
theorem OpT.shr {x y : Operand} {k k' : IntKind} {m n : Int} (hx : aget env x = some (.v (.int k m))) (hy : aget env y = some (.v (.int k' n))) (h0 : 0 ≤ n) (hk : K (.v (.int k (m.fdiv (2 ^ (Nat.min n.toNat k.bits))))) σ) : OpT P W0 (.bin .shr x y) env σ K X := by
  refine OpT.pure (fun o ho N Z F a w hc => ?_) hk
  obtain ⟨dst, op, ty, pos, after, guard⟩ := o
  cases ho
  refine ⟨_, ?_, .v _⟩
  simp only [execOp, hc.eval_v hx, hc.eval_v hy]
  have : ¬ n < 0 := by omega
  simp [eqGuard, binOp, Op.shift, this]

theorem bytes_eq_iff (s t : ByteArray) : (s.toList == t.toList) = decide (s = t) := by
  have h : s.toList = t.toList ↔ s = t := by
    constructor
    · intro h
      have h1 : s.data.toList = t.data.toList := by
        rw [ByteArray.toList_eq, ByteArray.toList_eq] at h
        exact h
      cases s; cases t
      simp at h1
      rw [h1]
    · rintro rfl; rfl
  by_cases e : s = t
  · simp [e]
  · simp [e, h]

theorem bin_str {op : BinOp} {x y : Operand} {s t : ByteArray} {v : Value} (h1 : op ≠ .shl) (h2 : op ≠ .shr)
    (hv : ∀ w, (Op.stringOp op s t).run P w = .ok v w) (hx : aget env x = some (.v (.string s))) (hy : aget env y = some (.v (.string t))) (hk : K (.v v) σ) : OpT P W0 (.bin op x y) env σ K X := by
  refine OpT.pure (fun o ho N Z F a w hc => ?_) hk
  obtain ⟨dst, op, ty, pos, after, guard⟩ := o
  cases ho
  refine ⟨v, ?_, .v _⟩
  simp only [execOp, hc.eval_v hx, hc.eval_v hy]
  have e1 : ∀ s', (eqGuard op s' x y (.string s) (.string t) : Sem Unit).run P w = .ok () w := by
    intro s'; cases op <;> rfl
  have e2 : ∀ s', (binOp op s' (.string s) (.string t) : Sem Value) = Op.stringOp op s t := by
    intro s'; cases op <;> first | rfl | contradiction
  simp only [Sem.run_bind, e1, e2, Result.andThen_ok, hv w]
  rfl

theorem OpT.eqS {x y : Operand} {s t : ByteArray} (hx : aget env x = some (.v (.string s))) (hy : aget env y = some (.v (.string t))) (hk : K (.v (.bool (decide (s = t)))) σ) : OpT P W0 (.bin .eql x y) env σ K X :=
  bin_str (v := .bool (decide (s = t))) (by simp) (by simp) (fun _ => by simp [Op.stringOp, bytes_eq_iff]) hx hy hk
theorem OpT.neS {x y : Operand} {s t : ByteArray} (hx : aget env x = some (.v (.string s))) (hy : aget env y = some (.v (.string t))) (hk : K (.v (.bool (decide (s ≠ t)))) σ) : OpT P W0 (.bin .neq x y) env σ K X :=
  bin_str (v := .bool (decide (s ≠ t))) (by simp) (by simp) (fun _ => by simp [Op.stringOp, bytes_eq_iff]) hx hy hk
theorem OpT.ltS {x y : Operand} {s t : ByteArray} (hx : aget env x = some (.v (.string s))) (hy : aget env y = some (.v (.string t))) (hk : K (.v (.bool (Op.bytesLess s.toList t.toList))) σ) : OpT P W0 (.bin .lss x y) env σ K X :=
  bin_str (by simp) (by simp) (fun _ => rfl) hx hy hk
theorem OpT.gtS {x y : Operand} {s t : ByteArray} (hx : aget env x = some (.v (.string s))) (hy : aget env y = some (.v (.string t))) (hk : K (.v (.bool (!(Op.bytesLess s.toList t.toList || s.toList == t.toList)))) σ) : OpT P W0 (.bin .gtr x y) env σ K X :=
  bin_str (by simp) (by simp) (fun _ => rfl) hx hy hk
theorem OpT.leS {x y : Operand} {s t : ByteArray} (hx : aget env x = some (.v (.string s))) (hy : aget env y = some (.v (.string t))) (hk : K (.v (.bool (Op.bytesLess s.toList t.toList || s.toList == t.toList))) σ) : OpT P W0 (.bin .leq x y) env σ K X :=
  bin_str (by simp) (by simp) (fun _ => rfl) hx hy hk
theorem OpT.geS {x y : Operand} {s t : ByteArray} (hx : aget env x = some (.v (.string s))) (hy : aget env y = some (.v (.string t))) (hk : K (.v (.bool (!(Op.bytesLess s.toList t.toList)))) σ) : OpT P W0 (.bin .geq x y) env σ K X :=
  bin_str (by simp) (by simp) (fun _ => rfl) hx hy hk
theorem OpT.cat {x y : Operand} {s t : ByteArray} (hx : aget env x = some (.v (.string s))) (hy : aget env y = some (.v (.string t))) (h : s.size + t.size ≤ 9223372036854775807) (hk : K (.v (.string (s ++ t))) σ) : OpT P W0 (.bin .add x y) env σ K X :=
  bin_str (v := .string (s ++ t)) (by simp) (by simp) (fun w => by
    have e : ¬ ((s.size + t.size : Nat) : Int) > IntKind.i64.max := by
      have : IntKind.i64.max = 9223372036854775807 := by decide
      rw [this]; omega
    simp only [Op.stringOp]
    rw [if_neg e]; rfl) hx hy hk

theorem OpT.eqB {op : BinOp} {x y : Operand} {p q : Bool} {r : Bool} (hx : aget env x = some (.v (.bool p))) (hy : aget env y = some (.v (.bool q))) (hr : (match op with | .eql => p == q | _ => !(p == q)) = r) (hk : K (.v (.bool r)) σ) : OpT P W0 (.eqB op x y) env σ K X := by
  refine OpT.pure (fun o ho N Z F a w hc => ?_) hk
  obtain ⟨dst, op, ty, pos, after, guard⟩ := o
  cases ho with
  | eqB hu hop =>
    refine ⟨_, ?_, .v _⟩
    simp only [execOp, hc.eval_v hx, hc.eval_v hy]
    subst hr
    rcases hop with rfl | rfl <;> simp [eqGuard, binOp, run_equal_bool w _ p q hu]

theorem OpT.not {x : Operand} {b : Bool} (hx : aget env x = some (.v (.bool b))) (hk : K (.v (.bool (!b))) σ) : OpT P W0 (.un .not x) env σ K X := by
  refine OpT.pure (fun o ho N Z F a w hc => ?_) hk
  obtain ⟨dst, op, ty, pos, after, guard⟩ := o
  cases ho
  exact ⟨_, by simp [execOp, hc.eval_v hx, Op.unary], .v _⟩
theorem OpT.neg {x : Operand} {k : IntKind} {n : Int} (hx : aget env x = some (.v (.int k n))) (hk : K (.v (.int k (k.wrap (0 - n)))) σ) : OpT P W0 (.un .neg x) env σ K X := by
  refine OpT.pure (fun o ho N Z F a w hc => ?_) hk
  obtain ⟨dst, op, ty, pos, after, guard⟩ := o
  cases ho
  exact ⟨_, by simp [execOp, hc.eval_v hx, Op.unary, Op.intArith], .v _⟩

theorem OpT.toInt {k k' : IntKind} {x : Operand} {n : Int} (hx : aget env x = some (.v (.int k' n))) (hk : K (.v (.int k (k.wrap n))) σ) : OpT P W0 (.toInt k x) env σ K X := by
  refine OpT.pure (fun o ho N Z F a w hc => ?_) hk
  obtain ⟨dst, op, ty, pos, after, guard⟩ := o
  cases ho with
  | toInt hu ha => exact ⟨_, by simp [execOp, hc.eval_v hx, convert, underlying, hu, ha, Conv.intToInt], .v _⟩

theorem OpT.same {x : Operand} {s : ByteArray} (hx : aget env x = some (.v (.string s))) (hk : K (.v (.string s)) σ) : OpT P W0 (.same x) env σ K X := by
  refine OpT.pure (fun o ho N Z F a w hc => ?_) hk
  obtain ⟨dst, op, ty, pos, after, guard⟩ := o
  cases ho with
  | sameS hu ha hd => subst hd; exact ⟨_, by simp [execOp, hc.eval_v hx, convert, underlying, hu, ha], .v _⟩

theorem OpT.ext {x : Operand} {ds : List D} {i : Nat} {d : D} (hx : aget env x = some (.tup ds)) (hi : ds[i]? = some d) (hk : K d σ) : OpT P W0 (.ext x i) env σ K X := by
  refine OpT.pure (fun o ho N Z F a w hc => ?_) hk
  obtain ⟨dst, op, ty, pos, after, guard⟩ := o
  cases ho
  have h := hc.eval hx
  generalize hu : a.eval x = u at h
  cases h with
  | tup hl h =>
    rename_i vs
    have hlt : i < vs.size := by
      rw [← hl]
      exact (List.getElem?_eq_some_iff.1 hi).1
    refine ⟨vs.getD i undef, ?_, h i d hi⟩
    simp [execOp, hu, Instr.extract, hlt]

theorem OpT.mkI {t : TypeId} {x : Operand} {d : D} (hx : aget env x = some d) (hk : K (.ifc t d) σ) : OpT P W0 (.mkI t x) env σ K X := by
  refine OpT.pure (fun o ho N Z F a w hc => ?_) hk
  obtain ⟨dst, op, ty, pos, after, guard⟩ := o
  cases ho with
  | mkI hu hd =>
    rename_i dd
    refine ⟨_, ?_, .ifc (hc.eval hx)⟩
    cases dd <;> first | exact absurd rfl (hd _) | simp [execOp, Instr.makeInterface, underlying, hu]

theorem OpT.nilChk {x : Operand} {d : D} (hx : aget env x = some d) (hd : match d with | .v (.pointer (some _)) | .rp _ => True | .ep (.at _ _ _ _) _ _ _ => True | _ => False) (hk : K d σ) : OpT P W0 (.nilChk x) env σ K X := by
  refine OpT.pure (fun o ho N Z F a w hc => ?_) hk
  obtain ⟨dst, op, ty, pos, after, guard⟩ := o
  cases ho
  have h := hc.eval hx
  refine ⟨a.eval x, ?_, h⟩
  simp only [execOp]
  generalize a.eval x = u at h
  cases h with
  | v u =>
    cases u with
    | pointer p =>
      cases p with
      | none => exact hd.elim
      | some p => rfl
    | _ => exact hd.elim
  | rp f hb hm h => rfl
  | ep s e i j => cases s <;> first | exact hd.elim | rfl
  | _ => exact hd.elim

theorem OpT.idxS {x i : Operand} {s : ByteArray} {k : IntKind} {n : Int} (hx : aget env x = some (.v (.string s))) (hi : aget env i = some (.v (.int k n))) (h : 0 ≤ n ∧ n < s.size) (hk : K (.v (.int .u8 (s.data.toList.getD n.toNat 0).toNat)) σ) : OpT P W0 (.idxS x i) env σ K X := by
  refine OpT.pure (fun o ho N Z F a w hc => ?_) hk
  obtain ⟨dst, op, ty, pos, after, guard⟩ := o
  cases ho with
  | idxS hu =>
    refine ⟨_, ?_, .v _⟩
    have hlt : n.toNat < s.size := by omega
    have e : s[n.toNat]? = some (s.data.toList.getD n.toNat 0) := by
      rw [getElem?_pos s n.toNat hlt]
      congr 1
      show s.data[n.toNat] = _
      rw [List.getD_eq_getElem?_getD, List.getElem?_eq_getElem (by simpa using hlt)]
      simp
    simp [execOp, hc.eval_v hx, hc.eval_v hi, Instr.index, asIntOf, underlying, hu, h.1, e]

theorem OpT.lenS {x : Operand} {s : ByteArray} (hx : aget env x = some (.v (.string s))) (hk : K (.v (.int .i64 s.size)) σ) : OpT P W0 (.lenS x) env σ K X := by
  refine OpT.pure (fun o ho N Z F a w hc => ?_) hk
  obtain ⟨dst, op, ty, pos, after, guard⟩ := o
  cases ho with
  | lenS hu => exact ⟨_, by simp [execOp, resolve, invoke, builtin, Builtin.len_, underlying, hu, hc.eval_v hx, goInt], .v _⟩

theorem run_len_slice {s e : TypeId} {x : Operand} {ty : TypeId} {dst : Option Tmp} {pos : String} {after : Array Edge} {guard : Option (Nat × Bool)} (hu : P.underlying s = some (.slice e)) (a : Act) (w : World) {b : Option Addr} {n c : Nat} (h : a.eval x = .slice b n c) :
    (execOp a.eval ⟨dst, .call { callee := .builtin .len, args := #[x], argTypes := #[s] }, ty, pos, after, guard⟩).run P w = .ok (.value (.int .i64 n)) w := by
  simp [execOp, resolve, invoke, builtin, Builtin.len_, underlying, hu, h, goInt]

/-- What has a length: immutable, one's own, nil. -/
def dlen : D → Option Nat
  | .ro _ _ n => some n
  | .sl _ n => some n
  | .v (.slice _ n _) => some n
  | _ => none

theorem Rel.slice_len {Z : Nat → Prop} {w : World} {d : D} {v : Value} {n : Nat} (h : Rel Z w d v) (hd : dlen d = some n) : ∃ b c, v = .slice b n c := by
  cases h with
  | v => cases v <;> simp [dlen] at hd; subst hd; exact ⟨_, _, rfl⟩
  | ro f hb hl hc he hm h => simp [dlen] at hd; subst hd; exact ⟨_, _, rfl⟩
  | ronil => simp [dlen] at hd; subst hd; exact ⟨_, _, rfl⟩
  | sl s len => simp [dlen] at hd; subst hd; cases s <;> exact ⟨_, _, rfl⟩
  | _ => simp [dlen] at hd

theorem OpT.lenL {x : Operand} {d : D} {n : Nat} (hx : aget env x = some d) (hd : dlen d = some n) (hk : K (.v (.int .i64 n)) σ) : OpT P W0 (.lenL x) env σ K X := by
  refine OpT.pure (fun o ho N Z F a w hc => ?_) hk
  obtain ⟨dst, op, ty, pos, after, guard⟩ := o
  cases ho with
  | lenL hu =>
    obtain ⟨b, c, hv⟩ := (hc.eval hx).slice_len hd
    exact ⟨_, run_len_slice hu a w hv, .v _⟩

theorem OpT.max {x y : Operand} {k : IntKind} {m n : Int} (hx : aget env x = some (.v (.int k m))) (hy : aget env y = some (.v (.int k n))) (hk : K (.v (.int k (Max.max m n))) σ) : OpT P W0 (.max x y) env σ K X := by
  refine OpT.pure (fun o ho N Z F a w hc => ?_) hk
  obtain ⟨dst, op, ty, pos, after, guard⟩ := o
  cases ho
  refine ⟨_, ?_, .v _⟩
  have e : (if n > m then n else m) = Max.max m n := by split <;> omega
  simp [execOp, resolve, invoke, builtin, Builtin.max_, Builtin.max2, hc.eval_v hx, hc.eval_v hy, e]
theorem OpT.min {x y : Operand} {k : IntKind} {m n : Int} (hx : aget env x = some (.v (.int k m))) (hy : aget env y = some (.v (.int k n))) (hk : K (.v (.int k (Min.min m n))) σ) : OpT P W0 (.min x y) env σ K X := by
  refine OpT.pure (fun o ho N Z F a w hc => ?_) hk
  obtain ⟨dst, op, ty, pos, after, guard⟩ := o
  cases ho
  refine ⟨_, ?_, .v _⟩
  have e : (if n < m then n else m) = Min.min m n := by split <;> omega
  simp [execOp, resolve, invoke, builtin, Builtin.min_, Builtin.min2, hc.eval_v hx, hc.eval_v hy, e]

/-- A string's part. -/
theorem OpT.slS {x : Operand} {lo hi : Option Operand} {s : ByteArray} {l h : Int} (hx : aget env x = some (.v (.string s)))
    (hl : match lo with | none => l = 0 | some y => ∃ k, aget env y = some (.v (.int k l))) (hh : match hi with | none => h = s.size | some y => ∃ k, aget env y = some (.v (.int k h)))
    (hb : 0 ≤ l ∧ l ≤ h ∧ h ≤ s.size) (hk : K (.v (.string (s.extract l.toNat h.toNat))) σ) : OpT P W0 (.slS x lo hi) env σ K X := by
  refine OpT.pure (fun o ho N Z F a w hc => ?_) hk
  obtain ⟨dst, op, ty, pos, after, guard⟩ := o
  cases ho with
  | slS hu =>
    refine ⟨_, ?_, .v _⟩
    have e1 : (0:Int) ≤ h := by omega
    have e2 : l ≤ (h.toNat : Int) := by omega
    cases lo with
    | none =>
      subst hl
      cases hi with
      | none => subst hh; simp [execOp, Instr.sliceAt, Instr.slice, Instr.sliceBounds, underlying, hu, hc.eval_v hx]
      | some y => obtain ⟨k, hy⟩ := hh; simp [execOp, Instr.sliceAt, Instr.slice, Instr.sliceBounds, Instr.sliceBound, asIntOf, underlying, hu, hc.eval_v hx, hc.eval_v hy, e1, hb.2.2]
    | some z =>
      obtain ⟨k, hz⟩ := hl
      cases hi with
      | none => subst hh; simp [execOp, Instr.sliceAt, Instr.slice, Instr.sliceBounds, Instr.sliceBound, asIntOf, underlying, hu, hc.eval_v hx, hc.eval_v hz, hb.1, hb.2.1]
      | some y => obtain ⟨k, hy⟩ := hh; simp [execOp, Instr.sliceAt, Instr.slice, Instr.sliceBounds, Instr.sliceBound, asIntOf, underlying, hu, hc.eval_v hx, hc.eval_v hy, hc.eval_v hz, e1, e2, hb.1, hb.2.2]; intro h'; exfalso; omega
end Go.Abs
