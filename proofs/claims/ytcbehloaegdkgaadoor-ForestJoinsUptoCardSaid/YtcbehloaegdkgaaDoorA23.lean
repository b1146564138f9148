/- Abstract layer: the data of plain operations, computed; boxes found. -/
import Derived.Test.YtcbehloaegdkgaaDoorA19
set_option linter.unusedVariables false
set_option linter.unusedSimpArgs false
namespace Go.Abs
open Go
variable {P : Program} {W0 : World} {env : Env} {σ : List Chunk} {K : D → List Chunk → Prop} {X : D → List Chunk → Prop}

def evCmp (op : BinOp) (m n : Int) : Option D :=
  match op with
  | .lss => some (.v (.bool (decide (m < n))))
  | .gtr => some (.v (.bool (decide (m > n))))
  | .leq => some (.v (.bool (decide (m ≤ n))))
  | .geq => some (.v (.bool (decide (m ≥ n))))
  | .eql => some (.v (.bool (decide (m = n))))
  | .neq => some (.v (.bool (decide (m ≠ n))))
  | _ => none
def evStr (op : BinOp) (s t : ByteArray) : Option D :=
  match op with
  | .lss => some (.v (.bool (Op.bytesLess s.toList t.toList)))
  | .gtr => some (.v (.bool (!(Op.bytesLess s.toList t.toList || s.toList == t.toList))))
  | .leq => some (.v (.bool (Op.bytesLess s.toList t.toList || s.toList == t.toList)))
  | .geq => some (.v (.bool (!(Op.bytesLess s.toList t.toList))))
  | .eql => some (.v (.bool (decide (s = t))))
  | .neq => some (.v (.bool (decide (s ≠ t))))
  | _ => none
def evPtr : D → Option D
  | .v (.pointer (some a)) => some (.v (.pointer (some a)))
  | .rp ds => some (.rp ds)
  | .ep (.at b p c t) e i j => some (.ep (.at b p c t) e i j)
  | _ => none

/-- The datum of an operation that touches no chunk and has no more conditions. -/
def ev (env : Env) : SOp → Option D
  | .move x => aget env x
  | .pick c x y => match aget env c with
    | some (.v (.bool true)) => aget env x
    | some (.v (.bool false)) => aget env y
    | _ => none
  | .nilChk x => match aget env x with
    | some d => evPtr d
    | none => none
  | .fld off x => match aget env x with
    | some (.rp ds) => some (.rp (ds.drop off))
    | some (.v (.pointer (some ⟨b, o, none⟩))) => some (.v (.pointer (some ⟨b, o + off, none⟩)))
    | _ => none
  | .load false 1 x => match aget env x with
    | some (.rp ds) => ds[0]?
    | _ => none
  | .load true n x => match aget env x with
    | some (.rp ds) => bif Nat.beq (ds.take n).length n then some (.agg (ds.take n)) else none
    | _ => none
  | .getf false off _ x => match aget env x with
    | some (.agg ds) => ds[off]?
    | _ => none
  | .getf true off n x => match aget env x with
    | some (.agg ds) => bif Nat.beq ((ds.drop off).take n).length n then some (.agg ((ds.drop off).take n)) else none
    | _ => none
  | .lenS x => match aget env x with
    | some (.v (.string s)) => some (.v (.int .i64 s.size))
    | _ => none
  | .lenL x => match aget env x with
    | some d => match dlen d with
      | some n => some (.v (.int .i64 n))
      | none => none
    | none => none
  | .ext x i => match aget env x with
    | some (.tup ds) => ds[i]?
    | _ => none
  | .bin op x y => match aget env x, aget env y with
    | some (.v (.int k m)), some (.v (.int k' n)) => if k = k' then evCmp op m n else none
    | some (.v (.string s)), some (.v (.string t)) => evStr op s t
    | _, _ => none
  | .un .not x => match aget env x with
    | some (.v (.bool b)) => some (.v (.bool (!b)))
    | _ => none
  | .eqB op x y => match aget env x, aget env y with
    | some (.v (.bool p)), some (.v (.bool q)) => some (.v (.bool (match op with | .eql => p == q | _ => !(p == q))))
    | _, _ => none
  | .eqF op ks x y => match aget env x, aget env y with
    | some (.agg xs), some (.agg ys) => match eqD ks xs ys with
      | some r => some (.v (.bool (match op with | .eql => r | _ => !r)))
      | none => none
    | _, _ => none
  | .build zs parts => bif partsOk env zs.length parts then (match buildCells env parts 0 zs with | some ds => some (.agg ds) | none => none) else none
  | .mkI t x => match aget env x with
    | some d => some (.ifc t d)
    | none => none
  | .same x => match aget env x with
    | some (.v (.string s)) => some (.v (.string s))
    | _ => none
  | .toInt k x => match aget env x with
    | some (.v (.int _ n)) => some (.v (.int k (k.wrap n)))
    | _ => none
  | .max x y => match aget env x, aget env y with
    | some (.v (.int k m)), some (.v (.int k' n)) => if k = k' then some (.v (.int k (Max.max m n))) else none
    | _, _ => none
  | .min x y => match aget env x, aget env y with
    | some (.v (.int k m)), some (.v (.int k' n)) => if k = k' then some (.v (.int k (Min.min m n))) else none
    | _, _ => none
  | _ => none

theorem evCmp_ok {op : BinOp} {x y : Operand} {k : IntKind} {m n : Int} {d : D} (hx : aget env x = some (.v (.int k m))) (hy : aget env y = some (.v (.int k n))) (h : evCmp op m n = some d) (hk : K d σ) : OpT P W0 (.bin op x y) env σ K X := by
  cases op <;> simp only [evCmp, reduceCtorEq] at h <;> cases h
  · exact .eqI hx hy hk
  · exact .neI hx hy hk
  · exact .ltI hx hy hk
  · exact .leI hx hy hk
  · exact .gtI hx hy hk
  · exact .geI hx hy hk
theorem evStr_ok {op : BinOp} {x y : Operand} {s t : ByteArray} {d : D} (hx : aget env x = some (.v (.string s))) (hy : aget env y = some (.v (.string t))) (h : evStr op s t = some d) (hk : K d σ) : OpT P W0 (.bin op x y) env σ K X := by
  cases op <;> simp only [evStr, reduceCtorEq] at h <;> cases h
  · exact .eqS hx hy hk
  · exact .neS hx hy hk
  · exact .ltS hx hy hk
  · exact .leS hx hy hk
  · exact .gtS hx hy hk
  · exact .geS hx hy hk
theorem evPtr_ok {x : Operand} {d d' : D} (hx : aget env x = some d) (h : evPtr d = some d') (hk : K d' σ) : OpT P W0 (.nilChk x) env σ K X := by
  unfold evPtr at h
  split at h <;> cases h
  · exact .nilChk hx trivial hk
  · exact .nilChk hx trivial hk
  · exact .nilChk hx trivial hk

theorem OpT.ev {op : SOp} {d : D} (h : Abs.ev env op = some d) (hk : K d σ) : OpT P W0 op env σ K X := by
  unfold Abs.ev at h
  split at h
  case h_1 => exact .move h hk
  case h_2 =>
    split at h
    · rename_i hc; exact .pick hc (fun _ => h) (fun e => by cases e) hk
    · rename_i hc; exact .pick hc (fun e => by cases e) (fun _ => h) hk
    · cases h
  case h_3 =>
    split at h
    · rename_i hc; exact evPtr_ok hc h hk
    · cases h
  case h_4 =>
    split at h
    · rename_i hc; cases h; exact .fldP hc rfl hk
    · rename_i hc; cases h; exact .fldB hc hk
    · cases h
  case h_5 =>
    split at h
    · rename_i hc; exact .loadP hc h hk
    · cases h
  case h_6 =>
    split at h
    · rename_i ds hc
      cases hb : Nat.beq (ds.take _).length _ with
      | false => rw [hb] at h; cases h
      | true => rw [hb] at h; cases h; exact .loadPA hc rfl (Nat.eq_of_beq_eq_true hb) hk
    · cases h
  case h_7 =>
    split at h
    · rename_i hc; exact .getf1 hc h hk
    · cases h
  case h_8 =>
    split at h
    · rename_i ds hc
      cases hb : Nat.beq ((ds.drop _).take _).length _ with
      | false => rw [hb] at h; cases h
      | true => rw [hb] at h; cases h; exact .getfA hc rfl (Nat.eq_of_beq_eq_true hb) hk
    · cases h
  case h_9 =>
    split at h
    · rename_i hc; cases h; exact .lenS hc hk
    · cases h
  case h_10 =>
    split at h
    · rename_i hc
      split at h
      · rename_i hd; cases h; exact .lenL hc hd hk
      · cases h
    · cases h
  case h_11 =>
    split at h
    · rename_i hc; exact .ext hc h hk
    · cases h
  case h_12 =>
    split at h
    · rename_i h1 h2
      split at h
      · rename_i e; subst e; exact evCmp_ok h1 h2 h hk
      · cases h
    · rename_i h1 h2; exact evStr_ok h1 h2 h hk
    · cases h
  case h_13 =>
    split at h
    · rename_i hc; cases h; exact .not hc hk
    · cases h
  case h_14 =>
    split at h
    · rename_i h1 h2; cases h; exact .eqB h1 h2 rfl hk
    · cases h
  case h_15 =>
    split at h
    · rename_i h1 h2
      split at h
      · rename_i hr; cases h; exact .eqF h1 h2 hr rfl hk
      · cases h
    · cases h
  case h_16 =>
    rename_i zs parts
    cases hb : partsOk env zs.length parts with
    | false => rw [hb] at h; cases h
    | true =>
      rw [hb] at h
      simp only [cond_true] at h
      split at h
      · rename_i hd; cases h; exact .build hb hd hk
      · cases h
  case h_17 =>
    split at h
    · rename_i hc; cases h; exact .mkI hc hk
    · cases h
  case h_18 =>
    split at h
    · rename_i hc; cases h; exact .same hc hk
    · cases h
  case h_19 =>
    split at h
    · rename_i hc; cases h; exact .toInt hc hk
    · cases h
  case h_20 =>
    split at h
    · rename_i h1 h2
      split at h
      · rename_i e; subst e; cases h; exact .max h1 h2 hk
      · cases h
    · cases h
  case h_21 =>
    split at h
    · rename_i h1 h2
      split at h
      · rename_i e; subst e; cases h; exact .min h1 h2 hk
      · cases h
    · cases h
  case h_22 => cases h

/-! ### Comparisons decided ahead -/
def cmpY (op : BinOp) (m n : Int) : Prop := match op with
  | .lss => m < n | .gtr => m > n | .leq => m ≤ n | .geq => m ≥ n | .eql => m = n | .neq => m ≠ n | _ => False
def cmpN (op : BinOp) (m n : Int) : Prop := match op with
  | .lss => ¬ m < n | .gtr => ¬ m > n | .leq => ¬ m ≤ n | .geq => ¬ m ≥ n | .eql => ¬ m = n | .neq => m = n | _ => False
theorem OpT.cmpT {op : BinOp} {x y : Operand} {k : IntKind} {m n : Int} (hx : aget env x = some (.v (.int k m))) (hy : aget env y = some (.v (.int k n))) (h : cmpY op m n) (hk : K (.v (.bool true)) σ) : OpT P W0 (.bin op x y) env σ K X := by
  cases op <;> simp only [cmpY] at h <;> first | exact h.elim | skip
  · exact .eqIT hx hy h hk
  · exact .neIT hx hy h hk
  · exact .ltIT hx hy h hk
  · exact .leIT hx hy h hk
  · exact .gtIT hx hy h hk
  · exact .geIT hx hy h hk
theorem OpT.cmpF {op : BinOp} {x y : Operand} {k : IntKind} {m n : Int} (hx : aget env x = some (.v (.int k m))) (hy : aget env y = some (.v (.int k n))) (h : cmpN op m n) (hk : K (.v (.bool false)) σ) : OpT P W0 (.bin op x y) env σ K X := by
  cases op <;> simp only [cmpN] at h <;> first | exact h.elim | skip
  · exact .eqIF hx hy h hk
  · exact .neIF hx hy (fun e => e h) hk
  · exact .ltIF hx hy h hk
  · exact .leIF hx hy h hk
  · exact .gtIF hx hy h hk
  · exact .geIF hx hy h hk

/-! ### Boxes, found -/
inductive At : List Chunk → Nat → Chunk → Prop
  | here {c : Chunk} {σ : List Chunk} : At (c :: σ) 0 c
  | there {c d : Chunk} {σ : List Chunk} {i : Nat} (h : At σ i c) : At (d :: σ) (i + 1) c
theorem At.get {i : Nat} {c : Chunk} (h : At σ i c) : σ[i]? = some c := by
  induction h with
  | here => rfl
  | there _ ih => simpa using ih
theorem OpT.ldB {p : Operand} {b o i : Nat} {t : TypeId} {cs : List D} {d : D} (hp : aget env p = some (.v (.pointer (some ⟨b, o, none⟩)))) (hq : At σ i (.box b t cs)) (hd : cs[o]? = some d) (hk : K d σ) : OpT P W0 (.load false 1 p) env σ K X :=
  .loadB hp hq.get hd hk
theorem OpT.ldA {p : Operand} {n b o i : Nat} {t : TypeId} {cs es : List D} (hp : aget env p = some (.v (.pointer (some ⟨b, o, none⟩)))) (hq : At σ i (.box b t cs)) (hd : (cs.drop o).take n = es ∧ es.length = n) (hk : K (.agg es) σ) : OpT P W0 (.load true n p) env σ K X :=
  .loadBA hp hq.get hd.1 hd.2 hk
theorem OpT.stB {p x : Operand} {b o q : Nat} {t : TypeId} {cs : List D} {d : D} (hp : aget env p = some (.v (.pointer (some ⟨b, o, none⟩)))) (hx : aget env x = some d) (hq : At σ q (.box b t cs)) (hl : isCell d = true ∧ Nat.blt o cs.length = true) (hk : K .any (σ.set q (.box b t (cs.set o d)))) : OpT P W0 (.store 1 p x) env σ K X :=
  .storeB hp hx hl.1 hq.get hl.2 hk
theorem OpT.stA {p x : Operand} {n b o q : Nat} {t : TypeId} {cs ds cs' : List D} (hp : aget env p = some (.v (.pointer (some ⟨b, o, none⟩)))) (hx : aget env x = some (.agg ds)) (hq : At σ q (.box b t cs)) (hl : (allCell ds = true ∧ ds.length = n) ∧ Nat.ble (o + n) cs.length = true ∧ cs.take o ++ ds ++ cs.drop (o + n) = cs') (hk : K .any (σ.set q (.box b t cs'))) : OpT P W0 (.store n p x) env σ K X :=
  .storeBA hp hx hl.1.1 hl.1.2 hq.get (Nat.le_of_ble_eq_true hl.2.1) hl.2.2 hk
end Go.Abs
