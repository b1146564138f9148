/-
  An abstract layer over the model: the operations with their types' facts laid in (SOp), what a list of operations does to data and chunks (AOps), what a piece of code does (AWP), what a call does (ACalls).
-/
import Derived.Test.YtcbehloaegdkgaaDoorA1
set_option linter.unusedVariables false
set_option linter.unusedSimpArgs false
namespace Go.Abs
open Go

inductive SOp where
  | move (x : Operand)
  | pick (c a b : Operand)
  | alloc (t : TypeId) (zero : List D)
  | box (t : TypeId) (x : Operand)
  | build (zero : List D) (parts : List (Nat × Nat × Operand))
  | buildSl (esz len : Nat) (zero : List D) (parts : List (Nat × Operand))
  | load (agg : Bool) (n : Nat) (p : Operand)
  | store (n : Nat) (p x : Operand)
  | nilChk (x : Operand)
  | bin (op : BinOp) (x y : Operand)
  | eqB (op : BinOp) (x y : Operand)
  | eqP (op : BinOp) (x y : Operand)
  | eqT (op : BinOp) (t : TypeId) (x y : Operand)
  | eqF (op : BinOp) (ks : List Nat) (x y : Operand)
  | un (op : UnOp) (x : Operand)
  | toInt (k : IntKind) (x : Operand)
  | same (x : Operand)
  | strBytes (x : Operand)
  | bytesStr (x : Operand)
  | fld (off : Nat) (p : Operand)
  | getf (agg : Bool) (off n : Nat) (x : Operand)
  | idxA (esz : Nat) (x i : Operand)
  | idxR (len esz : Nat) (x i : Operand)
  | idxS (x i : Operand)
  | idxV (agg : Bool) (len esz : Nat) (x i : Operand)
  | slS (x : Operand) (lo hi : Option Operand)
  | slL (esz : Nat) (x : Operand) (lo hi mx : Option Operand)
  | lenS (x : Operand)
  | lenL (x : Operand)
  | lenM (x : Operand)
  | max (x y : Operand)
  | min (x y : Operand)
  | app (e : TypeId) (esz bytes : Nat) (x y : Operand)
  | appS (e : TypeId) (x y : Operand)
  | makeSl (esz bytes : Nat) (zero : List D) (l c : Operand)
  | call (f : FuncId) (args : List Operand)
  | callv (x : Operand) (args : List Operand)
  | ext (x : Operand) (i : Nat)
  | mkI (t : TypeId) (x : Operand)
  | mkF (f : FuncId) (first captured : List Operand)
  | pan (x : Operand)
  | raw (o : Op) (t : TypeId)
  deriving Inhabited

structure SOper where
  dst : Option Nat
  guard : Option (Nat × Bool)
  op : SOp
  after : List Nat
  deriving Inhabited

/-- A function that can be entered. -/
def canEnter (P : Program) (f : FuncId) : Bool :=
  match P.funcs[f]? with
  | some fn => fn.name != "runtime.NumGoroutine" && fn.body.isSome
  | none => false

/-- A scalar's kind, for '=='. -/
def eqKind : TypeDesc → Option Nat
  | .int _ => some 0
  | .string => some 1
  | .bool => some 2
  | _ => none

/-- The kinds of a struct's fields, where each is a scalar in the cell of its place. -/
def eqKinds (P : Program) : Nat → List Field → Option (List Nat)
  | _, [] => some []
  | i, f :: r => if f.name ≠ "_" ∧ f.offset = i then match (P.underlying f.type).bind eqKind, eqKinds P (i + 1) r with
      | some k, some l => some (k :: l)
      | _, _ => none
    else none

def isAggD : TypeDesc → Bool
  | .struct _ | .array _ _ => true
  | _ => false

/-- The type's facts, laid in. -/
inductive Slim (P : Program) : Op → TypeId → SOp → Prop
  | move {t} (x : Operand) : Slim P (.move x) t (.move x)
  | assign {t} (x : Operand) : Slim P (.assign x) t (.move x)
  | pick {t} (c a b : Operand) : Slim P (.pick c a b) t (.pick c a b)
  | alloc {t} {e : TypeId} {i : TypeInfo} {z : Value} (hi : P.info? e = some i) (hz : i.zero = some z) (zs : List D) (hs : z.cells.toList.map D.v = zs) : Slim P (.alloc e) t (.alloc e zs)
  | box {t} (e : TypeId) (x : Operand) : Slim P (.box e x) t (.box e x)
  | build {t} {s : TypeId} {i : TypeInfo} {z : Value} {fs : Array Field} {ps : Array (Nat × Operand)} {qs : List (Nat × Nat × Operand)} (hi : P.info? s = some i) (hz : i.zero = some z) (zs : List D) (hs : z.cells.toList.map D.v = zs)
      (hu : P.underlying s = some (.struct fs)) (hok : ∀ f ∈ fs.toList, P.info? f.type ≠ none) (hq : ps.toList.mapM (fun p => (fs[p.1]?).bind fun f => (P.info? f.type).map fun i => (f.offset, i.size, p.2)) = some qs) : Slim P (.build s ps) t (.build zs qs)
  | buildSl {t} {s e : TypeId} {i : TypeInfo} {z : Value} {len : Nat} {ps : Array (Nat × Operand)} (hu : P.underlying s = some (.slice e)) (hi : P.info? e = some i) (hz : i.zero = some z) (zs : List D) (hs : z.cells.toList.map D.v = zs)
      (hl : len * i.size ≤ 16777216) (hsz : zs.length = i.size) (h0 : 0 < i.size) : Slim P (.buildSlice s len ps) t (.buildSl i.size len zs ps.toList)
  | loadA {t} {s : TypeId} {i : TypeInfo} {d : TypeDesc} {x : Operand} (hu : P.underlying s = some d) (hd : isAggD d = true) (hi : P.info? s = some i) : Slim P (.load s x) t (.load true i.size x)
  | load1 {t} {s : TypeId} {d : TypeDesc} {x : Operand} (hu : P.underlying s = some d) (hd : isAggD d = false) : Slim P (.load s x) t (.load false 1 x)
  | store {t} {s : TypeId} {i : TypeInfo} {p x : Operand} (hi : P.info? s = some i) : Slim P (.store s p x) t (.store i.size p x)
  | nilChk {t} (x : Operand) : Slim P (.nilCheck x) t (.nilChk x)
  | bin {t} (op : BinOp) (s u : TypeId) (x y : Operand) : Slim P (.binOp op s x y u) t (.bin op x y)
  | eqB {t} {op : BinOp} {s u : TypeId} {x y : Operand} (hu : P.underlying s = some .bool) (ho : op = .eql ∨ op = .neq) : Slim P (.binOp op s x y u) t (.eqB op x y)
  | eqP {t} {op : BinOp} {s u e : TypeId} {x y : Operand} {i : TypeInfo} (hu : P.underlying s = some (.pointer e)) (hi : P.info? e = some i) (h0 : i.size ≠ 0) (ho : op = .eql ∨ op = .neq) : Slim P (.binOp op s x y u) t (.eqP op x y)
  | eqT {t} {op : BinOp} {s u : TypeId} {x y : Operand} (ho : op = .eql ∨ op = .neq) : Slim P (.binOp op s x y u) t (.eqT op s x y)
  | eqF {t} {op : BinOp} {s u : TypeId} {x y : Operand} {fs : Array Field} {ks : List Nat} (hu : P.underlying s = some (.struct fs)) (hh : P.stoodInHeld s = false) (hg : P.eqGuardType P.depth s = false) (hk : eqKinds P 0 fs.toList = some ks) (ho : op = .eql ∨ op = .neq) : Slim P (.binOp op s x y u) t (.eqF op ks x y)
  | un {t} (op : UnOp) (s : TypeId) (x : Operand) : Slim P (.unOp op s x) t (.un op x)
  | toInt {t} {a b : TypeId} {x : Operand} {k : IntKind} {d : TypeDesc} (hu : P.underlying b = some (.int k)) (ha : P.underlying a = some d) : Slim P (.convert a b x) t (.toInt k x)
  | sameS {t} {a b : TypeId} {x : Operand} {d : TypeDesc} (hu : P.underlying b = some .string) (ha : P.underlying a = some d) (hd : d = .string) : Slim P (.convert a b x) t (.same x)
  | strBytes {t} {a b e : TypeId} {x : Operand} {d : TypeDesc} (hu : P.underlying b = some (.slice e)) (he : P.underlying e = some (.int .u8)) (ha : P.underlying a = some d) (hd : d = .string) : Slim P (.convert a b x) t (.strBytes x)
  | bytesStr {t} {a b e : TypeId} {x : Operand} (hu : P.underlying a = some (.slice e)) (he : P.underlying e = some (.int .u8)) (hb : P.underlying b = some .string) : Slim P (.convert a b x) t (.bytesStr x)
  | fld {t} {s : TypeId} {fs : Array Field} {f : Field} {n : Nat} {x : Operand} {i : TypeInfo} (hu : P.underlying s = some (.struct fs)) (hf : fs[n]? = some f) (hi : P.info? f.type = some i) (h0 : i.size ≠ 0) : Slim P (.fieldAddr s x n) t (.fld f.offset x)
  | getf {t} {s : TypeId} {fs : Array Field} {f : Field} {n : Nat} {x : Operand} {i : TypeInfo} {d : TypeDesc} {b : Bool} (hu : P.underlying s = some (.struct fs)) (hf : fs[n]? = some f) (hi : P.info? f.type = some i) (hd : P.underlying f.type = some d)
      (hb : isAggD d = b) : Slim P (.field s x n) t (.getf b f.offset i.size x)
  | idxA {t} {s e : TypeId} {i : TypeInfo} {x y : Operand} (hu : P.underlying s = some (.slice e)) (hi : P.info? e = some i) : Slim P (.indexAddr s x y) t (.idxA i.size x y)
  | idxR {t} {s e : TypeId} {n : Nat} {i : TypeInfo} {x y : Operand} (hu : P.underlying s = some (.array n e)) (hi : P.info? e = some i) : Slim P (.indexAddr s x y) t (.idxR n i.size x y)
  | idxS {t} {s : TypeId} {x y : Operand} (hu : P.underlying s = some .string) : Slim P (.index s x y) t (.idxS x y)
  | idxV {t} {s e : TypeId} {n : Nat} {i : TypeInfo} {d : TypeDesc} {b : Bool} {x y : Operand} (hu : P.underlying s = some (.array n e)) (hi : P.info? e = some i) (hd : P.underlying e = some d)
      (hb : isAggD d = b) : Slim P (.index s x y) t (.idxV b n i.size x y)
  | slS {t} {s : TypeId} {x : Operand} {lo hi : Option Operand} (hu : P.underlying s = some .string) : Slim P (.slice s x lo hi none) t (.slS x lo hi)
  | slL {t} {s e : TypeId} {i : TypeInfo} {x : Operand} {lo hi mx : Option Operand} (hu : P.underlying s = some (.slice e)) (hn : P.info? e = some i) : Slim P (.slice s x lo hi mx) t (.slL i.size x lo hi mx)
  | lenS {t} {s : TypeId} {x : Operand} (hu : P.underlying s = some .string) : Slim P (.call { callee := .builtin .len, args := #[x], argTypes := #[s] }) t (.lenS x)
  | lenL {t} {s e : TypeId} {x : Operand} (hu : P.underlying s = some (.slice e)) : Slim P (.call { callee := .builtin .len, args := #[x], argTypes := #[s] }) t (.lenL x)
  | lenM {t} {s k e : TypeId} {x : Operand} (hu : P.underlying s = some (.map k e)) : Slim P (.call { callee := .builtin .len, args := #[x], argTypes := #[s] }) t (.lenM x)
  | max {t} {ts : Array TypeId} (x y : Operand) : Slim P (.call { callee := .builtin .max, args := #[x, y], argTypes := ts }) t (.max x y)
  | min {t} {ts : Array TypeId} (x y : Operand) : Slim P (.call { callee := .builtin .min, args := #[x, y], argTypes := ts }) t (.min x y)
  | app {t} {s u e : TypeId} {i : TypeInfo} {z : Value} {x y : Operand} {e' : TypeId} (hu : P.underlying s = some (.slice e)) (hy : P.underlying u = some (.slice e')) (hi : P.info? e = some i) (hz : i.zero = some z) (hsz : z.cells.size = i.size) (h0 : 0 < i.size) (hb : 0 < i.bytes) (hb' : i.bytes ≤ 65536) : Slim P (.call { callee := .builtin .append, args := #[x, y], argTypes := #[s, u] }) t (.app e i.size i.bytes x y)
  | appS {t} {s u e : TypeId} {i : TypeInfo} {x y : Operand} (hu : P.underlying s = some (.slice e)) (hy : P.underlying u = some .string) (hi : P.info? e = some i) (hz : i.zero = some (.int .u8 0))
      (hsz : i.size = 1) (hb : i.bytes = 1) : Slim P (.call { callee := .builtin .append, args := #[x, y], argTypes := #[s, u] }) t (.appS e x y)
  | makeSl {t} {s e : TypeId} {i : TypeInfo} {z : Value} {l c : Operand} (hu : P.underlying s = some (.slice e)) (hi : P.info? e = some i) (hz : i.zero = some z) (zs : List D) (hs : z.cells.toList.map D.v = zs)
      (hsz : zs.length = i.size) (h0 : 0 < i.size) : Slim P (.makeSlice s l c) t (.makeSl i.size i.bytes zs l c)
  | call {t} {f : FuncId} {args : Array Operand} {ts : Array TypeId} (h : canEnter P f = true) : Slim P (.call { callee := .value (.func f), args := args, argTypes := ts }) t (.call f args.toList)
  | callv {t} {x : Operand} {args : Array Operand} {ts : Array TypeId} : Slim P (.call { callee := .value x, args := args, argTypes := ts }) t (.callv x args.toList)
  | ext {t} (x : Operand) (i : Nat) : Slim P (.extract x i) t (.ext x i)
  | mkI {t} {s : TypeId} {x : Operand} {d : TypeDesc} (hu : P.underlying s = some d) (hd : ∀ ms, d ≠ .interface ms) : Slim P (.makeInterface s x) t (.mkI s x)
  | mkF {t} {f : FuncId} {first captured : Array Operand} : Slim P (.makeFunc (.func f) first captured) t (.mkF f first.toList captured.toList)
  | pan {t} (x : Operand) : Slim P (.panic x) t (.pan x)
  | raw (o : Op) (t : TypeId) : Slim P o t (.raw o t)

inductive AX where
  | nrm
  | exit (id : Nat)
  | goto (l : Nat)
  | ret
  | pan (d : D)

def ExitRel (Z : Nat → Prop) (w : World) : AX → Exit → Prop
  | .nrm, .normal => True
  | .exit i, .exit j => i = j
  | .goto i, .goto j => i = j
  | .ret, .ret => True
  | .pan d, .panic ch => ∃ v, ch = [{ v, recovered := false }] ∧ Rel Z w d v
  | _, _ => False

abbrev Env := List (Nat × D)

def eget : Env → Nat → Option D
  | [], _ => none
  | (t, d) :: e, n => bif Nat.beq t n then some d else eget e n

theorem eget_cons (t : Nat) (d : D) (e : Env) (n : Nat) : eget ((t, d) :: e) n = if t = n then some d else eget e n := by
  simp only [eget]
  by_cases h : t = n
  · subst h; simp
  · have : Nat.beq t n = false := by cases hh : Nat.beq t n <;> first | rfl | exact absurd (Nat.eq_of_beq_eq_true hh) h
    rw [this, if_neg h]; rfl

def aget (e : Env) : Operand → Option D
  | .tmp t => eget e t
  | .const v => some (.v v)
  | .global g => some (.v (.pointer (some ⟨g, 0, none⟩)))
  | .func f => some (.v (.func (.func f) #[] #[]))

def Env.put (e : Env) (dst : Option Nat) (d : D) : Env :=
  match dst with
  | some t => (t, d) :: e
  | none => e

structure Base (W0 : World) (Z : Nat → Prop) (w : World) : Prop where
  evo : Evo (fun b => b < W0.heap.size) W0 w
  low : ∀ b, b < W0.heap.size → Z b

structure Cfg (W0 : World) (N : Nat) (Z : Nat → Prop) (F : List Chunk) (env : Env) (σ : List Chunk) (a : Act) (w : World) : Prop where
  base : Base W0 Z w
  st : St Z (σ ++ F) w
  env : ∀ t d, eget env t = some d → Rel Z w d (a.tmps.getD t undef)
  size : a.tmps.size = N
  defers : a.defers = []

def Out (W0 : World) (N : Nat) (Z : Nat → Prop) (F : List Chunk) (w : World) (Q : AX → Env → List Chunk → Prop) : Exit → Act → World → Prop := fun e a' w' =>
  ∃ (Z' : Nat → Prop) (x : AX) (env' : Env) (σ' : List Chunk), (∀ b, Z b → Z' b) ∧ Evo Z w w' ∧ ExitRel Z' w' x e ∧ Q x env' σ' ∧ Cfg W0 N Z' F env' σ' a' w'

theorem Base.go {W0 : World} {Z Z' : Nat → Prop} {w w' : World} (h : Base W0 Z w) (hz : ∀ b, Z b → Z' b) (he : Evo Z w w') : Base W0 Z' w' :=
  ⟨h.evo.trans h.low he, fun b hb => hz b (h.low b hb)⟩

theorem Out.after {W0 : World} {N : Nat} {Z Z' : Nat → Prop} {F : List Chunk} {w w' : World} {Q : AX → Env → List Chunk → Prop} (hz : ∀ b, Z b → Z' b) (he : Evo Z w w') {e : Exit} {a : Act} {w2 : World}
    (h : Out W0 N Z' F w' Q e a w2) : Out W0 N Z F w Q e a w2 := by
  obtain ⟨Z2, x, env', σ', h1, h2, h3, h4, h5⟩ := h
  exact ⟨Z2, x, env', σ', fun b hb => h1 b (hz b hb), he.trans hz h2, h3, h4, h5⟩

theorem Out.mono {W0 : World} {N : Nat} {Z : Nat → Prop} {F : List Chunk} {w : World} {Q Q' : AX → Env → List Chunk → Prop} (hq : ∀ x e s, Q x e s → Q' x e s) {e : Exit} {a : Act} {w2 : World}
    (h : Out W0 N Z F w Q e a w2) : Out W0 N Z F w Q' e a w2 := by
  obtain ⟨Z2, x, env', σ', h1, h2, h3, h4, h5⟩ := h
  exact ⟨Z2, x, env', σ', h1, h2, h3, hq _ _ _ h4, h5⟩

/-- The slim operation of an operation in its region. -/
structure SlimOper (P : Program) (N : Nat) (ops : Array Oper) (o : Oper) (s : SOper) : Prop where
  dst : s.dst = o.dst
  lt : ∀ d, o.dst = some d → d < N
  op : Slim P o.op o.type s.op
  guard : match o.guard with
    | none => s.guard = none
    | some (j, want) => ∃ oj slot, ops[j]? = some oj ∧ oj.dst = some slot ∧ slot < N ∧ s.guard = some (slot, want)

inductive SlimList (P : Program) (N : Nat) (ops : Array Oper) : List Oper → List SOper → Prop
  | nil : SlimList P N ops [] []
  | cons {o s lo ls} (h : SlimOper P N ops o s) (t : SlimList P N ops lo ls) : SlimList P N ops (o :: lo) (s :: ls)

/-- What operations in their order do. -/
def AOps (P : Program) (W0 : World) (N : Nat) (l : List SOper) (env : Env) (σ : List Chunk) (Q : AX → Env → List Chunk → Prop) : Prop :=
  ∀ (ops : Array Oper) (lo : List Oper), SlimList P N ops lo l → ∀ (Z : Nat → Prop) (F : List Chunk) (a : Act) (w : World), Cfg W0 N Z F env σ a w →
    wpList P ops (Out W0 N Z F w Q) lo a w

theorem wpList_mono {P : Program} {ops : Array Oper} {Q Q' : Exit → Act → World → Prop} (h : ∀ e a w, Q e a w → Q' e a w) : ∀ (l : List Oper) (a : Act) (w : World), wpList P ops Q l a w → wpList P ops Q' l a w
  | [], a, w, hh => h _ _ _ hh
  | o :: rest, a, w, hh => by
    simp only [wpList] at hh ⊢
    split
    · rename_i hw
      rw [if_pos hw] at hh
      rcases hh with hh | ⟨ha, a0, w0, hq⟩
      · refine .inl ?_
        have h1 : o.wp P a w (wpList P ops Q' rest) Q := Oper.wp_mono (fun a w => wpList_mono h rest a w) hh
        unfold Oper.wp at h1 ⊢
        generalize (execOp a.eval o).run P w = r at h1 ⊢
        cases r with
        | ok n w' =>
          cases n <;> simp only [Oper.upon] at h1 ⊢ <;> first
            | exact h1
            | exact Calls.mono h1 (fun e w'' he => by cases e <;> first | exact he | exact h _ _ _ he | (obtain ⟨a0, w0, hq⟩ := he; exact ⟨a0, w0, h _ _ _ hq⟩))
        | halt x w' => cases x <;> simp only [Oper.upon] at h1 ⊢ <;> first | exact h1 | exact h _ _ _ h1
      · exact .inr ⟨ha, a0, w0, h _ _ _ hq⟩
    · rename_i hw
      rw [if_neg hw] at hh
      exact wpList_mono h rest _ _ hh

theorem getD_put_same {a : Act} {t : Nat} {v : Value} (h : t < a.tmps.size) : (a.put (some t) v).tmps.getD t undef = v := by
  simp [Act.put, Array.getD_eq_getD_getElem?, Array.getElem?_setIfInBounds, h]
theorem getD_put_other {a : Act} {t u : Nat} {v : Value} (h : t ≠ u) : (a.put (some t) v).tmps.getD u undef = a.tmps.getD u undef := by
  simp [Act.put, Array.getD_eq_getD_getElem?, Array.getElem?_setIfInBounds, h]

/-- An operation gave a value and, maybe, changed chunks. -/
theorem Cfg.put {W0 : World} {N : Nat} {Z Z' : Nat → Prop} {F : List Chunk} {env : Env} {σ σ' : List Chunk} {a : Act} {w w' : World} {dst : Option Nat} {d : D} {v : Value} (h : Cfg W0 N Z F env σ a w)
    (hl : ∀ t, dst = some t → t < N) (hz : ∀ b, Z b → Z' b) (he : Evo Z w w') (hs : St Z' (σ' ++ F) w') (hr : Rel Z' w' d v) : Cfg W0 N Z' F (env.put dst d) σ' (a.put dst v) w' := by
  refine ⟨h.base.go hz he, hs, ?_, ?_, ?_⟩
  · intro t d' hd
    cases dst with
    | none => exact (h.env t d' hd).mono hz he.block
    | some u =>
      simp only [Env.put, eget_cons] at hd
      by_cases e : u = t
      · subst e
        rw [if_pos rfl] at hd
        cases hd
        rw [getD_put_same (by rw [h.size]; exact hl _ rfl)]
        exact hr
      · rw [if_neg e] at hd
        rw [getD_put_other e]
        exact (h.env t d' hd).mono hz he.block
  · cases dst <;> simp [Act.put, h.size]
  · cases dst <;> simp [Act.put, h.defers]

theorem Cfg.weak {W0 : World} {N : Nat} {Z Z' : Nat → Prop} {F : List Chunk} {env : Env} {σ σ' : List Chunk} {a : Act} {w w' : World} (h : Cfg W0 N Z F env σ a w)
    (hz : ∀ b, Z b → Z' b) (he : Evo Z w w') (hs : St Z' (σ' ++ F) w') : Cfg W0 N Z' F env σ' a w' :=
  ⟨h.base.go hz he, hs, fun t d hd => (h.env t d hd).mono hz he.block, h.size, h.defers⟩

/-- What ONE operation does: to a datum and chunks, or to a panic. -/
def OpT (P : Program) (W0 : World) (op : SOp) (env : Env) (σ : List Chunk) (K : D → List Chunk → Prop) (X : D → List Chunk → Prop) : Prop :=
  ∀ (o : Oper), Slim P o.op o.type op → ∀ (N : Nat) (Z : Nat → Prop) (F : List Chunk) (a : Act) (w : World), Cfg W0 N Z F env σ a w → ∀ (next : Act → World → Prop) (Q : Exit → Act → World → Prop),
    (∀ (Z' : Nat → Prop) (v : Value) (d : D) (σ' : List Chunk) (w' : World), (∀ b, Z b → Z' b) → Evo Z w w' → St Z' (σ' ++ F) w' → Rel Z' w' d v → K d σ' → next (a.put o.dst v) w') →
    (∀ (Z' : Nat → Prop) (v : Value) (d : D) (σ' : List Chunk) (w' : World), (∀ b, Z b → Z' b) → Evo Z w w' → St Z' (σ' ++ F) w' → Rel Z' w' d v → X d σ' → Q (.panic [{ v, recovered := false }]) a w') →
    o.wp P a w next Q

theorem AOps.nil {P : Program} {W0 : World} {N : Nat} {env : Env} {σ : List Chunk} {Q : AX → Env → List Chunk → Prop} (h : Q .nrm env σ) : AOps P W0 N [] env σ Q := by
  intro ops lo hs Z F a w hc
  cases hs
  exact ⟨Z, .nrm, env, σ, fun _ h => h, .refl, trivial, h, hc⟩

theorem AOps.step {P : Program} {W0 : World} {N : Nat} {env : Env} {σ : List Chunk} {Q : AX → Env → List Chunk → Prop} {dst : Option Nat} {op : SOp} {af : List Nat} {l : List SOper}
    (h : OpT P W0 op env σ (fun d σ' => AOps P W0 N l (env.put dst d) σ' Q) (fun d σ' => Q (.pan d) env σ')) : AOps P W0 N (⟨dst, none, op, af⟩ :: l) env σ Q := by
  intro ops lo hs Z F a w hc
  cases hs with
  | cons ho ht =>
    rename_i o lo
    simp only [wpList]
    have hg : Region.wanted o (yielded ops a.tmps) = true := by
      have := ho.guard
      cases hgo : o.guard with
      | none => simp [Region.wanted, hgo]
      | some p =>
        rw [hgo] at this
        obtain ⟨_, _, _, _, _, h⟩ := this
        cases h
    rw [if_pos hg]
    refine .inl (h o ho.op N Z F a w hc _ _ ?_ ?_)
    · intro Z' v d σ' w' hz he hst hr hk
      refine wpList_mono (fun e a w hh => Out.after hz he hh) _ _ _ (hk ops lo ht Z' F _ w' ?_)
      have hd : dst = o.dst := ho.dst
      rw [hd]
      exact hc.put ho.lt hz he hst hr
    · intro Z' v d σ' w' hz he hst hr hx
      exact ⟨Z', .pan d, env, σ', hz, he, ⟨v, rfl, hr⟩, hx, hc.weak hz he hst⟩

/-- A guarded operation: by what its guard gave. -/
theorem AOps.guarded {P : Program} {W0 : World} {N : Nat} {env : Env} {σ : List Chunk} {Q : AX → Env → List Chunk → Prop} {dst : Option Nat} {op : SOp} {af : List Nat} {l : List SOper} {slot : Nat} {want : Bool} {b : Bool}
    (hb : eget env slot = some (.v (.bool b)))
    (h1 : b = want → AOps P W0 N (⟨dst, none, op, af⟩ :: l) env σ Q) (h2 : b = !want → AOps P W0 N l (env.put dst (.v undef)) σ Q) : AOps P W0 N (⟨dst, some (slot, want), op, af⟩ :: l) env σ Q := by
  intro ops lo hs Z F a w hc
  cases hs with
  | cons ho ht =>
    rename_i o lo
    have hg := ho.guard
    cases hgo : o.guard with
    | none => rw [hgo] at hg; cases hg
    | some p =>
      obtain ⟨j, wt⟩ := p
      rw [hgo] at hg
      obtain ⟨oj, sl, hj, hjd, hlt, he⟩ := hg
      cases he
      have hv := hc.env _ _ hb
      have hy : yielded ops a.tmps j = some b := by
        cases hv' : a.tmps.getD slot undef with
        | bool b' =>
          rw [hv'] at hv
          cases hv
          have : a.tmps[slot]? = some (.bool b) := by
            rw [Array.getD_eq_getD_getElem?] at hv'
            cases h3 : a.tmps[slot]? with
            | none => rw [h3] at hv'; simp [undef] at hv'
            | some u => rw [h3] at hv'; simp at hv'; rw [hv']
          simp [yielded, hj, hjd, this]
        | _ => rw [hv'] at hv; cases hv
      by_cases hbw : b = want
      · -- wanted: as the same list without the guard
        have hwant : Region.wanted o (yielded ops a.tmps) = true := by simp [Region.wanted, hgo, hy, hbw]
        have ho' : SlimOper P N ops { o with guard := none } ⟨dst, none, op, af⟩ := ⟨ho.dst, ho.lt, ho.op, rfl⟩
        have := h1 hbw ops ({ o with guard := none } :: lo) (.cons ho' ht) Z F a w hc
        simp only [wpList] at this ⊢
        rw [if_pos (by simp [Region.wanted])] at this
        rw [if_pos hwant]
        exact this
      · have hbn : b = !want := by cases b <;> cases want <;> simp_all
        have hwant : ¬ Region.wanted o (yielded ops a.tmps) = true := by
          simp only [Region.wanted, hgo, hy]
          simpa using hbw
        simp only [wpList]
        rw [if_neg hwant]
        refine h2 hbn ops lo ht Z F _ w ?_
        have hd : dst = o.dst := ho.dst
        rw [hd]
        exact hc.put ho.lt (fun _ h => h) .refl hc.st (.v _)

theorem AOps.gund {P : Program} {W0 : World} {N : Nat} {env : Env} {σ : List Chunk} {Q : AX → Env → List Chunk → Prop} {dst : Option Nat} {op : SOp} {af : List Nat} {l : List SOper} {slot : Nat} {want : Bool}
    (hb : eget env slot = some (.v undef))
    (h2 : AOps P W0 N l (env.put dst (.v undef)) σ Q) : AOps P W0 N (⟨dst, some (slot, want), op, af⟩ :: l) env σ Q := by
  intro ops lo hs Z F a w hc
  cases hs with
  | cons ho ht =>
    rename_i o lo
    have hg := ho.guard
    cases hgo : o.guard with
    | none => rw [hgo] at hg; cases hg
    | some p =>
      obtain ⟨j, wt⟩ := p
      rw [hgo] at hg
      obtain ⟨oj, sl, hj, hjd, hlt, he⟩ := hg
      cases he
      have hv := hc.env _ _ hb
      have hy : yielded ops a.tmps j = none := by
        generalize hg' : a.tmps.getD slot undef = u at hv
        cases hv
        rw [Array.getD_eq_getD_getElem?] at hg'
        cases h3 : a.tmps[slot]? with
        | none => simp [yielded, hj, hjd, h3]
        | some u => rw [h3] at hg'; simp at hg'; simp [yielded, hj, hjd, h3, hg', undef]
      have hwant : ¬ Region.wanted o (yielded ops a.tmps) = true := by
        simp only [Region.wanted, hgo, hy]
        simp
      simp only [wpList]
      rw [if_neg hwant]
      refine h2 ops lo ht Z F _ w ?_
      have hd : dst = o.dst := ho.dst
      rw [hd]
      exact hc.put ho.lt (fun _ h => h) .refl hc.st (.v _)

/-- Less is known of the slots. -/
theorem Cfg.less {W0 : World} {N : Nat} {Z : Nat → Prop} {F : List Chunk} {env env' : Env} {σ : List Chunk} {a : Act} {w : World} (h : Cfg W0 N Z F env σ a w)
    (hl : ∀ t d, eget env' t = some d → eget env t = some d) : Cfg W0 N Z F env' σ a w :=
  ⟨h.base, h.st, fun t d hd => h.env t d (hl t d hd), h.size, h.defers⟩


theorem Cfg.eval {W0 : World} {N : Nat} {Z : Nat → Prop} {F : List Chunk} {env : Env} {σ : List Chunk} {a : Act} {w : World} (h : Cfg W0 N Z F env σ a w) {x : Operand} {d : D} (hx : aget env x = some d) : Rel Z w d (a.eval x) := by
  cases x with
  | tmp t => exact h.env t d hx
  | const v => cases hx; exact .v v
  | «global» g => cases hx; exact .v _
  | func f => cases hx; exact .v _

theorem Cfg.eval_v {W0 : World} {N : Nat} {Z : Nat → Prop} {F : List Chunk} {env : Env} {σ : List Chunk} {a : Act} {w : World} (h : Cfg W0 N Z F env σ a w) {x : Operand} {v : Value} (hx : aget env x = some (.v v)) : a.eval x = v := by
  have := h.eval hx
  generalize a.eval x = u at this
  cases this
  rfl

/-- An operation that gives a value. -/
theorem OpT.of_run {P : Program} {W0 : World} {op : SOp} {env : Env} {σ σ' : List Chunk} {K : D → List Chunk → Prop} {X : D → List Chunk → Prop} {d : D}
    (h : ∀ (o : Oper), Slim P o.op o.type op → ∀ (N : Nat) (Z : Nat → Prop) (F : List Chunk) (a : Act) (w : World), Cfg W0 N Z F env σ a w →
      ∃ (Z' : Nat → Prop) (v : Value) (w' : World), (execOp a.eval o).run P w = .ok (.value v) w' ∧ (∀ b, Z b → Z' b) ∧ Evo Z w w' ∧ St Z' (σ' ++ F) w' ∧ Rel Z' w' d v) (hk : K d σ') : OpT P W0 op env σ K X := by
  intro o ho N Z F a w hc next Q hn _
  obtain ⟨Z', v, w', hr, hz, he, hs, hv⟩ := h o ho N Z F a w hc
  unfold Oper.wp
  rw [hr]
  exact hn Z' v d σ' w' hz he hs hv hk

theorem OpT.pure {P : Program} {W0 : World} {op : SOp} {env : Env} {σ : List Chunk} {K : D → List Chunk → Prop} {X : D → List Chunk → Prop} {d : D}
    (h : ∀ (o : Oper), Slim P o.op o.type op → ∀ (N : Nat) (Z : Nat → Prop) (F : List Chunk) (a : Act) (w : World), Cfg W0 N Z F env σ a w →
      ∃ v, (execOp a.eval o).run P w = .ok (.value v) w ∧ Rel Z w d v) (hk : K d σ) : OpT P W0 op env σ K X := by
  refine OpT.of_run (σ' := σ) (fun o ho N Z F a w hc => ?_) hk
  obtain ⟨v, hr, hv⟩ := h o ho N Z F a w hc
  exact ⟨Z, v, w, hr, fun _ h => h, .refl, hc.st, hv⟩

end Go.Abs
