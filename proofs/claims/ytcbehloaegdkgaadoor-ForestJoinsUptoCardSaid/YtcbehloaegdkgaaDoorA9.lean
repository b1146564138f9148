/-
  An abstract layer over the model: calls, code, ghosts, a function's body.
-/
import Derived.Test.YtcbehloaegdkgaaDoorA8
set_option linter.unusedVariables false
set_option linter.unusedSimpArgs false
namespace Go.Abs
open Go
variable {P : Program} {W0 : World} {env : Env} {σ : List Chunk}

inductive AR where
  | ret (d : D)
  | pan (d : D)

def ERel (Z : Nat → Prop) (w : World) : AR → Ending → Prop
  | .ret d, .returned v => Rel Z w d v
  | .pan d, .panicked ch => ∃ v, ch = [{ v, recovered := false }] ∧ Rel Z w d v
  | _, _ => False

/-- What a call does, to data and chunks. -/
def ACalls (P : Program) (W0 : World) (f : FuncId) (args : List D) (σ : List Chunk) (Q : AR → List Chunk → Prop) : Prop :=
  ∀ (Z : Nat → Prop) (F : List Chunk) (w : World) (vs : Array Value), Base W0 Z w → St Z (σ ++ F) w → vs.size = args.length → (∀ i d, args[i]? = some d → Rel Z w d (vs.getD i undef)) →
    Calls P f vs w fun e w' => ∃ (Z' : Nat → Prop) (x : AR) (σ' : List Chunk), (∀ b, Z b → Z' b) ∧ Evo Z w w' ∧ ERel Z' w' x e ∧ Q x σ' ∧ St Z' (σ' ++ F) w'

theorem ACalls.mono {f : FuncId} {args : List D} {Q Q' : AR → List Chunk → Prop} (h : ACalls P W0 f args σ Q) (hq : ∀ x s, Q x s → Q' x s) : ACalls P W0 f args σ Q' :=
  fun Z F w vs hb hs hn hv => (h Z F w vs hb hs hn hv).mono fun _ _ ⟨Z', x, σ', h1, h2, h3, h4, h5⟩ => ⟨Z', x, σ', h1, h2, h3, hq _ _ h4, h5⟩

/-- It returns this, and touches no chunk. -/
def Gives (d : D) : AR → List Chunk → Prop := fun x σ => x = .ret d ∧ σ = []

def argsOf (env : Env) : List Operand → Option (List D)
  | [] => some []
  | x :: r => match aget env x with
    | some d => match argsOf env r with
      | some l => some (d :: l)
      | none => none
    | none => none

theorem Cfg.args {N : Nat} {Z : Nat → Prop} {F : List Chunk} {a : Act} {w : World} (hc : Cfg W0 N Z F env σ a w) {xs : List Operand} {ds : List D} (h : argsOf env xs = some ds) :
    ds.length = xs.length ∧ ∀ i d, ds[i]? = some d → Rel Z w d ((xs.map a.eval).getD i undef) := by
  induction xs generalizing ds with
  | nil => simp [argsOf] at h; subst h; exact ⟨rfl, fun i d hd => by simp at hd⟩
  | cons x r ih =>
    simp only [argsOf] at h
    split at h
    · rename_i d hd
      split at h
      · rename_i l hl
        cases h
        obtain ⟨h1, h2⟩ := ih hl
        refine ⟨by simp [h1], fun i e he => ?_⟩
        cases i with
        | zero => simp at he; subst he; exact hc.eval hd
        | succ i => simp at he; simpa using h2 i e he
      · cases h
    · cases h

theorem run_call_func {f : FuncId} (h : canEnter P f = true) (a : Act) (args : Array Operand) (ts : Array TypeId) (dst : Option Tmp) (ty : TypeId) (pos : String) (after : Array Edge) (guard : Option (Nat × Bool)) (x : Operand) (first cap : Array Value) (hx : a.eval x = .func (.func f) first cap) (w : World) :
    (execOp a.eval ⟨dst, .call { callee := .value x, args := args, argTypes := ts }, ty, pos, after, guard⟩).run P w = .ok (.enter f (first ++ args.map a.eval ++ cap)) w := by
  unfold canEnter at h
  cases hf : P.funcs[f]? with
  | none => rw [hf] at h; cases h
  | some fn =>
    rw [hf] at h
    simp only [Bool.and_eq_true, bne_iff_ne, ne_eq] at h
    have h2 : fn.body.isNone = false := by cases hb : fn.body <;> simp_all
    have h3 : fn.body ≠ none := by intro e; rw [e] at h2; cases h2
    simp [execOp, resolve, Deferred.ofValue, hx, invoke, callFunc, hf, h.1, h3]

theorem OpT.call_of {op : SOp} {f : FuncId} {ds : List D} {σ1 σ2 : List Chunk} {Qc : AR → List Chunk → Prop} {K : D → List Chunk → Prop} {X : D → List Chunk → Prop}
    (h : ∀ (o : Oper), Slim P o.op o.type op → ∀ (N : Nat) (Z : Nat → Prop) (F : List Chunk) (a : Act) (w : World), Cfg W0 N Z F env σ a w →
      ∃ vs : Array Value, (execOp a.eval o).run P w = .ok (.enter f vs) w ∧ vs.size = ds.length ∧ ∀ i d, ds[i]? = some d → Rel Z w d (vs.getD i undef))
    (hp : σ.Perm (σ1 ++ σ2)) (hc : ACalls P W0 f ds σ1 Qc) (hk : ∀ d σ', Qc (.ret d) σ' → K d (σ' ++ σ2)) (hx : ∀ d σ', Qc (.pan d) σ' → X d (σ' ++ σ2)) : OpT P W0 op env σ K X := by
  intro o ho N Z F a w hcfg next Q hn hQ
  obtain ⟨vs, hr, hsz, hrel⟩ := h o ho N Z F a w hcfg
  unfold Oper.wp
  rw [hr]
  have hst : St Z (σ1 ++ (σ2 ++ F)) w := hcfg.st.perm (by rw [← List.append_assoc]; exact hp.append_right F)
  refine (hc Z (σ2 ++ F) w vs hcfg.base hst hsz hrel).mono fun e w' => ?_
  rintro ⟨Z', x, σ', h1, h2, h3, h4, h5⟩
  rw [← List.append_assoc] at h5
  cases x with
  | ret d =>
    cases e with
    | returned v => exact hn Z' v d _ w' h1 h2 h5 h3 (hk d σ' h4)
    | panicked ch => exact h3.elim
    | outgrown => exact h3.elim
  | pan d =>
    cases e with
    | returned v => exact h3.elim
    | panicked ch =>
      obtain ⟨v, rfl, hv⟩ := h3
      exact hQ Z' v d _ w' h1 h2 h5 hv (hx d σ' h4)
    | outgrown => exact h3.elim

theorem OpT.call {f : FuncId} {xs : List Operand} {ds : List D} {σ1 σ2 : List Chunk} {Qc : AR → List Chunk → Prop} {K : D → List Chunk → Prop} {X : D → List Chunk → Prop} (ha : argsOf env xs = some ds) (hp : σ.Perm (σ1 ++ σ2)) (hc : ACalls P W0 f ds σ1 Qc)
    (hk : ∀ d σ', Qc (.ret d) σ' → K d (σ' ++ σ2)) (hx : ∀ d σ', Qc (.pan d) σ' → X d (σ' ++ σ2)) : OpT P W0 (.call f xs) env σ K X := by
  refine OpT.call_of (fun o ho N Z F a w hcfg => ?_) hp hc hk hx
  obtain ⟨dst, op, ty, pos, after, guard⟩ := o
  obtain ⟨h1, h2⟩ := hcfg.args ha
  cases ho with
  | call h =>
    rename_i args ts
    refine ⟨args.map a.eval, ?_, by simpa using h1.symm, fun i d hd => ?_⟩
    · have := run_call_func h a args ts dst ty pos after guard (.func f) #[] #[] rfl w
      simpa using this
    · have := h2 i d hd
      rw [← Array.toList_map, List.getD_eq_getElem?_getD, Array.getElem?_toList, ← Array.getD_eq_getD_getElem?] at this
      exact this

/-- A call of a function that touches no chunk. -/
theorem OpT.callp {f : FuncId} {xs : List Operand} {ds : List D} {d : D} {K : D → List Chunk → Prop} {X : D → List Chunk → Prop} (ha : argsOf env xs = some ds) (hc : ACalls P W0 f ds [] (Gives d)) (hk : K d σ) : OpT P W0 (.call f xs) env σ K X :=
  OpT.call ha (σ1 := []) (σ2 := σ) (by simp) hc (fun d' σ' h => by obtain ⟨h1, h2⟩ := h; cases h1; subst h2; exact hk) (fun d' σ' h => by obtain ⟨h1, _⟩ := h; cases h1)

/-- A call of a function value. -/
theorem OpT.callv {f : FuncId} {x : Operand} {first cap : Array Value} {xs : List Operand} {ds : List D} {σ1 σ2 : List Chunk} {Qc : AR → List Chunk → Prop} {K : D → List Chunk → Prop} {X : D → List Chunk → Prop} (hx : aget env x = some (.v (.func (.func f) first cap))) (hf : canEnter P f = true)
    (ha : argsOf env xs = some ds) (hp : σ.Perm (σ1 ++ σ2)) (hc : ACalls P W0 f (first.toList.map D.v ++ ds ++ cap.toList.map D.v) σ1 Qc)
    (hk : ∀ d σ', Qc (.ret d) σ' → K d (σ' ++ σ2)) (hX : ∀ d σ', Qc (.pan d) σ' → X d (σ' ++ σ2)) : OpT P W0 (.callv x xs) env σ K X := by
  refine OpT.call_of (fun o ho N Z F a w hcfg => ?_) hp hc hk hX
  obtain ⟨dst, op, ty, pos, after, guard⟩ := o
  obtain ⟨h1, h2⟩ := hcfg.args ha
  cases ho with
  | callv =>
    rename_i args ts
    refine ⟨_, run_call_func hf a args ts dst ty pos after guard x first cap (hcfg.eval_v hx) w, ?_, fun i d hd => ?_⟩
    · simp at h1 ⊢; omega
    · simp only [Array.getD_eq_getD_getElem?, Array.getElem?_append, List.append_assoc] at hd ⊢
      rw [List.getElem?_append] at hd
      simp only [List.length_map, Array.length_toList] at hd
      by_cases c1 : i < first.size
      · rw [if_pos c1] at hd
        rw [if_pos (by simp; omega), if_pos c1]
        rw [List.getElem?_map, Array.getElem?_toList] at hd
        cases hv : first[i]? with
        | none => rw [hv] at hd; cases hd
        | some v => rw [hv] at hd; cases hd; exact .v v
      · rw [if_neg c1, List.getElem?_append] at hd
        have hl : args.size = ds.length := by simpa using h1.symm
        by_cases c2 : i - first.size < ds.length
        · rw [if_pos c2] at hd
          rw [if_pos (by simp; omega), if_neg c1]
          have := h2 _ d hd
          rw [← Array.toList_map, List.getD_eq_getElem?_getD, Array.getElem?_toList] at this
          exact this
        · rw [if_neg c2] at hd
          rw [if_neg (by simp; omega)]
          rw [List.getElem?_map, Array.getElem?_toList] at hd
          have e : i - (first ++ Array.map a.eval args).size = i - first.size - ds.length := by simp; omega
          rw [e]
          cases hv : cap[i - first.size - ds.length]? with
          | none => rw [hv] at hd; cases hd
          | some v => rw [hv] at hd; cases hd; exact .v v

/-! ### Structs of scalars, compared -/
def eqVal : Nat → Value → Value → Option Bool
  | 0, .int k a, .int k' b => if k = k' then some (decide (a = b)) else none
  | 1, .string a, .string b => some (decide (a = b))
  | 2, .bool a, .bool b => some (a == b)
  | _, _, _ => none

def eqD : List Nat → List D → List D → Option Bool
  | [], [], [] => some true
  | k :: ks, .v x :: xs, .v y :: ys => match eqVal k x y with
    | some a => match eqD ks xs ys with
      | some b => some (a && b)
      | none => none
    | none => none
  | _, _, _ => none

theorem eqFields_run {Z : Nat → Prop} {w : World} {us vs : Array Value} : ∀ {fs : List Field} {ks : List Nat} {xs ys : List D} {i : Nat} {r : Bool}, eqKinds P i fs = some ks → eqD ks xs ys = some r → (∀ j d, xs[j]? = some d → i + j < us.size ∧ Rel Z w d (us.getD (i + j) undef)) → (∀ j d, ys[j]? = some d → i + j < vs.size ∧ Rel Z w d (vs.getD (i + j) undef)) →
    (Op.eqFields 9999 us vs fs).run P w = .ok r w := by
  intro fs
  induction fs with
  | nil =>
    intro ks xs ys i r hk hd _ _
    simp [eqKinds] at hk
    subst hk
    cases xs <;> cases ys <;> simp [eqD] at hd
    subst hd; rfl
  | cons f fs ih =>
    intro ks xs ys i r hk hd hx hy
    simp only [eqKinds] at hk
    split at hk
    · rename_i hf
      split at hk
      · rename_i k l hk1 hk2
        cases hk
        cases xs with
        | nil => simp [eqD] at hd
        | cons x xs =>
          cases ys with
          | nil => cases x <;> simp [eqD] at hd
          | cons y ys =>
            cases x <;> try (simp [eqD] at hd; done)
            cases y <;> try (simp [eqD] at hd; done)
            rename_i x y
            simp only [eqD] at hd
            split at hd
            · rename_i a ha
              split at hd
              · rename_i b hb
                cases hd
                have ih' := ih (i := i + 1) hk2 hb (fun j d hj => by have := hx (j + 1) d hj; rwa [show i + 1 + j = i + (j + 1) by omega]) (fun j d hj => by have := hy (j + 1) d hj; rwa [show i + 1 + j = i + (j + 1) by omega])
                obtain ⟨hx1, hx2⟩ := hx 0 (.v x) rfl
                obtain ⟨hy1, hy2⟩ := hy 0 (.v y) rfl
                simp only [Nat.add_zero] at hx1 hx2 hy1 hy2
                cases hu : P.underlying f.type with
                | none => rw [hu] at hk1; cases hk1
                | some dd =>
                  rw [hu] at hk1
                  simp only [Option.bind_some] at hk1
                  have hagg : isAggD dd = false := by cases dd <;> first | rfl | (simp [eqKind] at hk1)
                  have px := run_part1 (P := P) hu hagg (cs := us) (off := f.offset) (by rw [hf.2]; exact hx1) w
                  have py := run_part1 (P := P) hu hagg (cs := vs) (off := f.offset) (by rw [hf.2]; exact hy1) w
                  rw [hf.2] at px py
                  have ex : us.getD i undef = x := by generalize us.getD i undef = u at hx2; cases hx2; rfl
                  have ey : vs.getD i undef = y := by generalize vs.getD i undef = u at hy2; cases hy2; rfl
                  rw [ex] at px
                  rw [ey] at py
                  have he : (Op.equalIn 9999 f.type x y).run P w = .ok a w := by
                    cases dd <;> simp [eqKind] at hk1
                    · subst hk1
                      cases x <;> try (simp [eqVal] at ha; done)
                      cases y <;> try (simp [eqVal] at ha; done)
                      simp [eqVal] at ha
                      subst ha
                      exact run_equalIn_bool w 9998 _ _ _ hu
                    · subst hk1
                      cases x <;> try (simp [eqVal] at ha; done)
                      cases y <;> try (simp [eqVal] at ha; done)
                      simp only [eqVal] at ha
                      split at ha
                      · rename_i hkk; subst hkk; cases ha
                        rw [run_equalIn_int w 9998 _ _ _ _ _ hu, beq_decide]
                      · cases ha
                    · subst hk1
                      cases x <;> try (simp [eqVal] at ha; done)
                      cases y <;> try (simp [eqVal] at ha; done)
                      simp [eqVal] at ha
                      subst ha
                      rw [run_equalIn_string w 9998 _ _ _ hu, bytes_eq_iff]
                  simp only [Op.eqFields]
                  rw [if_pos hf.1, hf.2]
                  simp only [Sem.run_bind, px, py, he, Result.andThen_ok]
                  cases a with
                  | true => simpa using ih'
                  | false => simp
              · cases hd
            · cases hd
      · cases hk
    · cases hk

theorem OpT.eqF {op : BinOp} {ks : List Nat} {x y : Operand} {xs ys : List D} {r q : Bool} {K : D → List Chunk → Prop} {X : D → List Chunk → Prop} (hx : aget env x = some (.agg xs)) (hy : aget env y = some (.agg ys)) (hr : eqD ks xs ys = some r) (hq : (match op with | .eql => r | _ => !r) = q)
    (hk : K (.v (.bool q)) σ) : OpT P W0 (.eqF op ks x y) env σ K X := by
  refine OpT.pure (fun o ho N Z F a w hc => ?_) hk
  obtain ⟨dst, o, ty, pos, after, guard⟩ := o
  have h1 := hc.eval hx
  have h2 := hc.eval hy
  generalize hu1 : a.eval x = u1 at h1
  generalize hu2 : a.eval y = u2 at h2
  cases h1 with
  | agg hl1 g1 =>
    cases h2 with
    | agg hl2 g2 =>
      cases ho with
      | eqF hu hh hg hkk hop =>
        rename_i us vs s u fs
        have e : P.fieldsOf s = fs := by simp [Program.fieldsOf, hu]
        have hrun := run_equalIn_struct (P := P) w 9999 s us vs (by rw [e]; exact hu) hh
        rw [e, eqFields_run (Z := Z) (i := 0) hkk hr (fun j d hj => by rw [Nat.zero_add]; exact ⟨by rw [← hl1]; exact (List.getElem?_eq_some_iff.1 hj).1, g1 j d hj⟩) (fun j d hj => by rw [Nat.zero_add]; exact ⟨by rw [← hl2]; exact (List.getElem?_eq_some_iff.1 hj).1, g2 j d hj⟩)] at hrun
        refine ⟨.bool q, ?_, .v _⟩
        subst hq
        simp only [execOp, hu1, hu2]
        rcases hop with rfl | rfl
        · simp only [Sem.run_bind, run_eqGuard_agg w _ _ _ _ _ _ hg, Result.andThen_ok, run_eql_struct, hrun]
          rfl
        · simp only [Sem.run_bind, run_eqGuard_agg w _ _ _ _ _ _ hg, Result.andThen_ok, run_neq_struct, hrun]
          rfl

theorem OpT.eqFe {ks : List Nat} {x y : Operand} {xs ys : List D} {r : Bool} {K : D → List Chunk → Prop} {X : D → List Chunk → Prop} (hx : aget env x = some (.agg xs)) (hy : aget env y = some (.agg ys)) (hr : eqD ks xs ys = some r)
    (hk : K (.v (.bool r)) σ) : OpT P W0 (.eqF .eql ks x y) env σ K X := OpT.eqF hx hy hr rfl hk
theorem OpT.eqFn {ks : List Nat} {x y : Operand} {xs ys : List D} {r : Bool} {K : D → List Chunk → Prop} {X : D → List Chunk → Prop} (hx : aget env x = some (.agg xs)) (hy : aget env y = some (.agg ys)) (hr : eqD ks xs ys = some r)
    (hk : K (.v (.bool (!r))) σ) : OpT P W0 (.eqF .neq ks x y) env σ K X := OpT.eqF hx hy hr rfl hk

/-! ### Code -/
inductive SCode where
  | skip
  | region (ops : List SOper)
  | draw (ops : List SOper)
  | seq (a b : SCode)
  | cond (c : Operand) (thn els : SCode)
  | block (id : Nat) (body : SCode)
  | loop (body : SCode)
  | exit (id : Nat)
  | ret
  | raw (c : Code)
  deriving Inhabited

/-- The operations that one waits for. -/
def edgesOf (o : Oper) : List Nat := (o.after.toList.filter (Region.binds .any ·)).map (·.on)

inductive SlimC (P : Program) (N : Nat) : Code → SCode → Prop
  | skip : SlimC P N .skip .skip
  | region {id : Nat} {ops : Array Oper} {l : List SOper} (h : SlimList P N ops ops.toList l) : SlimC P N (.region id ops false) (.region l)
  | draw {id : Nat} {ops : Array Oper} {l : List SOper} (h : SlimList P N ops ops.toList l) (he : l.map (·.after) = ops.toList.map edgesOf) : SlimC P N (.region id ops true) (.draw l)
  | seq {a b : Code} {x y : SCode} (h1 : SlimC P N a x) (h2 : SlimC P N b y) : SlimC P N (.seq a b) (.seq x y)
  | cond {c : Operand} {a b : Code} {x y : SCode} (h1 : SlimC P N a x) (h2 : SlimC P N b y) : SlimC P N (.cond c a b) (.cond c x y)
  | block {id : Nat} {a : Code} {x : SCode} (h : SlimC P N a x) : SlimC P N (.block id a) (.block id x)
  | loop {a : Code} {x : SCode} (h : SlimC P N a x) : SlimC P N (.loop a) (.loop x)
  | exit {id : Nat} : SlimC P N (.exit id) (.exit id)
  | ret : SlimC P N .ret .ret
  | raw (c : Code) : SlimC P N c (.raw c)

/-- What a piece of code does, to data and chunks. -/
def AWP (P : Program) (W0 : World) (N : Nat) (s : SCode) (env : Env) (σ : List Chunk) (Q : AX → Env → List Chunk → Prop) : Prop :=
  ∀ (c : Code), SlimC P N c s → ∀ (Z : Nat → Prop) (F : List Chunk) (a : Act) (w : World), Cfg W0 N Z F env σ a w → c.wp P (Out W0 N Z F w Q) a w

variable {N : Nat} {Q : AX → Env → List Chunk → Prop}

theorem AWP.mono {s : SCode} {Q' : AX → Env → List Chunk → Prop} (h : AWP P W0 N s env σ Q) (hq : ∀ x e s, Q x e s → Q' x e s) : AWP P W0 N s env σ Q' :=
  fun c hs Z F a w hc => wp_mono (h c hs Z F a w hc) fun _ _ _ ho => ho.mono hq

theorem AWP.ghost {s : SCode} {env' : Env} {σ' : List Chunk} (h : ∀ (N : Nat) (Z : Nat → Prop) (F : List Chunk) (a : Act) (w : World), Cfg W0 N Z F env σ a w → ∃ Z' : Nat → Prop, (∀ b, Z b → Z' b) ∧ Cfg W0 N Z' F env' σ' a w)
    (k : AWP P W0 N s env' σ' Q) : AWP P W0 N s env σ Q := by
  intro c hs Z F a w hc
  obtain ⟨Z', hz, hc'⟩ := h N Z F a w hc
  exact wp_mono (k c hs Z' F a w hc') fun _ _ _ ho => Out.after hz .refl ho

theorem AOps.ghost {l : List SOper} {env' : Env} {σ' : List Chunk} (h : ∀ (N : Nat) (Z : Nat → Prop) (F : List Chunk) (a : Act) (w : World), Cfg W0 N Z F env σ a w → ∃ Z' : Nat → Prop, (∀ b, Z b → Z' b) ∧ Cfg W0 N Z' F env' σ' a w)
    (k : AOps P W0 N l env' σ' Q) : AOps P W0 N l env σ Q := by
  intro ops lo hs Z F a w hc
  obtain ⟨Z', hz, hc'⟩ := h N Z F a w hc
  exact wpList_mono (fun _ _ _ ho => Out.after hz .refl ho) _ _ _ (k ops lo hs Z' F a w hc')

theorem AWP.skip (h : Q .nrm env σ) : AWP P W0 N .skip env σ Q := by
  intro c hs Z F a w hc
  cases hs
  exact wp_skip ⟨Z, .nrm, env, σ, fun _ h => h, .refl, trivial, h, hc⟩
theorem AWP.exit {id : Nat} (h : Q (.exit id) env σ) : AWP P W0 N (.exit id) env σ Q := by
  intro c hs Z F a w hc
  cases hs
  exact wp_exit ⟨Z, .exit id, env, σ, fun _ h => h, .refl, rfl, h, hc⟩
theorem AWP.ret (h : Q .ret env σ) : AWP P W0 N .ret env σ Q := by
  intro c hs Z F a w hc
  cases hs
  exact wp_ret ⟨Z, .ret, env, σ, fun _ h => h, .refl, trivial, h, hc⟩
theorem AWP.region {ops : List SOper} (h : AOps P W0 N ops env σ Q) : AWP P W0 N (.region ops) env σ Q := by
  intro c hs Z F a w hc
  cases hs with
  | region hl => exact wp_region_list (h _ _ hl Z F a w hc)

/-- Behind the first part. -/
def Then (P : Program) (W0 : World) (N : Nat) (y : SCode) (Q : AX → Env → List Chunk → Prop) : AX → Env → List Chunk → Prop
  | .nrm, env, σ => AWP P W0 N y env σ Q
  | x, env, σ => Q x env σ

theorem AWP.seq {x y : SCode} (h : AWP P W0 N x env σ (Then P W0 N y Q)) : AWP P W0 N (.seq x y) env σ Q := by
  intro c hs Z F a w hc
  cases hs with
  | seq h1 h2 =>
    refine wp_seq (wp_mono (h _ h1 Z F a w hc) fun e a' w' ho => ?_)
    obtain ⟨Z', x, env', σ', g1, g2, g3, g4, g5⟩ := ho
    have g3c := g3
    cases e <;> cases x <;> simp only [ExitRel] at g3 <;> try (exact g3.elim)
    · exact wp_mono (g4 _ h2 Z' F a' w' g5) fun _ _ _ ho => Out.after g1 g2 ho
    all_goals exact ⟨Z', _, env', σ', g1, g2, g3c, g4, g5⟩

theorem AWP.cond {c : Operand} {x y : SCode} {b : Bool} (hb : aget env c = some (.v (.bool b))) (h1 : b = true → AWP P W0 N x env σ Q) (h2 : b = false → AWP P W0 N y env σ Q) : AWP P W0 N (.cond c x y) env σ Q := by
  intro c hs Z F a w hc
  cases hs with
  | cond g1 g2 => exact wp_cond_split (hc.eval_v hb) (fun e => h1 e _ g1 Z F a w hc) (fun e => h2 e _ g2 Z F a w hc)

/-- A block's exits. -/
def Inside (id : Nat) (Q : AX → Env → List Chunk → Prop) : AX → Env → List Chunk → Prop
  | .exit j, env, σ => if j = id then Q .nrm env σ else Q (.exit j) env σ
  | x, env, σ => Q x env σ

theorem AWP.block {id : Nat} {x : SCode} (h : AWP P W0 N x env σ (Inside id Q)) : AWP P W0 N (.block id x) env σ Q := by
  intro c hs Z F a w hc
  cases hs with
  | block g =>
    refine wp_block (wp_mono (h _ g Z F a w hc) fun e a' w' ho => ?_)
    obtain ⟨Z', x, env', σ', g1, g2, g3, g4, g5⟩ := ho
    have g3c := g3
    cases e <;> cases x <;> simp only [ExitRel] at g3 <;> try (exact g3.elim)
    case exit.exit j i =>
      subst g3
      simp only [Inside] at g4
      simp only [Exit.inBlock]
      split
      · rename_i h; rw [if_pos h] at g4; exact ⟨Z', .nrm, env', σ', g1, g2, trivial, g4, g5⟩
      · rename_i h; rw [if_neg h] at g4; exact ⟨Z', .exit _, env', σ', g1, g2, rfl, g4, g5⟩
    all_goals exact ⟨Z', _, env', σ', g1, g2, g3c, g4, g5⟩

/-- Known slots that are known there, too. -/
def esub : Env → Env → Prop
  | [], _ => True
  | (t, d) :: r, e => eget e t = some d ∧ esub r e

theorem esub_get {e2 e : Env} (h : esub e2 e) : ∀ t d, eget e2 t = some d → eget e t = some d := by
  induction e2 with
  | nil => intro t d hd; cases hd
  | cons p r ih =>
    obtain ⟨t, d⟩ := p
    intro u d' hd
    rw [eget_cons] at hd
    by_cases e1 : t = u
    · subst e1; rw [if_pos rfl] at hd; cases hd; exact h.1
    · rw [if_neg e1] at hd; exact ih h.2 u d' hd

theorem wp_loop_rel {c : Code} {Q : Exit → Act → World → Prop} (I : Nat → Act → World → Prop)
    (round : ∀ n a w, I n a w → c.wp P (Exit.then (fun a' w' => ∃ m, m < n ∧ I m a' w') Q) a w) {n : Nat} {a : Act} {w : World} (h₀ : I n a w) : (Code.loop c).wp P Q a w := by
  intro b k cs
  have key : ∀ n a w, I n a w → ∃ e a' w', Q e a' w' ∧ Arrives P (lone (b.at a (.code c :: .inLoop c :: k)) cs w) b k cs e a' w' := by
    intro n
    induction n using Nat.strongRecOn with
    | _ n ih =>
      intro a w hI
      obtain ⟨e, a₁, w₁, hq, harr⟩ := round n a w hI b (.inLoop c :: k) cs
      cases e with
      | normal =>
        obtain ⟨m, hlt, hI₁⟩ := hq
        obtain ⟨e₂, a₂, w₂, hq₂, harr₂⟩ := ih m hlt a₁ w₁ hI₁
        exact ⟨e₂, a₂, w₂, hq₂, .of_steps (Steps.trans harr (.one step_inLoop)) harr₂⟩
      | exit id => exact ⟨_, a₁, w₁, hq, .pass (x := .inLoop c) rfl (fun _ _ => .inl (by simp)) harr⟩
      | goto l => exact ⟨_, a₁, w₁, hq, .pass (x := .inLoop c) rfl (fun _ _ => .inl (by simp)) harr⟩
      | ret => exact ⟨_, a₁, w₁, hq, .pass (x := .inLoop c) rfl (fun _ _ => .inl (by simp)) harr⟩
      | panic ch => exact ⟨_, a₁, w₁, hq, .pass (x := .inLoop c) rfl (fun _ _ => .inl (by simp)) harr⟩
      | outgrown => exact ⟨_, a₁, w₁, hq, .pass (x := .inLoop c) rfl (fun _ _ => .inl (by simp)) harr⟩
  obtain ⟨e, a', w', hq, harr⟩ := key n a w h₀
  exact ⟨e, a', w', hq, .of_steps (.one step_loop) harr⟩

/-- A round of a loop: goes round again, with less to go, or leaves. -/
def Round (J : Nat → Env → List Chunk → Prop) (n : Nat) (Q : AX → Env → List Chunk → Prop) : AX → Env → List Chunk → Prop
  | .nrm, env, σ => ∃ m env2, m < n ∧ esub env2 env ∧ J m env2 σ
  | x, env, σ => Q x env σ

theorem AWP.loop {x : SCode} (J : Nat → Env → List Chunk → Prop) (n : Nat) (h0 : J n env σ) (h : ∀ n env σ, J n env σ → AWP P W0 N x env σ (Round J n Q)) : AWP P W0 N (.loop x) env σ Q := by
  intro c hs Z F a w hc
  cases hs with
  | loop g =>
    refine wp_loop_rel (n := n) (fun n a' w' => ∃ (Z' : Nat → Prop) (env' : Env) (σ' : List Chunk), (∀ b, Z b → Z' b) ∧ Evo Z w w' ∧ J n env' σ' ∧ Cfg W0 N Z' F env' σ' a' w') (fun n a' w' hI => ?_) ⟨Z, env, σ, fun _ h => h, .refl, h0, hc⟩
    obtain ⟨Z', env', σ', h1, h2, h3, h4⟩ := hI
    refine wp_mono (h n env' σ' h3 _ g Z' F a' w' h4) fun e a2 w2 ho => ?_
    obtain ⟨Z2, x, env2, σ2, g1, g2, g3, g4, g5⟩ := ho
    have g3c := g3
    cases e <;> cases x <;> simp only [ExitRel] at g3 <;> try (exact g3.elim)
    · obtain ⟨m, env3, hlt, hsub, hJ⟩ := g4
      exact ⟨m, hlt, Z2, env3, σ2, fun b hb => g1 b (h1 b hb), h2.trans h1 g2, hJ, g5.less (esub_get hsub)⟩
    all_goals exact ⟨Z2, _, env2, σ2, fun b hb => g1 b (h1 b hb), h2.trans h1 g2, g3c, g4, g5⟩

/-! ### Ghosts -/
theorem AWP.less {s : SCode} {env' : Env} (h : esub env' env) (k : AWP P W0 N s env' σ Q) : AWP P W0 N s env σ Q :=
  AWP.ghost (fun _ Z _ _ _ hc => ⟨Z, fun _ h => h, hc.less (esub_get h)⟩) k

theorem Cfg.perm {Z : Nat → Prop} {F : List Chunk} {a : Act} {w : World} (h : Cfg W0 N Z F env σ a w) {σ' : List Chunk} (p : σ.Perm σ') : Cfg W0 N Z F env σ' a w :=
  ⟨h.base, h.st.perm (p.append_right F), h.env, h.size, h.defers⟩

theorem AWP.perm {s : SCode} {σ' : List Chunk} (p : σ.Perm σ') (k : AWP P W0 N s env σ' Q) : AWP P W0 N s env σ Q :=
  AWP.ghost (fun _ Z _ _ _ hc => ⟨Z, fun _ h => h, hc.perm p⟩) k

theorem Cfg.drop {Z : Nat → Prop} {F : List Chunk} {a : Act} {w : World} (h : Cfg W0 N Z F env σ a w) (i : Nat) : Cfg W0 N Z F env (σ.eraseIdx i) a w :=
  ⟨h.base, h.st.drop, h.env, h.size, h.defers⟩

theorem AWP.drop {s : SCode} (i : Nat) (k : AWP P W0 N s env (σ.eraseIdx i) Q) : AWP P W0 N s env σ Q :=
  AWP.ghost (fun _ Z _ _ _ hc => ⟨Z, fun _ h => h, hc.drop i⟩) k
theorem AOps.drop {l : List SOper} (i : Nat) (k : AOps P W0 N l env (σ.eraseIdx i) Q) : AOps P W0 N l env σ Q :=
  AOps.ghost (fun _ Z _ _ _ hc => ⟨Z, fun _ h => h, hc.drop i⟩) k

/-- A slice that is nil is a slice of one's own, without elements. -/
theorem Cfg.nilSl {Z : Nat → Prop} {F : List Chunk} {a : Act} {w : World} (h : Cfg W0 N Z F env σ a w) {t : Nat} (esz : Nat) (ht : eget env t = some (.v (.slice none 0 0))) : Cfg W0 N Z F ((t, .sl .nil 0) :: env) (.arr .nil esz [] :: σ) a w := by
  refine ⟨h.base, St.cons (ch := .arr .nil esz []) rfl h.st (by simp [Chunk.blocks, Sl.blocks]) (by simp [Chunk.blocks, Sl.blocks]) (by simp [Chunk.blocks, Sl.blocks]), fun u d hd => ?_, h.size, h.defers⟩
  rw [eget_cons] at hd
  by_cases e : t = u
  · subst e; rw [if_pos rfl] at hd; cases hd
    have := h.env t _ ht
    generalize a.tmps.getD t undef = v at this
    cases this
    exact .sl .nil 0
  · rw [if_neg e] at hd; exact h.env u d hd

theorem AWP.nilSl {s : SCode} (t esz : Nat) (ht : eget env t = some (.v (.slice none 0 0))) (k : AWP P W0 N s ((t, .sl .nil 0) :: env) (.arr .nil esz [] :: σ) Q) : AWP P W0 N s env σ Q :=
  AWP.ghost (fun _ Z _ _ _ hc => ⟨Z, fun _ h => h, hc.nilSl esz ht⟩) k
theorem AOps.nilSl {l : List SOper} (t esz : Nat) (ht : eget env t = some (.v (.slice none 0 0))) (k : AOps P W0 N l ((t, .sl .nil 0) :: env) (.arr .nil esz [] :: σ) Q) : AOps P W0 N l env σ Q :=
  AOps.ghost (fun _ Z _ _ _ hc => ⟨Z, fun _ h => h, hc.nilSl esz ht⟩) k

/-- What is frozen is immutable: a slice of one's own. -/
theorem arr_ro {Z : Nat → Prop} {w : World} {s : Sl} {esz len : Nat} {els : List (List D)} (h : (Chunk.arr s esz els).holds Z w) (hl : len ≤ els.length) (hz : ∀ b ∈ s.blocks, Z b) : Rel Z w (.ro esz els len) (s.val len) := by
  cases s with
  | nil =>
    have : els = [] := h
    subst this
    have : len = 0 := by simpa using hl
    subst this
    exact .ronil none
  | «at» b pre cap tt =>
    obtain ⟨c, hrow, hsz, hcap, hel, hrel⟩ := h
    refine .ro (fun i j => c.getD (pre + i * esz + j) undef) (hz b (by simp [Sl.blocks])) hl hcap hel (fun i e j d he hd => ?_) hrel
    have h1 : i < els.length := (List.getElem?_eq_some_iff.1 he).1
    have h2 : j < esz := by rw [← hel i e he]; exact (List.getElem?_eq_some_iff.1 hd).1
    have h3 : i * esz + esz ≤ cap * esz := by rw [← Nat.succ_mul]; exact Nat.mul_le_mul_right _ (by omega)
    exact hrow.cell (by omega)

theorem Cfg.freeze {Z : Nat → Prop} {F : List Chunk} {a : Act} {w : World} (h : Cfg W0 N Z F env σ a w) {t i len : Nat} {s : Sl} {esz : Nat} {els : List (List D)} (hi : σ[i]? = some (.arr s esz els)) (ht : eget env t = some (.sl s len)) (hl : len ≤ els.length) :
    Cfg W0 N (fun b => Z b ∨ b ∈ s.blocks) F ((t, .ro esz els len) :: env) (σ.eraseIdx i) a w := by
  have hst := h.st.freeze hi
  have hz : ∀ b, Z b → Z b ∨ b ∈ s.blocks := fun _ h => .inl h
  refine ⟨h.base.go hz .refl, hst, fun u d hd => ?_, h.size, h.defers⟩
  rw [eget_cons] at hd
  by_cases e : t = u
  · subst e; rw [if_pos rfl] at hd; cases hd
    have hv := h.env t _ ht
    generalize a.tmps.getD t undef = v at hv
    cases hv
    exact arr_ro (Chunk.holds_mono (h.st.get hi) hz (fun _ _ => rfl) fun _ _ => rfl) hl fun b hb => .inr hb
  · rw [if_neg e] at hd; exact (h.env u d hd).mono hz fun _ _ => rfl

theorem AWP.freeze {s : SCode} (t i : Nat) {len : Nat} {sl : Sl} {esz : Nat} {els : List (List D)} (hi : σ[i]? = some (.arr sl esz els)) (ht : eget env t = some (.sl sl len)) (hl : len ≤ els.length) (k : AWP P W0 N s ((t, .ro esz els len) :: env) (σ.eraseIdx i) Q) : AWP P W0 N s env σ Q :=
  AWP.ghost (fun _ _ _ _ _ hc => ⟨_, fun _ h => .inl h, hc.freeze hi ht hl⟩) k
theorem AOps.freeze {l : List SOper} (t i : Nat) {len : Nat} {sl : Sl} {esz : Nat} {els : List (List D)} (hi : σ[i]? = some (.arr sl esz els)) (ht : eget env t = some (.sl sl len)) (hl : len ≤ els.length) (k : AOps P W0 N l ((t, .ro esz els len) :: env) (σ.eraseIdx i) Q) : AOps P W0 N l env σ Q :=
  AOps.ghost (fun _ _ _ _ _ hc => ⟨_, fun _ h => .inl h, hc.freeze hi ht hl⟩) k

/-- A box that is no longer written: a pointer into immutable memory. -/
theorem box_rp {Z : Nat → Prop} {w : World} {b : Nat} {t : TypeId} {cs : List D} (h : (Chunk.box b t cs).holds Z w) (hz : Z b) : Rel Z w (.rp cs) (.pointer (some ⟨b, 0, none⟩)) := by
  obtain ⟨c, hrow, hsz, hrel⟩ := h
  refine .rp (fun j => c.getD j undef) hz (fun j d hd => ?_) hrel
  have := (List.getElem?_eq_some_iff.1 hd).1
  rw [Nat.zero_add]
  exact hrow.cell (by omega)

theorem Cfg.freezeB {Z : Nat → Prop} {F : List Chunk} {a : Act} {w : World} (h : Cfg W0 N Z F env σ a w) {t i b : Nat} {ty : TypeId} {cs : List D} (hi : σ[i]? = some (.box b ty cs)) (ht : eget env t = some (.v (.pointer (some ⟨b, 0, none⟩)))) :
    Cfg W0 N (fun k => Z k ∨ k ∈ [b]) F ((t, .rp cs) :: env) (σ.eraseIdx i) a w := by
  have hst := h.st.freeze hi
  have hz : ∀ k, Z k → Z k ∨ k ∈ [b] := fun _ h => .inl h
  refine ⟨h.base.go hz .refl, hst, fun u d hd => ?_, h.size, h.defers⟩
  rw [eget_cons] at hd
  by_cases e : t = u
  · subst e; rw [if_pos rfl] at hd; cases hd
    have hv := h.env t _ ht
    generalize a.tmps.getD t undef = v at hv
    cases hv
    exact box_rp (Chunk.holds_mono (h.st.get hi) hz (fun _ _ => rfl) fun _ _ => rfl) (.inr (by simp))
  · rw [if_neg e] at hd; exact (h.env u d hd).mono hz fun _ _ => rfl

theorem AWP.freezeB {s : SCode} (t i : Nat) {b : Nat} {ty : TypeId} {cs : List D} (hi : σ[i]? = some (.box b ty cs)) (ht : eget env t = some (.v (.pointer (some ⟨b, 0, none⟩)))) (k : AWP P W0 N s ((t, .rp cs) :: env) (σ.eraseIdx i) Q) : AWP P W0 N s env σ Q :=
  AWP.ghost (fun _ _ _ _ _ hc => ⟨_, fun _ h => .inl h, hc.freezeB hi ht⟩) k
theorem AOps.freezeB {l : List SOper} (t i : Nat) {b : Nat} {ty : TypeId} {cs : List D} (hi : σ[i]? = some (.box b ty cs)) (ht : eget env t = some (.v (.pointer (some ⟨b, 0, none⟩)))) (k : AOps P W0 N l ((t, .rp cs) :: env) (σ.eraseIdx i) Q) : AOps P W0 N l env σ Q :=
  AOps.ghost (fun _ _ _ _ _ hc => ⟨_, fun _ h => .inl h, hc.freezeB hi ht⟩) k

/-! ### A function's body -/
inductive SRes where
  | tmp (t : Nat)
  | cell (agg : Bool) (n t : Nat)

inductive SlimRes (P : Program) : List ResultVar → List SRes → Prop
  | nil : SlimRes P [] []
  | tmp {t : Nat} {r : List ResultVar} {s : List SRes} (h : SlimRes P r s) : SlimRes P (.tmp t :: r) (.tmp t :: s)
  | cell {t : Nat} {ty : TypeId} {d : TypeDesc} {i : TypeInfo} {b : Bool} {r : List ResultVar} {s : List SRes} (hu : P.underlying ty = some d) (hi : P.info? ty = some i) (hb : isAggD d = b) (h : SlimRes P r s) : SlimRes P (.cell t ty :: r) (.cell b i.size t :: s)

def resOK (env : Env) (σ : List Chunk) : List SRes → List D → Prop
  | [], ds => ds = []
  | .tmp t :: r, ds => ∃ d l, ds = d :: l ∧ eget env t = some d ∧ resOK env σ r l
  | .cell false _ t :: r, ds => ∃ (d : D) (l : List D) (b i : Nat) (ty : TypeId) (cs : List D), ds = d :: l ∧ eget env t = some (.v (.pointer (some ⟨b, 0, none⟩))) ∧ σ[i]? = some (.box b ty cs) ∧ cs[0]? = some d ∧ resOK env σ r l
  | .cell true n t :: r, ds => ∃ (l : List D) (b i : Nat) (ty : TypeId) (cs : List D), ds = .agg cs :: l ∧ eget env t = some (.v (.pointer (some ⟨b, 0, none⟩))) ∧ σ[i]? = some (.box b ty cs) ∧ cs.length = n ∧ resOK env σ r l

def pack : List D → D
  | [d] => d
  | ds => .tup ds

/-- How a body ends. -/
def Fin (rs : List SRes) (Q : AR → List Chunk → Prop) : AX → Env → List Chunk → Prop
  | .nrm, env, σ => ∃ k ds, resOK env σ rs ds ∧ Q (.ret (pack ds)) (σ.drop k)
  | .ret, env, σ => ∃ k ds, resOK env σ rs ds ∧ Q (.ret (pack ds)) (σ.drop k)
  | .pan d, _, σ => ∃ k, Q (.pan d) (σ.drop k)
  | _, _, _ => False

theorem St.dropN {Z : Nat → Prop} {L F : List Chunk} {w : World} (h : St Z (L ++ F) w) (k : Nat) : St Z (L.drop k ++ F) w := by
  induction k generalizing L with
  | zero => exact h
  | succ k ih =>
    cases L with
    | nil => exact h
    | cons c L => exact ih h.tail

def oneRes (tmps : Array Value) : ResultVar → Sem Value
  | .tmp t => pure (tmps.getD t undef)
  | .cell a t => do loadVar t (← asAddr (tmps.getD a undef))

theorem run_results {rvs : List ResultVar} {rs : List SRes} (hs : SlimRes P rvs rs) {Z : Nat → Prop} {F : List Chunk} {a : Act} {w : World} (hc : Cfg W0 N Z F env σ a w) {ds : List D} (h : resOK env σ rs ds) :
    ∃ vs : List Value, (rvs.mapM (oneRes a.tmps)).run P w = .ok vs w ∧ vs.length = ds.length ∧ ∀ i d, ds[i]? = some d → Rel Z w d (vs.getD i undef) := by
  induction hs generalizing ds with
  | nil => simp [resOK] at h; subst h; exact ⟨[], rfl, rfl, fun i d hd => by simp at hd⟩
  | tmp hs ih =>
    rename_i t _ _
    obtain ⟨d, l, rfl, h1, h2⟩ := h
    obtain ⟨vs, g1, g2, g3⟩ := ih h2
    refine ⟨a.tmps.getD t undef :: vs, ?_, by simp [g2], fun i e he => ?_⟩
    · rw [List.mapM_cons, Sem.run_bind]
      simp only [oneRes, Sem.run_pure, Result.andThen_ok, Sem.run_bind, g1]
    · cases i with
      | zero => simp at he; subst he; exact hc.env t d h1
      | succ i => simp at he; simpa using g3 i e he
  | cell hu hi hb hs ih =>
    rename_i t ty dd i b r s
    cases b with
    | false =>
      obtain ⟨d, l, b, q, bty, cs, rfl, h1, h2, h3, h4⟩ := h
      obtain ⟨vs, g1, g2, g3⟩ := ih h4
      have hp : a.tmps.getD t undef = .pointer (some ⟨b, 0, none⟩) := hc.eval_v (x := .tmp t) h1
      obtain ⟨c, hrow, hsz, hrel⟩ := hc.st.get h2
      have hlt : 0 < c.size := by have := (List.getElem?_eq_some_iff.1 h3).1; omega
      refine ⟨c.getD 0 undef :: vs, ?_, by simp [g2], fun i e he => ?_⟩
      · rw [List.mapM_cons, Sem.run_bind]
        have e : (oneRes a.tmps (.cell t ty)).run P w = .ok (c.getD 0 undef) w := by
          simp only [oneRes]; rw [hp]; simp only [asAddr, Sem.run_bind, Sem.run_pure, Result.andThen_ok]
          exact run_loadVar1 hu hb (hrow.cell hlt)
        simp only [e, Result.andThen_ok, Sem.run_bind, g1, Sem.run_pure]
      · cases i with
        | zero => simp at he; subst he; exact hrel 0 d h3
        | succ i => simp at he; simpa using g3 i e he
    | true =>
      obtain ⟨l, b, q, bty, cs, rfl, h1, h2, h3, h4⟩ := h
      obtain ⟨vs, g1, g2, g3⟩ := ih h4
      have hp : a.tmps.getD t undef = .pointer (some ⟨b, 0, none⟩) := hc.eval_v (x := .tmp t) h1
      obtain ⟨c, hrow, hsz, hrel⟩ := hc.st.get h2
      have hl := run_loadVarA (P := P) hu hb hi (a := ⟨b, 0, none⟩) (w := w) (f := fun j => c.getD j undef) fun j hj => by rw [add_mk, Nat.zero_add]; exact hrow.cell (by omega)
      refine ⟨.agg ((List.range i.size).map fun j => c.getD j undef).toArray :: vs, ?_, by simp [g2], fun k e he => ?_⟩
      · rw [List.mapM_cons, Sem.run_bind]
        have e : (oneRes a.tmps (.cell t ty)).run P w = .ok (.agg ((List.range i.size).map fun j => c.getD j undef).toArray) w := by
          simp only [oneRes]; rw [hp]; simp only [asAddr, Sem.run_bind, Sem.run_pure, Result.andThen_ok]
          exact hl
        simp only [e, Result.andThen_ok, Sem.run_bind, g1, Sem.run_pure]
      · cases k with
        | zero =>
          simp at he; subst he
          refine .agg (by simp [h3]) fun j d hd => ?_
          have hlt : j < i.size := by have := (List.getElem?_eq_some_iff.1 hd).1; omega
          have e : ((List.range i.size).map fun j => c.getD j undef).toArray.getD j undef = c.getD j undef := by simp [Array.getD_eq_getD_getElem?, hlt]
          rw [e]
          exact hrel j d hd
        | succ k => simp at he; simpa using g3 k e he

def argEnv : Nat → List D → Env
  | _, [] => []
  | k, d :: ds => (k, d) :: argEnv (k + 1) ds

theorem argEnv_get {ds : List D} : ∀ {k t : Nat} {d : D}, eget (argEnv k ds) t = some d → k ≤ t ∧ ds[t - k]? = some d := by
  induction ds with
  | nil => intro k t d h; cases h
  | cons x ds ih =>
    intro k t d h
    simp only [argEnv, eget_cons] at h
    by_cases e : k = t
    · subst e; rw [if_pos rfl] at h; cases h; exact ⟨Nat.le_refl _, by simp⟩
    · rw [if_neg e] at h
      obtain ⟨h1, h2⟩ := ih h
      refine ⟨by omega, ?_⟩
      rw [show t - k = (t - (k + 1)) + 1 by omega]
      simpa using h2

/-- A FUNCTION's BODY. -/
theorem ACalls.of_body {f : FuncId} {fn : Func} {c : Code} {sc : SCode} {rs : List SRes} {args : List D} {Q : AR → List Chunk → Prop} (hf : P.funcs[f]? = some fn) (hb : fn.body = some c) (hs : SlimC P fn.ntmps c sc) (hr : SlimRes P fn.results.toList rs) (hn : args.length ≤ fn.ntmps)
    (h : AWP P W0 fn.ntmps sc (argEnv 0 args) σ (Fin rs Q)) : ACalls P W0 f args σ Q := by
  intro Z F w vs hbase hst hsz hrel
  refine calls_of_wp hf hb (Code.wp_mono (fun e a' w' ho => ?_) (h c hs Z F _ w ⟨hbase, hst, fun t d hd => ?_, by simp; omega, rfl⟩))
  · obtain ⟨Z', x, env', σ', g1, g2, g3, g4, g5⟩ := ho
    have fin : (∃ k ds, resOK env' σ' rs ds ∧ Q (.ret (pack ds)) (σ'.drop k)) → a'.defers = [] ∧ ∃ v, (results fn a'.tmps).run P w' = .ok v w' ∧ ∃ (Z' : Nat → Prop) (x : AR) (σ' : List Chunk), (∀ b, Z b → Z' b) ∧ Evo Z w w' ∧ ERel Z' w' x (.returned v) ∧ Q x σ' ∧ St Z' (σ' ++ F) w' := by
      rintro ⟨k, ds, h1, h2⟩
      obtain ⟨us, r1, r2, r3⟩ := run_results hr g5 h1
      have e : (results fn a'.tmps).run P w' = .ok (if h : us.toArray.size = 1 then us.toArray[0] else .tuple us.toArray) w' := by
        have e0 : results fn a'.tmps = (do let vs ← fn.results.mapM (oneRes a'.tmps); pure (if h : vs.size = 1 then vs[0] else .tuple vs)) := rfl
        rw [e0, Array.mapM_eq_mapM_toList, Sem.run_bind, Sem.run_map, r1]
        rfl
      refine ⟨g5.defers, _, e, Z', .ret (pack ds), σ'.drop k, g1, g2, ?_, h2, g5.st.dropN k⟩
      simp only [ERel]
      cases ds with
      | nil =>
        have : us = [] := List.eq_nil_of_length_eq_zero (by simpa using r2)
        subst this
        exact .tup rfl fun i d hd => by simp at hd
      | cons d l =>
        cases l with
        | nil =>
          obtain ⟨u, rfl⟩ : ∃ u, us = [u] := by
            cases us with
            | nil => simp at r2
            | cons u us => cases us with
              | nil => exact ⟨u, rfl⟩
              | cons _ _ => simp at r2
          exact r3 0 d rfl
        | cons d' l =>
          have hne : ¬ us.toArray.size = 1 := by simp at r2 ⊢; omega
          rw [dif_neg hne]
          refine .tup (by simp [r2]) fun i e he => ?_
          have := r3 i e he
          simpa [Array.getD_eq_getD_getElem?, List.getD_eq_getElem?_getD] using this
    have g3c := g3
    cases e <;> cases x <;> simp only [ExitRel] at g3 <;> try (exact g3.elim)
    · exact fin g4
    · exact g4.elim
    · exact g4.elim
    · exact fin g4
    · obtain ⟨v, rfl, hv⟩ := g3
      obtain ⟨k, hq⟩ := g4
      exact ⟨g5.defers, Z', .pan _, σ'.drop k, g1, g2, ⟨v, rfl, hv⟩, hq, g5.st.dropN k⟩
  · obtain ⟨_, h2⟩ := argEnv_get hd
    rw [Nat.sub_zero] at h2
    have hlt : t < vs.size := by rw [hsz]; exact (List.getElem?_eq_some_iff.1 h2).1
    have := hrel t d h2
    simpa [Array.getD_eq_getD_getElem?, Array.getElem?_append, hlt] using this
end Go.Abs
