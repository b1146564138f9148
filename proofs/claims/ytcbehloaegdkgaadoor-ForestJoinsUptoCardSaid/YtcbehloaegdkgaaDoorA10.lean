/-
  An abstract layer over the model: the slim form of a function's code, by a program in Lean, with its proof.
-/
import Derived.Test.YtcbehloaegdkgaaDoorA9
set_option linter.unusedVariables false
set_option linter.unusedSimpArgs false
namespace Go.Abs
open Go

def slimBin (P : Program) (op : BinOp) (s u : TypeId) (x y : Operand) : SOp :=
  match op with
  | .eql | .neq => match P.underlying s with
    | some .bool => .eqB op x y
    | some (.pointer e) => match P.info? e with
      | some i => if i.size = 0 then .bin op x y else .eqP op x y
      | none => .bin op x y
    | some (.int _) | some .string => .bin op x y
    | some (.struct fs) => if P.stoodInHeld s = false ∧ P.eqGuardType P.depth s = false then (match eqKinds P 0 fs.toList with | some ks => .eqF op ks x y | none => .eqT op s x y) else .eqT op s x y
    | _ => .eqT op s x y
  | _ => .bin op x y

def slimConv (P : Program) (o : Op) (t : TypeId) (a b : TypeId) (x : Operand) : SOp :=
  match P.underlying b, P.underlying a with
  | some (.int k), some _ => .toInt k x
  | some .string, some .string => .same x
  | some .string, some (.slice e) => match P.underlying e with
    | some (.int .u8) => .bytesStr x
    | _ => .raw o t
  | some (.slice e), some .string => match P.underlying e with
    | some (.int .u8) => .strBytes x
    | _ => .raw o t
  | _, _ => .raw o t

def slimCall (P : Program) (o : Op) (t : TypeId) (c : Call) : SOp :=
  match c with
  | ⟨.builtin .len, ⟨[x]⟩, ⟨[s]⟩⟩ => match P.underlying s with
    | some .string => .lenS x
    | some (.slice _) => .lenL x
    | some (.map _ _) => .lenM x
    | _ => .raw o t
  | ⟨.builtin .max, ⟨[x, y]⟩, _⟩ => .max x y
  | ⟨.builtin .min, ⟨[x, y]⟩, _⟩ => .min x y
  | ⟨.builtin .append, ⟨[x, y]⟩, ⟨[s, u]⟩⟩ => match P.underlying s, P.underlying u with
    | some (.slice e), some (.slice _) => match P.info? e with
      | some i => match i.zero with
        | some z => if z.cells.size = i.size ∧ 0 < i.size ∧ 0 < i.bytes ∧ i.bytes ≤ 65536 then .app e i.size i.bytes x y else .raw o t
        | none => .raw o t
      | none => .raw o t
    | some (.slice e), some .string => match P.info? e with
      | some i => match i.zero with
        | some (.int .u8 0) => if i.size = 1 ∧ i.bytes = 1 then .appS e x y else .raw o t
        | _ => .raw o t
      | none => .raw o t
    | _, _ => .raw o t
  | ⟨.value (.func f), args, _⟩ => if canEnter P f then .call f args.toList else .raw o t
  | ⟨.value x, args, _⟩ => .callv x args.toList
  | _ => .raw o t

def slimOp (P : Program) (o : Op) (t : TypeId) : SOp :=
  match o with
  | .move x => .move x
  | .assign x => .move x
  | .pick c a b => .pick c a b
  | .alloc e => match P.info? e with
    | some i => match i.zero with
      | some z => .alloc e (z.cells.toList.map D.v)
      | none => .raw o t
    | none => .raw o t
  | .box e x => .box e x
  | .build s ps => match P.info? s, P.underlying s with
    | some i, some (.struct fs) => match i.zero, ps.toList.mapM (fun p => (fs[p.1]?).bind fun f => (P.info? f.type).map fun i => (f.offset, i.size, p.2)) with
      | some z, some qs => if fs.toList.all (fun f => (P.info? f.type).isSome) then .build (z.cells.toList.map D.v) qs else .raw o t
      | _, _ => .raw o t
    | _, _ => .raw o t
  | .buildSlice s len ps => match P.underlying s with
    | some (.slice e) => match P.info? e with
      | some i => match i.zero with
        | some z => if len * i.size ≤ 16777216 ∧ z.cells.size = i.size ∧ 0 < i.size then .buildSl i.size len (z.cells.toList.map D.v) ps.toList else .raw o t
        | none => .raw o t
      | none => .raw o t
    | _ => .raw o t
  | .load s x => match P.underlying s with
    | some d => if isAggD d then (match P.info? s with | some i => .load true i.size x | none => .raw o t) else .load false 1 x
    | none => .raw o t
  | .store s p x => match P.info? s with
    | some i => .store i.size p x
    | none => .raw o t
  | .nilCheck x => .nilChk x
  | .binOp op s x y u => slimBin P op s u x y
  | .unOp op _ x => .un op x
  | .convert a b x => slimConv P o t a b x
  | .fieldAddr s x n => match P.underlying s with
    | some (.struct fs) => match fs[n]? with
      | some f => match P.info? f.type with
        | some i => if i.size = 0 then .raw o t else .fld f.offset x
        | none => .raw o t
      | none => .raw o t
    | _ => .raw o t
  | .field s x n => match P.underlying s with
    | some (.struct fs) => match fs[n]? with
      | some f => match P.info? f.type, P.underlying f.type with
        | some i, some d => .getf (isAggD d) f.offset i.size x
        | _, _ => .raw o t
      | none => .raw o t
    | _ => .raw o t
  | .indexAddr s x y => match P.underlying s with
    | some (.slice e) => match P.info? e with
      | some i => .idxA i.size x y
      | none => .raw o t
    | some (.array n e) => match P.info? e with
      | some i => .idxR n i.size x y
      | none => .raw o t
    | _ => .raw o t
  | .index s x y => match P.underlying s with
    | some .string => .idxS x y
    | some (.array n e) => match P.info? e, P.underlying e with
      | some i, some d => .idxV (isAggD d) n i.size x y
      | _, _ => .raw o t
    | _ => .raw o t
  | .slice s x lo hi mx => match P.underlying s, mx with
    | some .string, none => .slS x lo hi
    | some (.slice e), mx => match P.info? e with
      | some i => .slL i.size x lo hi mx
      | none => .raw o t
    | _, _ => .raw o t
  | .makeSlice s l c => match P.underlying s with
    | some (.slice e) => match P.info? e with
      | some i => match i.zero with
        | some z => if z.cells.size = i.size ∧ 0 < i.size then .makeSl i.size i.bytes (z.cells.toList.map D.v) l c else .raw o t
        | none => .raw o t
      | none => .raw o t
    | _ => .raw o t
  | .extract x i => .ext x i
  | .makeInterface s x => match P.underlying s with
    | some (.interface _) => .raw o t
    | some _ => .mkI s x
    | none => .raw o t
  | .makeFunc (.func f) first cap => .mkF f first.toList cap.toList
  | .panic x => .pan x
  | .call c => slimCall P o t c
  | o => .raw o t

theorem slimBin_ok (P : Program) (op : BinOp) (s u : TypeId) (x y : Operand) (t : TypeId) : Slim P (.binOp op s x y u) t (slimBin P op s u x y) := by
  have key : op = .eql ∨ op = .neq → Slim P (.binOp op s x y u) t (match P.underlying s with
    | some .bool => .eqB op x y
    | some (.pointer e) => match P.info? e with
      | some i => if i.size = 0 then .bin op x y else .eqP op x y
      | none => .bin op x y
    | some (.int _) | some .string => .bin op x y
    | some (.struct fs) => if P.stoodInHeld s = false ∧ P.eqGuardType P.depth s = false then (match eqKinds P 0 fs.toList with | some ks => .eqF op ks x y | none => .eqT op s x y) else .eqT op s x y
    | _ => .eqT op s x y) := by
    intro ho
    split
    · exact .eqB (by assumption) ho
    · split
      · split
        · exact .bin _ _ _ _ _
        · exact .eqP (by assumption) (by assumption) (by assumption) ho
      · exact .bin _ _ _ _ _
    · exact .bin _ _ _ _ _
    · exact .bin _ _ _ _ _
    · split
      · rename_i h
        split
        · exact .eqF (by assumption) h.1 h.2 (by assumption) ho
        · exact .eqT ho
      · exact .eqT ho
    · exact .eqT ho
  cases op <;> first | exact key (.inl rfl) | exact key (.inr rfl) | exact .bin _ _ _ _ _

theorem slimConv_ok (P : Program) (a b : TypeId) (x : Operand) (t : TypeId) : Slim P (.convert a b x) t (slimConv P (.convert a b x) t a b x) := by
  unfold slimConv
  split
  · exact .toInt (by assumption) (by assumption)
  · exact .sameS (by assumption) (by assumption) rfl
  · split
    · exact .bytesStr (by assumption) (by assumption) (by assumption)
    · exact .raw _ _
  · split
    · exact .strBytes (by assumption) (by assumption) (by assumption) rfl
    · exact .raw _ _
  · exact .raw _ _

theorem slimCall_ok (P : Program) (c : Call) (t : TypeId) : Slim P (.call c) t (slimCall P (.call c) t c) := by
  unfold slimCall
  split
  · split
    · exact .lenS (by assumption)
    · exact .lenL (by assumption)
    · exact .lenM (by assumption)
    · exact .raw _ _
  · exact .max _ _
  · exact .min _ _
  · split
    · split
      · split
        · split
          · rename_i h; exact .app (by assumption) (by assumption) (by assumption) (by assumption) h.1 h.2.1 h.2.2.1 h.2.2.2
          · exact .raw _ _
        · exact .raw _ _
      · exact .raw _ _
    · split
      · split
        · split
          · rename_i h; exact .appS (by assumption) (by assumption) (by assumption) (by assumption) h.1 h.2
          · exact .raw _ _
        · exact .raw _ _
      · exact .raw _ _
    · exact .raw _ _
  · split
    · exact .call (by assumption)
    · exact .raw _ _
  · exact .callv
  · exact .raw _ _

theorem slimOp_ok (P : Program) (o : Op) (t : TypeId) : Slim P o t (slimOp P o t) := by
  cases o <;> simp only [slimOp] <;> try exact .raw _ _
  case move => exact .move _
  case assign => exact .assign _
  case pick => exact .pick _ _ _
  case alloc =>
    split
    · split
      · exact .alloc (by assumption) (by assumption) _ rfl
      · exact .raw _ _
    · exact .raw _ _
  case box => exact .box _ _
  case build =>
    split
    · split
      · split
        · rename_i h
          refine .build (by assumption) (by assumption) _ rfl (by assumption) (fun f hf e => ?_) (by assumption)
          have := List.all_eq_true.1 h f hf
          rw [e] at this
          cases this
        · exact .raw _ _
      · exact .raw _ _
    · exact .raw _ _
  case buildSlice =>
    split
    · split
      · split
        · split
          · rename_i h; exact .buildSl (by assumption) (by assumption) (by assumption) _ rfl h.1 (by simp [h.2.1]) h.2.2
          · exact .raw _ _
        · exact .raw _ _
      · exact .raw _ _
    · exact .raw _ _
  case load =>
    split
    · split
      · split
        · exact .loadA (by assumption) (by assumption) (by assumption)
        · exact .raw _ _
      · rename_i h; exact .load1 (by assumption) (by simpa using h)
    · exact .raw _ _
  case store =>
    split
    · exact .store (by assumption)
    · exact .raw _ _
  case nilCheck => exact .nilChk _
  case binOp => exact slimBin_ok _ _ _ _ _ _ _
  case unOp => exact .un _ _ _
  case convert => exact slimConv_ok _ _ _ _ _
  case fieldAddr =>
    split
    · split
      · split
        · split
          · exact .raw _ _
          · exact .fld (by assumption) (by assumption) (by assumption) (by assumption)
        · exact .raw _ _
      · exact .raw _ _
    · exact .raw _ _
  case field =>
    split
    · split
      · split
        · exact .getf (by assumption) (by assumption) (by assumption) (by assumption) rfl
        · exact .raw _ _
      · exact .raw _ _
    · exact .raw _ _
  case indexAddr =>
    split
    · split
      · exact .idxA (by assumption) (by assumption)
      · exact .raw _ _
    · split
      · exact .idxR (by assumption) (by assumption)
      · exact .raw _ _
    · exact .raw _ _
  case index =>
    split
    · exact .idxS (by assumption)
    · split
      · exact .idxV (by assumption) (by assumption) (by assumption) rfl
      · exact .raw _ _
    · exact .raw _ _
  case slice =>
    split
    · exact .slS (by assumption)
    · split
      · exact .slL (by assumption) (by assumption)
      · exact .raw _ _
    · exact .raw _ _
  case makeSlice =>
    split
    · split
      · split
        · split
          · rename_i h; exact .makeSl (by assumption) (by assumption) (by assumption) _ rfl (by simp [h.1]) h.2
          · exact .raw _ _
        · exact .raw _ _
      · exact .raw _ _
    · exact .raw _ _
  case extract => exact .ext _ _
  case makeInterface =>
    split
    · exact .raw _ _
    · rename_i d h hd
      exact .mkI hd (fun ms e => h ms e)
    · exact .raw _ _
  case makeFunc fn first cap =>
    cases fn <;> first | exact .mkF | exact .raw _ _
  case panic => exact .pan _
  case call => exact slimCall_ok _ _ _

def slimOper (P : Program) (N : Nat) (ops : Array Oper) (draw : Bool) (o : Oper) : Option SOper :=
  let mk (g : Option (Nat × Bool)) : Option SOper :=
    match o.dst with
    | some d => if d < N then some ⟨o.dst, g, slimOp P o.op o.type, if draw then edgesOf o else []⟩ else none
    | none => some ⟨o.dst, g, slimOp P o.op o.type, if draw then edgesOf o else []⟩
  match o.guard with
  | none => mk none
  | some (j, want) => match ops[j]? with
    | some oj => match oj.dst with
      | some s => if s < N then mk (some (s, want)) else none
      | none => none
    | none => none

theorem slimOper_ok {P : Program} {N : Nat} {ops : Array Oper} {draw : Bool} {o : Oper} {s : SOper} (h : slimOper P N ops draw o = some s) : SlimOper P N ops o s ∧ s.after = if draw then edgesOf o else [] := by
  have mk : ∀ g, (match o.dst with
      | some d => if d < N then some (⟨o.dst, g, slimOp P o.op o.type, if draw then edgesOf o else []⟩ : SOper) else none
      | none => some ⟨o.dst, g, slimOp P o.op o.type, if draw then edgesOf o else []⟩) = some s → s.dst = o.dst ∧ (∀ d, o.dst = some d → d < N) ∧ s.op = slimOp P o.op o.type ∧ s.guard = g ∧ s.after = if draw then edgesOf o else [] := by
    intro g hg
    split at hg
    · rename_i d hd
      split at hg
      · cases hg; exact ⟨rfl, fun d' hd' => by rw [hd] at hd'; cases hd'; assumption, rfl, rfl, rfl⟩
      · cases hg
    · rename_i hd
      cases hg
      exact ⟨rfl, fun d' hd' => (by rw [hd] at hd'; cases hd'), rfl, rfl, rfl⟩
  unfold slimOper at h
  simp only at h
  split at h
  · rename_i hg
    obtain ⟨h1, h2, h3, h4, h5⟩ := mk none h
    exact ⟨⟨h1, h2, by rw [h3]; exact slimOp_ok _ _ _, by rw [hg]; exact h4⟩, h5⟩
  · rename_i j want hg
    split at h
    · rename_i oj hj
      split at h
      · rename_i sl hs
        split at h
        · rename_i hlt
          obtain ⟨h1, h2, h3, h4, h5⟩ := mk _ h
          exact ⟨⟨h1, h2, by rw [h3]; exact slimOp_ok _ _ _, by rw [hg]; exact ⟨oj, sl, hj, hs, hlt, h4⟩⟩, h5⟩
        · cases h
      · cases h
    · cases h

def slimList (P : Program) (N : Nat) (ops : Array Oper) (draw : Bool) : List Oper → Option (List SOper)
  | [] => some []
  | o :: r => match slimOper P N ops draw o, slimList P N ops draw r with
    | some s, some l => some (s :: l)
    | _, _ => none

theorem slimList_ok {P : Program} {N : Nat} {ops : Array Oper} {draw : Bool} : ∀ {lo : List Oper} {l : List SOper}, slimList P N ops draw lo = some l → SlimList P N ops lo l ∧ l.map (·.after) = lo.map fun o => if draw then edgesOf o else [] := by
  intro lo
  induction lo with
  | nil => intro l h; simp [slimList] at h; subst h; exact ⟨.nil, rfl⟩
  | cons o r ih =>
    intro l h
    simp only [slimList] at h
    split at h
    · rename_i s l' hs hl
      cases h
      obtain ⟨h1, h2⟩ := slimOper_ok hs
      obtain ⟨h3, h4⟩ := ih hl
      exact ⟨.cons h1 h3, by simp [h2, h4]⟩
    · cases h

def slimCode (P : Program) (N : Nat) : Code → Option SCode
  | .skip => some .skip
  | .region _ ops false => match slimList P N ops false ops.toList with
    | some l => some (.region l)
    | none => none
  | .region _ ops true => match slimList P N ops true ops.toList with
    | some l => some (.draw l)
    | none => none
  | .seq a b => match slimCode P N a, slimCode P N b with
    | some x, some y => some (.seq x y)
    | _, _ => none
  | .cond c a b => match slimCode P N a, slimCode P N b with
    | some x, some y => some (.cond c x y)
    | _, _ => none
  | .block id a => match slimCode P N a with
    | some x => some (.block id x)
    | none => none
  | .loop a => match slimCode P N a with
    | some x => some (.loop x)
    | none => none
  | .exit id => some (.exit id)
  | .ret => some .ret
  | c => some (.raw c)

theorem slimCode_ok {P : Program} {N : Nat} : ∀ {c : Code} {s : SCode}, slimCode P N c = some s → SlimC P N c s := by
  intro c
  induction c with
  | skip => intro s h; simp [slimCode] at h; subst h; exact .skip
  | region id ops draw =>
    intro s h
    cases draw with
    | false =>
      simp only [slimCode] at h
      split at h
      · cases h; exact .region (slimList_ok (by assumption)).1
      · cases h
    | true =>
      simp only [slimCode] at h
      split at h
      · rename_i hl
        cases h
        obtain ⟨h1, h2⟩ := slimList_ok hl
        exact .draw h1 (by simpa using h2)
      · cases h
  | seq a b iha ihb =>
    intro s h
    simp only [slimCode] at h
    split at h
    · cases h; exact .seq (iha (by assumption)) (ihb (by assumption))
    · cases h
  | cond c a b iha ihb =>
    intro s h
    simp only [slimCode] at h
    split at h
    · cases h; exact .cond (iha (by assumption)) (ihb (by assumption))
    · cases h
  | block id a ih =>
    intro s h
    simp only [slimCode] at h
    split at h
    · cases h; exact .block (ih (by assumption))
    · cases h
  | loop a ih =>
    intro s h
    simp only [slimCode] at h
    split at h
    · cases h; exact .loop (ih (by assumption))
    · cases h
  | exit id => intro s h; simp [slimCode] at h; subst h; exact .exit
  | ret => intro s h; simp [slimCode] at h; subst h; exact .ret
  | _ => intro s h; simp [slimCode] at h; subst h; exact .raw _

def slimRes (P : Program) : List ResultVar → Option (List SRes)
  | [] => some []
  | .tmp t :: r => match slimRes P r with
    | some l => some (.tmp t :: l)
    | none => none
  | .cell t ty :: r => match P.underlying ty, P.info? ty, slimRes P r with
    | some d, some i, some l => some (.cell (isAggD d) i.size t :: l)
    | _, _, _ => none

theorem slimRes_ok {P : Program} : ∀ {r : List ResultVar} {s : List SRes}, slimRes P r = some s → SlimRes P r s := by
  intro r
  induction r with
  | nil => intro s h; simp [slimRes] at h; subst h; exact .nil
  | cons x r ih =>
    intro s h
    cases x with
    | tmp t =>
      simp only [slimRes] at h
      split at h
      · cases h; exact .tmp (ih (by assumption))
      · cases h
    | cell t ty =>
      simp only [slimRes] at h
      split at h
      · cases h; exact .cell (by assumption) (by assumption) rfl (ih (by assumption))
      · cases h

/-- A function's slim form. -/
structure IsFn (P : Program) (f : FuncId) (N : Nat) (sc : SCode) (rs : List SRes) : Prop where
  ok : ∃ fn c, P.funcs[f]? = some fn ∧ fn.body = some c ∧ fn.ntmps = N ∧ SlimC P N c sc ∧ SlimRes P fn.results.toList rs

theorem IsFn.of {P : Program} {f : FuncId} {fn : Func} {c : Code} {N : Nat} {sc : SCode} {rs : List SRes} (hf : P.funcs[f]? = some fn) (hb : fn.body = some c) (hn : fn.ntmps = N) (h1 : slimCode P N c = some sc) (h2 : slimRes P fn.results.toList = some rs) : IsFn P f N sc rs :=
  ⟨fn, c, hf, hb, hn, slimCode_ok h1, slimRes_ok h2⟩

/-- A CALL, BY THE FUNCTION's SLIM BODY. -/
theorem ACalls.body {P : Program} {W0 : World} {f : FuncId} {N : Nat} {sc : SCode} {rs : List SRes} (hfn : IsFn P f N sc rs) {args : List D} {σ : List Chunk} {Q : AR → List Chunk → Prop} (hn : Nat.ble args.length N = true)
    (h : AWP P W0 N sc (argEnv 0 args) σ (Fin rs Q)) : ACalls P W0 f args σ Q := by
  obtain ⟨fn, c, h1, h2, h3, h4, h5⟩ := hfn.ok
  subst h3
  exact ACalls.of_body h1 h2 h4 h5 (Nat.le_of_ble_eq_true hn) h
end Go.Abs
