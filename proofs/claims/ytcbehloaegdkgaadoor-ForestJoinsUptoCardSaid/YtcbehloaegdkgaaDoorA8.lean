/-
  An abstract layer over the model: structs, conversions between strings and bytes, calls, code.
-/
import Derived.Test.YtcbehloaegdkgaaDoorA7
set_option linter.unusedVariables false
set_option linter.unusedSimpArgs false
namespace Go.Abs
open Go
variable {P : Program} {W0 : World} {env : Env} {σ : List Chunk} {K : D → List Chunk → Prop} {X : D → List Chunk → Prop}

/-! ### A struct's literal -/
def partAt : List (Nat × Nat × Operand) → Nat → Option (Operand × Nat)
  | [], _ => none
  | (off, size, x) :: r, k => match partAt r k with
    | some y => some y
    | none => bif Nat.ble off k && Nat.blt k (off + size) then some (x, k - off) else none

def cellOf (env : Env) (x : Operand) (j : Nat) : Option D :=
  match aget env x with
  | some d => match dcells d with
    | some ds => ds[j]?
    | none => none
  | none => none

def buildCells (env : Env) (parts : List (Nat × Nat × Operand)) : Nat → List D → Option (List D)
  | _, [] => some []
  | k, z :: zs => match (match partAt parts k with | some (x, j) => cellOf env x j | none => some z) with
    | some d => match buildCells env parts (k + 1) zs with
      | some l => some (d :: l)
      | none => none
    | none => none

def partsOk (env : Env) (n : Nat) : List (Nat × Nat × Operand) → Bool
  | [] => true
  | (off, size, x) :: r => (match aget env x with
    | some d => match dcells d with
      | some ds => Nat.beq ds.length size && Nat.ble (off + size) n
      | none => false
    | none => false) && partsOk env n r

theorem buildCells_get {parts : List (Nat × Nat × Operand)} : ∀ {zs ds : List D} {k : Nat}, buildCells env parts k zs = some ds → ds.length = zs.length ∧ ∀ i d, ds[i]? = some d → (match partAt parts (k + i) with | some (x, j) => cellOf env x j | none => zs[i]?) = some d := by
  intro zs
  induction zs with
  | nil => intro ds k h; simp [buildCells] at h; subst h; exact ⟨rfl, fun i d hd => by simp at hd⟩
  | cons z zs ih =>
    intro ds k h
    simp only [buildCells] at h
    split at h
    · rename_i d hd
      split at h
      · rename_i l hl
        cases h
        obtain ⟨h1, h2⟩ := ih hl
        refine ⟨by simp [h1], fun i d' hd' => ?_⟩
        cases i with
        | zero =>
          simp at hd'
          subst hd'
          rw [Nat.add_zero]
          rw [← hd]
          cases partAt parts k <;> rfl
        | succ i =>
          simp at hd'
          have := h2 i d' hd'
          rw [show k + 1 + i = k + (i + 1) by omega] at this
          rw [← this]
          cases partAt parts (k + (i + 1)) <;> rfl
      · cases h
    · cases h

theorem fill_struct (places : Array (Nat × Nat)) : ∀ (ps : List (Nat × Operand)) (qs : List (Nat × Nat × Operand)) (ev : Operand → Value) (n : Nat) (c : Array Value), c.size = n →
    ps.mapM (fun p => (places[p.1]?).map fun q => (q.1, q.2, p.2)) = some qs → (∀ q ∈ qs, (ev q.2.2).cells.size = q.2.1 ∧ q.1 + q.2.1 ≤ n) →
    ∃ c', Instr.fill (places[·]?) c (ps.map fun p => (p.1, ev p.2)) = some c' ∧ c'.size = n ∧ ∀ k, c'.getD k undef = match partAt qs k with | some (x, j) => (ev x).cells.getD j undef | none => c.getD k undef := by
  intro ps
  induction ps with
  | nil => intro qs ev n c hc hq _; simp at hq; subst hq; exact ⟨c, rfl, hc, fun k => rfl⟩
  | cons p ps ih =>
    intro qs ev n c hc hq hok
    simp only [List.mapM_cons] at hq
    cases hp : places[p.1]? with
    | none => rw [hp] at hq; simp at hq
    | some q =>
      rw [hp] at hq
      simp only [Option.map_some, Option.bind_eq_bind, Option.bind_some, Option.pure_def] at hq
      cases hr : ps.mapM (fun p => (places[p.1]?).map fun q => (q.1, q.2, p.2)) with
      | none => rw [hr] at hq; simp at hq
      | some rs =>
        rw [hr] at hq
        simp at hq
        subst hq
        obtain ⟨hs1, hs2⟩ := hok (q.1, q.2, p.2) (by simp)
        simp only at hs1 hs2
        have hset : ∀ (l : List Value) (s : Nat) (c : Array Value), q.1 + s + l.length ≤ c.size →
            ((l.zipIdx s).foldl (fun cs (x : Value × Nat) => cs.setIfInBounds (q.1 + x.2) x.1) c).size = c.size ∧
            ∀ m, ((l.zipIdx s).foldl (fun cs (x : Value × Nat) => cs.setIfInBounds (q.1 + x.2) x.1) c).getD m undef = if q.1 + s ≤ m ∧ m < q.1 + s + l.length then l.getD (m - (q.1 + s)) undef else c.getD m undef := by
          intro l
          induction l with
          | nil => intro s c _; exact ⟨rfl, fun m => by rw [if_neg (by simp only [List.length_nil]; omega)]; rfl⟩
          | cons u l ihl =>
            intro s c hl
            simp only [List.length_cons] at hl
            obtain ⟨g1, g2⟩ := ihl (s + 1) (c.setIfInBounds (q.1 + s) u) (by simp; omega)
            refine ⟨by simpa using g1, fun m => ?_⟩
            simp only [List.zipIdx_cons, List.foldl_cons]
            rw [g2 m, getD_set _ _ _ _ (by omega)]
            simp only [List.length_cons]
            by_cases e : m = q.1 + s
            · rw [if_neg (by omega), if_pos e, if_pos (by omega), e]; simp
            · rw [if_neg e]
              by_cases e2 : q.1 + (s + 1) ≤ m ∧ m < q.1 + (s + 1) + l.length
              · rw [if_pos e2, if_pos (by omega), show m - (q.1 + s) = (m - (q.1 + (s + 1))) + 1 by omega]; simp
              · rw [if_neg e2, if_neg (by omega)]
        obtain ⟨g1, g2⟩ := hset (ev p.2).cells.toList 0 c (by simp [hs1]; omega)
        obtain ⟨c', h1, h2, h3⟩ := ih rs ev n _ (g1.trans hc) hr (fun r hr => hok r (by simp [hr]))
        refine ⟨c', ?_, h2, fun k => ?_⟩
        · simp only [List.map_cons, Instr.fill, hp]
          rw [if_neg (by simp [hs1]; omega)]
          rw [← h1]
          congr 1
          rw [← Array.foldl_toList]
          simp [Array.toList_zipIdx]
        · rw [h3 k]
          simp only [partAt]
          cases partAt rs k with
          | some y => rfl
          | none =>
            simp only
            rw [g2 k]
            simp only [Nat.add_zero, Array.length_toList, hs1]
            by_cases e : q.1 ≤ k ∧ k < q.1 + q.2
            · rw [if_pos e]
              have : (Nat.ble q.1 k && Nat.blt k (q.1 + q.2)) = true := by simp [Nat.ble_eq, Nat.blt_eq, e]
              rw [this]
              simp only [cond_true]
              rw [List.getD_eq_getElem?_getD, Array.getElem?_toList, ← Array.getD_eq_getD_getElem?]
            · rw [if_neg e]
              have : (Nat.ble q.1 k && Nat.blt k (q.1 + q.2)) = false := by
                rw [Bool.eq_false_iff]; simpa [Nat.ble_eq, Nat.blt_eq] using e
              rw [this]; rfl

theorem partsOk_mem {n : Nat} {parts : List (Nat × Nat × Operand)} (h : partsOk env n parts = true) : ∀ q ∈ parts, ∃ d ds, aget env q.2.2 = some d ∧ dcells d = some ds ∧ ds.length = q.2.1 ∧ q.1 + q.2.1 ≤ n := by
  induction parts with
  | nil => intro q hq; cases hq
  | cons p r ih =>
    obtain ⟨off, size, x⟩ := p
    simp only [partsOk, Bool.and_eq_true] at h
    intro q hq
    rcases List.mem_cons.1 hq with rfl | hq
    · obtain ⟨h1, _⟩ := h
      simp only
      split at h1
      · rename_i d hd
        split at h1
        · rename_i ds hds
          simp only [Bool.and_eq_true, Nat.ble_eq] at h1
          exact ⟨d, ds, hd, hds, Nat.eq_of_beq_eq_true h1.1, h1.2⟩
        · cases h1
      · cases h1
    · exact ih h.2 q hq

theorem partAt_mem {parts : List (Nat × Nat × Operand)} {k : Nat} {x : Operand} {j : Nat} (h : partAt parts k = some (x, j)) : ∃ off size, (off, size, x) ∈ parts ∧ j < size := by
  induction parts with
  | nil => cases h
  | cons p r ih =>
    obtain ⟨off, size, y⟩ := p
    simp only [partAt] at h
    split at h
    · rename_i z hz
      cases h
      obtain ⟨o, s, h1, h2⟩ := ih hz
      exact ⟨o, s, List.mem_cons.2 (.inr h1), h2⟩
    · by_cases e : (Nat.ble off k && Nat.blt k (off + size)) = true
      · rw [e] at h
        simp only [cond_true, Option.some.injEq, Prod.mk.injEq] at h
        obtain ⟨rfl, rfl⟩ := h
        simp only [Bool.and_eq_true, Nat.ble_eq, Nat.blt_eq] at e
        exact ⟨off, size, List.mem_cons.2 (.inl rfl), by omega⟩
      · rw [Bool.eq_false_iff.2 e] at h
        cases h

theorem mapM_places (P : Program) (fs : Array Field) (w : World) (hok : ∀ f ∈ fs.toList, P.info? f.type ≠ none) :
    (fs.mapM fun f => (do pure (f.offset, ← sizeOf f.type) : Sem (Nat × Nat))).run P w = .ok (fs.map fun f => (f.offset, ((P.info? f.type).map (·.size)).getD 0)) w := by
  rw [Array.mapM_eq_mapM_toList, Sem.run_map]
  have key : ∀ l : List Field, (∀ f ∈ l, P.info? f.type ≠ none) → (l.mapM fun f => (do pure (f.offset, ← sizeOf f.type) : Sem (Nat × Nat))).run P w = .ok (l.map fun f => (f.offset, ((P.info? f.type).map (·.size)).getD 0)) w := by
    intro l
    induction l with
    | nil => intro _; rfl
    | cons f l ih =>
      intro h
      have hf := h f (by simp)
      cases hi : P.info? f.type with
      | none => exact absurd hi hf
      | some i =>
        have e : (do pure (f.offset, ← sizeOf f.type) : Sem (Nat × Nat)).run P w = .ok (f.offset, i.size) w := by simp [sizeOf, typeInfo, hi]
        rw [List.mapM_cons, Sem.run_bind, e, Result.andThen_ok, Sem.run_bind, ih (fun g hg => h g (by simp [hg]))]
        simp [hi]
  rw [key _ hok]
  simp only [Result.andThen_ok]
  rw [← Array.toList_map]

theorem OpT.build {zs ds : List D} {parts : List (Nat × Nat × Operand)} (hp : partsOk env zs.length parts = true) (hd : buildCells env parts 0 zs = some ds) (hk : K (.agg ds) σ) : OpT P W0 (.build zs parts) env σ K X := by
  refine OpT.pure (fun o ho N Z F a w hc => ?_) hk
  obtain ⟨dst, op, ty, pos, after, guard⟩ := o
  obtain ⟨hlen, hget⟩ := buildCells_get hd
  cases ho with
  | build hi hz zs hs hu hok hq =>
    rename_i s i z fs ps
    have hzl : z.cells.size = zs.length := by rw [← hs]; simp
    let places := fs.map fun f => (f.offset, ((P.info? f.type).map (·.size)).getD 0)
    have hq' : ps.toList.mapM (fun p => (places[p.1]?).map fun q => (q.1, q.2, p.2)) = some parts := by
      rw [← hq]
      congr 1
      funext p
      simp only [places, Array.getElem?_map]
      cases hf : fs[p.1]? with
      | none => rfl
      | some f =>
        have := hok f (by rw [Array.mem_toList_iff]; exact Array.mem_of_getElem? hf)
        cases hi' : P.info? f.type with
        | none => exact absurd hi' this
        | some i' => simp [hi']
    obtain ⟨c', h1, h2, h3⟩ := fill_struct places ps.toList parts a.eval zs.length z.cells hzl hq' (fun q hq => by
      obtain ⟨d, ds', g1, g2, g3, g4⟩ := partsOk_mem hp q hq
      exact ⟨by rw [((hc.eval g1).cells g2).1, g3], g4⟩)
    refine ⟨.agg c', ?_, .agg (by rw [hlen, h2]) fun k d hk => ?_⟩
    · have e0 := mapM_places P fs w hok
      simp only [execOp, Instr.build, zeroValue, typeInfo, underlying, Sem.run_bind, run_program, Result.andThen_ok, hi, hz, hu, Sem.run_pure, e0]
      simp only [Array.toList_map]
      have e1 : Instr.fill (fun x => (fs.map fun f => (f.offset, ((P.info? f.type).map (·.size)).getD 0))[x]?) z.cells (ps.toList.map fun p => (p.1, a.eval p.2)) = some c' := h1
      rw [show (List.map (fun x : Nat × Operand => match x with | (i, x) => (i, a.eval x)) ps.toList) = ps.toList.map fun p => (p.1, a.eval p.2) from rfl, e1]
      rfl
    · have := hget k d hk
      rw [Nat.zero_add] at this
      rw [h3 k]
      cases hpa : partAt parts k with
      | none =>
        rw [hpa] at this
        simp only at this ⊢
        rw [← hs, List.getElem?_map] at this
        cases hj : z.cells.toList[k]? with
        | none => rw [hj] at this; cases this
        | some u =>
          rw [hj] at this
          cases this
          have e : z.cells.getD k undef = u := by
            rw [Array.getElem?_toList] at hj
            rw [Array.getD_eq_getD_getElem?, hj]; rfl
          rw [e]
          exact .v u
      | some y =>
        obtain ⟨x, j⟩ := y
        rw [hpa] at this
        simp only [cellOf] at this ⊢
        split at this
        · rename_i d' hd'
          split at this
          · rename_i ds' hds'
            exact ((hc.eval hd').cells hds').2 j d this
          · cases this
        · cases this

/-! ### Strings and bytes -/
def byteCells (l : List UInt8) : List (List D) := l.map fun b => [.v (.int .u8 b.toNat)]

theorem byteCells_len (l : List UInt8) : (byteCells l).length = l.length := by simp [byteCells]

theorem OpT.mkF {f : FuncId} {first cap : List Operand} {vs us : List Value} (h1 : first.mapM (fun x => match aget env x with | some (.v v) => some v | _ => none) = some vs) (h2 : cap.mapM (fun x => match aget env x with | some (.v v) => some v | _ => none) = some us)
    (hk : K (.v (.func (.func f) vs.toArray us.toArray)) σ) : OpT P W0 (.mkF f first cap) env σ K X := by
  have key : ∀ {xs : List Operand} {vs : List Value} {N : Nat} {Z : Nat → Prop} {F : List Chunk} {a : Act} {w : World}, Cfg W0 N Z F env σ a w → xs.mapM (fun x => match aget env x with | some (.v v) => some v | _ => none) = some vs → xs.map a.eval = vs := by
    intro xs
    induction xs with
    | nil => intro vs N Z F a w hc h; simp at h; subst h; rfl
    | cons x xs ih =>
      intro vs N Z F a w hc h
      simp only [List.mapM_cons, Option.bind_eq_bind] at h
      cases hx : aget env x with
      | none => rw [hx] at h; cases h
      | some d =>
        cases d <;> rw [hx] at h <;> try (cases h; done)
        rename_i v
        simp only [Option.bind_some, Option.pure_def] at h
        cases hr : xs.mapM (fun x => match aget env x with | some (.v v) => some v | _ => none) with
        | none => rw [hr] at h; cases h
        | some rs =>
          rw [hr] at h
          simp at h
          subst h
          simp [hc.eval_v hx, ih hc hr]
  refine OpT.pure (fun o ho N Z F a w hc => ?_) hk
  obtain ⟨dst, op, ty, pos, after, guard⟩ := o
  cases ho
  rename_i first cap
  refine ⟨_, ?_, .v _⟩
  have e1 := key hc h1
  have e2 := key hc h2
  have e1' : first.map a.eval = vs.toArray := by rw [← e1]; simp [← Array.toList_map]
  have e2' : cap.map a.eval = us.toArray := by rw [← e2]; simp [← Array.toList_map]
  simp [execOp, Instr.makeFunc, e1', e2']
end Go.Abs
