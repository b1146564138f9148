/-
  An abstract layer over the model: the operations that read, write and make memory.
-/
import Derived.Test.YtcbehloaegdkgaaDoorA3
set_option linter.unusedVariables false
set_option linter.unusedSimpArgs false
namespace Go.Abs
open Go
variable {P : Program} {W0 : World} {env : Env} {σ : List Chunk} {K : D → List Chunk → Prop} {X : D → List Chunk → Prop}

theorem add_mk (b o n : Nat) : (⟨b, o, none⟩ : Addr).add n = ⟨b, o + n, none⟩ := by
  unfold Addr.add
  split
  · rename_i h; subst h; rfl
  · rfl

theorem rowT.cell {w : World} {b : Nat} {t : TypeId} {c : Array Value} (h : rowT w b t c) {o : Nat} (ho : o < c.size) : w.cell? ⟨b, o, none⟩ = some (c.getD o undef) := by
  obtain ⟨lo, hi, h1, h2⟩ := h
  simp [World.cell?, h1, ho]
theorem rowAt.cell {w : World} {b : Nat} {c : Array Value} (h : rowAt w b c) {o : Nat} (ho : o < c.size) : w.cell? ⟨b, o, none⟩ = some (c.getD o undef) := by
  obtain ⟨t, h⟩ := h; exact h.cell ho

theorem rowT.frozen {w : World} {b : Nat} {t : TypeId} {c : Array Value} (h : rowT w b t c) {o : Nat} (ho : o < c.size) : w.frozen? ⟨b, o, none⟩ = false := by
  obtain ⟨lo, hi, h1, h2⟩ := h
  simp only [World.frozen?, h1]
  have := h2 o ho
  simpa using this

theorem getD_set (c : Array Value) (o k : Nat) (v : Value) (ho : o < c.size) : (c.setIfInBounds o v).getD k undef = if k = o then v else c.getD k undef := by
  simp only [Array.getD_eq_getD_getElem?, Array.getElem?_setIfInBounds]
  by_cases h : o = k
  · subst h; simp [ho]
  · simp [h, Ne.symm h]

theorem rowT.set {w : World} {b : Nat} {t : TypeId} {c : Array Value} (h : rowT w b t c) (o : Nat) (v : Value) : rowT (w.setCell ⟨b, o, none⟩ v) b t (c.setIfInBounds o v) := by
  obtain ⟨lo, hi, h1, h2⟩ := h
  refine ⟨lo, hi, ?_, by simpa using h2⟩
  simp [World.setCell, Array.getElem?_modify, h1]

/-- Only block b was touched. -/
structure Only (b : Nat) (w w' : World) : Prop where
  os : w'.os = w.os
  tape : w'.tape = w.tape
  output : w'.output = w.output
  size : w'.heap.size = w.heap.size
  block : ∀ k, k ≠ b → w'.heap[k]? = w.heap[k]?

theorem Only.refl {b : Nat} {w : World} : Only b w w := ⟨rfl, rfl, rfl, rfl, fun _ _ => rfl⟩
theorem Only.trans {b : Nat} {u v w : World} (h : Only b u v) (k : Only b v w) : Only b u w :=
  ⟨k.os.trans h.os, k.tape.trans h.tape, k.output.trans h.output, k.size.trans h.size, fun i hi => (k.block i hi).trans (h.block i hi)⟩
theorem Only.set {b o : Nat} {w : World} {v : Value} : Only b w (w.setCell ⟨b, o, none⟩ v) := by
  refine ⟨rfl, rfl, rfl, by simp, fun k hk => ?_⟩
  simp [World.setCell, Array.getElem?_modify, Ne.symm hk]
theorem Only.evo {b : Nat} {w w' : World} {Z : Nat → Prop} (h : Only b w w') (hz : ¬ Z b) : Evo Z w w' :=
  ⟨h.os, h.tape, h.output, Nat.le_of_eq h.size.symm, fun k hk => h.block k fun e => hz (e ▸ hk)⟩

/-- Storing cells. -/
theorem run_storeCells_row (b o : Nat) (t : TypeId) : ∀ (vs : List Value) (i : Nat) (w : World) (c : Array Value), rowT w b t c → o + i + vs.length ≤ c.size → (∀ v ∈ vs, v.oneCell' = true) →
    ∃ w' c', (storeCells ⟨b, o, none⟩ vs i).run P w = .ok () w' ∧ rowT w' b t c' ∧ c'.size = c.size ∧ Only b w w' ∧
      ∀ k, c'.getD k undef = if o + i ≤ k ∧ k < o + i + vs.length then vs.getD (k - (o + i)) undef else c.getD k undef := by
  intro vs
  induction vs with
  | nil => intro i w c h _ _; exact ⟨w, c, rfl, h, rfl, .refl, fun k => by rw [if_neg (by simp only [List.length_nil]; omega)]⟩
  | cons v vs ih =>
    intro i w c h hl h1
    simp only [List.length_cons] at hl
    have hlt : o + i < c.size := by omega
    have hv : v.oneCell' = true := h1 v (by simp)
    have hs : (store ((⟨b, o, none⟩ : Addr).add i) v).run P w = .ok () (w.setCell ⟨b, o + i, none⟩ v) := by
      rw [add_mk, run_store P w _ v .plain hv, h.cell hlt]
      simp [h.frozen hlt]
    obtain ⟨w', c', hr, hrow, hsz, ho, hg⟩ := ih (i + 1) (w.setCell ⟨b, o + i, none⟩ v) (c.setIfInBounds (o + i) v) (h.set _ _) (by simp; omega) (fun u hu => h1 u (by simp [hu]))
    refine ⟨w', c', ?_, hrow, by simpa using hsz, Only.set.trans ho, fun k => ?_⟩
    · simp only [storeCells, Sem.run_bind, hs, Result.andThen_ok]
      exact hr
    · rw [hg k, getD_set _ _ _ _ hlt]
      simp only [List.length_cons]
      by_cases e : k = o + i
      · subst e
        rw [if_neg (by omega), if_pos rfl, if_pos (by omega)]
        simp
      · rw [if_neg e]
        by_cases e2 : o + (i + 1) ≤ k ∧ k < o + (i + 1) + vs.length
        · rw [if_pos e2, if_pos (by omega)]
          rw [show k - (o + i) = (k - (o + (i + 1))) + 1 by omega]
          simp
        · rw [if_neg e2, if_neg (by omega)]

/-- A new block's row. -/
theorem rowT_alloc (w : World) (c : Array Value) (t : TypeId) : rowT (w.alloc (.cells c t)) w.heap.size t c :=
  ⟨0, 0, Go.heap_alloc_new w _, fun o _ => by omega⟩
theorem rowAt_alloc (w : World) (c : Array Value) (t : TypeId) : rowAt (w.alloc (.cells c t)) w.heap.size c := ⟨t, rowT_alloc w c t⟩
theorem heap_alloc_lt (w : World) (o : Obj) (k : Nat) (h : k < w.heap.size) : (w.alloc o).heap[k]? = w.heap[k]? := by
  show (w.heap.push o)[k]? = _
  rw [Array.getElem?_push, if_neg (by omega)]
theorem Evo.alloc {Z : Nat → Prop} {w : World} {o : Obj} (hz : ∀ b, Z b → b < w.heap.size) : Evo Z w (w.alloc o) :=
  ⟨rfl, rfl, rfl, by simp, fun b hb => heap_alloc_lt _ _ _ (hz b hb)⟩

/-- The blocks that are immutable lie in the heap: for what was immutable and is no block, forget it. -/
def low (Z : Nat → Prop) (w : World) : Nat → Prop := fun b => Z b ∧ b < w.heap.size

/-- What stands for one cell. -/
def isCell : D → Bool
  | .v x => x.oneCell'
  | .ifc _ _ | .ro _ _ _ | .rp _ | .sl _ _ | .ep _ _ _ _ => true
  | _ => false

theorem Rel.oneCell {Z : Nat → Prop} {w : World} {d : D} {v : Value} (h : Rel Z w d v) (hd : isCell d = true) : v.oneCell' = true ∧ v.cells = #[v] := by
  cases h with
  | v => cases v <;> first | exact ⟨rfl, rfl⟩ | (simp [isCell, Value.oneCell'] at hd)
  | any => simp [isCell] at hd
  | agg => simp [isCell] at hd
  | tup => simp [isCell] at hd
  | ifc h => exact ⟨rfl, rfl⟩
  | ro => exact ⟨rfl, rfl⟩
  | ronil => exact ⟨rfl, rfl⟩
  | rp => exact ⟨rfl, rfl⟩
  | sl s len => cases s <;> exact ⟨rfl, rfl⟩
  | ep s e i j => cases s <;> exact ⟨rfl, rfl⟩

/-- The cells of what stands for a value. -/
def dcells : D → Option (List D)
  | .agg ds => some ds
  | d => if isCell d then some [d] else none

theorem Rel.cells {Z : Nat → Prop} {w : World} {d : D} {v : Value} {ds : List D} (h : Rel Z w d v) (hd : dcells d = some ds) :
    v.cells.size = ds.length ∧ ∀ i d, ds[i]? = some d → Rel Z w d (v.cells.getD i undef) := by
  have one : isCell d = true → ds = [d] → v.cells.size = ds.length ∧ ∀ i d, ds[i]? = some d → Rel Z w d (v.cells.getD i undef) := by
    intro hc e
    subst e
    obtain ⟨_, e⟩ := h.oneCell hc
    rw [e]
    refine ⟨rfl, fun i d' hd' => ?_⟩
    cases i with
    | zero => simp at hd'; subst hd'; exact h
    | succ i => simp at hd'
  cases d with
  | agg ds' =>
    simp [dcells] at hd
    subst hd
    cases h with
    | agg hl h => exact ⟨hl.symm, h⟩
  | any => simp [dcells, isCell] at hd
  | tup => simp [dcells, isCell] at hd
  | _ =>
    simp only [dcells] at hd
    split at hd
    · rename_i hc; exact one hc (by simpa using hd.symm)
    · cases hd

/-! ### Loads -/
theorem run_loadVar1 {s : TypeId} {d : TypeDesc} (hu : P.underlying s = some d) (hd : isAggD d = false) {a : Addr} {w : World} {v : Value} (h : w.cell? a = some v) :
    (loadVar s a).run P w = .ok v w := by
  cases d <;> first | (simp [isAggD] at hd; done) | simp [loadVar, isAgg, underlying, hu, h]
theorem run_loadVarA {s : TypeId} {d : TypeDesc} {i : TypeInfo} (hu : P.underlying s = some d) (hd : isAggD d = true) (hi : P.info? s = some i) {a : Addr} {w : World} {f : Nat → Value}
    (h : ∀ j, j < i.size → w.cell? (a.add j) = some (f j)) : (loadVar s a).run P w = .ok (.agg ((List.range i.size).map f).toArray) w := by
  have e := run_loadCells (P := P) (w := w) a i.size f h
  cases d <;> first | (simp [isAggD] at hd; done) | (simp [loadVar, isAgg, underlying, hu, sizeOf, typeInfo, hi, e])

theorem OpT.load1_of {p : Operand} {d : D} (h : ∀ (N : Nat) (Z : Nat → Prop) (F : List Chunk) (a : Act) (w : World), Cfg W0 N Z F env σ a w → ∃ ad v, a.eval p = .pointer (some ad) ∧ w.cell? ad = some v ∧ Rel Z w d v) (hk : K d σ) :
    OpT P W0 (.load false 1 p) env σ K X := by
  refine OpT.pure (fun o ho N Z F a w hc => ?_) hk
  obtain ⟨dst, op, ty, pos, after, guard⟩ := o
  obtain ⟨ad, v, h1, h2, h3⟩ := h N Z F a w hc
  cases ho with
  | load1 hu hd => exact ⟨v, by simp [execOp, Instr.loadAt, Instr.sureAddr, h1, run_loadVar1 hu hd h2], h3⟩

theorem OpT.loadA_of {p : Operand} {n : Nat} {ds : List D} (hl : ds.length = n)
    (h : ∀ (N : Nat) (Z : Nat → Prop) (F : List Chunk) (a : Act) (w : World), Cfg W0 N Z F env σ a w → ∃ (b o : Nat) (f : Nat → Value), a.eval p = .pointer (some ⟨b, o, none⟩) ∧ ∀ j d, ds[j]? = some d → w.cell? ⟨b, o + j, none⟩ = some (f j) ∧ Rel Z w d (f j)) (hk : K (.agg ds) σ) :
    OpT P W0 (.load true n p) env σ K X := by
  refine OpT.pure (fun o ho N Z F a w hc => ?_) hk
  obtain ⟨dst, op, ty, pos, after, guard⟩ := o
  obtain ⟨b, off, f, h1, h2⟩ := h N Z F a w hc
  cases ho with
  | loadA hu hd hi =>
    rename_i s i d'
    have hc' : ∀ j, j < i.size → w.cell? ((⟨b, off, none⟩ : Addr).add j) = some (f j) := by
      intro j hj
      rw [add_mk]
      have hlt : j < ds.length := by omega
      exact (h2 j ds[j] (List.getElem?_eq_getElem hlt)).1
    refine ⟨_, by simp only [execOp, Instr.loadAt, Instr.sureAddr, h1]; simp [run_loadVarA hu hd hi hc']; rfl, .agg (by simp [hl]) fun j d hd' => ?_⟩
    have hlt : j < i.size := by have := (List.getElem?_eq_some_iff.1 hd').1; omega
    have e : ((List.range i.size).map f).toArray.getD j undef = f j := by simp [Array.getD_eq_getD_getElem?, hlt]
    rw [e]
    exact (h2 j d hd').2

theorem OpT.loadP {p : Operand} {ds : List D} {d : D} (hp : aget env p = some (.rp ds)) (hd : ds[0]? = some d) (hk : K d σ) : OpT P W0 (.load false 1 p) env σ K X := by
  refine OpT.load1_of (fun N Z F a w hc => ?_) hk
  have h := hc.eval hp
  generalize a.eval p = u at h
  cases h with
  | rp f hb hm h => exact ⟨_, _, rfl, hm 0 d hd, h 0 d hd⟩

theorem OpT.loadB {p : Operand} {b o i : Nat} {t : TypeId} {cs : List D} {d : D} (hp : aget env p = some (.v (.pointer (some ⟨b, o, none⟩)))) (hi : σ[i]? = some (.box b t cs)) (hd : cs[o]? = some d) (hk : K d σ) : OpT P W0 (.load false 1 p) env σ K X := by
  refine OpT.load1_of (fun N Z F a w hc => ?_) hk
  obtain ⟨c, hrow, hsz, hrel⟩ := hc.st.get hi
  have hlt : o < c.size := by have := (List.getElem?_eq_some_iff.1 hd).1; omega
  exact ⟨_, _, hc.eval_v hp, hrow.cell hlt, hrel o d hd⟩

theorem arr_cell {Z : Nat → Prop} {w : World} {s : Sl} {esz : Nat} {els : List (List D)} (h : (Chunk.arr s esz els).holds Z w) {i j : Nat} {e : List D} {d : D} (he : els[i]? = some e) (hd : e[j]? = some d) :
    ∃ b pre cap tt v, s = .at b pre cap tt ∧ w.cell? ⟨b, pre + (i * esz + j), none⟩ = some v ∧ Rel Z w d v := by
  cases s with
  | nil => simp only [Chunk.holds] at h; subst h; simp at he
  | «at» b pre cap tt =>
    obtain ⟨c, hrow, hsz, hlen, hel, hrel⟩ := h
    have h1 : i < els.length := (List.getElem?_eq_some_iff.1 he).1
    have h2 : j < esz := by rw [← hel i e he]; exact (List.getElem?_eq_some_iff.1 hd).1
    have h3 : i * esz + esz ≤ cap * esz := by rw [← Nat.succ_mul]; exact Nat.mul_le_mul_right _ (by omega)
    have hlt : pre + (i * esz + j) < c.size := by omega
    refine ⟨b, pre, cap, tt, _, rfl, hrow.cell hlt, ?_⟩
    have := hrel i e j d he hd
    rwa [Nat.add_assoc] at this

theorem OpT.loadE {p : Operand} {s : Sl} {esz i j q : Nat} {els : List (List D)} {e : List D} {d : D} (hp : aget env p = some (.ep s esz i j)) (hq : σ[q]? = some (.arr s esz els)) (he : els[i]? = some e) (hd : e[j]? = some d) (hk : K d σ) :
    OpT P W0 (.load false 1 p) env σ K X := by
  refine OpT.load1_of (fun N Z F a w hc => ?_) hk
  obtain ⟨b, pre, cap, tt, v, rfl, h1, h2⟩ := arr_cell (hc.st.get hq) he hd
  have h := hc.eval hp
  generalize a.eval p = u at h
  cases h
  exact ⟨_, v, rfl, h1, h2⟩

theorem OpT.loadPA {p : Operand} {n : Nat} {ds es : List D} (hp : aget env p = some (.rp ds)) (hd : ds.take n = es) (hl : es.length = n) (hk : K (.agg es) σ) : OpT P W0 (.load true n p) env σ K X := by
  subst hd
  refine OpT.loadA_of hl (fun N Z F a w hc => ?_) hk
  have h := hc.eval hp
  generalize a.eval p = u at h
  cases h with
  | rp f hb hm h =>
    refine ⟨_, _, f, rfl, fun j d hd => ?_⟩
    have : ds[j]? = some d := by rw [List.getElem?_take] at hd; split at hd <;> first | exact hd | cases hd
    exact ⟨hm j d this, h j d this⟩

theorem OpT.loadBA {p : Operand} {n b o i : Nat} {t : TypeId} {cs es : List D} (hp : aget env p = some (.v (.pointer (some ⟨b, o, none⟩)))) (hi : σ[i]? = some (.box b t cs)) (hd : (cs.drop o).take n = es) (hl : es.length = n) (hk : K (.agg es) σ) :
    OpT P W0 (.load true n p) env σ K X := by
  subst hd
  refine OpT.loadA_of hl (fun N Z F a w hc => ?_) hk
  obtain ⟨c, hrow, hsz, hrel⟩ := hc.st.get hi
  refine ⟨b, o, fun j => c.getD (o + j) undef, hc.eval_v hp, fun j d hd => ?_⟩
  have h1 : cs[o + j]? = some d := by
    rw [List.getElem?_take] at hd
    split at hd
    · rwa [List.getElem?_drop] at hd
    · cases hd
  have hlt : o + j < c.size := by have := (List.getElem?_eq_some_iff.1 h1).1; omega
  exact ⟨hrow.cell hlt, hrel _ d h1⟩

theorem OpT.loadEA {p : Operand} {n : Nat} {s : Sl} {esz i j q : Nat} {els : List (List D)} {e es : List D} (hp : aget env p = some (.ep s esz i j)) (hq : σ[q]? = some (.arr s esz els)) (he : els[i]? = some e) (hd : (e.drop j).take n = es) (hl : es.length = n) (h0 : 0 < n)
    (hk : K (.agg es) σ) : OpT P W0 (.load true n p) env σ K X := by
  subst hd
  refine OpT.loadA_of hl (fun N Z F a w hc => ?_) hk
  have hch := hc.st.get hq
  have h := hc.eval hp
  generalize a.eval p = u at h
  cases h
  cases s with
  | nil => simp only [Chunk.holds] at hch; subst hch; simp at he
  | «at» b pre cap tt =>
    have hch' := hch
    obtain ⟨c, hrow, hsz, hlen, hel, hrel⟩ := hch'
    refine ⟨b, _, fun k => c.getD (pre + i * esz + (j + k)) undef, rfl, fun k d hd => ?_⟩
    have h1 : e[j + k]? = some d := by
      rw [List.getElem?_take] at hd
      split at hd
      · rwa [List.getElem?_drop] at hd
      · cases hd
    obtain ⟨_, _, _, _, v, h0, h2, h3⟩ := arr_cell hch he h1
    cases h0
    have h4 := hrel i e (j + k) d he h1
    have h5 : i < els.length := (List.getElem?_eq_some_iff.1 he).1
    have h6 : j + k < esz := by rw [← hel i e he]; exact (List.getElem?_eq_some_iff.1 h1).1
    have h7 : i * esz + esz ≤ cap * esz := by rw [← Nat.succ_mul]; exact Nat.mul_le_mul_right _ (by omega)
    have h8 := hrow.cell (o := pre + i * esz + (j + k)) (by omega)
    refine ⟨?_, h4⟩
    rw [show pre + (i * esz + j) + k = pre + i * esz + (j + k) by omega]
    exact h8

/-! ### Addresses -/
theorem OpT.fldP {p : Operand} {off : Nat} {ds es : List D} (hp : aget env p = some (.rp ds)) (hd : ds.drop off = es) (hk : K (.rp es) σ) : OpT P W0 (.fld off p) env σ K X := by
  subst hd
  refine OpT.pure (fun o ho N Z F a w hc => ?_) hk
  obtain ⟨dst, op, ty, pos, after, guard⟩ := o
  have h := hc.eval hp
  generalize hu' : a.eval p = u at h
  cases h with
  | rp f hb hm h =>
    rename_i b o
    cases ho with
    | fld hu hf hi h0 =>
      rename_i s fs f' n i
      refine ⟨.pointer (some ⟨b, o + f'.offset, none⟩), ?_, .rp (fun j => f (f'.offset + j)) hb (fun j d hd => ?_) fun j d hd => ?_⟩
      · simp [execOp, Instr.fieldAt, underlying, hu, hf, Instr.sureAddr, hu', fieldPlace, sizeOf, typeInfo, hi, h0, add_mk]
      · rw [List.getElem?_drop] at hd
        rw [Nat.add_assoc]; exact hm _ d hd
      · rw [List.getElem?_drop] at hd
        exact h _ d hd

theorem OpT.fldB {p : Operand} {off b o : Nat} (hp : aget env p = some (.v (.pointer (some ⟨b, o, none⟩)))) (hk : K (.v (.pointer (some ⟨b, o + off, none⟩))) σ) : OpT P W0 (.fld off p) env σ K X := by
  refine OpT.pure (fun o' ho N Z F a w hc => ?_) hk
  obtain ⟨dst, op, ty, pos, after, guard⟩ := o'
  cases ho with
  | fld hu hf hi h0 =>
    exact ⟨_, by simp [execOp, Instr.fieldAt, underlying, hu, hf, Instr.sureAddr, hc.eval_v hp, fieldPlace, sizeOf, typeInfo, hi, h0, add_mk], .v _⟩

theorem OpT.fldE {p : Operand} {off : Nat} {s : Sl} {esz i j q : Nat} {els : List (List D)} (hp : aget env p = some (.ep s esz i j)) (hq : σ[q]? = some (.arr s esz els)) (hi : i < els.length) (hk : K (.ep s esz i (j + off)) σ) : OpT P W0 (.fld off p) env σ K X := by
  refine OpT.pure (fun o' ho N Z F a w hc => ?_) hk
  obtain ⟨dst, op, ty, pos, after, guard⟩ := o'
  have hch := hc.st.get hq
  have h := hc.eval hp
  generalize hu' : a.eval p = u at h
  cases h
  cases s with
  | nil => simp only [Chunk.holds] at hch; subst hch; simp at hi
  | «at» b pre cap tt =>
    cases ho with
    | fld hu hf hi h0 =>
      refine ⟨_, ?_, .ep _ _ _ _⟩
      simp [execOp, Instr.fieldAt, underlying, hu, hf, Instr.sureAddr, hu', Sl.ptr, fieldPlace, sizeOf, typeInfo, hi, h0, add_mk, Nat.add_assoc]

theorem OpT.nilChkE {x : Operand} {s : Sl} {esz i j q : Nat} {els : List (List D)} (hp : aget env x = some (.ep s esz i j)) (hq : σ[q]? = some (.arr s esz els)) (hi : i < els.length) (hk : K (.ep s esz i j) σ) : OpT P W0 (.nilChk x) env σ K X := by
  refine OpT.pure (fun o' ho N Z F a w hc => ?_) hk
  obtain ⟨dst, op, ty, pos, after, guard⟩ := o'
  have hch := hc.st.get hq
  have h := hc.eval hp
  generalize hu' : a.eval x = u at h
  cases h
  cases s with
  | nil => simp only [Chunk.holds] at hch; subst hch; simp at hi
  | «at» b pre cap tt =>
    cases ho
    exact ⟨_, by simp [execOp, hu', Sl.ptr], .ep (.at b pre cap tt) esz i j⟩

theorem OpT.idxP {x y : Operand} {esz len : Nat} {els : List (List D)} {k : IntKind} {n : Int} {e : List D} (hx : aget env x = some (.ro esz els len)) (hy : aget env y = some (.v (.int k n))) (hn : 0 ≤ n ∧ n < len) (he : els[n.toNat]? = some e) (hk : K (.rp e) σ) :
    OpT P W0 (.idxA esz x y) env σ K X := by
  refine OpT.pure (fun o ho N Z F a w hc => ?_) hk
  obtain ⟨dst, op, ty, pos, after, guard⟩ := o
  have h := hc.eval hx
  generalize hu' : a.eval x = u at h
  cases h with
  | ronil => simp at he
  | ro f hb hl hcp hes hm h =>
    rename_i b off cap
    cases ho with
    | idxA hu hi =>
      rename_i s et i
      refine ⟨.pointer (some ⟨b, off + n.toNat * i.size, none⟩), ?_, .rp (fun j => f n.toNat j) hb (fun j d hd => ?_) fun j d hd => ?_⟩
      · simp [execOp, Instr.indexAt, asIntOf, hc.eval_v hy, underlying, hu, hu', hn, sizeOf, typeInfo, hi, add_mk]
      · exact hm _ e j d he hd
      · exact h _ e j d he hd

theorem OpT.idxE {x y : Operand} {esz len q : Nat} {s : Sl} {els : List (List D)} {k : IntKind} {n : Int} (hx : aget env x = some (.sl s len)) (hy : aget env y = some (.v (.int k n))) (hn : 0 ≤ n ∧ n < len) (hq : σ[q]? = some (.arr s esz els)) (hl : len ≤ els.length) (hk : K (.ep s esz n.toNat 0) σ) :
    OpT P W0 (.idxA esz x y) env σ K X := by
  refine OpT.pure (fun o ho N Z F a w hc => ?_) hk
  obtain ⟨dst, op, ty, pos, after, guard⟩ := o
  have hch := hc.st.get hq
  have h := hc.eval hx
  generalize hu' : a.eval x = u at h
  cases h
  cases s with
  | nil => simp only [Chunk.holds] at hch; subst hch; simp at hl; omega
  | «at» b pre cap tt =>
    cases ho with
    | idxA hu hi =>
      refine ⟨_, ?_, .ep _ _ _ _⟩
      simp [execOp, Instr.indexAt, asIntOf, hc.eval_v hy, underlying, hu, hu', hn, sizeOf, typeInfo, hi, add_mk, Sl.ptr, Sl.val]

/-- An array behind a pointer, element by element. -/
theorem OpT.idxR {x y : Operand} {esz len b o : Nat} {k : IntKind} {n : Int} (hx : aget env x = some (.v (.pointer (some ⟨b, o, none⟩)))) (hy : aget env y = some (.v (.int k n))) (hn : 0 ≤ n ∧ n < len) (hk : K (.v (.pointer (some ⟨b, o + n.toNat * esz, none⟩))) σ) :
    OpT P W0 (.idxR len esz x y) env σ K X := by
  refine OpT.pure (fun o ho N Z F a w hc => ?_) hk
  obtain ⟨dst, op, ty, pos, after, guard⟩ := o
  cases ho with
  | idxR hu hi =>
    exact ⟨_, by simp [execOp, Instr.indexAt, asIntOf, hc.eval_v hy, hc.eval_v hx, underlying, hu, hn, sizeOf, typeInfo, hi, add_mk, Instr.sureAddr], .v _⟩

/-! ### Fields of values -/
theorem run_part1 {t : TypeId} {d : TypeDesc} (hd : P.underlying t = some d) (hb : isAggD d = false) {cs : Array Value} {off : Nat} (h : off < cs.size) (w : World) : (part t cs off).run P w = .ok (cs.getD off undef) w := by
  cases d <;> first | (simp [isAggD] at hb; done) | simp [part, isAgg, underlying, hd, h]
theorem run_partA {t : TypeId} {d : TypeDesc} {i : TypeInfo} (hd : P.underlying t = some d) (hi : P.info? t = some i) (hb : isAggD d = true) (cs : Array Value) (off : Nat) (w : World) :
    (part t cs off).run P w = .ok (.agg (cs.extract off (off + i.size))) w := by
  cases d <;> first | (simp [isAggD] at hb; done) | simp [part, isAgg, underlying, hd, sizeOf, typeInfo, hi]

theorem OpT.getf1 {x : Operand} {off n : Nat} {ds : List D} {d : D} (hx : aget env x = some (.agg ds)) (hd : ds[off]? = some d) (hk : K d σ) : OpT P W0 (.getf false off n x) env σ K X := by
  refine OpT.pure (fun o ho N Z F a w hc => ?_) hk
  obtain ⟨dst, op, ty, pos, after, guard⟩ := o
  have h := hc.eval hx
  generalize hu' : a.eval x = u at h
  cases h with
  | agg hl h =>
    cases ho with
    | getf hu hf hi hd' hb =>
      have hlt := (List.getElem?_eq_some_iff.1 hd).1
      refine ⟨_, ?_, h _ d hd⟩
      simp [execOp, Instr.field, underlying, hu, hf, asAgg, hu', run_part1 hd' hb (hl ▸ hlt)]

theorem OpT.getfA {x : Operand} {off n : Nat} {ds es : List D} (hx : aget env x = some (.agg ds)) (hd : (ds.drop off).take n = es) (hl' : es.length = n) (hk : K (.agg es) σ) : OpT P W0 (.getf true off n x) env σ K X := by
  subst hd
  refine OpT.pure (fun o ho N Z F a w hc => ?_) hk
  obtain ⟨dst, op, ty, pos, after, guard⟩ := o
  have h := hc.eval hx
  generalize hu' : a.eval x = u at h
  cases h with
  | agg hl h =>
    cases ho with
    | getf hu hf hi hd' hb =>
      rename_i s fs f' n' i d'
      refine ⟨_, by simp [execOp, Instr.field, underlying, hu, hf, asAgg, hu', run_partA hd' hi hb]; rfl, .agg (by simp at hl' ⊢; omega) fun j d hd => ?_⟩
      have h1 : ds[f'.offset + j]? = some d := by
        rw [List.getElem?_take] at hd
        split at hd
        · rw [List.getElem?_drop] at hd; exact hd
        · cases hd
      have h2 := h _ d h1
      have h3 : j < (List.take _ (List.drop _ ds)).length := (List.getElem?_eq_some_iff.1 hd).1
      simp at h3
      rw [Array.getD_eq_getD_getElem?, Array.getElem?_extract, if_pos (by omega), ← Array.getD_eq_getD_getElem?]
      exact h2
end Go.Abs
