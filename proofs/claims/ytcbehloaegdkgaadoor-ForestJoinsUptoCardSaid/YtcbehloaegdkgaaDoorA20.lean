/- Abstract layer: what a row's reading of the arguments gives: data. -/
import Derived.Test.YtcbehloaegdkgaaDoorA19
import Derived.Deep.DeepHandedRow
set_option linter.unusedVariables false
set_option linter.unusedSimpArgs false
namespace Go.Abs
open Go
variable {H : Type} {enc : TypeId × Value → H} {P : Program}

def cellAt (toD : TypeId → DataW H → List D) (P : Program) : List Field → List (DataW H) → Nat → D
  | f :: fs, p :: ps, j => if f.offset ≤ j ∧ j < f.offset + P.cellsOf f.type then ((toD f.type p)[j - f.offset]?).getD .any else cellAt toD P fs ps j
  | _, _, _ => .any

/-- A reading's datum, cell by cell. -/
def toDs (P : Program) : Nat → TypeId → DataW H → List D
  | 0, _, _ => [.any]
  | n + 1, t, d => match P.underlying t, d with
    | some .bool, .lit (.bool b) => [.v (.bool b)]
    | some (.int _), .lit (.int k m) => [.v (.int k m)]
    | some (.float _), .lit (.float k b) => [.v (.float k b)]
    | some .string, .lit (.string l) => [.v (.string ⟨l.toArray⟩)]
    | some (.slice e), .nil => [.ro (P.cellsOf e) [] 0]
    | some (.slice e), .slice elems _ => if P.cellsOf e = 0 then [.any] else [.ro (P.cellsOf e) (elems.map (toDs P n e)) elems.length]
    | some (.pointer _), .nil => [.v (.pointer none)]
    | some (.pointer e), .ptr d => if P.cellsOf e = 0 then [.any] else [.rp (toDs P n e d)]
    | some (.struct fs), .agg parts => (List.range (P.cellsOf t)).map (cellAt (toDs P n) P fs.toList parts)
    | some (.struct _), _ | some (.array _ _), _ => List.replicate (P.cellsOf t) .any
    | _, _ => [.any]

def RelL (Z : Nat → Prop) (w : World) (ds : List D) (cs : List Value) : Prop := ds.length = cs.length ∧ ∀ (i : Nat) d, ds[i]? = some d → Rel Z w d (cs.getD i undef)
theorem RelL.one {Z : Nat → Prop} {w : World} {d : D} {v : Value} (h : Rel Z w d v) : RelL Z w [d] [v] := by
  refine ⟨rfl, fun i d' hd => ?_⟩
  cases i with
  | zero => simp at hd; subst hd; exact h
  | succ i => simp at hd
theorem RelL.any {Z : Nat → Prop} {w : World} (cs : List Value) : RelL Z w (List.replicate cs.length .any) cs := by
  refine ⟨by simp, fun i d hd => ?_⟩
  rw [List.getElem?_replicate] at hd
  split at hd
  · cases hd; exact .any _
  · cases hd

theorem mapM_get {α β : Type} {f : α → Option β} : ∀ {l : List α} {r : List β}, l.mapM f = some r → r.length = l.length ∧ ∀ (i : Nat) x y, l[i]? = some x → r[i]? = some y → f x = some y := by
  intro l
  induction l with
  | nil => intro r h; simp at h; subst h; exact ⟨rfl, fun i x y hx => by simp at hx⟩
  | cons a l ih =>
    intro r h
    simp only [List.mapM_cons, Option.bind_eq_bind, Option.pure_def] at h
    cases ha : f a with
    | none => rw [ha] at h; cases h
    | some b =>
      rw [ha] at h
      simp only [Option.bind_some] at h
      cases hl : l.mapM f with
      | none => rw [hl] at h; cases h
      | some s =>
        rw [hl] at h
        simp at h
        subst h
        obtain ⟨h1, h2⟩ := ih hl
        refine ⟨by simp [h1], fun i x y hx hy => ?_⟩
        cases i with
        | zero => simp at hx hy; subst hx; subst hy; exact ha
        | succ i => simp at hx hy; exact h2 i x y hx hy

theorem cells_get {w : World} {a : Addr} {n : Nat} {cs : List Value} (h : w.cells? 0 a n = some cs) : cs.length = n ∧ ∀ j, j < n → w.cell? (a.add j) = some (cs.getD j undef) := by
  unfold World.cells? at h
  rw [if_pos (Nat.zero_le _)] at h
  obtain ⟨h1, h2⟩ := mapM_get h
  rw [List.length_range] at h1
  refine ⟨h1, fun j hj => ?_⟩
  have := h2 j j (cs.getD j undef) (List.getElem?_range hj) (by rw [List.getD_eq_getElem?_getD, List.getElem?_eq_getElem (by omega)]; rfl)
  exact this

theorem cell_some {w : World} {a : Addr} {v : Value} (h : w.cell? a = some v) : a.spot = none ∧ a.block < w.heap.size := by
  unfold World.cell? at h
  split at h
  · rename_i c t f hc
    refine ⟨?_, ?_⟩
    · cases hs : a.spot with
      | none => rfl
      | some x => rw [hs] at h; simp at h
    · rcases Nat.lt_or_ge a.block w.heap.size with h' | h'
      · exact h'
      · rw [Array.getElem?_eq_none h'] at hc; cases hc
  · cases h

/-- One row of cells, somewhere. -/
theorem cells_at {w : World} {a : Addr} {m n : Nat} {cs : List Value} (h : w.cells? 0 (a.add m) n = some cs) (hs : a.spot = none) : cs.length = n ∧ ∀ j, j < n → w.cell? ⟨a.block, a.off + m + j, none⟩ = some (cs.getD j undef) := by
  obtain ⟨h1, h2⟩ := cells_get h
  refine ⟨h1, fun j hj => ?_⟩
  have := h2 j hj
  obtain ⟨b, o, sp⟩ := a
  simp only at hs
  subst hs
  rwa [add_mk, add_mk] at this

theorem cells_spot {w : World} {a : Addr} {n : Nat} {cs : List Value} (h : w.cells? 0 (a.add 0) n = some cs) (hn : 0 < n) : a.spot = none ∧ a.block < w.heap.size := by
  obtain ⟨_, h2⟩ := cells_get h
  have := cell_some (h2 0 hn)
  simpa [Addr.add] using this

theorem cellAt_rel {Z : Nat → Prop} {w : World} {toD : TypeId → DataW H → List D} {cs : List Value} {j : Nat} : ∀ {fs : List Field} {xs : List (DataW H)}, (∀ (i : Nat) f x, fs[i]? = some f → xs[i]? = some x → RelL Z w (toD f.type x) ((cs.drop f.offset).take (P.cellsOf f.type))) → Rel Z w (cellAt toD P fs xs j) (cs.getD j undef) := by
  intro fs
  induction fs with
  | nil => intro xs _; exact .any _
  | cons f fs ih =>
    intro xs h
    cases xs with
    | nil => exact .any _
    | cons x xs =>
      simp only [cellAt]
      split
      · rename_i hj
        cases hg : (toD f.type x)[j - f.offset]? with
        | none => exact .any _
        | some d =>
          have := (h 0 f x rfl rfl).2 _ d hg
          rw [List.getD_eq_getElem?_getD, List.getElem?_take, if_pos (by omega), List.getElem?_drop, show f.offset + (j - f.offset) = j by omega] at this
          rwa [List.getD_eq_getElem?_getD]
      · exact ih fun i f' x' hf hx => h (i + 1) f' x' (by simpa using hf) (by simpa using hx)

theorem trod_rel {w : World} : ∀ (n : Nat) (t : TypeId) (cs : List Value) (d : DataW H) (ps : List MemPlace), DataW.trod enc P w 0 (fun _ => true) true n t cs = some (d, ps) → RelL (fun b => b < w.heap.size) w (toDs P n t d) cs := by
  intro n
  induction n with
  | zero => intro t cs d ps h; cases h
  | succ n ih =>
    intro t cs d ps h
    simp only [DataW.trod] at h
    split at h
    · rename_i hu; cases h; simp only [toDs, hu]; exact .one (.v _)
    · rename_i hu; split at h
      · rename_i hk; cases h; simp only [toDs, hu]; rw [hk.1]; exact .one (.v _)
      · cases h
    · rename_i hu; split at h
      · rename_i hk; cases h; simp only [toDs, hu]; rw [hk.1]; exact .one (.v _)
      · cases h
    · rename_i hu; split at h
      · cases h; simp only [toDs, hu]; exact .one (.v _)
      · cases h
    · rename_i hu; cases h; simp only [toDs, hu]; exact .one (.v _)
    · rename_i e a hu
      simp only [Option.map_eq_some_iff, Option.bind_eq_some_iff] at h
      obtain ⟨⟨d', q⟩, ⟨c, hc, ht⟩, he⟩ := h
      cases he
      simp only [toDs, hu]
      split
      · exact .one (.any _)
      · rename_i h0
        have hr := ih _ _ _ _ ht
        have h2 := cells_get hc
        have h3 := cell_some (h2.2 0 (by omega))
        have hsp : a.spot = none ∧ a.block < w.heap.size := by simpa [Addr.add] using h3
        obtain ⟨b, o, sp⟩ := a
        simp only at hsp
        obtain ⟨rfl, hb⟩ := hsp
        refine .one (.rp (fun j => c.getD j undef) hb (fun j d hj => ?_) hr.2)
        have hlt : j < P.cellsOf e := by
          have := (List.getElem?_eq_some_iff.1 hj).1
          rw [hr.1, h2.1] at this; exact this
        have := h2.2 j hlt
        rwa [add_mk] at this
    · rename_i hu; cases h; simp only [toDs, hu]; exact .one (.ronil none)
    · rename_i e a len cap hu
      split at h
      · rename_i hlen
        simp only [Option.bind_eq_some_iff, Option.map_eq_some_iff] at h
        obtain ⟨elems, he, rest, hrest, hd⟩ := h
        cases hd
        simp only [toDs, hu]
        split
        · exact .one (.any _)
        · rename_i h0
          obtain ⟨e1, e2⟩ := mapM_get he
          rw [List.length_range] at e1
          simp only [List.length_map, List.map_map, e1]
          by_cases hc0 : cap = 0
          · have : len = 0 := by omega
            subst this; subst hc0
            have : elems = [] := List.eq_nil_of_length_eq_zero e1
            subst this
            exact .one (.ronil (some a))
          · have hsp : a.spot = none ∧ a.block < w.heap.size := by
              by_cases hl0 : len = 0
              · subst hl0
                simp only [if_true] at hrest
                obtain ⟨r1, r2⟩ := mapM_get hrest
                rw [List.length_range] at r1
                have := r2 0 0 (rest[0]'(by omega)) (List.getElem?_range (by omega)) (List.getElem?_eq_getElem (by omega))
                simp only [Option.bind_eq_some_iff] at this
                obtain ⟨c, hc, _⟩ := this
                rw [show (0 + 0) * P.cellsOf e = 0 by omega] at hc
                exact cells_spot hc (by omega)
              · have := e2 0 0 (elems[0]'(by omega)) (List.getElem?_range (by omega)) (List.getElem?_eq_getElem (by omega))
                simp only [Option.bind_eq_some_iff] at this
                obtain ⟨c, hc, _⟩ := this
                rw [Nat.zero_mul] at hc
                exact cells_spot hc (by omega)
            have key : ∀ (i : Nat) x, elems[i]? = some x → ∃ c, c.length = P.cellsOf e ∧ (∀ j, j < P.cellsOf e → w.cell? ⟨a.block, a.off + i * P.cellsOf e + j, none⟩ = some (c.getD j undef)) ∧ RelL (fun b => b < w.heap.size) w (toDs P n e x.1) c := by
              intro i x hx
              have hi : i < len := by rw [← e1]; exact (List.getElem?_eq_some_iff.1 hx).1
              have := e2 i i x (List.getElem?_range hi) hx
              simp only [Option.bind_eq_some_iff] at this
              obtain ⟨c, hc, ht⟩ := this
              obtain ⟨c1, c2⟩ := cells_at hc hsp.1
              exact ⟨c, c1, c2, ih _ _ _ x.2 ht⟩
            obtain ⟨b, o, sp⟩ := a
            simp only at hsp key
            obtain ⟨rfl, hb⟩ := hsp
            refine .one (.ro (fun i j => (w.cell? ⟨b, o + i * P.cellsOf e + j, none⟩).getD undef) hb (by simp [e1]) (by simp [e1]; omega) (fun i x hx => ?_) (fun i x j d hx hd => ?_) (fun i x j d hx hd => ?_))
            all_goals rw [List.getElem?_map] at hx
            all_goals cases hg : elems[i]? with
              | none => rw [hg] at hx; cases hx
              | some y =>
                rw [hg] at hx
                cases hx
                obtain ⟨c, c1, c2, c3⟩ := key i y hg
                first
                  | exact c3.1.trans c1
                  | (have hj : j < P.cellsOf e := by
                      have := (List.getElem?_eq_some_iff.1 hd).1
                      simp only [Function.comp] at this
                      rw [c3.1, c1] at this; exact this
                     have := c2 j hj
                     simp only [this, Option.getD_some]
                     try exact c3.2 j d hd)
      · cases h
    · rename_i fs cs' hu
      split at h
      · rename_i hlen
        simp only [Option.map_eq_some_iff] at h
        obtain ⟨xs, hx, hd⟩ := h
        cases hd
        simp only [toDs, hu]
        obtain ⟨e1, e2⟩ := mapM_get hx
        refine ⟨by simp [hlen], fun j d hd => ?_⟩
        rw [List.getElem?_map] at hd
        cases hr : (List.range (P.cellsOf t))[j]? with
        | none => rw [hr] at hd; cases hd
        | some j' =>
          have : j' = j := by
            have := (List.getElem?_eq_some_iff.1 hr)
            obtain ⟨h1, h2⟩ := this
            simpa using h2.symm
          subst this
          rw [hr] at hd
          cases hd
          refine cellAt_rel fun i f x hf hx' => ?_
          rw [List.getElem?_map] at hx'
          cases hy : xs[i]? with
          | none => rw [hy] at hx'; cases hx'
          | some y =>
            rw [hy] at hx'
            cases hx'
            exact ih _ _ _ _ (e2 i f y hf hy)
      · cases h
    · rename_i m e cs' hu
      split at h
      · rename_i hlen
        simp only [Option.map_eq_some_iff] at h
        obtain ⟨xs, hx, hd⟩ := h
        cases hd
        simp only [toDs, hu]
        rw [← hlen]
        exact .any _
      · cases h
    all_goals first
      | (cases h; done)
      | (rename P.underlying t = some _ => hu
         simp only [toDs, hu]
         exact .one (.any _))

/-- A datum is of a type's shape. -/
def hasType (P : Program) : Nat → TypeId → DataW H → Prop
  | 0, _, _ => False
  | n + 1, t, d => match P.underlying t with
    | some .bool => ∃ b, d = .lit (.bool b)
    | some (.int k) => ∃ m, d = .lit (.int k m) ∧ (Lit.int k m).wf = true
    | some .string => ∃ l, d = .lit (.string l) ∧ l.length ≤ maxLen
    | some (.slice e) => d = .nil ∨ ∃ elems spare, d = .slice elems spare ∧ ∀ x ∈ elems, hasType P n e x
    | some (.pointer e) => d = .nil ∨ ∃ x, d = .ptr x ∧ hasType P n e x
    | some (.struct fs) => ∃ parts, d = .agg parts ∧ parts.length = fs.size ∧ ∀ (i : Nat) f p, fs[i]? = some f → parts[i]? = some p → hasType P n f.type p
    | _ => True

theorem trod_type {w : World} : ∀ (n : Nat) (t : TypeId) (cs : List Value) (d : DataW H) (ps : List MemPlace), DataW.trod enc P w 0 (fun _ => true) true n t cs = some (d, ps) → hasType P n t d := by
  intro n
  induction n with
  | zero => intro t cs d ps h; cases h
  | succ n ih =>
    intro t cs d ps h
    simp only [DataW.trod] at h
    split at h
    · rename_i hu; cases h; simp only [hasType, hu]; exact ⟨_, rfl⟩
    · rename_i hu; split at h
      · rename_i hk; cases h; simp only [hasType, hu]; exact ⟨_, rfl, hk.2⟩
      · cases h
    · rename_i hu; simp only [hasType, hu]
    · rename_i hu; split at h
      · rename_i hs; cases h; simp only [hasType, hu]; exact ⟨_, rfl, hs⟩
      · cases h
    · rename_i hu; cases h; simp only [hasType, hu]; exact .inl trivial
    · rename_i e a hu
      simp only [Option.map_eq_some_iff, Option.bind_eq_some_iff] at h
      obtain ⟨⟨d', q⟩, ⟨c, hc, ht⟩, he⟩ := h
      cases he
      simp only [hasType, hu]
      exact .inr ⟨_, rfl, ih _ _ _ _ ht⟩
    · rename_i hu; cases h; simp only [hasType, hu]; exact .inl trivial
    · rename_i e a len cap hu
      split at h
      · simp only [Option.bind_eq_some_iff, Option.map_eq_some_iff] at h
        obtain ⟨elems, he, rest, hrest, hd⟩ := h
        cases hd
        simp only [hasType, hu]
        refine .inr ⟨_, _, rfl, fun x hx => ?_⟩
        obtain ⟨y, hy, rfl⟩ := List.mem_map.1 hx
        obtain ⟨i, hi⟩ := List.getElem?_of_mem hy
        obtain ⟨e1, e2⟩ := mapM_get he
        rw [List.length_range] at e1
        have := e2 i i y (List.getElem?_range (by rw [← e1]; exact (List.getElem?_eq_some_iff.1 hi).1)) hi
        simp only [Option.bind_eq_some_iff] at this
        obtain ⟨c, _, ht⟩ := this
        exact ih _ _ _ y.2 ht
      · cases h
    · rename_i fs cs' hu
      split at h
      · simp only [Option.map_eq_some_iff] at h
        obtain ⟨xs, hx, hd⟩ := h
        cases hd
        simp only [hasType, hu]
        obtain ⟨e1, e2⟩ := mapM_get hx
        refine ⟨_, rfl, by simpa using e1, fun i f p hf hp => ?_⟩
        rw [List.getElem?_map] at hp
        cases hy : xs[i]? with
        | none => rw [hy] at hp; cases hp
        | some y =>
          rw [hy] at hp
          cases hp
          exact ih _ _ _ y.2 (e2 i f y (by simpa using hf) hy)
      · cases h
    all_goals first
      | (cases h; done)
      | (rename P.underlying t = some _ => hu
         simp only [hasType, hu])
end Go.Abs
