/-
  An abstract layer over the model: the operations that write and make memory.
-/
import Derived.Test.YtcbehloaegdkgaaDoorA4
set_option linter.unusedVariables false
set_option linter.unusedSimpArgs false
namespace Go.Abs
open Go
variable {P : Program} {W0 : World} {env : Env} {σ : List Chunk} {K : D → List Chunk → Prop} {X : D → List Chunk → Prop}

theorem Cfg.inh {N : Nat} {Z : Nat → Prop} {F : List Chunk} {a : Act} {w : World} (h : Cfg W0 N Z F env σ a w) : ∀ b, Z b → b < w.heap.size := h.st.inh

/-- A new block of cells. -/
theorem OpT.new_of {op : SOp} {t : TypeId} {cs : List D} {d : Nat → D} {ch : Nat → Chunk}
    (h : ∀ (o : Oper), Slim P o.op o.type op → ∀ (N : Nat) (Z : Nat → Prop) (F : List Chunk) (a : Act) (w : World), Cfg W0 N Z F env σ a w →
      ∃ (c : Array Value) (v : Value), (execOp a.eval o).run P w = .ok (.value v) (w.alloc (.cells c t)) ∧ (∀ Z w', Rel Z w' (d w.heap.size) v) ∧ c.size = cs.length ∧ ∀ i d, cs[i]? = some d → Rel Z w d (c.getD i undef))
    (hch : ∀ b, (ch b).blocks = [b]) (hh : ∀ b (c : Array Value) Z w, rowT w b t c → c.size = cs.length → (∀ i d, cs[i]? = some d → Rel Z w d (c.getD i undef)) → (ch b).holds Z w)
    (hk : ∀ b, K (d b) (ch b :: σ)) : OpT P W0 op env σ K X := by
  intro o ho N Z F a w hc next Q hn _
  obtain ⟨c, v, hr, hv, hsz, hrel⟩ := h o ho N Z F a w hc
  unfold Oper.wp
  rw [hr]
  have he : Evo Z w (w.alloc (.cells c t)) := Evo.alloc hc.inh
  refine hn Z v (d w.heap.size) (ch w.heap.size :: σ) _ (fun _ h => h) he ?_ (hv _ _) (hk _)
  refine hc.st.push he (fun b hb => heap_alloc_lt _ _ _ hb) (hh _ c Z _ (rowT_alloc w c t) hsz fun i d hd => (hrel i d hd).mono (fun _ h => h) he.block) ?_ ?_
  · rw [hch]; simp
  · rw [hch]
    intro b hb
    simp only [List.mem_singleton] at hb
    subst hb
    exact ⟨Nat.le_refl _, fun hz => Nat.lt_irrefl _ (hc.inh _ hz)⟩

theorem box_holds (t : TypeId) (cs : List D) : ∀ b (c : Array Value) Z w, rowT w b t c → c.size = cs.length → (∀ i d, cs[i]? = some d → Rel Z w d (c.getD i undef)) → (Chunk.box b t cs).holds Z w :=
  fun _ c _ _ h1 h2 h3 => ⟨c, h1, h2, h3⟩

theorem OpT.alloc {t : TypeId} {zs : List D} (hk : ∀ b, K (.v (.pointer (some ⟨b, 0, none⟩))) (.box b t zs :: σ)) : OpT P W0 (.alloc t zs) env σ K X := by
  refine OpT.new_of (t := t) (cs := zs) (d := fun b => .v (.pointer (some ⟨b, 0, none⟩))) (ch := fun b => .box b t zs) (fun o ho N Z F a w hc => ?_) (fun _ => rfl) (box_holds t zs) hk
  obtain ⟨dst, op, ty, pos, after, guard⟩ := o
  cases ho with
  | alloc hi hz zs hs =>
    rename_i i z
    refine ⟨z.cells, .pointer (some ⟨w.heap.size, 0, none⟩), ?_, fun _ _ => .v _, by rw [← hs]; simp, fun j d hd => ?_⟩
    · simp [execOp, Instr.alloc, zeroValue, typeInfo, hi, hz, newVar, newRow]
    · rw [← hs, List.getElem?_map] at hd
      cases hj : z.cells.toList[j]? with
      | none => rw [hj] at hd; cases hd
      | some u =>
        rw [hj] at hd
        cases hd
        have : z.cells.getD j undef = u := by
          rw [Array.getElem?_toList] at hj
          rw [Array.getD_eq_getD_getElem?, hj]; rfl
        rw [this]
        exact .v u

theorem OpT.box {t : TypeId} {x : Operand} {d : D} {ds : List D} (hx : aget env x = some d) (hd : dcells d = some ds) (hk : ∀ b, K (.v (.pointer (some ⟨b, 0, none⟩))) (.box b t ds :: σ)) : OpT P W0 (.box t x) env σ K X := by
  refine OpT.new_of (t := t) (cs := ds) (d := fun b => .v (.pointer (some ⟨b, 0, none⟩))) (ch := fun b => .box b t ds) (fun o ho N Z F a w hc => ?_) (fun _ => rfl) (box_holds t ds) hk
  obtain ⟨dst, op, ty, pos, after, guard⟩ := o
  cases ho with
  | box e =>
    obtain ⟨h1, h2⟩ := (hc.eval hx).cells hd
    exact ⟨(a.eval x).cells, .pointer (some ⟨w.heap.size, 0, none⟩), by simp [execOp, Instr.box, newVar, newRow], fun _ _ => .v _, h1, h2⟩

/-! ### Stores -/
theorem run_storeVar {s : TypeId} {i : TypeInfo} (hi : P.info? s = some i) {b o : Nat} {v : Value} {w : World} {ty : TypeId} {c : Array Value} (hrow : rowT w b ty c) (hn : v.cells.size = i.size) (hl : o + i.size ≤ c.size) (h1 : ∀ u ∈ v.cells.toList, u.oneCell' = true) :
    ∃ w' c', (storeVar s ⟨b, o, none⟩ v).run P w = .ok () w' ∧ rowT w' b ty c' ∧ c'.size = c.size ∧ Only b w w' ∧ ∀ k, c'.getD k undef = if o ≤ k ∧ k < o + i.size then v.cells.getD (k - o) undef else c.getD k undef := by
  have hlen : v.cells.toList.length = i.size := by simpa using hn
  obtain ⟨w', c', hr, h2, h3, h4, h5⟩ := run_storeCells_row (P := P) b o ty v.cells.toList 0 w c hrow (by omega) h1
  refine ⟨w', c', ?_, h2, h3, h4, fun k => ?_⟩
  · simp [storeVar, sizeOf, typeInfo, hi, hn, hr]
  · rw [h5 k, hlen]
    simp only [Nat.add_zero]
    rw [List.getD_eq_getElem?_getD, Array.getElem?_toList, ← Array.getD_eq_getD_getElem?]

theorem OpT.store_of {n q : Nat} {p x : Operand} {ch ch' : Chunk} (hq : σ[q]? = some ch)
    (h : ∀ (N : Nat) (Z : Nat → Prop) (F : List Chunk) (a : Act) (w : World), Cfg W0 N Z F env σ a w → ∃ (b o : Nat) (ty : TypeId) (c : Array Value), a.eval p = .pointer (some ⟨b, o, none⟩) ∧ ch.blocks = [b] ∧ ch'.blocks = [b] ∧ rowT w b ty c ∧ o + n ≤ c.size ∧
      (a.eval x).cells.size = n ∧ (∀ u ∈ (a.eval x).cells.toList, u.oneCell' = true) ∧
      ∀ w' c', rowT w' b ty c' → c'.size = c.size → Evo Z w w' → (∀ k, c'.getD k undef = if o ≤ k ∧ k < o + n then (a.eval x).cells.getD (k - o) undef else c.getD k undef) → ch'.holds Z w')
    (hk : K .any (σ.set q ch')) : OpT P W0 (.store n p x) env σ K X := by
  intro o' ho N Z F a w hc next Q hn _
  obtain ⟨dst, op, ty, pos, after, guard⟩ := o'
  obtain ⟨b, o, bty, c, hp, hb, hb', hrow, hl, hsz, h1, hh⟩ := h N Z F a w hc
  cases ho with
  | store hi =>
    rename_i s i
    obtain ⟨w', c', hr, h2, h3, h4, h5⟩ := run_storeVar (P := P) hi hrow hsz hl h1
    have hnz : ¬ Z b := hc.st.get_apart hq (by rw [hb]; simp)
    have he : Evo Z w w' := h4.evo hnz
    have hrun : (execOp a.eval ⟨dst, .store s p x, ty, pos, after, guard⟩).run P w = .ok .skip w' := by
      simp [execOp, Instr.storeAt, Instr.sureAddr, hp, hr]
    unfold Oper.wp
    rw [hrun]
    refine hn Z undef .any (σ.set q ch') w' (fun _ h => h) he ?_ (.any _) hk
    refine hc.st.set hq he (fun k hk hk' => h4.block k (by rw [hb] at hk'; simpa using hk')) (hh w' c' h2 h3 he h5) (by rw [hb']; simp) ?_
    intro k hk
    left
    rw [hb', List.mem_singleton] at hk
    rw [hb, hk]
    simp

theorem one_cells {v : Value} (h : v.cells = #[v]) (h1 : v.oneCell' = true) : ∀ u ∈ v.cells.toList, u.oneCell' = true := by
  rw [h]; intro u hu; simp at hu; rw [hu]; exact h1

theorem OpT.storeB {p x : Operand} {b o q : Nat} {t : TypeId} {cs : List D} {d : D} (hp : aget env p = some (.v (.pointer (some ⟨b, o, none⟩)))) (hx : aget env x = some d) (hd : isCell d = true) (hq : σ[q]? = some (.box b t cs)) (hl' : Nat.blt o cs.length = true) (hk : K .any (σ.set q (.box b t (cs.set o d)))) :
    OpT P W0 (.store 1 p x) env σ K X := by
  have hl : o < cs.length := by simpa [Nat.blt_eq] using hl'
  refine OpT.store_of hq (fun N Z F a w hc => ?_) hk
  obtain ⟨c, hrow, hsz, hrel⟩ := hc.st.get hq
  obtain ⟨h1, h2⟩ := (hc.eval hx).oneCell hd
  refine ⟨b, o, t, c, hc.eval_v hp, rfl, rfl, hrow, by omega, by rw [h2]; rfl, one_cells h2 h1, fun w' c' hr' hs' he hg => ⟨c', hr', by simp; omega, fun i d' hd' => ?_⟩⟩
  rw [hg i]
  rw [List.getElem?_set] at hd'
  by_cases e : o = i
  · subst e
    simp [hl] at hd'
    subst hd'
    rw [if_pos (by omega), h2]
    simp
    exact (hc.eval hx).mono (fun _ h => h) he.block
  · rw [if_neg e] at hd'
    rw [if_neg (by omega)]
    exact (hrel i d' hd').mono (fun _ h => h) he.block

/-- All cells of a value are cells. -/
def allCell : List D → Bool
  | [] => true
  | d :: ds => isCell d && allCell ds

theorem allCell_mem {ds : List D} (h : allCell ds = true) : ∀ d ∈ ds, isCell d = true := by
  induction ds with
  | nil => intro d hd; cases hd
  | cons d ds ih =>
    simp only [allCell, Bool.and_eq_true] at h
    intro e he
    rcases List.mem_cons.1 he with rfl | he
    · exact h.1
    · exact ih h.2 e he

theorem Rel.agg_cells {Z : Nat → Prop} {w : World} {ds : List D} {v : Value} (h : Rel Z w (.agg ds) v) (ha : allCell ds = true) : v.cells.size = ds.length ∧ (∀ u ∈ v.cells.toList, u.oneCell' = true) ∧ ∀ i d, ds[i]? = some d → Rel Z w d (v.cells.getD i undef) := by
  cases h with
  | agg hl h =>
    refine ⟨hl.symm, fun u hu => ?_, h⟩
    obtain ⟨i, hi, rfl⟩ := List.mem_iff_getElem.1 hu
    have hi' : i < ds.length := by simp [Value.cells] at hi; omega
    have hr := h i ds[i] (List.getElem?_eq_getElem hi')
    have := (hr.oneCell (allCell_mem ha _ (List.getElem_mem hi'))).1
    simp [Value.cells] at hi
    simpa [Array.getD_eq_getD_getElem?, hi, Value.cells] using this

/-- A whole box, or a run of its cells, written by an aggregate. -/
theorem OpT.storeBA {p x : Operand} {n b o q : Nat} {t : TypeId} {cs ds cs' : List D} (hp : aget env p = some (.v (.pointer (some ⟨b, o, none⟩)))) (hx : aget env x = some (.agg ds)) (hd : allCell ds = true) (hn : ds.length = n) (hq : σ[q]? = some (.box b t cs)) (hl : o + n ≤ cs.length)
    (hcs : cs.take o ++ ds ++ cs.drop (o + n) = cs') (hk : K .any (σ.set q (.box b t cs'))) :
    OpT P W0 (.store n p x) env σ K X := by
  subst hcs
  refine OpT.store_of hq (fun N Z F a w hc => ?_) hk
  obtain ⟨c, hrow, hsz, hrel⟩ := hc.st.get hq
  obtain ⟨h1, h2, h3⟩ := (hc.eval hx).agg_cells hd
  refine ⟨b, o, t, c, hc.eval_v hp, rfl, rfl, hrow, by omega, by omega, h2, fun w' c' hr' hs' he hg => ⟨c', hr', by simp; omega, fun i d' hd' => ?_⟩⟩
  rw [hg i]
  by_cases e : o ≤ i ∧ i < o + n
  · rw [if_pos e]
    rw [List.append_assoc, List.getElem?_append_right (by simp; omega), List.getElem?_append_left (by simp; omega)] at hd'
    have e2 : (cs.take o).length = o := by simp; omega
    rw [e2] at hd'
    exact (h3 _ d' hd').mono (fun _ h => h) he.block
  · rw [if_neg e]
    refine (hrel i d' ?_).mono (fun _ h => h) he.block
    rcases Nat.lt_or_ge i o with h | h
    · rw [List.append_assoc, List.getElem?_append_left (by simp; omega), List.getElem?_take, if_pos h] at hd'
      exact hd'
    · have h' : o + n ≤ i := by omega
      rw [List.getElem?_append_right (by simp; omega), List.getElem?_drop] at hd'
      simp only [List.length_append, List.length_take] at hd'
      rwa [show o + n + (i - (Min.min o cs.length + ds.length)) = i by omega] at hd'

/-- An element's cells in a slice of one's own. -/
theorem OpT.storeE_of {n q : Nat} {p x : Operand} {s : Sl} {esz i j : Nat} {els : List (List D)} {e : List D} {ds : List D} (hp : aget env p = some (.ep s esz i j)) (hq : σ[q]? = some (.arr s esz els)) (he : els[i]? = some e) (hl : j + n ≤ e.length) (h0 : 0 < n) (hn : ds.length = n)
    (hx : ∀ (N : Nat) (Z : Nat → Prop) (F : List Chunk) (a : Act) (w : World), Cfg W0 N Z F env σ a w → (a.eval x).cells.size = n ∧ (∀ u ∈ (a.eval x).cells.toList, u.oneCell' = true) ∧ ∀ i d, ds[i]? = some d → Rel Z w d ((a.eval x).cells.getD i undef))
    {e' : List D} (hle : e'.length = e.length) (he' : ∀ k d, e'[k]? = some d → (j ≤ k ∧ k < j + n ∧ ds[k - j]? = some d) ∨ (¬ (j ≤ k ∧ k < j + n) ∧ e[k]? = some d)) (hk : K .any (σ.set q (.arr s esz (els.set i e')))) : OpT P W0 (.store n p x) env σ K X := by
  refine OpT.store_of hq (fun N Z F a w hc => ?_) hk
  have hch := hc.st.get hq
  have hev := hc.eval hp
  obtain ⟨h1, h2, h3⟩ := hx N Z F a w hc
  cases s with
  | nil => simp only [Chunk.holds] at hch; subst hch; simp at he
  | «at» b pre cap tt =>
    obtain ⟨c, hrow, hsz, hlen, hel, hrel⟩ := hch
    have hi : i < els.length := (List.getElem?_eq_some_iff.1 he).1
    have hesz : e.length = esz := hel i e he
    have h7 : i * esz + esz ≤ cap * esz := by rw [← Nat.succ_mul]; exact Nat.mul_le_mul_right _ (by omega)
    generalize hu : a.eval p = u at hev
    cases hev
    refine ⟨b, pre + (i * esz + j), tt, c, rfl, rfl, rfl, hrow, by omega, h1, h2, fun w' c' hr' hs' hev hg => ⟨c', hr', by omega, by simpa using hlen, ?_, ?_⟩⟩
    · intro k ek hk
      rw [List.getElem?_set] at hk
      by_cases e1 : i = k
      · subst e1
        simp [hi] at hk
        subst hk
        omega
      · rw [if_neg e1] at hk
        exact hel k ek hk
    · intro k ek l d hk hd
      rw [hg]
      rw [List.getElem?_set] at hk
      by_cases e1 : i = k
      · subst e1
        simp [hi] at hk
        subst hk
        rcases he' l d hd with ⟨g1, g2, g3⟩ | ⟨g1, g2⟩
        · rw [if_pos (by omega)]
          rw [show pre + i * esz + l - (pre + (i * esz + j)) = l - j by omega]
          exact (h3 _ d g3).mono (fun _ h => h) hev.block
        · have hl' : l < esz := by rw [← hesz, ← hle]; exact (List.getElem?_eq_some_iff.1 hd).1
          rw [if_neg (by omega)]
          exact (hrel i e l d he g2).mono (fun _ h => h) hev.block
      · rw [if_neg e1] at hk
        have hl' : l < esz := by rw [← hel k ek hk]; exact (List.getElem?_eq_some_iff.1 hd).1
        have hne : ¬ (pre + (i * esz + j) ≤ pre + k * esz + l ∧ pre + k * esz + l < pre + (i * esz + j) + n) := by
          rcases Nat.lt_or_gt_of_ne e1 with h | h
          · have : (i + 1) * esz ≤ k * esz := Nat.mul_le_mul_right _ h
            rw [Nat.succ_mul] at this
            omega
          · have : (k + 1) * esz ≤ i * esz := Nat.mul_le_mul_right _ h
            rw [Nat.succ_mul] at this
            omega
        rw [if_neg hne]
        exact (hrel k ek l d hk hd).mono (fun _ h => h) hev.block

theorem OpT.storeE {q : Nat} {p x : Operand} {s : Sl} {esz i j : Nat} {els : List (List D)} {e : List D} {d : D} (hp : aget env p = some (.ep s esz i j)) (hx : aget env x = some d) (hd : isCell d = true) (hq : σ[q]? = some (.arr s esz els)) (he : els[i]? = some e) (hl : j < e.length)
    (hk : K .any (σ.set q (.arr s esz (els.set i (e.set j d))))) : OpT P W0 (.store 1 p x) env σ K X := by
  refine OpT.storeE_of (ds := [d]) hp hq he (by omega) (by omega) rfl (fun N Z F a w hc => ?_) (by simp) (fun k d' hk => ?_) hk
  · obtain ⟨h1, h2⟩ := (hc.eval hx).oneCell hd
    refine ⟨by rw [h2]; rfl, one_cells h2 h1, fun i d' hd' => ?_⟩
    cases i with
    | zero => simp at hd'; subst hd'; rw [h2]; exact hc.eval hx
    | succ i => simp at hd'
  · rw [List.getElem?_set] at hk
    by_cases e1 : j = k
    · subst e1
      simp [hl] at hk
      subst hk
      exact .inl ⟨by omega, by omega, by simp⟩
    · rw [if_neg e1] at hk
      exact .inr ⟨by omega, hk⟩

/-- A whole element. -/
theorem OpT.storeEA {n q : Nat} {p x : Operand} {s : Sl} {esz i : Nat} {els : List (List D)} {e : List D} {ds : List D} (hp : aget env p = some (.ep s esz i 0)) (hx : aget env x = some (.agg ds)) (hd : allCell ds = true) (hn : ds.length = n) (hq : σ[q]? = some (.arr s esz els)) (he : els[i]? = some e) (hl : e.length = n) (h0 : 0 < n)
    (hk : K .any (σ.set q (.arr s esz (els.set i ds)))) : OpT P W0 (.store n p x) env σ K X := by
  refine OpT.storeE_of (ds := ds) hp hq he (by omega) h0 hn (fun N Z F a w hc => ?_) (by omega) (fun k d' hk => ?_) hk
  · obtain ⟨h1, h2, h3⟩ := (hc.eval hx).agg_cells hd
    exact ⟨by omega, h2, h3⟩
  · have := (List.getElem?_eq_some_iff.1 hk).1
    exact .inl ⟨by omega, by omega, by simpa using hk⟩
end Go.Abs
