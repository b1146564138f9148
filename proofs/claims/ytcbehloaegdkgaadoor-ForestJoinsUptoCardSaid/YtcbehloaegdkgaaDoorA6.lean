/-
  An abstract layer over the model: append, slices of slices, literals.
-/
import Derived.Test.YtcbehloaegdkgaaDoorA5
set_option linter.unusedVariables false
set_option linter.unusedSimpArgs false
namespace Go.Abs
open Go
variable {P : Program} {W0 : World} {env : Env} {σ : List Chunk} {K : D → List Chunk → Prop} {X : D → List Chunk → Prop}

/-- The cells of elements, one behind the other. -/
def Flat (Z : Nat → Prop) (w : World) (esz : Nat) (els : List (List D)) (c : Nat → Value) : Prop :=
  ∀ (i : Nat) e (j : Nat) d, els[i]? = some e → e[j]? = some d → Rel Z w d (c (i * esz + j))

/-- What is appended: so many elements, whose cells are read off the value. -/
def SrcOK (P : Program) (W0 : World) (env : Env) (σ : List Chunk) (y : Operand) (esz : Nat) (src : List (List D)) : Prop :=
  (∀ e ∈ src, e.length = esz ∧ allCell e = true) ∧ ∀ (N : Nat) (Z : Nat → Prop) (F : List Chunk) (a : Act) (w : World), Cfg W0 N Z F env σ a w →
    ∃ (b : Option Addr) (c : Nat) (cells : Array Value), a.eval y = .slice b src.length c ∧ (∀ w', w'.heap = w.heap → (Builtin.firstCells esz src.length (a.eval y)).run P w' = .ok cells w') ∧ cells.size = src.length * esz ∧ Flat Z w esz src fun k => cells.getD k undef

theorem flat_one {Z : Nat → Prop} {w : World} {esz : Nat} {src : List (List D)} {cells : Array Value} (h : Flat Z w esz src fun k => cells.getD k undef) (hs : cells.size = src.length * esz) (ha : ∀ e ∈ src, e.length = esz ∧ allCell e = true) (h0 : 0 < esz) :
    ∀ u ∈ cells.toList, u.oneCell' = true := by
  intro u hu
  obtain ⟨k, hk, rfl⟩ := List.mem_iff_getElem.1 hu
  have hk' : k < src.length * esz := by simp at hk; omega
  have hi : k / esz < src.length := Nat.div_lt_of_lt_mul (by rwa [Nat.mul_comm])
  have hj : k % esz < esz := Nat.mod_lt _ h0
  have he := List.getElem?_eq_getElem hi
  obtain ⟨hl, hc⟩ := ha src[k / esz] (List.getElem_mem hi)
  have hd := List.getElem?_eq_getElem (l := src[k / esz]) (i := k % esz) (by omega)
  have hr := h _ _ _ _ he hd
  have e : k / esz * esz + k % esz = k := by have := Nat.div_add_mod k esz; rw [Nat.mul_comm] at this; exact this
  rw [e] at hr
  have := (hr.oneCell (allCell_mem hc _ (List.getElem_mem _))).1
  simp at hk
  simpa [Array.getD_eq_getD_getElem?, hk] using this

theorem Flat.mono {Z Z' : Nat → Prop} {w w' : World} {esz : Nat} {src : List (List D)} {c : Nat → Value} (h : Flat Z w esz src c) (hz : ∀ x, Z x → Z' x) (he : ∀ b, Z b → w'.heap[b]? = w.heap[b]?) : Flat Z' w' esz src c :=
  fun i e j d h1 h2 => (h i e j d h1 h2).mono hz he

theorem SrcOK.ro {y : Operand} {esz len : Nat} {els src : List (List D)} (hy : aget env y = some (.ro esz els len)) (hs : els.take len = src) (ha : ∀ e ∈ src, allCell e = true) (hz : ∀ e ∈ src, e.length = esz) : SrcOK P W0 env σ y esz src := by
  refine ⟨fun e he => ⟨hz e he, ha e he⟩, fun N Z F a w hc => ?_⟩
  have h := hc.eval hy
  generalize a.eval y = u at h
  subst hs
  cases h with
  | ronil a => exact ⟨a, 0, #[], rfl, fun w' _ => by cases a <;> simp [Builtin.firstCells, loadCells, loadCellsFrom], by simp, fun i e j d h1 => by simp at h1⟩
  | ro f hb hl hcp hes hm h =>
    rename_i b off cap
    have hlen : (els.take len).length = len := by simp; omega
    rcases Nat.eq_zero_or_pos esz with h0 | h0
    · subst h0
      refine ⟨some ⟨b, off, none⟩, cap, #[], by rw [hlen], fun w' _ => ?_, by simp, fun i e j d h1 h2 => ?_⟩
      · simp [Builtin.firstCells, loadCells, loadCellsFrom]
      · have := hz e (List.mem_of_getElem? h1)
        have := (List.getElem?_eq_some_iff.1 h2).1
        omega
    · have hrun : ∀ w', w'.heap = w.heap → (Builtin.firstCells esz (els.take len).length (.slice (some ⟨b, off, none⟩) len cap)).run P w' = .ok ((List.range (len * esz)).map fun k => f (k / esz) (k % esz)).toArray w' := by
        intro w' hw
        rw [hlen]
        refine run_loadCells (P := P) (w := w') ⟨b, off, none⟩ (len * esz) (fun k => f (k / esz) (k % esz)) fun k hk => ?_
        have hi : k / esz < len := Nat.div_lt_of_lt_mul (by rwa [Nat.mul_comm])
        have hj : k % esz < esz := Nat.mod_lt _ h0
        have he := List.getElem?_eq_getElem (l := els) (i := k / esz) (by omega)
        have hle := hes _ _ he
        have hd := List.getElem?_eq_getElem (l := els[k / esz]) (i := k % esz) (by omega)
        have := hm _ _ _ _ he hd
        rw [add_mk, World.cell?_of_block (w := w) (by rw [hw])]
        have e : k / esz * esz + k % esz = k := by have := Nat.div_add_mod k esz; rw [Nat.mul_comm] at this; exact this
        rwa [Nat.add_assoc, e] at this
      refine ⟨some ⟨b, off, none⟩, cap, _, by rw [hlen], hrun, by simp [hlen], fun i e j d h1 h2 => ?_⟩
      have h1' : els[i]? = some e := by
        rw [List.getElem?_take] at h1
        split at h1 <;> first | exact h1 | cases h1
      have hi : i < len := by have := (List.getElem?_eq_some_iff.1 h1).1; omega
      have hj : j < esz := by rw [← hes i e h1']; exact (List.getElem?_eq_some_iff.1 h2).1
      have hlt : i * esz + j < len * esz := by
        have : (i + 1) * esz ≤ len * esz := Nat.mul_le_mul_right _ hi
        rw [Nat.succ_mul] at this
        omega
      have e1 : (i * esz + j) / esz = i := by rw [Nat.mul_comm, Nat.mul_add_div h0, Nat.div_eq_of_lt hj, Nat.add_zero]
      have e2 : (i * esz + j) % esz = j := by rw [Nat.mul_comm, Nat.mul_add_mod, Nat.mod_eq_of_lt hj]
      simp only [Array.getD_eq_getD_getElem?, List.getElem?_toArray, List.getElem?_map, List.getElem?_range hlt, Option.map_some, Option.getD_some, e1, e2]
      exact h i e j d h1' h2

theorem own_read {Z : Nat → Prop} {w : World} {s : Sl} {esz len : Nat} {els : List (List D)} (h : (Chunk.arr s esz els).holds Z w) (hl : len ≤ els.length) :
    ∃ cells : Array Value, (∀ w', w'.heap = w.heap → (Builtin.firstCells esz len (s.val len)).run P w' = .ok cells w') ∧ cells.size = len * esz ∧ Flat Z w esz (els.take len) (fun k => cells.getD k undef) ∧ ∀ b c n, s.val len = .slice b n c → n = len := by
  cases s with
  | nil =>
    simp only [Chunk.holds] at h
    subst h
    have : len = 0 := by simpa using hl
    subst this
    refine ⟨#[], fun w' _ => by simp [Builtin.firstCells, Sl.val], by simp, fun i e j d h1 => by simp at h1, fun b c n e => ?_⟩
    simp only [Sl.val, Value.slice.injEq] at e
    exact e.2.1.symm
  | «at» b pre cap tt =>
    obtain ⟨c, hrow, hsz, hlen, hel, hrel⟩ := h
    have hb : pre + len * esz ≤ c.size := by
      have : len * esz ≤ cap * esz := Nat.mul_le_mul_right _ (by omega)
      omega
    refine ⟨((List.range (len * esz)).map fun k => c.getD (pre + k) undef).toArray, fun w' hw => ?_, by simp, fun i e j d h1 h2 => ?_, fun b c n e => ?_⟩
    · refine run_loadCells (P := P) (w := w') ⟨b, pre, none⟩ (len * esz) (fun k => c.getD (pre + k) undef) fun k hk => ?_
      rw [add_mk, World.cell?_of_block (w := w) (by rw [hw])]
      exact hrow.cell (by omega)
    · have h1' : els[i]? = some e := by
        rw [List.getElem?_take] at h1
        split at h1 <;> first | exact h1 | cases h1
      have hi : i < len := by have := (List.getElem?_eq_some_iff.1 h1).1; simp at this; omega
      have hj : j < esz := by rw [← hel i e h1']; exact (List.getElem?_eq_some_iff.1 h2).1
      have hlt : i * esz + j < len * esz := by
        have : (i + 1) * esz ≤ len * esz := Nat.mul_le_mul_right _ hi
        rw [Nat.succ_mul] at this
        omega
      simp only [Array.getD_eq_getD_getElem?, List.getElem?_toArray, List.getElem?_map, List.getElem?_range hlt, Option.map_some, Option.getD_some]
      have := hrel i e j d h1' h2
      rwa [Nat.add_assoc, Array.getD_eq_getD_getElem?] at this
    · simp only [Sl.val, Value.slice.injEq] at e
      exact e.2.1.symm

theorem SrcOK.own {y : Operand} {esz len q : Nat} {s : Sl} {els src : List (List D)} (hy : aget env y = some (.sl s len)) (hq : σ[q]? = some (.arr s esz els)) (hl : len ≤ els.length) (hs : els.take len = src) (ha : ∀ e ∈ src, e.length = esz ∧ allCell e = true) : SrcOK P W0 env σ y esz src := by
  refine ⟨ha, fun N Z F a w hc => ?_⟩
  subst hs
  have h := hc.eval hy
  generalize a.eval y = u at h
  cases h
  obtain ⟨cells, h1, h2, h3, h4⟩ := own_read (P := P) (hc.st.get hq) hl
  have hlen : (els.take len).length = len := by simp; omega
  rw [hlen]
  cases s with
  | nil => exact ⟨none, 0, cells, rfl, h1, h2, h3⟩
  | «at» b pre cap tt => exact ⟨some ⟨b, pre, none⟩, cap, cells, rfl, h1, h2, h3⟩

theorem SrcOK.nil {y : Operand} {esz : Nat} (hy : aget env y = some (.v (.slice none 0 0))) : SrcOK P W0 env σ y esz [] := by
  refine ⟨(by simp), fun N Z F a w hc => ?_⟩
  rw [hc.eval_v hy]
  exact ⟨none, 0, #[], rfl, fun w' _ => by simp [Builtin.firstCells], by simp, fun i e j d h1 => by simp at h1⟩

theorem run_append_in {st ut e e' ty : TypeId} {i : TypeInfo} (hu : P.underlying st = some (.slice e)) (hyt : P.underlying ut = some (.slice e')) (hi : P.info? e = some i) {base : Option Addr} {sLen sCap n cc : Nat} {bb : Option Addr} {cells : Array Value} {w w' : World}
    (hroom : sLen + n ≤ sCap) (hfc : (Builtin.firstCells i.size n (.slice bb n cc)).run P w = .ok cells w) (hst : match base with | some a => (storeCells (a.add (sLen * i.size)) cells.toList).run P w = .ok () w' | none => w' = w) :
    (Builtin.append_ #[st, ut] ty #[.slice base sLen sCap, .slice bb n cc]).run P w = .ok (.slice base (sLen + n) sCap) w' := by
  cases base with
  | none =>
    subst hst
    simp [Builtin.append_, underlying, hu, hyt, sizeOf, typeInfo, hi, Builtin.lenOf, hroom, hfc]
  | some a =>
    simp only at hst
    simp [Builtin.append_, underlying, hu, hyt, sizeOf, typeInfo, hi, Builtin.lenOf, hroom, hfc, hst]

theorem run_append_new {st ut e e' ty : TypeId} {i : TypeInfo} {z : Value} (hu : P.underlying st = some (.slice e)) (hyt : P.underlying ut = some (.slice e')) (hi : P.info? e = some i) (hz : i.zero = some z) {base : Option Addr} {sLen sCap n cc : Nat} {bb : Option Addr} {cells old : Array Value} {w : World}
    (hroom : sCap < sLen + n) (hfc : ∀ w', w'.heap = w.heap → (Builtin.firstCells i.size n (.slice bb n cc)).run P w' = .ok cells w') (hold : ∀ w', w'.heap = w.heap → (Builtin.firstCells i.size sLen (.slice base sLen sCap)).run P w' = .ok old w')
    (hb : 0 < i.bytes) (hbytes : (sLen + n) * i.bytes ≤ 140737488355328) :
    ∃ newCap, sLen + n ≤ newCap ∧ (Builtin.append_ #[st, ut] ty #[.slice base sLen sCap, .slice bb n cc]).run P w =
      .ok (.slice (some ⟨w.heap.size, 0, none⟩) (sLen + n) newCap) (w.drew.alloc (.cells (old ++ cells ++ Builtin.zeroCells z.cells (newCap - (sLen + n))) e)) := by
  have hfit := growslice_fits (need := sLen + n) (old := sCap) (bytes := i.bytes) hroom hbytes
  refine ⟨(Question.appendCap (sLen + n) sCap e).cut (w.tape w.drawn (.appendCap (sLen + n) sCap e)), Nat.le_add_right _ _, ?_⟩
  have h1 := hfc w.drew rfl
  have h2 := hold w.drew rfl
  have e1 : ¬ (sLen + n ≤ sCap) := by omega
  have e2 : i.bytes ≠ 0 := by omega
  have e3 : ¬ (281474976710656 < Builtin.nextslicecap (sLen + n) sCap * i.bytes) := by omega
  simp [Builtin.append_, underlying, hu, hyt, sizeOf, typeInfo, hi, hz, Builtin.lenOf, e1, e2, e3, zeroValue, newRow, Question.forced, h1, h2]

/-- What lies flat is an array chunk. -/
theorem arr_of_flat {Z : Nat → Prop} {w : World} {b pre cap esz : Nat} {tt : TypeId} {els : List (List D)} {c : Array Value} (hrow : rowT w b tt c) (hsz : pre + cap * esz ≤ c.size) (hlen : els.length ≤ cap) (hel : ∀ (i : Nat) e, els[i]? = some e → e.length = esz)
    (h : Flat Z w esz els fun k => c.getD (pre + k) undef) : (Chunk.arr (.at b pre cap tt) esz els).holds Z w :=
  ⟨c, hrow, hsz, hlen, hel, fun i e j d h1 h2 => by have this : Rel Z w d (c.getD (pre + (i * esz + j)) undef) := h i e j d h1 h2; rwa [← Nat.add_assoc] at this⟩

theorem Flat.append {Z : Nat → Prop} {w : World} {esz : Nat} {xs ys : List (List D)} {c : Nat → Value} (h1 : Flat Z w esz xs c) (h2 : Flat Z w esz ys fun k => c (xs.length * esz + k)) : Flat Z w esz (xs ++ ys) c := by
  intro i e j d he hd
  rcases Nat.lt_or_ge i xs.length with h | h
  · rw [List.getElem?_append_left h] at he
    exact h1 i e j d he hd
  · rw [List.getElem?_append_right h] at he
    have this : Rel Z w d (c (xs.length * esz + ((i - xs.length) * esz + j))) := h2 _ e j d he hd
    have e1 : xs.length * esz + ((i - xs.length) * esz + j) = i * esz + j := by
      have : xs.length * esz + (i - xs.length) * esz = i * esz := by rw [← Nat.add_mul]; congr 1; omega
      omega
    rwa [e1] at this

theorem Flat.congr {Z : Nat → Prop} {w : World} {esz : Nat} {xs : List (List D)} {c c' : Nat → Value} (h : Flat Z w esz xs c) (hel : ∀ (i : Nat) e, xs[i]? = some e → e.length = esz) (hc : ∀ k, k < xs.length * esz → c' k = c k) : Flat Z w esz xs c' := by
  intro i e j d he hd
  have h1 := (List.getElem?_eq_some_iff.1 he).1
  have h2 := (List.getElem?_eq_some_iff.1 hd).1
  rw [hel i e he] at h2
  have : (i + 1) * esz ≤ xs.length * esz := Nat.mul_le_mul_right _ h1
  rw [Nat.succ_mul] at this
  rw [hc _ (by omega)]
  exact h i e j d he hd

/-- APPEND. -/
theorem OpT.appT {e : TypeId} {x y : Operand} {esz bytes len q : Nat} {s : Sl} {els src : List (List D)} (hx : aget env x = some (.sl s len)) (hq : σ[q]? = some (.arr s esz els)) (hlen : len ≤ els.length) (hsrc : SrcOK P W0 env σ y esz src)
    (hroom : (len + src.length) * bytes ≤ 140737488355328) (hk : ∀ s', (s.ty e len → s'.ty e (len + src.length)) → K (.sl s' (len + src.length)) (σ.set q (.arr s' esz (els.take len ++ src)))) : OpT P W0 (.app e esz bytes x y) env σ K X := by
  intro o' ho N Z F a w hc next Q hn _
  obtain ⟨dst, op, ty, pos, after, guard⟩ := o'
  have hch := hc.st.get hq
  have hev := hc.eval hx
  obtain ⟨ha, hs⟩ := hsrc
  obtain ⟨bb, cc, cells, hy, hfc, hcs, hflat⟩ := hs N Z F a w hc
  generalize hux : a.eval x = ux at hev
  cases hev
  obtain ⟨old, ho1, ho2, ho3, _⟩ := own_read (P := P) hch hlen
  cases ho with
  | app hu hyt hi hz hsz h0 hb hb' =>
    rename_i st ut i z e'
    rw [hy] at hfc
    have hone := flat_one hflat hcs ha h0
    have htl : (els.take len).length = len := by simp; omega
    have hels : ∀ (k : Nat) ek, (els.take len)[k]? = some ek → els[k]? = some ek := by
      intro k ek hk
      rw [List.getElem?_take] at hk
      split at hk <;> first | exact hk | cases hk
    have hexec : ∀ r w', (Builtin.append_ #[st, ut] ty #[s.val len, .slice bb src.length cc]).run P w = .ok r w' → (execOp a.eval ⟨dst, .call { callee := .builtin .append, args := #[x, y], argTypes := #[st, ut] }, ty, pos, after, guard⟩).run P w = .ok (.value r) w' := by
      intro r w' hr
      simp [execOp, resolve, invoke, builtin, hux, hy, hr]
    have elAll : (∀ (k : Nat) ek, els[k]? = some ek → ek.length = i.size) → ∀ (k : Nat) ek, (els.take len ++ src)[k]? = some ek → ek.length = i.size := by
      intro hel k ek hk
      rcases List.mem_append.1 (List.mem_of_getElem? hk) with h | h
      · obtain ⟨j, hj⟩ := List.mem_iff_getElem?.1 h
        exact hel j ek (hels j ek hj)
      · exact (ha ek h).1
    -- the copy
    have copy : ∀ (sCap : Nat) (base : Option Addr), s.val len = .slice base len sCap → sCap < len + src.length → (∀ (k : Nat) ek, els[k]? = some ek → ek.length = i.size) →
        Oper.wp P ⟨dst, .call { callee := .builtin .append, args := #[x, y], argTypes := #[st, ut] }, ty, pos, after, guard⟩ a w next Q := by
      intro sCap base hv hlt hel
      rw [hv] at ho1
      obtain ⟨newCap, hge, hr⟩ := run_append_new (P := P) (ty := ty) (z := z) hu hyt hi hz hlt hfc ho1 hb hroom
      rw [← hv] at hr
      unfold Oper.wp
      rw [hexec _ _ hr]
      have he : Evo Z w (w.drew.alloc (.cells (old ++ cells ++ Builtin.zeroCells z.cells (newCap - (len + src.length))) e)) :=
        ⟨rfl, rfl, rfl, by simp, fun b hb => heap_alloc_lt _ _ _ (hc.inh b hb)⟩
      have hsize : (old ++ cells ++ Builtin.zeroCells z.cells (newCap - (len + src.length))).size = newCap * i.size := by
        simp only [Array.size_append, ho2, hcs, size_zeroCells, hsz, ← Nat.add_mul]
        congr 1; omega
      refine hn Z _ (.sl (.at w.heap.size 0 newCap e) (len + src.length)) (σ.set q (.arr (.at w.heap.size 0 newCap e) i.size (els.take len ++ src))) _ (fun _ h => h) he ?_ (.sl (.at w.heap.size 0 newCap e) (len + src.length)) (hk _ fun _ => ⟨rfl, rfl, by omega⟩)
      refine hc.st.set hq he (fun k hk' _ => heap_alloc_lt _ _ _ hk') ?_ (by simp [Chunk.blocks, Sl.blocks]) ?_
      · refine arr_of_flat (rowT_alloc w.drew _ e) (by rw [hsize]; omega) (by simp; omega) (elAll hel) (Flat.append ?_ ?_)
        · refine (ho3.mono (fun _ h => h) he.block).congr (fun k ek hk => hel k ek (hels k ek hk)) fun k hk => ?_
          rw [htl] at hk
          simp only [Nat.zero_add, Array.getD_eq_getD_getElem?, Array.append_assoc]
          rw [Array.getElem?_append_left (by rw [ho2]; exact hk)]
        · refine (hflat.mono (fun _ h => h) he.block).congr (fun k ek hk => (ha ek (List.mem_of_getElem? hk)).1) fun k hk => ?_
          simp only [Nat.zero_add, Array.getD_eq_getD_getElem?, Array.append_assoc, htl]
          rw [Array.getElem?_append_right (by rw [ho2]; omega), Array.getElem?_append_left (by rw [ho2, hcs]; omega), ho2]
          congr 2; omega
      · intro b hb
        simp only [Chunk.blocks, Sl.blocks, List.mem_singleton] at hb
        subst hb
        exact .inr ⟨Nat.le_refl _, fun hz => Nat.lt_irrefl _ (hc.inh _ hz)⟩
    cases s with
    | nil =>
      have hels0 : els = [] := hch
      subst hels0
      have hl0 : len = 0 := by simpa using hlen
      subst hl0
      by_cases hn0 : src.length = 0
      · have hsrc0 : src = [] := List.eq_nil_of_length_eq_zero hn0
        have hr := run_append_in (P := P) (ty := ty) (sLen := 0) (sCap := 0) (base := none) (w' := w) hu hyt hi (by omega) (hfc w rfl) rfl
        unfold Oper.wp
        rw [hexec _ _ hr]
        subst hsrc0
        exact hn Z _ (.sl .nil 0) _ w (fun _ h => h) .refl (hc.st.set hq .refl (fun _ _ _ => rfl) hch (by simp [Chunk.blocks, Sl.blocks]) (by simp [Chunk.blocks, Sl.blocks])) (.sl .nil 0) (hk .nil fun _ => rfl)
      · exact copy 0 none rfl (by omega) (fun k ek hk => by simp at hk)
    | «at» b pre cap tt =>
      obtain ⟨c, hrow, hcsz, hcap, hel, hrel⟩ := hch
      by_cases hfit : len + src.length ≤ cap
      · have h3 : (len + src.length) * i.size ≤ cap * i.size := Nat.mul_le_mul_right _ hfit
        have h4 : (len + src.length) * i.size = len * i.size + src.length * i.size := Nat.add_mul _ _ _
        obtain ⟨w', c', hr, h2, h5, h6, h7⟩ := run_storeCells_row (P := P) b (pre + len * i.size) tt cells.toList 0 w c hrow (by simp [hcs]; omega) hone
        have hr' := run_append_in (P := P) (ty := ty) (sLen := len) (sCap := cap) (base := some ⟨b, pre, none⟩) (w' := w') hu hyt hi hfit (hfc w rfl) (by simp only [add_mk]; exact hr)
        have hnz : ¬ Z b := hc.st.get_apart hq (by simp [Chunk.blocks, Sl.blocks])
        have he : Evo Z w w' := h6.evo hnz
        unfold Oper.wp
        rw [hexec _ _ hr']
        refine hn Z _ (.sl (.at b pre cap tt) (len + src.length)) (σ.set q (.arr (.at b pre cap tt) i.size (els.take len ++ src))) w' (fun _ h => h) he ?_ (.sl (.at b pre cap tt) (len + src.length)) (hk _ fun h => h)
        refine hc.st.set hq he (fun k _ hk => h6.block k (by simpa [Chunk.blocks, Sl.blocks] using hk)) ?_ (by simp [Chunk.blocks, Sl.blocks]) (fun k hk => .inl hk)
        refine arr_of_flat h2 (by omega) (by simp; omega) (elAll hel) (Flat.append ?_ ?_)
        · have hold : Flat Z w i.size (els.take len) fun k => c.getD (pre + k) undef := fun i' e' j d h1 h2 => by have := hrel i' e' j d (hels i' e' h1) h2; rwa [Nat.add_assoc] at this
          refine (hold.mono (fun _ h => h) he.block).congr (fun k ek hk => hel k ek (hels k ek hk)) fun k hk => ?_
          rw [htl] at hk
          rw [h7, if_neg (by omega)]
        · refine (hflat.mono (fun _ h => h) he.block).congr (fun k ek hk => (ha ek (List.mem_of_getElem? hk)).1) fun k hk => ?_
          simp only [htl]
          rw [h7, if_pos (by simp [hcs]; omega)]
          rw [List.getD_eq_getElem?_getD, Array.getElem?_toList, ← Array.getD_eq_getD_getElem?]
          congr 1; omega
      · exact copy cap (some ⟨b, pre, none⟩) rfl (by omega) hel
theorem OpT.app {e : TypeId} {x y : Operand} {esz bytes len q : Nat} {s : Sl} {els src : List (List D)} (hx : aget env x = some (.sl s len)) (hq : σ[q]? = some (.arr s esz els)) (hlen : len ≤ els.length) (hsrc : SrcOK P W0 env σ y esz src)
    (hroom : (len + src.length) * bytes ≤ 140737488355328) (hk : ∀ s', K (.sl s' (len + src.length)) (σ.set q (.arr s' esz (els.take len ++ src)))) : OpT P W0 (.app e esz bytes x y) env σ K X :=
  OpT.appT hx hq hlen hsrc hroom fun s' _ => hk s'
end Go.Abs
