/-
  An abstract layer over the model: literals, slices of slices, conversions between strings and bytes, calls.
-/
import Derived.Test.YtcbehloaegdkgaaDoorA6
set_option linter.unusedVariables false
set_option linter.unusedSimpArgs false
namespace Go.Abs
open Go
variable {P : Program} {W0 : World} {env : Env} {σ : List Chunk} {K : D → List Chunk → Prop} {X : D → List Chunk → Prop}

theorem OpT.slR {esz : Nat} {x : Operand} {lo hi : Option Operand} {els : List (List D)} {len : Nat} {l h : Int} (hx : aget env x = some (.ro esz els len))
    (hl : match lo with | none => l = 0 | some y => ∃ k, aget env y = some (.v (.int k l))) (hh : match hi with | none => h = len | some y => ∃ k, aget env y = some (.v (.int k h)))
    (hb : 0 ≤ l ∧ l ≤ h ∧ h ≤ els.length) (hk : K (.ro esz (els.drop l.toNat) (h.toNat - l.toNat)) σ) : OpT P W0 (.slL esz x lo hi none) env σ K X := by
  refine OpT.pure (fun o ho N Z F a w hc => ?_) hk
  obtain ⟨dst, op, ty, pos, after, guard⟩ := o
  have hev := hc.eval hx
  generalize hu' : a.eval x = u at hev
  have e1 : (0:Int) ≤ h := by omega
  have e2 : l ≤ (h.toNat : Int) := by omega
  have e3 : l.toNat ≤ h.toNat := by omega
  cases ho with
  | slL hu hn =>
    rename_i s et i
    have run : ∀ (b : Option Addr) (cap : Nat), h ≤ cap → (Instr.sliceAt s (.slice b len cap) (lo.map a.eval) (hi.map a.eval) none).run P w = .ok (.slice (if cap = l.toNat then b else b.map (·.add (l.toNat * i.size))) (h.toNat - l.toNat) (cap - l.toNat)) w := by
      intro b cap hcap
      cases lo with
      | none =>
        subst hl
        cases hi with
        | none => subst hh; simp [Instr.sliceAt, Instr.slice, Instr.sliceBounds, underlying, hu, sizeOf, typeInfo, hn]
        | some y => obtain ⟨k, hy⟩ := hh; simp [Instr.sliceAt, Instr.slice, Instr.sliceBounds, Instr.sliceBound, asIntOf, underlying, hu, sizeOf, typeInfo, hn, hc.eval_v hy, e1, hcap]
      | some z =>
        obtain ⟨k, hz⟩ := hl
        cases hi with
        | none => subst hh; simp [Instr.sliceAt, Instr.slice, Instr.sliceBounds, Instr.sliceBound, asIntOf, underlying, hu, sizeOf, typeInfo, hn, hc.eval_v hz, hb.1, hb.2.1]
        | some y =>
          obtain ⟨k', hy⟩ := hh
          simp only [Option.map_some]
          rw [hc.eval_v hy, hc.eval_v hz]
          simp [Instr.sliceAt, Instr.slice, Instr.sliceBounds, Instr.sliceBound, asIntOf, underlying, hu, sizeOf, typeInfo, hn, e1, e2, hb.1, hcap]
          intro h'; exfalso; omega
    cases hev with
    | ronil a' =>
      have h0 : h = 0 := by simp at hb; omega
      have l0 : l = 0 := by omega
      refine ⟨.slice a' 0 0, ?_, ?_⟩
      · simp only [execOp, hu', Option.map_none]
        rw [Sem.run_bind, run a' 0 (by omega)]
        simp [h0, l0]
      · rw [h0, l0]; exact .ronil a'
    | ro f hzb hle hcp hes hm hr =>
      rename_i b off cap
      refine ⟨_, by simp only [execOp, hu', Option.map_none]; rw [Sem.run_bind, run _ cap (by omega)]; rfl, ?_⟩
      by_cases e : cap = l.toNat
      · rw [if_pos e]
        have hnil : els.drop l.toNat = [] := List.drop_eq_nil_of_le (by omega)
        have hz0 : h.toNat - l.toNat = 0 := by omega
        rw [hnil, hz0]
        exact .ro f hzb (Nat.le_refl _) (Nat.zero_le _) (fun i e h => by simp at h) (fun i e j d h => by simp at h) (fun i e j d h => by simp at h)
      · rw [if_neg e]
        simp only [Option.map_some, add_mk]
        refine .ro (fun i j => f (l.toNat + i) j) hzb (by simp; omega) (by simp; omega) (fun k e hk => ?_) (fun k e j d hk hd => ?_) (fun k e j d hk hd => ?_)
        · rw [List.getElem?_drop] at hk; exact hes _ e hk
        · rw [List.getElem?_drop] at hk
          have := hm _ e j d hk hd
          rw [show off + l.toNat * i.size + k * i.size + j = off + (l.toNat + k) * i.size + j by rw [Nat.add_mul]; omega]
          exact this
        · rw [List.getElem?_drop] at hk
          exact hr _ e j d hk hd

/-- A slice of one's own, cut behind. -/
theorem OpT.slH {esz q len : Nat} {x y : Operand} {s : Sl} {els : List (List D)} {k : IntKind} {h : Int} (hx : aget env x = some (.sl s len)) (hy : aget env y = some (.v (.int k h))) (hq : σ[q]? = some (.arr s esz els)) (hb : 0 ≤ h ∧ h ≤ els.length) (hk : K (.sl s h.toNat) σ) :
    OpT P W0 (.slL esz x none (some y) none) env σ K X := by
  refine OpT.pure (fun o ho N Z F a w hc => ?_) hk
  obtain ⟨dst, op, ty, pos, after, guard⟩ := o
  have hch := hc.st.get hq
  have hev := hc.eval hx
  generalize hu' : a.eval x = u at hev
  cases hev
  cases ho with
  | slL hu hn =>
    cases s with
    | nil =>
      have : els = [] := hch
      subst this
      have h0 : h = 0 := by simp at hb; omega
      subst h0
      exact ⟨_, by simp [execOp, Instr.sliceAt, Instr.slice, Instr.sliceBounds, Instr.sliceBound, asIntOf, underlying, hu, sizeOf, typeInfo, hn, hc.eval_v hy, hu', Sl.val], .sl .nil 0⟩
    | «at» b pre cap tt =>
      obtain ⟨c, hrow, hcsz, hcap, hel, hrel⟩ := hch
      have h1 : h ≤ cap := by omega
      exact ⟨_, by simp [execOp, Instr.sliceAt, Instr.slice, Instr.sliceBounds, Instr.sliceBound, asIntOf, underlying, hu, sizeOf, typeInfo, hn, hc.eval_v hy, hu', Sl.val, hb.1, h1, add_mk], .sl (.at b pre cap tt) h.toNat⟩

/-- The whole slice again. -/
theorem OpT.slA {esz q len : Nat} {x : Operand} {s : Sl} {els : List (List D)} (hx : aget env x = some (.sl s len)) (hq : σ[q]? = some (.arr s esz els)) (hk : K (.sl s len) σ) : OpT P W0 (.slL esz x none none none) env σ K X := by
  refine OpT.pure (fun o ho N Z F a w hc => ?_) hk
  obtain ⟨dst, op, ty, pos, after, guard⟩ := o
  have hev := hc.eval hx
  generalize hu' : a.eval x = u at hev
  cases hev
  cases ho with
  | slL hu hn =>
    cases s with
    | nil => exact ⟨_, by simp [execOp, Instr.sliceAt, Instr.slice, Instr.sliceBounds, underlying, hu, sizeOf, typeInfo, hn, hu', Sl.val], .sl .nil len⟩
    | «at» b pre cap tt => exact ⟨_, by simp [execOp, Instr.sliceAt, Instr.slice, Instr.sliceBounds, underlying, hu, sizeOf, typeInfo, hn, hu', Sl.val, add_mk], .sl (.at b pre cap tt) len⟩

/-- The cells of operands, element by element. -/
def elsOf (env : Env) : List Operand → Option (List (List D))
  | [] => some []
  | x :: r => match aget env x with
    | some d => match dcells d with
      | some ds => match elsOf env r with
        | some l => some (ds :: l)
        | none => none
      | none => none
    | none => none

theorem elsOf_get {xs : List Operand} {els : List (List D)} (h : elsOf env xs = some els) : els.length = xs.length ∧ ∀ (i : Nat) x, xs[i]? = some x → ∃ d ds, aget env x = some d ∧ dcells d = some ds ∧ els[i]? = some ds := by
  induction xs generalizing els with
  | nil => simp [elsOf] at h; subst h; exact ⟨rfl, fun i x hx => by simp at hx⟩
  | cons x r ih =>
    simp only [elsOf] at h
    split at h
    · rename_i d hd
      split at h
      · rename_i ds hds
        split at h
        · rename_i l hl
          cases h
          obtain ⟨h1, h2⟩ := ih hl
          refine ⟨by simp [h1], fun i y hy => ?_⟩
          cases i with
          | zero => simp at hy; subst hy; exact ⟨d, ds, hd, hds, rfl⟩
          | succ i => simp at hy; simpa using h2 i y hy
        · cases h
      · cases h
    · cases h

theorem fill_range (size n : Nat) : ∀ (vs : List Value) (k : Nat) (c : Array Value), (∀ v ∈ vs, v.cells.size = size) → k + vs.length ≤ n → c.size = n * size →
    ∃ c', Instr.fill (fun i => some (i * size, size)) c ((List.range' k vs.length).zip vs) = some c' ∧ c'.size = c.size ∧
      ∀ i j, j < size → c'.getD (i * size + j) undef = if k ≤ i ∧ i < k + vs.length then (vs.getD (i - k) undef).cells.getD j undef else c.getD (i * size + j) undef := by
  intro vs
  induction vs with
  | nil => intro k c _ _ _; exact ⟨c, rfl, rfl, fun i j _ => by rw [if_neg (by simp only [List.length_nil]; omega)]⟩
  | cons v vs ih =>
    intro k c hv hn hc
    simp only [List.length_cons] at hn
    have hsz : v.cells.size = size := hv v (by simp)
    have hfit : k * size + v.cells.size ≤ c.size := by
      rw [hsz, hc, ← Nat.succ_mul]; exact Nat.mul_le_mul_right _ (by omega)
    have hput : ∀ (l : List Value) (s : Nat) (c : Array Value), (l.zipIdx s).foldl (fun cs (x : Value × Nat) => cs.setIfInBounds (k * size + x.2) x.1) c = (l.zipIdx s).foldl (fun cs (x : Value × Nat) => cs.setIfInBounds (k * size + x.2) x.1) c := fun _ _ _ => rfl
    have hset : ∀ (l : List Value) (s : Nat) (c : Array Value), k * size + s + l.length ≤ c.size →
        ((l.zipIdx s).foldl (fun cs (x : Value × Nat) => cs.setIfInBounds (k * size + x.2) x.1) c).size = c.size ∧
        ∀ m, ((l.zipIdx s).foldl (fun cs (x : Value × Nat) => cs.setIfInBounds (k * size + x.2) x.1) c).getD m undef = if k * size + s ≤ m ∧ m < k * size + s + l.length then l.getD (m - (k * size + s)) undef else c.getD m undef := by
      intro l
      induction l with
      | nil => intro s c _; exact ⟨rfl, fun m => by rw [if_neg (by simp only [List.length_nil]; omega)]; rfl⟩
      | cons u l ihl =>
        intro s c hl
        simp only [List.length_cons] at hl
        obtain ⟨g1, g2⟩ := ihl (s + 1) (c.setIfInBounds (k * size + s) u) (by simp; omega)
        refine ⟨by simpa using g1, fun m => ?_⟩
        simp only [List.zipIdx_cons, List.foldl_cons]
        rw [g2 m, getD_set _ _ _ _ (by omega)]
        simp only [List.length_cons]
        by_cases e : m = k * size + s
        · rw [if_neg (by omega), if_pos e, if_pos (by omega), e]; simp
        · rw [if_neg e]
          by_cases e2 : k * size + (s + 1) ≤ m ∧ m < k * size + (s + 1) + l.length
          · rw [if_pos e2, if_pos (by omega), show m - (k * size + s) = (m - (k * size + (s + 1))) + 1 by omega]; simp
          · rw [if_neg e2, if_neg (by omega)]
    obtain ⟨g1, g2⟩ := hset v.cells.toList 0 c (by simp; omega)
    obtain ⟨c', h1, h2, h3⟩ := ih (k + 1) _ (fun u hu => hv u (by simp [hu])) (by omega) (g1.trans hc)
    refine ⟨c', ?_, h2.trans g1, fun i j hj => ?_⟩
    · simp only [List.length_cons, List.range'_succ, List.zip_cons_cons, Instr.fill]
      rw [if_neg (by simp [hsz]; rw [hsz] at hfit; exact hfit)]
      rw [← h1]
      congr 1
      rw [← Array.foldl_toList]
      simp [Array.toList_zipIdx]
    · rw [h3 i j hj, g2]
      simp only [List.length_cons, Nat.add_zero, Array.length_toList, hsz]
      by_cases e : i = k
      · subst e
        rw [if_neg (by omega), if_pos (by omega), if_pos (by omega), show i * size + j - i * size = j by omega]
        simp only [Nat.sub_self, List.getD_cons_zero]
        rw [List.getD_eq_getElem?_getD, Array.getElem?_toList, ← Array.getD_eq_getD_getElem?]
      · have hne : ¬ (k * size ≤ i * size + j ∧ i * size + j < k * size + size) := by
          rcases Nat.lt_or_gt_of_ne e with h | h
          · have : (i + 1) * size ≤ k * size := Nat.mul_le_mul_right _ h
            rw [Nat.succ_mul] at this; omega
          · have : (k + 1) * size ≤ i * size := Nat.mul_le_mul_right _ h
            rw [Nat.succ_mul] at this; omega
        rw [if_neg hne]
        by_cases e2 : k + 1 ≤ i ∧ i < k + 1 + vs.length
        · rw [if_pos e2, if_pos (by omega), show i - k = (i - (k + 1)) + 1 by omega]; simp
        · rw [if_neg e2, if_neg (by omega)]

/-- A slice literal whose every element is given, in order. -/
theorem OpT.buildSl {esz len : Nat} {zs : List D} {parts : List (Nat × Operand)} {els : List (List D)} (hp : parts.map (·.1) = List.range len) (he : elsOf env (parts.map (·.2)) = some els) (hl : ∀ e ∈ els, e.length = esz)
    (hk : ∀ b t, K (.sl (.at b 0 len t) len) (.arr (.at b 0 len t) esz els :: σ)) : OpT P W0 (.buildSl esz len zs parts) env σ K X := by
  obtain ⟨hlen, hget⟩ := elsOf_get he
  have hpl : parts.length = len := by have := congrArg List.length hp; simpa using this
  simp only [List.length_map, hpl] at hlen
  intro o ho N Z F a w hc next Q hn _
  obtain ⟨dst, op, ty, pos, after, guard⟩ := o
  cases ho with
  | buildSl hu hi hz zs hs hlz hsz h0 =>
    rename_i s e i z ps
    have hzip : (ps.toList.map fun (p : Nat × Operand) => (p.1, a.eval p.2)) = (List.range' 0 len).zip (ps.toList.map fun p => a.eval p.2) := by
      have h1 : List.range' 0 len = ps.toList.map (·.1) := by rw [hp, List.range_eq_range']
      rw [h1, List.zip_map']
    have hvs : ∀ v ∈ ps.toList.map (fun p => a.eval p.2), v.cells.size = i.size := by
      intro v hv
      obtain ⟨k, hk⟩ := List.mem_iff_getElem?.1 hv
      rw [List.getElem?_map] at hk
      cases hpk : ps.toList[k]? with
      | none => rw [hpk] at hk; cases hk
      | some p =>
        rw [hpk] at hk
        cases hk
        obtain ⟨d, ds, h1, h2, h3⟩ := hget k p.2 (by simp [hpk])
        rw [((hc.eval h1).cells h2).1]
        exact hl ds (List.mem_of_getElem? h3)
    have hvlen : (ps.toList.map fun p => a.eval p.2).length = len := by simpa using hpl
    obtain ⟨c', h1, h2, h3⟩ := fill_range i.size len (ps.toList.map fun p => a.eval p.2) 0 ((Array.range (len * i.size)).map (z.cells[· % z.cells.size]!)) hvs (by omega) (by simp)
    rw [hvlen] at h1
    have hrun : (execOp a.eval ⟨dst, .buildSlice s len ps, ty, pos, after, guard⟩).run P w = .ok (.value (.slice (some ⟨w.heap.size, 0, none⟩) len len)) (w.alloc (.cells c' e)) := by
      have hnz : ¬ (16777216 < len * i.size) := by omega
      simp only [execOp, Instr.buildSlice, underlying, hu, sizeOf, typeInfo, hi]
      rcases Nat.eq_zero_or_pos (len * i.size) with e0 | e0
      · have hl0 : len = 0 := by rcases Nat.mul_eq_zero.1 e0 with h | h <;> omega
        subst hl0
        have hps : ps = #[] := by
          have : ps.toList = [] := List.eq_nil_of_length_eq_zero hpl
          exact Array.toList_eq_nil_iff.1 this
        subst hps
        simp [Instr.fill] at h1
        subst h1
        simp [Instr.fill, newRow, hu, hi, show Array.range 0 = (#[] : Array Nat) from rfl]
      · have : ¬ (len * i.size = 0) := by omega
        simp [hnz, hi, hu, this, zeroValue, typeInfo, hz, newRow]
        rw [hzip, h1]
        simp
    unfold Oper.wp
    rw [hrun]
    have hE : Evo Z w (w.alloc (.cells c' e)) := Evo.alloc hc.inh
    refine hn Z _ (.sl (.at w.heap.size 0 len e) len) (.arr (.at w.heap.size 0 len e) i.size els :: σ) _ (fun _ h => h) hE ?_ (.sl (.at w.heap.size 0 len e) len) (hk _ _)
    have hcsz : c'.size = len * i.size := by rw [h2]; simp
    refine hc.st.push hE (fun b hb => heap_alloc_lt _ _ _ hb) (arr_of_flat (rowT_alloc w c' e) (by rw [hcsz]; omega) (by omega) (fun k e hk => hl e (List.mem_of_getElem? hk)) fun k ek j d hk hd => ?_) (by simp [Chunk.blocks, Sl.blocks]) ?_
    · have hklt : k < len := by have := (List.getElem?_eq_some_iff.1 hk).1; omega
      have hps : ∃ p, ps.toList[k]? = some p := ⟨_, List.getElem?_eq_getElem (by omega)⟩
      obtain ⟨p, hpk⟩ := hps
      obtain ⟨d', ds, g1, g2, g3⟩ := hget k p.2 (by simp [hpk])
      rw [hk] at g3
      cases g3
      have hj : j < i.size := by rw [← hl ek (List.mem_of_getElem? hk)]; exact (List.getElem?_eq_some_iff.1 hd).1
      have := h3 k j hj
      simp only [Nat.zero_add]
      rw [this, if_pos (by omega)]
      have e1 : (ps.toList.map fun p => a.eval p.2).getD (k - 0) undef = a.eval p.2 := by simp [hpk]
      rw [e1]
      exact (((hc.eval g1).cells g2).2 j d hd).mono (fun _ h => h) hE.block
    · intro b hb
      simp only [Chunk.blocks, Sl.blocks, List.mem_singleton] at hb
      subst hb
      exact ⟨Nat.le_refl _, fun hz => Nat.lt_irrefl _ (hc.inh _ hz)⟩
end Go.Abs
