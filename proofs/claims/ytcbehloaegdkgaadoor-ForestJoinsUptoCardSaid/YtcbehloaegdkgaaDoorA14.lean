/- Abstract layer: strings of bytes, strings.Builder's ways (pointers turned to unsafe.Pointer and back, unsafe.String), regions told one by one. -/
import Derived.Test.YtcbehloaegdkgaaDoorA13
import Derived.Lib.Builder
import Derived.Lib.UnsafeStr
import Derived.Laws.IdiomStrings
import Derived.Laws.BytesArg
import Derived.Laws.Externs
set_option linter.unusedVariables false
set_option linter.unusedSimpArgs false
namespace Go.Abs
open Go
variable {P : Program} {W0 : World} {env : Env} {σ : List Chunk} {K : D → List Chunk → Prop} {X : D → List Chunk → Prop}

theorem byteCells_at {l : List UInt8} {i : Nat} {b : UInt8} (h : l[i]? = some b) : (byteCells l)[i]? = some [.v (.int .u8 b.toNat)] := by
  simp [byteCells, List.getElem?_map, h]
theorem byteCells_len' (l : List UInt8) : (byteCells l).length = l.length := by simp [byteCells]
theorem byteCells_append (l m : List UInt8) : byteCells (l ++ m) = byteCells l ++ byteCells m := by simp [byteCells]

/-! ### string(b) -/
theorem OpT.bytesStr {x : Operand} {s : Sl} {len q : Nat} {els : List (List D)} {l : List UInt8} (hx : aget env x = some (.sl s len)) (hq : σ[q]? = some (.arr s 1 els)) (hlen : len ≤ els.length) (he : els.take len = byteCells l)
    (hk : K (.v (.string ⟨l.toArray⟩)) σ) : OpT P W0 (.bytesStr x) env σ K X := by
  refine OpT.pure (fun o ho N Z F a w hc => ?_) hk
  obtain ⟨dst, op, ty, pos, after, guard⟩ := o
  have hch := hc.st.get hq
  have hev := hc.eval hx
  have hl : l.length = len := by have := congrArg List.length he; rw [byteCells_len'] at this; simp at this; omega
  generalize hu' : a.eval x = u at hev
  cases hev
  cases ho with
  | bytesStr hu hb hd =>
    refine ⟨_, ?_, .v _⟩
    cases s with
    | nil =>
      have h0 : els = [] := hch
      subst h0
      have : l = [] := List.eq_nil_of_length_eq_zero (by simp at hlen; omega)
      subst this
      have h := run_convert_bytes_nil (P := P) w _ _ hu hb len 0 _ hd
      simp only [execOp, hu', Sl.val]
      simp [h]
      rfl
    | «at» b pre cap tt =>
      obtain ⟨c, hrow, hcsz, hcap, hel, hrel⟩ := hch
      have h := run_convert_bytes_back (P := P) w _ _ _ ⟨b, pre, none⟩ cap l hu hb hd (fun j hj => by
        have h1 : (els.take len)[j]? = some [.v (.int .u8 (l[j]).toNat)] := by rw [he]; exact byteCells_at (List.getElem?_eq_getElem hj)
        have h2 : els[j]? = some [.v (.int .u8 (l[j]).toNat)] := by rwa [List.getElem?_take_of_lt (by omega)] at h1
        have h3 := hrel j _ 0 _ h2 rfl
        generalize hg : c.getD (pre + j * 1 + 0) undef = g at h3
        cases h3
        rw [add_mk, hrow.cell (by omega)]
        rw [← hg]; congr 2; omega)
      rw [hl] at h
      simp only [execOp, hu', Sl.val]
      simp [h]

theorem OpT.bytesStrR {x : Operand} {len : Nat} {els : List (List D)} {l : List UInt8} (hx : aget env x = some (.ro 1 els len)) (he : els.take len = byteCells l)
    (hk : K (.v (.string ⟨l.toArray⟩)) σ) : OpT P W0 (.bytesStr x) env σ K X := by
  refine OpT.pure (fun o ho N Z F a w hc => ?_) hk
  obtain ⟨dst, op, ty, pos, after, guard⟩ := o
  have hev := hc.eval hx
  generalize hu' : a.eval x = u at hev
  cases ho with
  | bytesStr hu hb hd =>
    refine ⟨_, ?_, .v _⟩
    cases hev with
    | ronil a' =>
      have : l = [] := by have := congrArg List.length he; rw [byteCells_len'] at this; simpa using this.symm
      subst this
      cases a' with
      | some a' =>
        have h := run_convert_bytes_back (P := P) w _ _ _ a' 0 [] hu hb hd (fun j hj => absurd hj (Nat.not_lt_zero _))
        simp only [execOp, hu']
        simp only [List.length_nil] at h
        simp [h]
        try rfl
      | none =>
      have h := run_convert_bytes_nil (P := P) w _ _ hu hb 0 0 _ hd
      simp only [execOp, hu']
      simp [h]
      rfl
    | ro f hb' hl hc' hes hm hr =>
      rename_i b off cap
      have hll : l.length = len := by have := congrArg List.length he; rw [byteCells_len'] at this; simp at this; omega
      have h := run_convert_bytes_back (P := P) w _ _ _ ⟨b, off, none⟩ cap l hu hb hd (fun j hj => by
        have h1 : (els.take len)[j]? = some [.v (.int .u8 (l[j]).toNat)] := by rw [he]; exact byteCells_at (List.getElem?_eq_getElem hj)
        have h2 : els[j]? = some [.v (.int .u8 (l[j]).toNat)] := by rwa [List.getElem?_take_of_lt (by omega)] at h1
        have h3 := hr j _ 0 _ h2 rfl
        have h4 := hm j _ 0 _ h2 rfl
        generalize hg : f j 0 = g at h3 h4
        cases h3
        rw [add_mk, ← h4]; congr 2; omega)
      rw [hll] at h
      simp only [execOp, hu']
      simp [h]

/-! ### Pointers compared -/
theorem OpT.eqPnn {x y : Operand} {op : BinOp} (hx : aget env x = some (.v (.pointer none))) (hy : aget env y = some (.v (.pointer none))) (ho' : op = .eql) (hk : K (.v (.bool true)) σ) : OpT P W0 (.eqP op x y) env σ K X := by
  subst ho'
  refine OpT.pure (fun o ho N Z F a w hc => ?_) hk
  obtain ⟨dst, op, ty, pos, after, guard⟩ := o
  cases ho with
  | eqP hu hi h0 ho =>
    rename_i s u e i
    have h : ∀ d : Nat, (Op.equalIn (d + 1) s (.pointer none) (.pointer none)).run P w = .ok true w := fun d => by
      simp [Op.equalIn, run_underlying hu, Go.sizeOf, typeInfo, hi]
    refine ⟨_, ?_, .v _⟩
    simp only [execOp, hc.eval_v hx, hc.eval_v hy, binOp]
    simp [eqGuard, Op.equal, Op.maxDepth, h 9999]

theorem OpT.eqPsn {x y : Operand} {op : BinOp} {ad : Addr} (hx : aget env x = some (.v (.pointer (some ad)))) (hy : aget env y = some (.v (.pointer none))) (ho' : op = .eql) (hk : K (.v (.bool false)) σ) : OpT P W0 (.eqP op x y) env σ K X := by
  subst ho'
  refine OpT.pure (fun o ho N Z F a w hc => ?_) hk
  obtain ⟨dst, op, ty, pos, after, guard⟩ := o
  cases ho with
  | eqP hu hi h0 ho =>
    rename_i s u e i
    have h : ∀ d : Nat, (Op.equalIn (d + 1) s (.pointer (some ad)) (.pointer none)).run P w = .ok false w := fun d => by
      simp [Op.equalIn, run_underlying hu, Go.sizeOf, typeInfo, hi]
    refine ⟨_, ?_, .v _⟩
    simp only [execOp, hc.eval_v hx, hc.eval_v hy, binOp]
    simp [eqGuard, Op.equal, Op.maxDepth, h 9999]

theorem OpT.nePss {x y : Operand} {op : BinOp} {ad : Addr} (hx : aget env x = some (.v (.pointer (some ad)))) (hy : aget env y = some (.v (.pointer (some ad)))) (ho' : op = .neq) (hk : K (.v (.bool false)) σ) : OpT P W0 (.eqP op x y) env σ K X := by
  subst ho'
  refine OpT.pure (fun o ho N Z F a w hc => ?_) hk
  obtain ⟨dst, op, ty, pos, after, guard⟩ := o
  cases ho with
  | eqP hu hi h0 ho =>
    refine ⟨_, ?_, .v _⟩
    have := Lib.run_neq_ptr_same (P := P) w ad hu hi
    simp only [execOp, hc.eval_v hx, hc.eval_v hy]
    simp [eqGuard, this]

theorem rowT.shape {w : World} {b : Nat} {t : TypeId} {c : Array Value} (h : rowT w b t c) : w.shape? b = some (t, c.size) := by
  obtain ⟨lo, hi, h1, _⟩ := h
  simp [World.shape?, h1]

/-! ### unsafe.Pointer and back -/
theorem OpT.toUnsafe {src dst ty t e : TypeId} {x : Operand} {j : TypeInfo} {b q : Nat} {cs : List D} (hs : P.underlying src = some (.pointer t)) (hd : P.underlying dst = some .unsafePointer) (ht : P.info? t = some j) (hj : j.size ≠ 0)
    (hx : aget env x = some (.v (.pointer (some ⟨b, 0, none⟩)))) (hq : σ[q]? = some (.box b e cs)) (hn : 0 < cs.length) (hk : K (.v (.pointer (some ⟨b, 0, none⟩))) σ) : OpT P W0 (.raw (.convert src dst x) ty) env σ K X := by
  refine OpT.pure (fun o ho N Z F a w hc => ?_) hk
  obtain ⟨dst', op, ty', pos, after, guard⟩ := o
  obtain ⟨c, hrow, hsz, _⟩ := hc.st.get hq
  cases ho with
  | raw =>
    have := Lib.run_to_unsafe (P := P) w ⟨b, 0, none⟩ hs hd ht hj hrow.shape (by simp only [hsz]; exact hn)
    refine ⟨_, ?_, .v _⟩
    simp only [execOp, hc.eval_v hx]
    simp [this]

theorem OpT.fromUnsafe {src dst ty u e : TypeId} {x : Operand} {j : TypeInfo} {b q : Nat} {cs : List D} (hs : P.underlying src = some .unsafePointer) (hd : P.underlying dst = some (.pointer u)) (hu : P.info? u = some j)
    (hx : aget env x = some (.v (.pointer (some ⟨b, 0, none⟩)))) (hq : σ[q]? = some (.box b e cs)) (hn : liesAt P P.depth e (cs.length / P.cellsOf e) 0 u 1 = true) (hk : K (.v (.pointer (some ⟨b, 0, none⟩))) σ) : OpT P W0 (.raw (.convert src dst x) ty) env σ K X := by
  refine OpT.pure (fun o ho N Z F a w hc => ?_) hk
  obtain ⟨dst', op, ty', pos, after, guard⟩ := o
  obtain ⟨c, hrow, hsz, _⟩ := hc.st.get hq
  cases ho with
  | raw =>
    have := Lib.run_from_unsafe (P := P) w ⟨b, 0, none⟩ hs hd hu hrow.shape (by rw [hsz]; exact hn)
    refine ⟨_, ?_, .v _⟩
    simp only [execOp, hc.eval_v hx]
    simp [this]

/-- internal/abi.NoEscape. -/
theorem OpT.noEscape {f : FuncId} {fn : Func} {x : Operand} {ts : Array TypeId} {ty : TypeId} {v : Value} (hf : P.funcs[f]? = some fn) (hname : (fn.name == "runtime.NumGoroutine") = false)
    (hb : fn.body.isNone = true) (hn : Extern.findNext fn = none) (he : Extern.find fn = some Extern.AbiNoEscape.same)
    (hx : aget env x = some (.v v)) (hk : K (.v v) σ) : OpT P W0 (.raw (.call { callee := .value (.func f), args := #[x], argTypes := ts }) ty) env σ K X := by
  refine OpT.pure (fun o ho N Z F a w hc => ?_) hk
  obtain ⟨dst', op, ty', pos, after, guard⟩ := o
  cases ho with
  | raw =>
    have h1 := run_callFunc_extern (P := P) hf hname hb hn he #[v] w
    rw [Lib.run_noEscape] at h1
    refine ⟨_, ?_, .v _⟩
    have hef : a.eval (.func f) = .func (.func f) #[] #[] := rfl
    simp [execOp, resolve, Deferred.ofValue, invoke, hef, hc.eval_v hx, h1, Result.andThen]

/-! ### unsafe.SliceData, unsafe.String -/
theorem OpT.sliceDataN {s : TypeId} {ty e : TypeId} {x : Operand} {sl : Sl} {q esz : Nat} {els : List (List D)} (hp : P.underlying ty = some (.pointer e)) (hx : aget env x = some (.sl sl 0)) (hq : σ[q]? = some (.arr sl esz els)) (hk : ∀ p, K (.v (.pointer p)) σ) :
    OpT P W0 (.raw (.call { callee := .builtin .unsafeSliceData, args := #[x], argTypes := #[s] }) ty) env σ K X := by
  intro o ho N Z F a w hc next Q hn _
  obtain ⟨dst', op, ty', pos, after, guard⟩ := o
  have hch := hc.st.get hq
  have hev := hc.eval hx
  generalize hu' : a.eval x = u at hev
  cases hev
  have hexec : ∀ r w', (Builtin.unsafeSliceData_ #[s] ty' #[sl.val 0]).run P w = .ok r w' → (execOp a.eval ⟨dst', .call { callee := .builtin .unsafeSliceData, args := #[x], argTypes := #[s] }, ty', pos, after, guard⟩).run P w = .ok (.value r) w' := by
    intro r w' hr
    simp [execOp, resolve, invoke, builtin, hu', hr]
  cases ho with
  | raw =>
    unfold Oper.wp
    cases sl with
    | nil =>
      rw [hexec _ _ (Lib.run_unsafeSliceData_nil (P := P) w #[s] ty' 0 0)]
      exact hn Z _ (.v (.pointer none)) σ w (fun _ h => h) .refl hc.st (.v _) (hk _)
    | «at» b pre cap tt =>
      obtain ⟨c, hrow, _⟩ := hch
      by_cases h0 : cap = 0
      · subst h0
        rw [hexec _ _ (Lib.run_unsafeSliceData_zero (P := P) w #[s] ty' e hp ⟨b, pre, none⟩ 0 _ hrow.shape)]
        have he : Evo Z w (w.alloc (.view ⟨b, pre, none⟩ e)) := Evo.alloc hc.inh
        exact hn Z _ (.v (.pointer (some ⟨w.heap.size, 0, none⟩))) σ _ (fun _ h => h) he (hc.st.evo (fun _ h => h) he.block (fun k hk' => heap_alloc_lt _ _ _ (hc.st.lt hk')) hc.st.apart (fun b hz => Nat.lt_of_lt_of_le (hc.st.inh b hz) he.size)) (.v _) (hk _)
      · rw [hexec _ _ (Lib.run_unsafeSliceData_row (P := P) w #[s] ty' ⟨b, pre, none⟩ 0 cap h0)]
        exact hn Z _ (.v (.pointer (some ⟨b, pre, none⟩))) σ w (fun _ h => h) .refl hc.st (.v _) (hk _)

theorem OpT.sliceData {s : TypeId} {ty : TypeId} {x : Operand} {b cap tt len : Nat} (hx : aget env x = some (.sl (.at b 0 cap tt) len)) (h0 : cap ≠ 0) (hk : K (.v (.pointer (some ⟨b, 0, none⟩))) σ) :
    OpT P W0 (.raw (.call { callee := .builtin .unsafeSliceData, args := #[x], argTypes := #[s] }) ty) env σ K X := by
  refine OpT.pure (fun o ho N Z F a w hc => ?_) hk
  obtain ⟨dst', op, ty', pos, after, guard⟩ := o
  have hev := hc.eval hx
  generalize hu' : a.eval x = u at hev
  cases hev
  cases ho with
  | raw =>
    refine ⟨_, ?_, .v _⟩
    have hr := Lib.run_unsafeSliceData_row (P := P) w #[s] ty' ⟨b, 0, none⟩ len cap h0
    simp [execOp, resolve, invoke, builtin, hu', Sl.val, hr]

theorem OpT.sliceDataNil {s : TypeId} {ty : TypeId} {x : Operand} {len : Nat} (hx : aget env x = some (.sl .nil len)) (hk : K (.v (.pointer none)) σ) :
    OpT P W0 (.raw (.call { callee := .builtin .unsafeSliceData, args := #[x], argTypes := #[s] }) ty) env σ K X := by
  refine OpT.pure (fun o ho N Z F a w hc => ?_) hk
  obtain ⟨dst', op, ty', pos, after, guard⟩ := o
  have hev := hc.eval hx
  generalize hu' : a.eval x = u at hev
  cases hev
  cases ho with
  | raw =>
    refine ⟨_, ?_, .v _⟩
    have hr := Lib.run_unsafeSliceData_nil (P := P) w #[s] ty' len 0
    simp [execOp, resolve, invoke, builtin, hu', Sl.val, hr]

theorem OpT.unsafeStrN {pt it ty : TypeId} {x y : Operand} {p : Option Addr} (hx : aget env x = some (.v (.pointer p))) (hy : aget env y = some (.v (.int .i64 0))) (hk : K (.v (.string ⟨#[]⟩)) σ) :
    OpT P W0 (.raw (.call { callee := .builtin .unsafeString, args := #[x, y], argTypes := #[pt, it] }) ty) env σ K X := by
  refine OpT.pure (fun o ho N Z F a w hc => ?_) hk
  obtain ⟨dst', op, ty', pos, after, guard⟩ := o
  cases ho with
  | raw =>
    refine ⟨_, ?_, .v _⟩
    have hr := Lib.run_unsafeString_none (P := P) w pt it ty' p
    simp [execOp, resolve, invoke, builtin, hc.eval_v hx, hc.eval_v hy, hr]
    try rfl

/-- unsafe.String of an own row's bytes: the row is given away. -/
theorem OpT.unsafeStr {pt it ty e : TypeId} {x y : Operand} {b cap q : Nat} {els : List (List D)} {l : List UInt8} (hp : P.underlying pt = some (.pointer e)) (hce : P.cellsOf e = 1) (hx : aget env x = some (.v (.pointer (some ⟨b, 0, none⟩)))) (hy : aget env y = some (.v (.int .i64 (l.length : Nat))))
    (hq : σ[q]? = some (.arr (.at b 0 cap e) 1 els)) (he : els.take l.length = byteCells l) (h0 : l ≠ []) (h63 : l.length ≤ 9223372036854775807) (hk : K (.v (.string ⟨l.toArray⟩)) (σ.eraseIdx q)) :
    OpT P W0 (.raw (.call { callee := .builtin .unsafeString, args := #[x, y], argTypes := #[pt, it] }) ty) env σ K X := by
  refine OpT.of_run (σ' := σ.eraseIdx q) (fun o ho N Z F a w hc => ?_) hk
  obtain ⟨dst', op, ty', pos, after, guard⟩ := o
  have hnz : ¬ Z b := hc.st.get_apart hq (by simp [Chunk.blocks, Sl.blocks])
  obtain ⟨c, hrow, hcsz, hcap, hel, hrel⟩ := hc.st.get hq
  have hll : l.length ≤ els.length := by have := congrArg List.length he; rw [byteCells_len'] at this; simp at this; omega
  cases ho with
  | raw =>
    have hr := Lib.run_unsafeString_row (P := P) w pt it ty' e hp hce b c.size hrow.shape l h0 (by omega) h63 (fun j u hj => by
      have hjl := (List.getElem?_eq_some_iff.1 hj).1
      have h1 : (els.take l.length)[j]? = some [.v (.int .u8 u.toNat)] := by rw [he]; exact byteCells_at hj
      have h2 : els[j]? = some [.v (.int .u8 u.toNat)] := by rwa [List.getElem?_take_of_lt (by omega)] at h1
      have h3 := hrel j _ 0 _ h2 rfl
      generalize hg : c.getD (0 + j * 1 + 0) undef = g at h3
      cases h3
      rw [add_mk, hrow.cell (by omega)]
      rw [← hg]; congr 2; omega)
    have hother : ∀ k, k ≠ b → (w.freeze ⟨b, 0, none⟩ l.length).heap[k]? = w.heap[k]? := by
      intro k hk'
      unfold World.freeze
      split
      · rfl
      · simp only [Array.getElem?_modify]
        rw [if_neg (fun e => hk' e.symm)]
    have hsize : (w.freeze ⟨b, 0, none⟩ l.length).heap.size = w.heap.size := by unfold World.freeze; split <;> simp
    have hev : Evo Z w (w.freeze ⟨b, 0, none⟩ l.length) := by
      refine ⟨?_, ?_, ?_, by omega, fun k hz => hother k fun e => hnz (e ▸ hz)⟩ <;> (unfold World.freeze; split <;> rfl)
    refine ⟨Z, _, _, ?_, fun _ h => h, hev, ?_, .v _⟩
    · simp [execOp, resolve, invoke, builtin, hc.eval_v hx, hc.eval_v hy, hr]
    · obtain ⟨p, _⟩ := at_front hq (.obj 0 default)
      have h1 : St Z (.arr (.at b 0 cap e) 1 els :: (σ.eraseIdx q ++ F)) w := hc.st.perm (by simpa using p.append_right F)
      obtain ⟨_, h2, _⟩ := h1.head
      exact h1.tail.evo (fun _ h => h) hev.block (fun k hk' => hother k fun e => h2 b (by simp [Chunk.blocks, Sl.blocks]) (e ▸ hk')) h1.tail.apart (fun k hz => by rw [hsize]; exact h1.tail.inh k hz)

/-! ### Regions told one by one -/
theorem RAll.done {ops : List SOper} {ms : List Nat} {Q : AX → Env → List Chunk → Prop} {rem : List Nat} (h : Q .nrm env σ) : RAll P W0 ops ms Q 0 rem env σ := h
theorem RAll.step {ops : List SOper} {ms : List Nat} {Q : AX → Env → List Chunk → Prop} {k : Nat} {rem : List Nat}
    (h : AllI (fun i => RStep P W0 (ops.getD i default) env σ fun d σ' => RAll P W0 ops ms Q k (rem.erase i) (Env.put env (ops.getD i default).dst d) σ') (rem.filter (freeOf ms rem))) : RAll P W0 ops ms Q (k + 1) rem env σ := h
/-- In one order alone. -/
def RSeq (P : Program) (W0 : World) (ops : List SOper) (Q : AX → Env → List Chunk → Prop) : List Nat → Env → List Chunk → Prop
  | [], env, σ => Q .nrm env σ
  | i :: r, env, σ => RStep P W0 (ops.getD i default) env σ fun d σ' => RSeq P W0 ops Q r (Env.put env (ops.getD i default).dst d) σ'
def chainOk (ms : List Nat) : List Nat → Bool
  | [] => true
  | i :: r => (r.all fun j => (ms.getD j 0).testBit i && !(Nat.beq i j) && !((ms.getD i 0).testBit j)) && chainOk ms r
theorem OpT.mono {op : SOp} {K' X' : D → List Chunk → Prop} (h : OpT P W0 op env σ K X) (hk : ∀ d s, K d s → K' d s) (hx : ∀ d s, X d s → X' d s) : OpT P W0 op env σ K' X' :=
  fun o ho N Z F a w hc next Q hn hQ => h o ho N Z F a w hc next Q (fun Z' v d σ' w' h1 h2 h3 h4 h5 => hn Z' v d σ' w' h1 h2 h3 h4 (hk _ _ h5)) (fun Z' v d σ' w' h1 h2 h3 h4 h5 => hQ Z' v d σ' w' h1 h2 h3 h4 (hx _ _ h5))
theorem RStep.mono {o : SOper} {K' : D → List Chunk → Prop} (h : RStep P W0 o env σ K) (hk : ∀ d s, K d s → K' d s) : RStep P W0 o env σ K' := by
  unfold RStep at h ⊢
  split
  · rename_i hg
    rw [hg] at h
    exact OpT.mono h hk fun _ _ h => h
  · rename_i slot want hg
    rw [hg] at h
    rcases h with ⟨b, h1, h2, h3⟩ | ⟨h1, h2⟩
    · exact .inl ⟨b, h1, fun e => OpT.mono (h2 e) hk fun _ _ h => h, fun e => hk _ _ (h3 e)⟩
    · exact .inr ⟨h1, hk _ _ h2⟩
theorem RAll.chain {ops : List SOper} {ms : List Nat} {Q : AX → Env → List Chunk → Prop} : ∀ {R : List Nat} {env : Env} {σ : List Chunk}, chainOk ms R = true → RSeq P W0 ops Q R env σ → RAll P W0 ops ms Q R.length R env σ := by
  intro R
  induction R with
  | nil => intro env σ _ h; exact h
  | cons i r ih =>
    intro env σ hc h
    simp only [chainOk, Bool.and_eq_true, List.all_eq_true] at hc
    have hf : (i :: r).filter (freeOf ms (i :: r)) = [i] := by
      rw [List.filter_cons_of_pos]
      · rw [List.filter_eq_nil_iff.2]
        intro j hj
        obtain ⟨⟨h1, h2⟩, h3⟩ := hc.1 j hj
        simp only [freeOf, List.all_cons, h1, Bool.not_true, Bool.false_or, Bool.and_eq_true, not_and]
        intro e
        rw [e] at h2
        cases h2
      · simp only [freeOf, List.all_cons, Bool.and_eq_true]
        refine ⟨by simp, List.all_eq_true.2 fun j hj => ?_⟩
        obtain ⟨⟨h1, h2⟩, h3⟩ := hc.1 j hj
        rw [h3]; rfl
    show AllI _ ((i :: r).filter (freeOf ms (i :: r)))
    rw [hf]
    refine RStep.mono h fun d s hs => ?_
    rw [List.erase_cons_head]
    exact ih hc.2 hs
theorem RSeq.done {ops : List SOper} {Q : AX → Env → List Chunk → Prop} (h : Q .nrm env σ) : RSeq P W0 ops Q [] env σ := h
theorem RSeq.step {ops : List SOper} {Q : AX → Env → List Chunk → Prop} {i : Nat} {r : List Nat} (h : RStep P W0 (ops.getD i default) env σ fun d σ' => RSeq P W0 ops Q r (Env.put env (ops.getD i default).dst d) σ') : RSeq P W0 ops Q (i :: r) env σ := h
theorem AllI.two {f : Nat → Prop} {i j : Nat} {r : List Nat} (h : f i) (t : AllI f (j :: r)) : AllI f (i :: j :: r) := ⟨h, t⟩
theorem AllI.one {f : Nat → Prop} {i : Nat} (h : f i) : AllI f [i] := h

/-! ### Ghosts -/
theorem Cfg.nilArr {N : Nat} {Z : Nat → Prop} {F : List Chunk} {a : Act} {w : World} (h : Cfg W0 N Z F env σ a w) (esz : Nat) : Cfg W0 N Z F env (.arr .nil esz [] :: σ) a w :=
  ⟨h.base, St.cons (ch := .arr .nil esz []) rfl h.st (by simp [Chunk.blocks, Sl.blocks]) (by simp [Chunk.blocks, Sl.blocks]) (by simp [Chunk.blocks, Sl.blocks]), h.env, h.size, h.defers⟩
theorem AWP.nilArr {N : Nat} {Q : AX → Env → List Chunk → Prop} {s : SCode} (esz : Nat) (k : AWP P W0 N s env (.arr .nil esz [] :: σ) Q) : AWP P W0 N s env σ Q :=
  AWP.ghost (fun _ Z _ _ _ hc => ⟨Z, fun _ h => h, hc.nilArr esz⟩) k
theorem AOps.nilArr {N : Nat} {Q : AX → Env → List Chunk → Prop} {l : List SOper} (esz : Nat) (k : AOps P W0 N l env (.arr .nil esz [] :: σ) Q) : AOps P W0 N l env σ Q :=
  AOps.ghost (fun _ Z _ _ _ hc => ⟨Z, fun _ h => h, hc.nilArr esz⟩) k
theorem Cfg.subBox {N : Nat} {Z : Nat → Prop} {F : List Chunk} {a : Act} {w : World} (h : Cfg W0 N Z F env σ a w) {i b : Nat} {t : TypeId} {ds es : List D} (hi : σ[i]? = some (.box b t ds)) (hs : Subs ds es) : Cfg W0 N Z F env (σ.set i (.box b t es)) a w :=
  ⟨h.base, h.st.swap hi rfl (Chunk.sub_box hs), h.env, h.size, h.defers⟩
theorem AWP.subBox {N : Nat} {Q : AX → Env → List Chunk → Prop} {l : SCode} (i : Nat) {b : Nat} {t : TypeId} {ds es : List D} (hi : σ[i]? = some (.box b t ds)) (hs : Subs ds es) (k : AWP P W0 N l env (σ.set i (.box b t es)) Q) : AWP P W0 N l env σ Q :=
  AWP.ghost (fun _ Z _ _ _ hc => ⟨Z, fun _ h => h, hc.subBox hi hs⟩) k
theorem AOps.subBox {N : Nat} {Q : AX → Env → List Chunk → Prop} {l : List SOper} (i : Nat) {b : Nat} {t : TypeId} {ds es : List D} (hi : σ[i]? = some (.box b t ds)) (hs : Subs ds es) (k : AOps P W0 N l env (σ.set i (.box b t es)) Q) : AOps P W0 N l env σ Q :=
  AOps.ghost (fun _ Z _ _ _ hc => ⟨Z, fun _ h => h, hc.subBox hi hs⟩) k
theorem Sub.nilSl : Sub (.v (.slice none 0 0)) (.sl .nil 0) := by
  intro Z w v h
  cases h
  exact .sl .nil 0
end Go.Abs
