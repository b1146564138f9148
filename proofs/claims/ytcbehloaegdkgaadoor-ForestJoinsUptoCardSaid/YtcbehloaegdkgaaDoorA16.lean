/- Abstract layer: contracts of the library lifted; a range over a string. -/
import Derived.Test.YtcbehloaegdkgaaDoorA15
import Derived.Lib.OthersKept
set_option linter.unusedVariables false
set_option linter.unusedSimpArgs false
namespace Go.Abs
open Go
variable {P : Program} {W0 : World} {env : Env} {σ : List Chunk} {K : D → List Chunk → Prop} {X : D → List Chunk → Prop}

/-- A contract that hands back a value and turns nothing that stood. -/
theorem ACalls.lift {f : FuncId} {xs : List Value} {v : Value} {d : D} (h : ∀ (Z : Nat → Prop) (w : World), Base W0 Z w → Calls P f xs.toArray w fun e w' => e = .returned v ∧ RowKit.Below w.heap.size w w') (hd : ∀ Z w, Rel Z w d v) :
    ACalls P W0 f (xs.map D.v) [] (Gives d) := by
  intro Z F w vs hb hst hn hv
  have hvs : vs = xs.toArray := by
    refine Array.ext (by simpa using hn) fun i h1 h2 => ?_
    have := hv i (.v xs[i]) (by simp [List.getElem?_eq_getElem (show i < xs.length by simpa using h2)])
    rw [Array.getD_eq_getD_getElem?, Array.getElem?_eq_getElem h1] at this
    generalize hg : (some vs[i]).getD undef = g at this
    cases this
    simpa using hg
  subst hvs
  refine (h Z w hb).mono ?_
  rintro e w' ⟨rfl, hbel⟩
  have he : Evo Z w w' := ⟨hbel.os, hbel.tape, hbel.output, hbel.size, fun b hz => hbel.block b (hst.inh b hz)⟩
  refine ⟨Z, .ret d, [], fun _ h => h, he, hd _ _, ⟨rfl, rfl⟩, hst.evo (fun _ h => h) he.block (fun b hb' => hbel.block b (hst.lt hb')) hst.apart (fun b hz => Nat.lt_of_lt_of_le (hst.inh b hz) hbel.size)⟩

theorem OpT.rangeS {t ty : TypeId} {x : Operand} {s : ByteArray} (hu : P.underlying t = some .string) (hx : aget env x = some (.v (.string s))) (hk : ∀ r, K (.v (.pointer (some ⟨r, 0, none⟩))) (.obj r (.stringIter s 0) :: σ)) : OpT P W0 (.raw (.range t x) ty) env σ K X := by
  intro o ho N Z F a w hc next Q hn _
  obtain ⟨dst', op, ty', pos, after, guard⟩ := o
  cases ho with
  | raw =>
    have hr : (execOp a.eval ⟨dst', .range t x, ty', pos, after, guard⟩).run P w = .ok (.value (.pointer (some ⟨w.heap.size, 0, none⟩))) (w.alloc (.stringIter s 0)) := by
      simp [execOp, Instr.range, hc.eval_v hx, run_underlying hu]
    unfold Oper.wp
    rw [hr]
    have he : Evo Z w (w.alloc (.stringIter s 0)) := Evo.alloc hc.inh
    refine hn Z _ (.v (.pointer (some ⟨w.heap.size, 0, none⟩))) (.obj w.heap.size (.stringIter s 0) :: σ) _ (fun _ h => h) he ?_ (.v _) (hk _)
    refine hc.st.push he (fun b hb => heap_alloc_lt _ _ _ hb) ⟨?_, fun c t f h => by cases h⟩ (by simp [Chunk.blocks]) ?_
    · show (w.heap.push _)[w.heap.size]? = _
      simp
    · intro b hb
      simp only [Chunk.blocks, List.mem_singleton] at hb
      subst hb
      exact ⟨Nat.le_refl _, fun hz => Nat.lt_irrefl _ (hc.inh _ hz)⟩

theorem OpT.nextN {x : Operand} {ty : TypeId} {s : ByteArray} {r pos q : Nat} (hx : aget env x = some (.v (.pointer (some ⟨r, 0, none⟩)))) (hq : σ[q]? = some (.obj r (.stringIter s pos))) (h : ¬ pos < s.size) (hk : K (.tup [.v (.bool false)]) σ) : OpT P W0 (.raw (.next x true) ty) env σ K X := by
  refine OpT.pure (fun o ho N Z F a w hc => ?_) hk
  obtain ⟨dst', op, ty', pos', after, guard⟩ := o
  obtain ⟨ho1, _⟩ := hc.st.get hq
  cases ho with
  | raw =>
    have hr := Lib.run_next_end_at (P := P) w r s pos ty' ho1 h
    refine ⟨.tuple #[.bool false], ?_, .tup rfl fun i d hd => ?_⟩
    · simp [execOp, hc.eval_v hx, hr]
    · cases i with
      | zero => simp at hd; subst hd; exact .v _
      | succ i => simp at hd

theorem OpT.nextY {x : Operand} {ty : TypeId} {s : ByteArray} {r pos q : Nat} (hx : aget env x = some (.v (.pointer (some ⟨r, 0, none⟩)))) (hq : σ[q]? = some (.obj r (.stringIter s pos))) (h : pos < s.size)
    (hk : K (.tup [.v (.bool true), .v (.int .i64 (pos : Nat)), .v (.int .i32 ((Utf8.decode s pos).1 : Nat))]) (σ.set q (.obj r (.stringIter s (pos + (Utf8.decode s pos).2))))) : OpT P W0 (.raw (.next x true) ty) env σ K X := by
  intro o ho N Z F a w hc next Q hn _
  obtain ⟨dst', op, ty', pos', after, guard⟩ := o
  obtain ⟨ho1, _⟩ := hc.st.get hq
  cases ho with
  | raw =>
    have hr := Lib.run_next_any_at (P := P) w r s pos ty' ho1 h
    have hr' : (execOp a.eval ⟨dst', .next x true, ty', pos', after, guard⟩).run P w = .ok (.value (.tuple #[.bool true, .int .i64 pos, .int .i32 (Utf8.decode s pos).1])) (w.iterAt r s (pos + (Utf8.decode s pos).2)) := by
      simp [execOp, hc.eval_v hx, hr]
    unfold Oper.wp
    rw [hr']
    have hnz : ¬ Z r := hc.st.get_apart hq (by simp [Chunk.blocks])
    have he : Evo Z w (w.iterAt r s (pos + (Utf8.decode s pos).2)) := ⟨rfl, rfl, rfl, by rw [Lib.iterAt_size]; exact Nat.le_refl _, fun b hz => Lib.iterAt_other w r b s _ (fun e => hnz (e ▸ hz))⟩
    refine hn Z _ _ _ _ (fun _ h => h) he (hc.st.set hq he (fun b _ hb => Lib.iterAt_other w r b s _ (by simpa [Chunk.blocks] using hb)) (ch' := .obj r (.stringIter s (pos + (Utf8.decode s pos).2))) ⟨Lib.iterAt_heap w r s pos _ ho1, fun c t f h => by cases h⟩ (by simp [Chunk.blocks]) (fun b hb => .inl hb)) (.tup rfl fun i d hd => ?_) hk
    match i, hd with
    | 0, hd => simp at hd; subst hd; exact .v _
    | 1, hd => simp at hd; subst hd; exact .v _
    | 2, hd => simp at hd; subst hd; exact .v _
    | i + 3, hd => simp at hd
end Go.Abs
