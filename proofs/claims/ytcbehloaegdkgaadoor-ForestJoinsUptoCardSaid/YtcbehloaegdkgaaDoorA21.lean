/- Abstract layer: a law's row, from its contract. -/
import Derived.Test.YtcbehloaegdkgaaDoorA20
import Derived.Carry
import Derived.OpenShut
import Derived.Lib.LaidTab
set_option linter.unusedVariables false
set_option linter.unusedSimpArgs false
namespace Go.Abs
open Go Go.RowKit Go.ChangeShapes
variable {H : Type} {enc : TypeId × Value → H} {P : Program}

theorem trodAll_below (hl : laidOutB P = true) {W W' : World} (hb : Below W.heap.size W W') : ∀ {ts : List TypeId} {vs : List Value} {ds : List (DataW H)} {ps : List MemPlace}, (∀ t ∈ ts, P.readableRec t = true ∧ t < P.types.size) → DataW.TrodAll enc P W 0 (fun _ => true) true ts vs ds ps → (∀ x ∈ ps, x.block < W.heap.size) →
    DataW.TrodAll enc P W' 0 (fun b => decide (b < W.heap.size)) true ts vs ds ps := by
  intro ts
  induction ts with
  | nil => intro vs ds ps _ h _; obtain ⟨rfl, rfl, rfl⟩ := trodAll_nil h; rfl
  | cons t ts ih =>
    intro vs ds ps ht h hx
    obtain ⟨v, vs', d, ds', p, q, rfl, rfl, rfl, h1, h2⟩ := trodAll_cons h
    exact ⟨p, q, Below.trod hl (ht t (by simp)).1 (ht t (by simp)).2 h1 hb (fun x hx' => hx x (by simp [hx'])), ih (fun u hu => ht u (by simp [hu])) h2 (fun x hx' => hx x (by simp [hx'])), rfl⟩

/-- True, and each argument as it was. -/
theorem law_post {fn : Func} {s : ChangeSpec} {tb : TypeId} (hl : laidOutB P = true) (hps : ∀ t ∈ fn.params.toList, P.readableRec t = true ∧ t < P.types.size) (hres : fn.resultTypes = #[tb]) (hb : P.underlying tb = some .bool) (hvars : s.vars = [])
    {W W' : World} {args : Array Value} {ds gs : List (DataW H)} {before : List MemPlace} (hs : s.fn H ds = { results := [.lit (.bool true)], args := ds }) (hW : DataW.Whole enc P fn.params.toList s.vars false W args.toList ds gs before) (hbel : Below W.heap.size W W') :
    s.post enc P fn false true false false W args (.bool true) W' := by
  have hlt := hW.lt
  have hW' := hW
  obtain ⟨p, q, hA, hV, rfl, hz, hn⟩ := hW
  rw [hvars] at hV
  obtain ⟨rfl, rfl⟩ := trodVars_none hV
  simp only [List.append_nil] at hW'
  have hp := trodAll_below hl hbel hps hA (fun x hx => hlt x (by simp [hx]))
  refine ⟨ds, [], p, [], p, [], hW', ?_, ?_, ?_, World.keptBut_mono (fun p' hp' => ⟨hp', .inr (.inl hp')⟩) (hbel.frame _), fun h => by cases h⟩
  · rw [List.append_nil, hs, hres]
    exact trodAll_mk1 (shut_bool hb true)
  · rw [List.append_nil, hs]; exact hp
  · rw [hvars, List.append_nil, hs]; rfl

theorem cells_one {W : World} {base : Nat} {t : TypeId} {v : Value} (h : Value.okWide P W .any base t v) (hu : ∀ fs, P.underlying t ≠ some (.struct fs)) (ha : ∀ n e, P.underlying t ≠ some (.array n e)) : v.cells = #[v] := by
  unfold Value.okWide at h
  split at h
  · rename_i fs hf; exact absurd hf (hu fs)
  · rename_i n e hf; exact absurd hf (ha n e)
  · cases v with
    | agg cs =>
      exfalso
      unfold Cell.okWide at h
      split at h <;> first | (rename_i e; cases e; done) | skip
      unfold Cell.ok at h
      split at h <;> first | exact h | (rename_i e; cases e; done) | skip
      all_goals rename_i e1 e2; cases e2
    | _ => rfl

/-- What a reading gives of one argument: how it stands. -/
theorem arg_rel {W : World} {t : TypeId} {v : Value} {d : DataW H} {p : List MemPlace} (h : DataW.Trod enc P W 0 (fun _ => true) true t v d p) (hv : v.cells = #[v]) :
    ∃ n, hasType P n t d ∧ ∀ D, toDs P n t d = [D] → Rel (fun b => b < W.heap.size) W D v := by
  obtain ⟨n, hn⟩ := h
  refine ⟨n, trod_type n t _ d p hn, fun D hD => ?_⟩
  have := trod_rel n t _ d p hn
  rw [hD, hv] at this
  exact this.2 0 D rfl

/-- A law's contract, met. -/
theorem law_calls {f : FuncId} {W : World} {args : Array Value} {Ds : List D} (h : ACalls P W f Ds [] (Gives (.v (.bool true)))) (hn : args.size = Ds.length) (hD : ∀ i d, Ds[i]? = some d → Rel (fun b => b < W.heap.size) W d (args.getD i undef)) :
    Calls P f args W fun e W' => e = .returned (.bool true) ∧ Below W.heap.size W W' := by
  refine (h (fun b => b < W.heap.size) [] W args ⟨.refl, fun _ h => h⟩ ⟨by simp [foot], fun b hb => by simp [foot] at hb, fun ch hc => by simp at hc, fun _ h => h⟩ hn hD).mono ?_
  rintro e W' ⟨Z', x, σ', h1, h2, h3, ⟨rfl, rfl⟩, h5⟩
  cases e with
  | returned v =>
    refine ⟨?_, ⟨h2.os, h2.tape, h2.output, h2.size, h2.block⟩⟩
    have h3 : Rel Z' W' (.v (.bool true)) v := h3
    cases h3; rfl
  | panicked ch => exact h3.elim
  | outgrown => exact h3.elim
end Go.Abs
