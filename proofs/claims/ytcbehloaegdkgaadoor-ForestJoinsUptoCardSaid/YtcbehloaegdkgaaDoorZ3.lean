/- Proved: joined forests, and an element around one, answer in the given package forest as the statement ForestJoins says, without the document's answer. Conditions: the arguments' size bound and the started machine that stand in the card; no other. -/
import Derived.Test.YtcbehloaegdkgaaDoorZ0
import Derived.Test.YtcbehloaegdkgaaDoorF21
set_option linter.unusedVariables false
set_option linter.unusedSimpArgs false
namespace Go.Proofs.YtcbehloaegdkgaaDoor
open Go Go.Abs Go.ChangeShapes Go.RowKit Go.ChangeAt Go.WideShapes

theorem noStruct22' : (∀ fs, Tryd.prog.underlying 22 ≠ some (.struct fs)) ∧ ∀ n e, Tryd.prog.underlying 22 ≠ some (.array n e) := by
  rw [Tryd.underlying22]; exact ⟨fun fs h => (by cases h), fun n e h => (by cases h)⟩

set_option maxRecDepth 100000 in
theorem lifted5 (os : Os) (started : os.Started) (H : Type) (enc : TypeId × Value → H) (F : Stop.Interp) :
    ReturnsInHanded {} Tryd.checked os 5 .any ((Rows.OpenSpec.upto Rows.forestJoinsSpec).preRow enc Tryd.prog Tryd.f5 Rows.forestJoinsUptoRow.domain false Rows.forestJoinsUptoRow.laid) (((Rows.OpenSpec.upto Rows.forestJoinsSpec).at F).post enc Tryd.prog Tryd.f5 false true false false) := by
  have hx : ∃ places, DataW.whole enc Tryd.prog ((World.laidAll Tryd.prog os laidTabs).forCall (fun _ _ => 0) ⟨#[], #[.slice none 0 0, .slice none 0 0], []⟩).memory Tryd.f5.params.toList Rows.forestJoinsSpec.vars false #[Value.slice none 0 0, Value.slice none 0 0].toList 8 = some ([.nil, .nil], [], places) := ⟨[], by kernel_rfl⟩
  obtain ⟨places, hx⟩ := hx
  refine returnsInHanded_of_row (C := Tryd.checked) (s := Rows.OpenSpec.upto Rows.forestJoinsSpec) own started (by kernel_rfl) Tryd.func5
    (witness_row_at (enc := enc) (C := Tryd.checked) false (World.laidAll Tryd.prog os laidTabs) #[.slice none 0 0, .slice none 0 0] (World.laidAll_os _ _ _) (by kernel_rfl) (by kernel_rfl) (by kernel_rfl)
      (OpenSpec.preRow_of_cond 8 hx (by kernel_rfl) (fun k hk => by cases hk; kernel_rfl) (by kernel_rfl) (laid_met os _))) ?_
  intro W base args ds gs before hval0 hW _ hcond _ hL _ _
  have hval : ∀ (j : Nat) t v, Tryd.f5.params[j]? = some t → args[j]? = some v → Value.okWide Tryd.prog W .any base t v := hval0
  have hW' := hW
  obtain ⟨p, q, hA0, hV, rfl, _, _⟩ := hW
  have hA : DataW.TrodAll enc Tryd.prog W 0 (fun _ => true) true Tryd.f5.params.toList args.toList ds p := hA0
  rw [Tryd.params5] at hA hval
  obtain ⟨v0, v1, d0, d1, p0, p1, rfl, rfl, rfl, h0, h1⟩ := trodAll_two hA
  obtain ⟨rfl, rfl⟩ := trodVars_none hV
  have hb : Rows.uptoBulkAll ([d0, d1] ++ []) ≤ 1048576 := of_decide_eq_true (hcond _ rfl)
  simp only [List.append_nil, Rows.uptoBulkAll, Nat.add_zero] at hb
  obtain ⟨n0, ht0, hr0⟩ := arg_rel h0 (cells_one (hval 0 22 v0 rfl rfl) noStruct22'.1 noStruct22'.2)
  obtain ⟨n1, ht1, hr1⟩ := arg_rel h1 (cells_one (hval 1 22 v1 rfl rfl) noStruct22'.1 noStruct22'.2)
  obtain ⟨fs, hD0, hb0⟩ := trees_data n0 d0 ht0
  obtain ⟨us, hD1, hb1⟩ := trees_data n1 d1 ht1
  have hcall := law_calls (args := #[v0, v1]) (law5 (tabs_of_laid hL) fs us (by omega)) rfl (fun i d hd => by
    match i, hd with
    | 0, hd => simp at hd; subst hd; exact hr0 _ hD0
    | 1, hd => simp at hd; subst hd; exact hr1 _ hD1
    | i + 2, hd => simp at hd)
  refine hcall.mono fun e W' ⟨he, hbel⟩ => ⟨.bool true, he, ?_⟩
  exact law_post (tb := 4) laidOut (by rw [Tryd.params5]; intro t ht; simp at ht; subst ht; exact ⟨by kernel_rfl, of_decide_eq_true (by kernel_rfl)⟩) (by kernel_rfl) Tryd.underlying4 rfl rfl hW' hbel

theorem said5 : Rows.ForestJoinsUptoSaid :=
  OpenClaim.holds_of_cond 5 Tryd.f5 rfl rfl rfl rfl rfl rfl rfl ⟨rfl, rfl, rfl, rfl, rfl⟩ rfl rfl rfl rfl rfl (by kernel_rfl) Tryd.func5 (by kernel_rfl)
    (of_decide_eq_true (by kernel_rfl)) (by unfold Func.isWrapper; first | (rw [if_pos (by decide +kernel)]; kernel_rfl) | (rw [if_neg (by decide +kernel)]; exact ⟨rfl, rfl⟩))
    (fun os started H enc _ F => by rw [OpenClaim.pre_eq_preRow]; exact lifted5 os started H enc F)

theorem plain5 (f : FuncId) (fn : Func) (hf : Tryd.pinned.checked.prog.funcNamed "stencil/stencillaw7.ForestJoins" = some f) (hfn : Tryd.pinned.checked.prog.funcs[f]? = some fn) :
    false = Tryd.pinned.checked.prog.looks [] ∧ ∀ (j : Nat) t, fn.params[j]? = some t → Tryd.pinned.checked.prog.wantsStandIn t = false := by
  obtain rfl : f = 5 := Option.some.inj ((show Tryd.prog.funcNamed "stencil/stencillaw7.ForestJoins" = some 5 by kernel_rfl).symm.trans hf) |>.symm
  obtain rfl : fn = Tryd.f5 := (Option.some.inj (Tryd.func5.symm.trans hfn)).symm
  refine ⟨by kernel_rfl, fun j t ht => ?_⟩
  rw [Tryd.params5] at ht
  obtain rfl : t = 22 := by simpa using Array.mem_of_getElem? ht
  exact (show Tryd.prog.wantsStandIn 22 = false by kernel_rfl)

/-- Joined forests, an element around: the tied card, where the arguments hold at most 1048576 values and letters. -/
theorem forestJoins_card : Rows.ForestJoinsUptoCardSaid :=
  Claim7.holds_tied_plain_at .later [] _ _ _ _ said5 (fun _ h => by cases h) (by kernel_rfl) (fun _ h => by cases h) forestJoinsUpto_row_tie rfl ⟨rfl, rfl⟩ (by kernel_rfl) rfl plain5 (by kernel_rfl)
end Go.Proofs.YtcbehloaegdkgaaDoor
