/- Abstract layer: own slices as answers. -/
import Derived.Test.YtcbehloaegdkgaaDoorA12
set_option linter.unusedVariables false
set_option linter.unusedSimpArgs false
namespace Go.Abs
open Go
variable {P : Program} {W0 : World} {env : Env} {σ : List Chunk}
attribute [local irreducible] OpT AOps AWP ACalls

/-- Answers a slice of the caller's own. -/
def GivesOwn (esz : Nat) (els : List (List D)) : AR → List Chunk → Prop := fun x σ => ∃ s, x = .ret (.sl s els.length) ∧ σ = [.arr s esz els]

theorem OpT.callo {f : FuncId} {xs : List Operand} {ds : List D} {esz : Nat} {els : List (List D)} {K : D → List Chunk → Prop} {X : D → List Chunk → Prop} (ha : argsOf env xs = some ds) (hc : ACalls P W0 f ds [] (GivesOwn esz els)) (hk : ∀ s, K (.sl s els.length) (.arr s esz els :: σ)) : OpT P W0 (.call f xs) env σ K X :=
  OpT.call ha (σ1 := []) (σ2 := σ) (by simp) hc (fun d' σ' h => by obtain ⟨s, h1, h2⟩ := h; cases h1; subst h2; exact hk s) (fun d' σ' h => by obtain ⟨s, h1, _⟩ := h; cases h1)

theorem finOwn {t q esz : Nat} {s : Sl} {els : List (List D)} (h : eget env t = some (.sl s els.length)) (hq : σ[q]? = some (.arr s esz els)) (hl : σ.length = q + 1) : Fin [.tmp t] (GivesOwn esz els) .ret env σ := by
  refine finK q h ⟨s, rfl, ?_⟩
  have := List.getElem?_eq_some_iff.1 hq
  obtain ⟨h1, h2⟩ := this
  rw [List.drop_eq_getElem_cons h1, h2, List.drop_eq_nil_of_le (by omega)]

theorem OpT.pickT {c x y : Operand} {d : D} {K : D → List Chunk → Prop} {X : D → List Chunk → Prop} (hc : aget env c = some (.v (.bool true))) (hx : aget env x = some d) (hk : K d σ) : OpT P W0 (.pick c x y) env σ K X :=
  OpT.pick hc (fun _ => hx) (fun h => by cases h) hk
theorem OpT.pickF {c x y : Operand} {d : D} {K : D → List Chunk → Prop} {X : D → List Chunk → Prop} (hc : aget env c = some (.v (.bool false))) (hx : aget env y = some d) (hk : K d σ) : OpT P W0 (.pick c x y) env σ K X :=
  OpT.pick hc (fun h => by cases h) (fun _ => hx) hk
theorem AOps.gyes {N : Nat} {Q : AX → Env → List Chunk → Prop} {dst : Option Nat} {op : SOp} {af : List Nat} {l : List SOper} {slot : Nat} {want : Bool} (hb : eget env slot = some (.v (.bool want))) (h : AOps P W0 N (⟨dst, none, op, af⟩ :: l) env σ Q) : AOps P W0 N (⟨dst, some (slot, want), op, af⟩ :: l) env σ Q :=
  AOps.guarded hb (fun _ => h) (fun e => by cases want <;> cases e)
theorem AOps.gno {N : Nat} {Q : AX → Env → List Chunk → Prop} {dst : Option Nat} {op : SOp} {af : List Nat} {l : List SOper} {slot : Nat} {want : Bool} (hb : eget env slot = some (.v (.bool (!want)))) (h : AOps P W0 N l (env.put dst (.v undef)) σ Q) : AOps P W0 N (⟨dst, some (slot, want), op, af⟩ :: l) env σ Q :=
  AOps.guarded hb (fun e => by cases want <;> cases e) (fun _ => h)
end Go.Abs
