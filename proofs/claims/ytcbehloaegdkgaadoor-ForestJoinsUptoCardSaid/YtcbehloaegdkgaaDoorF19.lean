import Derived.Test.YtcbehloaegdkgaaDoorF18
set_option linter.unusedVariables false
set_option linter.unusedSimpArgs false
namespace Go.Proofs.YtcbehloaegdkgaaDoor
open Go Go.Abs
variable {W0 : World}
set_option maxHeartbeats 8000000
attribute [local irreducible] OpT AOps AWP ACalls

/-! ### What every program answers that is one -/
def fsA : List Tree := [⟨⟨#[112]⟩, ⟨#[]⟩, [⟨⟨#[99, 108, 97, 115, 115]⟩, ⟨#[97]⟩⟩], [⟨⟨#[]⟩, ⟨#[120, 60, 121]⟩, [], []⟩, ⟨⟨#[98]⟩, ⟨#[]⟩, [], []⟩]⟩]
def fsP : List Tree := [⟨⟨#[80]⟩, ⟨#[]⟩, [], []⟩]
def strA : ByteArray := ⟨#[60, 112, 32, 99, 108, 97, 115, 115, 61, 34, 97, 34, 62, 120, 38, 108, 116, 59, 121, 60, 98, 62, 60, 47, 98, 62, 60, 47, 112, 62]⟩

theorem badFrom_ascii (s : ByteArray) (h : ∀ i, i < s.size → byte s i < 128) : ∀ (n i : Nat), s.size - i ≤ n → badFrom s i = none := by
  intro n
  induction n with
  | zero => intro i hi; exact bad_end (by omega)
  | succ n ih =>
    intro i hi
    by_cases hlt : i < s.size
    · have hc : clen s i = 1 := by unfold clen clenN; rw [if_pos (h i hlt)]
      rw [bad_next hlt (by omega), hc]
      exact ih (i + 1) (by omega)
    · exact bad_end hlt
theorem textOk_ascii (l : List UInt8) (h : l.all (fun c => decide (c.toNat < 128)) = true) (hl : l.length ≤ 4096) : textOk ⟨l.toArray⟩ = true := by
  rw [textOk_eq]
  refine decide_eq_true ⟨badFrom_ascii _ (fun i hi => ?_) _ 0 (Nat.le_refl _), hl⟩
  have hi' : i < l.length := hi
  unfold byte
  rw [List.getD_eq_getElem?_getD]
  show (l[i]?.getD 0).toNat < 128
  rw [List.getElem?_eq_getElem hi']
  have := List.all_eq_true.1 h l[i] (List.getElem_mem hi')
  simpa using this

theorem nodeOk_text (s : ByteArray) (h : textOk s = true) : nodeOk ⟨⟨#[]⟩, s, [], []⟩ = true := by
  unfold nodeOk
  rw [if_pos (show Tree.tag _ = noStr from rfl)]
  simp [Tree.attrs, Tree.kids, Tree.text, h]
theorem fineA : fineL fsA := by
  have t1 : textOk ⟨#[97]⟩ = true := textOk_ascii [97] (by decide) (by decide)
  have t2 : textOk ⟨#[120, 60, 121]⟩ = true := textOk_ascii [120, 60, 121] (by decide) (by decide)
  refine ⟨⟨?_, ⟨nodeOk_text _ t2, trivial⟩, ⟨?_, trivial⟩, trivial⟩, trivial⟩
  · unfold nodeOk
    rw [if_neg (by decide)]
    rw [Bool.and_eq_true, Bool.and_eq_true]
    refine ⟨⟨by decide, by decide⟩, attrsOk_good fun i hi => ?_⟩
    have : i = 0 := by have : i < 1 := hi; omega
    subst this
    rw [attrOk_zero (a := ⟨⟨#[99, 108, 97, 115, 115]⟩, ⟨#[97]⟩⟩) rfl, Bool.and_eq_true]
    exact ⟨by decide, t1⟩
  · unfold nodeOk
    rw [if_neg (by decide)]
    rw [Bool.and_eq_true, Bool.and_eq_true]
    exact ⟨⟨by decide, by decide⟩, attrsOk_good fun i hi => absurd hi (Nat.not_lt_zero _)⟩
theorem checkA : checkF fsA = 0 := check_fine fineA (by decide) (by decide)
theorem htmlA : htmlF fsA = strA := by unfold htmlF; rw [if_pos checkA]; rfl
theorem countA : countF fsA = 3 := (check_zero checkA).2.2.2.1
theorem depthA : depthF fsA = 2 := (check_zero checkA).2.2.2.2
theorem checkP : checkF fsP = 700 := by
  have : nodeOk ⟨⟨#[80]⟩, ⟨#[]⟩, [], []⟩ = false := by
    unfold nodeOk
    rw [if_neg (by decide)]
    rfl
  unfold checkF fsP
  simp [lookL_cons, lookT_eq, this]

theorem awake (hT : Tabs W0) : ACalls Tryd.prog W0 18 [] [] (Gives (.v (.bool true))) := by
  have s1 : Sub (.ro 4 [[.v (.string ⟨#[112]⟩), .v (.string ⟨#[]⟩), .ro 2 [[.v (.string ⟨#[99, 108, 97, 115, 115]⟩), .v (.string ⟨#[97]⟩)]] 1, .ro 4 [[.v (.string ⟨#[]⟩), .v (.string ⟨#[120, 60, 121]⟩), .v (.slice none 0 0), .v (.slice none 0 0)], [.v (.string ⟨#[98]⟩), .v (.string ⟨#[]⟩), .v (.slice none 0 0), .v (.slice none 0 0)]] 2]] 1) (dTrees false fsA) :=
    Sub.ro ⟨⟨Sub.refl _, Sub.refl _, Sub.refl _, Sub.ro ⟨⟨Sub.refl _, Sub.refl _, Sub.nilRo 2, Sub.nilRo 4, trivial⟩, ⟨Sub.refl _, Sub.refl _, Sub.nilRo 2, Sub.nilRo 4, trivial⟩, trivial⟩, trivial⟩, trivial⟩
  have s2 : Sub (.ro 4 [[.v (.string ⟨#[80]⟩), .v (.string ⟨#[]⟩), .v (.slice none 0 0), .v (.slice none 0 0)]] 1) (dTrees false fsP) :=
    Sub.ro ⟨⟨Sub.refl _, Sub.refl _, Sub.nilRo 2, Sub.nilRo 4, trivial⟩, trivial⟩
  have s3 : Sub (.v (.slice none 0 0)) (dTrees false []) := Sub.nilRo 4
  have bA : bulk fsA ≤ 1048576 := by decide
  have bP : bulk fsP ≤ 1048576 := by decide
  have c1 := ACalls.sub (ds := [_]) (progHtml hT false fsA bA) ⟨s1, trivial⟩
  have c2 := ACalls.sub (ds := [_]) (progCheck hT false fsP bP) ⟨s2, trivial⟩
  have c3 := ACalls.sub (ds := [_]) (progCount hT false fsA bA) ⟨s1, trivial⟩
  have c4 := ACalls.sub (ds := [_]) (progDepth hT false fsA bA) ⟨s1, trivial⟩
  have c5 := ACalls.sub (ds := [_, _]) (progSame (W0 := W0) false false fsA fsA bA) ⟨s1, s1, trivial⟩
  have c6 := ACalls.sub (ds := [_, _]) (progSame (W0 := W0) false false fsA [] bA) ⟨s1, s3, trivial⟩
  rw [htmlA, checkA] at c1
  rw [checkP] at c2
  rw [countA] at c3
  rw [depthA] at c4
  rw [decide_eq_true rfl] at c5
  rw [decide_eq_false (by simp [fsA])] at c6
  refine ACalls.body is18 rfl ?_
  unfold c18
  have hs : strA = ⟨#[60, 112, 32, 99, 108, 97, 115, 115, 61, 34, 97, 34, 62, 120, 38, 108, 116, 59, 121, 60, 98, 62, 60, 47, 98, 62, 60, 47, 112, 62]⟩ := rfl
  repeat' (first | refine AOps.st (OpT.buildRo rfl rfl (by simp) ?_) | exact ⟨rfl, rfl⟩ | ((first | (with_reducible refine AOps.st ?_) | refine LSeq.st ?_ | refine lastS rfl ?_ | apply QSeq.st | apply QSeq.yes rfl | apply QSkip.st rfl); (first | refine OpT.cmpT rfl rfl (by first | (dsimp only [cmpY]; done) | (dsimp only [cmpY]; omega)) ?_ | refine OpT.cmpF rfl rfl (by first | (dsimp only [cmpN]; done) | (dsimp only [cmpN]; omega)) ?_ | refine OpT.eqST rfl rfl (by assumption) ?_ | refine OpT.eqSF rfl rfl (by assumption) ?_ | refine OpT.neST rfl rfl (by assumption) ?_ | refine OpT.neSF rfl rfl (by assumption) ?_ | refine OpT.notD rfl ?_ | refine OpT.ev rfl ?_ | (apply OpT.ldB rfl; (repeat (first | exact At.here | apply At.there)); exact rfl) | (apply OpT.ldA rfl; (repeat (first | exact At.here | apply At.there)); exact ⟨rfl, rfl⟩) | refine OpT.add64 rfl rfl (by omega) ?_ | refine OpT.sub64 rfl rfl (by omega) ?_ | refine OpT.mul64 rfl rfl (by omega) ?_ | refine OpT.idxP rfl rfl (by omega) (by first | assumption | exact encT_get (by assumption) | exact encL_get (by assumption)) ?_ | refine OpT.idxS rfl rfl (by omega) ?_ | refine OpT.cat rfl rfl (by first | omega | (simp only [ByteArray.size_append, size_lit, List.length_cons, List.length_nil]; omega)) ?_ | refine OpT.add rfl rfl ?_ | refine OpT.sub rfl rfl ?_ | refine OpT.alloc fun b => ?_ | refine OpT.box rfl rfl fun b => ?_ | refine OpT.moveAny ?_)) | with_reducible (first | refine AWP.seq ?_ | refine AWP.region ?_ | refine AOps.nil ?_ | refine thenN ?_ | refine insideN ?_ | refine AWP.block ?_ | refine AWP.skip ?_ | refine AWP.exit ?_ | refine AWP.ret ?_ | refine thenR ?_ | refine insideR ?_ | refine roundR ?_ | refine insideE ?_ | refine thenE ?_ | refine roundE ?_ | refine thenP ?_ | refine insideP ?_ | refine roundP ?_) | ((first | (with_reducible refine AOps.sn ?_) | refine LSeq.sn ?_ | refine lastN rfl ?_); (first | (apply OpT.stB rfl rfl; (repeat (first | exact At.here | apply At.there)); exact ⟨rfl, rfl⟩) | (apply OpT.stA rfl rfl; (repeat (first | exact At.here | apply At.there)); exact ⟨⟨rfl, rfl⟩, rfl, rfl⟩))) | refine AOps.gyes rfl ?_ | refine AOps.gno rfl ?_ | refine AOps.gund rfl ?_ | refine AWP.condT rfl ?_ | refine AWP.condF rfl ?_ | refine QSeq.done ?_ | refine QSeq.no rfl ?_ | refine QSeq.und rfl ?_ | refine AWP.drawQ0 mixed (by kernel_rfl) ?_ | ((first | apply QSeq.st | apply QSkip.st rfl); refine OpT.buildRo rfl rfl (by simp) ?_) | refine QSkip.done ?_ | refine QSkip.skip rfl ?_ | refine QSkip.skipN rfl ?_ | refine LSeq.done ?_ | refine AOps.st (OpT.callp rfl c1 ?_) | refine AOps.st (OpT.callp rfl c2 ?_) | refine AOps.st (OpT.callp rfl c3 ?_) | refine AOps.st (OpT.callp rfl c4 ?_) | refine AOps.st (OpT.callp rfl c5 ?_) | refine AOps.st (OpT.callp rfl c6 ?_) | refine AOps.st (OpT.callp rfl (num _) ?_))
  exact finG rfl
end Go.Proofs.YtcbehloaegdkgaaDoor
