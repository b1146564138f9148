/-
  An abstract layer over the model: small steps between pieces of code; weaker data; strings, bytes and their slices.
-/
import Derived.Test.YtcbehloaegdkgaaDoorA11
set_option linter.unusedVariables false
set_option linter.unusedSimpArgs false
namespace Go.Abs
open Go
variable {P : Program} {W0 : World} {N : Nat} {env : Env} {σ : List Chunk} {Q : AX → Env → List Chunk → Prop}

theorem thenN {y : SCode} (h : AWP P W0 N y env σ Q) : Then P W0 N y Q .nrm env σ := h
theorem thenR {y : SCode} (h : Q .ret env σ) : Then P W0 N y Q .ret env σ := h
theorem thenE {y : SCode} {i : Nat} (h : Q (.exit i) env σ) : Then P W0 N y Q (.exit i) env σ := h
theorem thenP {y : SCode} {d : D} (h : Q (.pan d) env σ) : Then P W0 N y Q (.pan d) env σ := h
theorem insideN {i : Nat} (h : Q .nrm env σ) : Inside i Q .nrm env σ := h
theorem insideR {i : Nat} (h : Q .ret env σ) : Inside i Q .ret env σ := h
theorem insideP {i : Nat} {d : D} (h : Q (.pan d) env σ) : Inside i Q (.pan d) env σ := h
theorem insideE {i : Nat} (h : Q .nrm env σ) : Inside i Q (.exit i) env σ := by simp only [Inside, if_true]; exact h
theorem insideO {i j : Nat} (hne : Nat.beq j i = false) (h : Q (.exit j) env σ) : Inside i Q (.exit j) env σ := by
  have : ¬ j = i := by intro e; subst e; simp at hne
  simp only [Inside, if_neg this]; exact h
theorem roundR {J : Nat → Env → List Chunk → Prop} {n : Nat} (h : Q .ret env σ) : Round J n Q .ret env σ := h
theorem roundE {J : Nat → Env → List Chunk → Prop} {n i : Nat} (h : Q (.exit i) env σ) : Round J n Q (.exit i) env σ := h
theorem roundP {J : Nat → Env → List Chunk → Prop} {n : Nat} {d : D} (h : Q (.pan d) env σ) : Round J n Q (.pan d) env σ := h
theorem roundN {J : Nat → Env → List Chunk → Prop} {n : Nat} (m : Nat) {env2 : Env} (hm : m < n) (h : J m env2 σ) (hs : esub env2 env) : Round J n Q .nrm env σ := ⟨m, env2, hm, hs, h⟩

theorem AWP.loopS {x : SCode} (J : Nat → Env → List Chunk → Prop) (n : Nat) {env0 : Env} (h0 : J n env0 σ) (hs : esub env0 env) (h : ∀ n env σ, J n env σ → AWP P W0 N x env σ (Round J n Q)) : AWP P W0 N (.loop x) env σ Q :=
  AWP.less hs (AWP.loop J n h0 h)

theorem AAll.consA {σA : List Chunk} {R : List Nat} {envA : Env} {i : Nat} {o : SOper} {r : List SOper} {v : D} {vs : List D} (hR : R.contains i = false) (h : RStep P W0 o envA σA fun d σ' => d = v ∧ σ' = σA) (t : AAll P W0 σA R envA (i + 1) r vs) : AAll P W0 σA R envA i (o :: r) (v :: vs) := by
  refine ⟨?_, t⟩; rw [hR]; exact h
theorem AAll.consR {σA : List Chunk} {R : List Nat} {envA : Env} {i : Nat} {o : SOper} {r : List SOper} {v : D} {vs : List D} (hR : R.contains i = true) (t : AAll P W0 σA R envA (i + 1) r vs) : AAll P W0 σA R envA i (o :: r) (v :: vs) := by
  refine ⟨?_, t⟩; rw [hR]; exact trivial
theorem AAll.nil {σA : List Chunk} {R : List Nat} {envA : Env} {i : Nat} {vs : List D} : AAll P W0 σA R envA i [] vs := by cases vs <;> trivial
/-- A step of a region whose order is drawn: its guard says yes, or no. -/
theorem RStep.plain {o : SOper} {K : D → List Chunk → Prop} (hg : o.guard = none) (h : OpT P W0 o.op (restr (looks o) env) σ K (fun _ _ => False)) : RStep P W0 o env σ K := by
  unfold RStep; rw [hg]; exact h
theorem RStep.yes {o : SOper} {K : D → List Chunk → Prop} {slot : Nat} {want : Bool} (hg : o.guard = some (slot, want)) (hb : eget (restr (looks o) env) slot = some (.v (.bool want))) (h : OpT P W0 o.op (restr (looks o) env) σ K (fun _ _ => False)) : RStep P W0 o env σ K := by
  unfold RStep; rw [hg]; exact .inl ⟨want, hb, fun _ => h, fun e => (by cases want <;> cases e)⟩
theorem RStep.no {o : SOper} {K : D → List Chunk → Prop} {slot : Nat} {want : Bool} (hg : o.guard = some (slot, want)) (hb : eget (restr (looks o) env) slot = some (.v (.bool (!want)))) (h : K (.v undef) σ) : RStep P W0 o env σ K := by
  unfold RStep; rw [hg]; exact .inl ⟨!want, hb, fun e => (by cases want <;> cases e), fun _ => h⟩
theorem RStep.und {o : SOper} {K : D → List Chunk → Prop} {slot : Nat} {want : Bool} (hg : o.guard = some (slot, want)) (hb : eget (restr (looks o) env) slot = some (.v undef)) (h : K (.v undef) σ) : RStep P W0 o env σ K := by
  unfold RStep; rw [hg]; exact .inr ⟨hb, h⟩

/-- All of them read the chunks as they stand. -/
theorem AWP.drawS {sops : List SOper} (va : List D) (hm : P.follows .mixedOrders = true) (hok : drawOk sops = true) (hl : va.length = sops.length) (hA : AAll P W0 σ [] (addA [] 0 sops va env) 0 sops va) (h : Q .nrm (addA [] 0 sops va env) σ) : AWP P W0 N (.draw sops) env σ Q :=
  AWP.drawL [] va hm hok rfl List.nodup_nil rfl hl hA h

/-- All the data are known ahead. -/
theorem AWP.drawA {sops : List SOper} (va : List D) (hm : P.follows .mixedOrders = true) (hok : drawOk sops = true) (hl : va.length = sops.length) (hA : AAll P W0 [] [] (addA [] 0 sops va env) 0 sops va) (h : Q .nrm (addA [] 0 sops va env) σ) : AWP P W0 N (.draw sops) env σ Q :=
  AWP.draw [] va hm hok List.nodup_nil rfl hl hA h

/-- The end of a function with one result in a slot, that touches no chunk. -/
theorem finG {t : Nat} {d : D} (h : eget env t = some d) : Fin [.tmp t] (Gives d) .ret env σ :=
  ⟨σ.length, [d], ⟨d, [], rfl, h, rfl⟩, rfl, by simp⟩
theorem finG2 {t u : Nat} {d e : D} (h : eget env t = some d) (h' : eget env u = some e) : Fin [.tmp t, .tmp u] (Gives (.tup [d, e])) .ret env σ :=
  ⟨σ.length, [d, e], ⟨d, [e], rfl, h, e, [], rfl, h', rfl⟩, rfl, by simp⟩
theorem finG3 {t u v : Nat} {d e f : D} (h : eget env t = some d) (h' : eget env u = some e) (h'' : eget env v = some f) : Fin [.tmp t, .tmp u, .tmp v] (Gives (.tup [d, e, f])) .ret env σ :=
  ⟨σ.length, [d, e, f], ⟨d, [e, f], rfl, h, e, [f], rfl, h', f, [], rfl, h'', rfl⟩, rfl, by simp⟩
theorem finG0 : Fin [] (Gives (.tup [])) .nrm env σ := ⟨σ.length, [], rfl, rfl, by simp⟩
theorem finG0r : Fin [] (Gives (.tup [])) .ret env σ := ⟨σ.length, [], rfl, rfl, by simp⟩
/-- The same with what is left of the chunks. -/
theorem finK (k : Nat) {t : Nat} {d : D} {C : AR → List Chunk → Prop} (h : eget env t = some d) (hq : C (.ret d) (σ.drop k)) : Fin [.tmp t] C .ret env σ :=
  ⟨k, [d], ⟨d, [], rfl, h, rfl⟩, hq⟩
theorem finK2 (k : Nat) {t u : Nat} {d e : D} {C : AR → List Chunk → Prop} (h : eget env t = some d) (h' : eget env u = some e) (hq : C (.ret (.tup [d, e])) (σ.drop k)) : Fin [.tmp t, .tmp u] C .ret env σ :=
  ⟨k, [d, e], ⟨d, [e], rfl, h, e, [], rfl, h', rfl⟩, hq⟩
theorem finK0 (k : Nat) {C : AR → List Chunk → Prop} (hq : C (.ret (.tup [])) (σ.drop k)) : Fin [] C .nrm env σ := ⟨k, [], rfl, hq⟩
theorem finK0r (k : Nat) {C : AR → List Chunk → Prop} (hq : C (.ret (.tup [])) (σ.drop k)) : Fin [] C .ret env σ := ⟨k, [], rfl, hq⟩
/-- A struct in a result's cell. -/
theorem finC {t n b i : Nat} {ty : TypeId} {cs : List D} (h : eget env t = some (.v (.pointer (some ⟨b, 0, none⟩)))) (hi : σ[i]? = some (.box b ty cs)) (hl : cs.length = n) : Fin [.cell true n t] (Gives (.agg cs)) .ret env σ :=
  ⟨σ.length, [.agg cs], ⟨[], b, i, ty, cs, rfl, h, hi, hl, rfl⟩, rfl, by simp⟩

/-! ### Weaker data -/
/-- Whatever the one stands for, the other stands for. -/
def Sub (d d' : D) : Prop := ∀ Z w v, Rel Z w d v → Rel Z w d' v
theorem Sub.refl (d : D) : Sub d d := fun _ _ _ h => h
theorem Sub.any (d : D) : Sub d .any := fun _ _ v _ => .any v
theorem Sub.nilRo (esz : Nat) : Sub (.v (.slice none 0 0)) (.ro esz [] 0) := by
  intro Z w v h
  cases h
  exact .ronil none

/-- Cell by cell. -/
def Subs : List D → List D → Prop
  | [], [] => True
  | d :: ds, e :: es => Sub d e ∧ Subs ds es
  | _, _ => False

theorem Subs.refl (ds : List D) : Subs ds ds := by
  induction ds with
  | nil => trivial
  | cons d ds ih => exact ⟨.refl d, ih⟩

theorem Subs.get {ds es : List D} (h : Subs ds es) : ds.length = es.length ∧ ∀ (i : Nat) e, es[i]? = some e → ∃ d, ds[i]? = some d ∧ Sub d e := by
  induction ds generalizing es with
  | nil =>
    cases es with
    | nil => exact ⟨rfl, fun i e he => by simp at he⟩
    | cons e es => exact h.elim
  | cons d ds ih =>
    cases es with
    | nil => exact h.elim
    | cons e es =>
      obtain ⟨h1, h2⟩ := ih h.2
      refine ⟨by simp [h1], fun i e' he => ?_⟩
      cases i with
      | zero => simp at he; subst he; exact ⟨d, rfl, h.1⟩
      | succ i => simp at he; simpa using h2 i e' he

/-- Element by element. -/
def Subss : List (List D) → List (List D) → Prop
  | [], [] => True
  | d :: ds, e :: es => Subs d e ∧ Subss ds es
  | _, _ => False

theorem Subss.refl (ds : List (List D)) : Subss ds ds := by
  induction ds with
  | nil => trivial
  | cons d ds ih => exact ⟨.refl d, ih⟩

theorem Subss.get {ds es : List (List D)} (h : Subss ds es) : ds.length = es.length ∧ ∀ (i : Nat) e, es[i]? = some e → ∃ d, ds[i]? = some d ∧ Subs d e := by
  induction ds generalizing es with
  | nil =>
    cases es with
    | nil => exact ⟨rfl, fun i e he => by simp at he⟩
    | cons e es => exact h.elim
  | cons d ds ih =>
    cases es with
    | nil => exact h.elim
    | cons e es =>
      obtain ⟨h1, h2⟩ := ih h.2
      refine ⟨by simp [h1], fun i e' he => ?_⟩
      cases i with
      | zero => simp at he; subst he; exact ⟨d, rfl, h.1⟩
      | succ i => simp at he; simpa using h2 i e' he

theorem Sub.ro {esz len : Nat} {ds es : List (List D)} (h : Subss ds es) : Sub (.ro esz ds len) (.ro esz es len) := by
  intro Z w v hr
  obtain ⟨h1, h2⟩ := h.get
  cases hr with
  | ronil a =>
    have : es = [] := List.eq_nil_of_length_eq_zero (by simpa using h1.symm)
    subst this; exact .ronil a
  | ro f hb hl hc he hm hr =>
    refine .ro f hb (by omega) (by omega) (fun i e hi => ?_) (fun i e j d hi hj => ?_) (fun i e j d hi hj => ?_)
    · obtain ⟨d, hd, hs⟩ := h2 i e hi
      rw [← hs.get.1]; exact he i d hd
    · obtain ⟨d', hd, hs⟩ := h2 i e hi
      obtain ⟨d'', hd'', _⟩ := hs.get.2 j d hj
      exact hm i d' j d'' hd hd''
    · obtain ⟨d', hd, hs⟩ := h2 i e hi
      obtain ⟨d'', hd'', hs'⟩ := hs.get.2 j d hj
      exact hs' Z w _ (hr i d' j d'' hd hd'')

theorem Sub.rp {ds es : List D} (h : Subs ds es) : Sub (.rp ds) (.rp es) := by
  intro Z w v hr
  obtain ⟨h1, h2⟩ := h.get
  cases hr with
  | rp f hb hm hr =>
    refine .rp f hb (fun j d hj => ?_) (fun j d hj => ?_)
    · obtain ⟨d', hd, _⟩ := h2 j d hj; exact hm j d' hd
    · obtain ⟨d', hd, hs⟩ := h2 j d hj; exact hs Z w _ (hr j d' hd)

theorem Sub.agg {ds es : List D} (h : Subs ds es) : Sub (.agg ds) (.agg es) := by
  intro Z w v hr
  obtain ⟨h1, h2⟩ := h.get
  cases hr with
  | agg hl hr => exact .agg (by omega) fun i d hi => by obtain ⟨d', hd, hs⟩ := h2 i d hi; exact hs Z w _ (hr i d' hd)

theorem Chunk.sub_arr {Z : Nat → Prop} {w : World} {s : Sl} {esz : Nat} {ds es : List (List D)} (h : Subss ds es) (hc : (Chunk.arr s esz ds).holds Z w) : (Chunk.arr s esz es).holds Z w := by
  obtain ⟨h1, h2⟩ := h.get
  cases s with
  | nil => have : ds = [] := hc; subst this; exact List.eq_nil_of_length_eq_zero (by simpa using h1.symm)
  | «at» b pre cap tt =>
    obtain ⟨c, g1, g2, g3, g4, g5⟩ := hc
    refine ⟨c, g1, g2, by omega, fun i e hi => ?_, fun i e j d hi hj => ?_⟩
    · obtain ⟨d, hd, hs⟩ := h2 i e hi
      rw [← hs.get.1]; exact g4 i d hd
    · obtain ⟨d', hd, hs⟩ := h2 i e hi
      obtain ⟨d'', hd'', hs'⟩ := hs.get.2 j d hj
      exact hs' Z w _ (g5 i d' j d'' hd hd'')

theorem Chunk.sub_box {Z : Nat → Prop} {w : World} {b : Nat} {t : TypeId} {ds es : List D} (h : Subs ds es) (hc : (Chunk.box b t ds).holds Z w) : (Chunk.box b t es).holds Z w := by
  obtain ⟨h1, h2⟩ := h.get
  obtain ⟨c, g1, g2, g3⟩ := hc
  exact ⟨c, g1, by omega, fun i d hi => by obtain ⟨d', hd, hs⟩ := h2 i d hi; exact hs Z w _ (g3 i d' hd)⟩

theorem St.swap {Z : Nat → Prop} {ch ch' : Chunk} {L F : List Chunk} {i : Nat} {w : World} (h : St Z (L ++ F) w) (hi : L[i]? = some ch) (hb : ch'.blocks = ch.blocks) (hc : ch.holds Z w → ch'.holds Z w) : St Z (L.set i ch' ++ F) w := by
  have hch := h.get hi
  have hn : ch'.blocks.Nodup := by
    rw [hb]
    cases ch with
    | box => simp [Chunk.blocks]
    | arr s _ _ => cases s <;> simp [Chunk.blocks, Sl.blocks]
    | obj => simp [Chunk.blocks]
  exact h.set hi .refl (fun _ _ _ => rfl) (hc hch) hn (fun b hb' => .inl (hb ▸ hb'))

theorem Cfg.subArr {Z : Nat → Prop} {F : List Chunk} {a : Act} {w : World} (h : Cfg W0 N Z F env σ a w) {i : Nat} {s : Sl} {esz : Nat} {ds es : List (List D)} (hi : σ[i]? = some (.arr s esz ds)) (hs : Subss ds es) : Cfg W0 N Z F env (σ.set i (.arr s esz es)) a w :=
  ⟨h.base, h.st.swap hi rfl (Chunk.sub_arr hs), h.env, h.size, h.defers⟩
theorem AOps.subArr {l : List SOper} (i : Nat) {s : Sl} {esz : Nat} {ds es : List (List D)} (hi : σ[i]? = some (.arr s esz ds)) (hs : Subss ds es) (k : AOps P W0 N l env (σ.set i (.arr s esz es)) Q) : AOps P W0 N l env σ Q :=
  AOps.ghost (fun _ Z _ _ _ hc => ⟨Z, fun _ h => h, hc.subArr hi hs⟩) k
theorem AWP.subArr {l : SCode} (i : Nat) {s : Sl} {esz : Nat} {ds es : List (List D)} (hi : σ[i]? = some (.arr s esz ds)) (hs : Subss ds es) (k : AWP P W0 N l env (σ.set i (.arr s esz es)) Q) : AWP P W0 N l env σ Q :=
  AWP.ghost (fun _ Z _ _ _ hc => ⟨Z, fun _ h => h, hc.subArr hi hs⟩) k

theorem Cfg.subSlot {Z : Nat → Prop} {F : List Chunk} {a : Act} {w : World} (h : Cfg W0 N Z F env σ a w) {t : Nat} {d e : D} (ht : eget env t = some d) (hs : Sub d e) : Cfg W0 N Z F ((t, e) :: env) σ a w := by
  refine ⟨h.base, h.st, fun u d' hd => ?_, h.size, h.defers⟩
  rw [eget_cons] at hd
  by_cases e1 : t = u
  · subst e1; rw [if_pos rfl] at hd; cases hd; exact hs _ _ _ (h.env t d ht)
  · rw [if_neg e1] at hd; exact h.env u d' hd
theorem AOps.subSlot {l : List SOper} (t : Nat) {d e : D} (ht : eget env t = some d) (hs : Sub d e) (k : AOps P W0 N l ((t, e) :: env) σ Q) : AOps P W0 N l env σ Q :=
  AOps.ghost (fun _ Z _ _ _ hc => ⟨Z, fun _ h => h, hc.subSlot ht hs⟩) k
theorem AWP.subSlot {l : SCode} (t : Nat) {d e : D} (ht : eget env t = some d) (hs : Sub d e) (k : AWP P W0 N l ((t, e) :: env) σ Q) : AWP P W0 N l env σ Q :=
  AWP.ghost (fun _ Z _ _ _ hc => ⟨Z, fun _ h => h, hc.subSlot ht hs⟩) k

theorem ACalls.sub {f : FuncId} {ds es : List D} {C : AR → List Chunk → Prop} (h : ACalls P W0 f es σ C) (hs : Subs ds es) : ACalls P W0 f ds σ C := by
  obtain ⟨h1, h2⟩ := hs.get
  exact fun Z F w vs hb hst hn hv => h Z F w vs hb hst (by omega) fun i d hi => by obtain ⟨d', hd, hs'⟩ := h2 i d hi; exact hs' _ _ _ (hv i d' hd)

/-! ### Bytes -/
theorem byteCells_get {l : List UInt8} {i : Nat} {e : List D} {j : Nat} {d : D} (he : (byteCells l)[i]? = some e) (hd : e[j]? = some d) : j = 0 ∧ ∃ b, l[i]? = some b ∧ d = .v (.int .u8 b.toNat) := by
  simp only [byteCells, List.getElem?_map] at he
  cases hb : l[i]? with
  | none => rw [hb] at he; cases he
  | some b =>
    rw [hb] at he
    cases he
    cases j with
    | zero => simp at hd; exact ⟨rfl, b, rfl, hd.symm⟩
    | succ j => simp at hd

theorem byteCells_all (l : List UInt8) : ∀ e ∈ byteCells l, e.length = 1 ∧ allCell e = true := by
  intro e he
  simp only [byteCells, List.mem_map] at he
  obtain ⟨b, _, rfl⟩ := he
  exact ⟨rfl, rfl⟩

/-- A string's bytes, appended. -/
theorem SrcOK.str {y : Operand} {s : ByteArray} (hy : aget env y = some (.v (.string s))) : ∀ (N : Nat) (Z : Nat → Prop) (F : List Chunk) (a : Act) (w : World), Cfg W0 N Z F env σ a w →
    a.eval y = .string s ∧ Flat Z w 1 (byteCells s.data.toList) fun k => (s.data.map fun b => Value.int .u8 b.toNat).getD k undef := by
  intro N Z F a w hc
  refine ⟨hc.eval_v hy, fun i e j d he hd => ?_⟩
  obtain ⟨rfl, b, hb, rfl⟩ := byteCells_get he hd
  rw [Array.getElem?_toList] at hb
  simp only [Nat.mul_one, Nat.add_zero, Array.getD_eq_getD_getElem?, Array.getElem?_map, hb, Option.map_some, Option.getD_some]
  exact .v _

theorem run_firstCells_str (s : ByteArray) (w : World) : (Builtin.firstCells 1 s.size (.string s)).run P w = .ok (s.data.map fun b => Value.int .u8 b.toNat) w := by
  have he : s.extract 0 s.size = s := by simp
  simp only [Builtin.firstCells, he]
  rfl

theorem run_append_str_in {st ut e ty : TypeId} {i : TypeInfo} (hu : P.underlying st = some (.slice e)) (hyt : P.underlying ut = some .string) (hi : P.info? e = some i) (hsz : i.size = 1) {base : Option Addr} {sLen sCap : Nat} {s : ByteArray} {w w' : World}
    (hroom : sLen + s.size ≤ sCap) (hst : match base with | some a => (storeCells (a.add sLen) (s.data.map fun b => Value.int .u8 b.toNat).toList).run P w = .ok () w' | none => w' = w) :
    (Builtin.append_ #[st, ut] ty #[.slice base sLen sCap, .string s]).run P w = .ok (.slice base (sLen + s.size) sCap) w' := by
  have he := run_firstCells_str (P := P) s w
  cases base with
  | none =>
    subst hst
    simp [Builtin.append_, underlying, hu, hyt, sizeOf, typeInfo, hi, hsz, Builtin.lenOf, hroom, he]
  | some a =>
    simp only at hst
    rw [Array.toList_map] at hst
    simp [Builtin.append_, underlying, hu, hyt, sizeOf, typeInfo, hi, hsz, Builtin.lenOf, hroom, he, hst]

theorem run_append_str_new {st ut e ty : TypeId} {i : TypeInfo} {z : Value} (hu : P.underlying st = some (.slice e)) (hyt : P.underlying ut = some .string) (hi : P.info? e = some i) (hz : i.zero = some z) (hsz : i.size = 1) (hb : i.bytes = 1) {base : Option Addr} {sLen sCap : Nat} {old : Array Value} {s : ByteArray} {w : World}
    (hroom : sCap < sLen + s.size) (hold : ∀ w', w'.heap = w.heap → (Builtin.firstCells 1 sLen (.slice base sLen sCap)).run P w' = .ok old w') (hbytes : sLen + s.size ≤ 140737488355328) :
    ∃ newCap, sLen + s.size ≤ newCap ∧ (Builtin.append_ #[st, ut] ty #[.slice base sLen sCap, .string s]).run P w =
      .ok (.slice (some ⟨w.heap.size, 0, none⟩) (sLen + s.size) newCap) (w.drew.alloc (.cells (old ++ (s.data.map fun b => Value.int .u8 b.toNat) ++ Builtin.zeroCells z.cells (newCap - (sLen + s.size))) e)) := by
  have hfit := growslice_fits (need := sLen + s.size) (old := sCap) (bytes := 1) hroom (by omega)
  refine ⟨(Question.appendCap (sLen + s.size) sCap e).cut (w.tape w.drawn (.appendCap (sLen + s.size) sCap e)), Nat.le_add_right _ _, ?_⟩
  have h2 := hold w.drew rfl
  have e1 : ¬ (sLen + s.size ≤ sCap) := by omega
  have e3 : ¬ (281474976710656 < Builtin.nextslicecap (sLen + s.size) sCap) := by omega
  have h1 := run_firstCells_str (P := P) s w.drew
  simp [Builtin.append_, underlying, hu, hyt, sizeOf, typeInfo, hi, hz, hsz, hb, Builtin.lenOf, e1, e3, zeroValue, newRow, Question.forced, h1, h2]

/-- APPEND of a string's bytes. -/
theorem OpT.appST {e : TypeId} {x y : Operand} {len q : Nat} {sl : Sl} {els : List (List D)} {s : ByteArray} {K : D → List Chunk → Prop} {X : D → List Chunk → Prop} (hx : aget env x = some (.sl sl len)) (hq : σ[q]? = some (.arr sl 1 els)) (hlen : len ≤ els.length) (hy : aget env y = some (.v (.string s)))
    (hroom : len + s.size ≤ 140737488355328) (hk : ∀ s', (sl.ty e len → s'.ty e (len + s.size)) → K (.sl s' (len + s.size)) (σ.set q (.arr s' 1 (els.take len ++ byteCells s.data.toList)))) : OpT P W0 (.appS e x y) env σ K X := by
  intro o' ho N Z F a w hc next Q hn _
  obtain ⟨dst, op, ty, pos, after, guard⟩ := o'
  have hch := hc.st.get hq
  have hev := hc.eval hx
  obtain ⟨hyv, hflat⟩ := SrcOK.str hy N Z F a w hc
  generalize hux : a.eval x = ux at hev
  cases hev
  obtain ⟨old, ho1, ho2, ho3, _⟩ := own_read (P := P) hch hlen
  have hbl : (byteCells s.data.toList).length = s.size := by rw [byteCells_len]; simp
  have hcs : (s.data.map fun b => Value.int .u8 b.toNat).size = s.size := by simp
  cases ho with
  | appS hu hyt hi hz hsz hb =>
    rename_i st ut i
    have htl : (els.take len).length = len := by simp; omega
    have hels : ∀ (k : Nat) ek, (els.take len)[k]? = some ek → els[k]? = some ek := by
      intro k ek hk
      rw [List.getElem?_take] at hk
      split at hk <;> first | exact hk | cases hk
    have hexec : ∀ r w', (Builtin.append_ #[st, ut] ty #[sl.val len, .string s]).run P w = .ok r w' → (execOp a.eval ⟨dst, .call { callee := .builtin .append, args := #[x, y], argTypes := #[st, ut] }, ty, pos, after, guard⟩).run P w = .ok (.value r) w' := by
      intro r w' hr
      simp [execOp, resolve, invoke, builtin, hux, hyv, hr]
    have elAll : (∀ (k : Nat) ek, els[k]? = some ek → ek.length = 1) → ∀ (k : Nat) ek, (els.take len ++ byteCells s.data.toList)[k]? = some ek → ek.length = 1 := by
      intro hel k ek hk
      rcases List.mem_append.1 (List.mem_of_getElem? hk) with h | h
      · obtain ⟨j, hj⟩ := List.mem_iff_getElem?.1 h
        exact hel j ek (hels j ek hj)
      · exact (byteCells_all _ ek h).1
    have copy : ∀ (sCap : Nat) (base : Option Addr), sl.val len = .slice base len sCap → sCap < len + s.size → (∀ (k : Nat) ek, els[k]? = some ek → ek.length = 1) →
        Oper.wp P ⟨dst, .call { callee := .builtin .append, args := #[x, y], argTypes := #[st, ut] }, ty, pos, after, guard⟩ a w next Q := by
      intro sCap base hv hlt hel
      rw [hv] at ho1
      obtain ⟨newCap, hge, hr⟩ := run_append_str_new (P := P) (ty := ty) (s := s) hu hyt hi hz hsz hb hlt ho1 hroom
      rw [← hv] at hr
      unfold Oper.wp
      rw [hexec _ _ hr]
      generalize hzc : Builtin.zeroCells (Value.int .u8 0).cells (newCap - (len + s.size)) = zc
      have hzs : zc.size = newCap - (len + s.size) := by rw [← hzc, size_zeroCells]; simp [Value.cells]
      have he : Evo Z w (w.drew.alloc (.cells (old ++ (s.data.map fun b => Value.int .u8 b.toNat) ++ zc) e)) :=
        ⟨rfl, rfl, rfl, by simp, fun b hb => heap_alloc_lt _ _ _ (hc.inh b hb)⟩
      have hsize : (old ++ (s.data.map fun b => Value.int .u8 b.toNat) ++ zc).size = newCap := by
        rw [Array.size_append, Array.size_append, ho2, hcs, hzs]; omega
      refine hn Z _ (.sl (.at w.heap.size 0 newCap e) (len + s.size)) (σ.set q (.arr (.at w.heap.size 0 newCap e) 1 (els.take len ++ byteCells s.data.toList))) _ (fun _ h => h) he ?_ (.sl (.at w.heap.size 0 newCap e) (len + s.size)) (hk _ fun _ => ⟨rfl, rfl, by omega⟩)
      refine hc.st.set hq he (fun k hk' _ => heap_alloc_lt _ _ _ hk') ?_ (by simp [Chunk.blocks, Sl.blocks]) ?_
      · refine arr_of_flat (rowT_alloc w.drew _ e) (by rw [hsize]; omega) (by rw [List.length_append, htl, hbl]; exact hge) (elAll hel) (Flat.append ?_ ?_)
        · refine (ho3.mono (fun _ h => h) he.block).congr (fun k ek hk => hel k ek (hels k ek hk)) fun k hk => ?_
          rw [htl] at hk
          simp only [Nat.zero_add, Array.getD_eq_getD_getElem?, Array.append_assoc]
          rw [Array.getElem?_append_left (by rw [ho2]; exact hk)]
        · refine (hflat.mono (fun _ h => h) he.block).congr (fun k ek hk => (byteCells_all _ ek (List.mem_of_getElem? hk)).1) fun k hk => ?_
          simp only [Nat.zero_add, Array.getD_eq_getD_getElem?, Array.append_assoc, htl]
          rw [Array.getElem?_append_right (by rw [ho2]; omega), Array.getElem?_append_left (by rw [ho2, hcs]; rw [hbl] at hk; omega), ho2]
          congr 2; omega
      · intro b hb
        simp only [Chunk.blocks, Sl.blocks, List.mem_singleton] at hb
        subst hb
        exact .inr ⟨Nat.le_refl _, fun hz => Nat.lt_irrefl _ (hc.inh _ hz)⟩
    cases sl with
    | nil =>
      have hels0 : els = [] := hch
      subst hels0
      have hl0 : len = 0 := by simpa using hlen
      subst hl0
      by_cases hn0 : s.size = 0
      · have hr := run_append_str_in (P := P) (ty := ty) (sLen := 0) (sCap := 0) (base := none) (w := w) (w' := w) (s := s) hu hyt hi hsz (by omega) rfl
        unfold Oper.wp
        rw [hexec _ _ hr]
        have hk' := hk .nil fun _ => (show 0 + s.size = 0 by omega)
        have hb0 : byteCells s.data.toList = [] := List.eq_nil_of_length_eq_zero (by rw [hbl]; exact hn0)
        rw [hn0, hb0] at hk'
        rw [hn0]
        exact hn Z _ (.sl .nil 0) _ w (fun _ h => h) .refl (hc.st.set hq .refl (fun _ _ _ => rfl) hch (by simp [Chunk.blocks, Sl.blocks]) (by simp [Chunk.blocks, Sl.blocks])) (.sl .nil 0) hk'
      · exact copy 0 none rfl (by omega) (fun k ek hk => by simp at hk)
    | «at» b pre cap tt =>
      obtain ⟨c, hrow, hcsz, hcap, hel, hrel⟩ := hch
      by_cases hfit : len + s.size ≤ cap
      · have hone : ∀ u ∈ (s.data.map fun b => Value.int .u8 b.toNat).toList, u.oneCell' = true := by
          intro u hu
          simp only [Array.toList_map, List.mem_map] at hu
          obtain ⟨b, _, rfl⟩ := hu
          rfl
        obtain ⟨w', c', hr, h2, h5, h6, h7⟩ := run_storeCells_row (P := P) b (pre + len) tt (s.data.map fun b => Value.int .u8 b.toNat).toList 0 w c hrow (by simp; omega) hone
        have hr' := run_append_str_in (P := P) (ty := ty) (sLen := len) (sCap := cap) (base := some ⟨b, pre, none⟩) (w' := w') (s := s) hu hyt hi hsz hfit (by simp only [add_mk]; exact hr)
        have hnz : ¬ Z b := hc.st.get_apart hq (by simp [Chunk.blocks, Sl.blocks])
        have he : Evo Z w w' := h6.evo hnz
        unfold Oper.wp
        rw [hexec _ _ hr']
        refine hn Z _ (.sl (.at b pre cap tt) (len + s.size)) (σ.set q (.arr (.at b pre cap tt) 1 (els.take len ++ byteCells s.data.toList))) w' (fun _ h => h) he ?_ (.sl (.at b pre cap tt) (len + s.size)) (hk _ fun h => h)
        refine hc.st.set hq he (fun k _ hk => h6.block k (by simpa [Chunk.blocks, Sl.blocks] using hk)) ?_ (by simp [Chunk.blocks, Sl.blocks]) (fun k hk => .inl hk)
        refine arr_of_flat h2 (by omega) (by rw [List.length_append, htl, hbl]; exact hfit) (elAll hel) (Flat.append ?_ ?_)
        · have hold : Flat Z w 1 (els.take len) fun k => c.getD (pre + k) undef := fun i' e' j d h1 h2 => by have := hrel i' e' j d (hels i' e' h1) h2; rwa [Nat.add_assoc] at this
          refine (hold.mono (fun _ h => h) he.block).congr (fun k ek hk => hel k ek (hels k ek hk)) fun k hk => ?_
          rw [htl] at hk
          rw [h7, if_neg (by omega)]
        · refine (hflat.mono (fun _ h => h) he.block).congr (fun k ek hk => (byteCells_all _ ek (List.mem_of_getElem? hk)).1) fun k hk => ?_
          rw [hbl] at hk
          simp only [htl]
          rw [h7, if_pos (by simp; omega)]
          rw [List.getD_eq_getElem?_getD, Array.getElem?_toList, ← Array.getD_eq_getD_getElem?]
          congr 1; omega
      · exact copy cap (some ⟨b, pre, none⟩) rfl (by omega) hel
theorem OpT.appS {e : TypeId} {x y : Operand} {len q : Nat} {sl : Sl} {els : List (List D)} {s : ByteArray} {K : D → List Chunk → Prop} {X : D → List Chunk → Prop} (hx : aget env x = some (.sl sl len)) (hq : σ[q]? = some (.arr sl 1 els)) (hlen : len ≤ els.length) (hy : aget env y = some (.v (.string s)))
    (hroom : len + s.size ≤ 140737488355328) (hk : ∀ s', K (.sl s' (len + s.size)) (σ.set q (.arr s' 1 (els.take len ++ byteCells s.data.toList)))) : OpT P W0 (.appS e x y) env σ K X :=
  OpT.appST hx hq hlen hy hroom fun s' _ => hk s'
end Go.Abs
