/- Abstract layer: literals of slices that nobody writes; drawn regions with quiet operations among a chain of others. -/
import Derived.Test.YtcbehloaegdkgaaDoorA17
set_option linter.unusedVariables false
set_option linter.unusedSimpArgs false
namespace Go.Abs
open Go
variable {P : Program} {W0 : World} {N : Nat} {Q : AX → Env → List Chunk → Prop}

/-- What an operation leaves may be told otherwise. -/
theorem OpT.conv {op : SOp} {env : Env} {σ : List Chunk} {K K' X : D → List Chunk → Prop} (h : OpT P W0 op env σ K' X)
    (hk : ∀ (Z : Nat → Prop) (F : List Chunk) (w : World) (v : Value) (d : D) (σ' : List Chunk), St Z (σ' ++ F) w → Rel Z w d v → K' d σ' → ∃ (Z' : Nat → Prop) (d' : D) (σ'' : List Chunk), (∀ b, Z b → Z' b) ∧ St Z' (σ'' ++ F) w ∧ Rel Z' w d' v ∧ K d' σ'') : OpT P W0 op env σ K X :=
  fun o ho N Z F a w hc next Q hn hQ => h o ho N Z F a w hc next Q (fun Z' v d σ' w' h1 h2 h3 h4 h5 => by
    obtain ⟨Z'', d', σ'', g1, g2, g3, g4⟩ := hk Z' F w' v d σ' h3 h4 h5
    exact hn Z'' v d' σ'' w' (fun b hb => g1 b (h1 b hb)) h2 g2 g3 g4) hQ

theorem freeze_val {Z : Nat → Prop} {σ F : List Chunk} {w : World} {i len : Nat} {s : Sl} {esz : Nat} {els : List (List D)} {v : Value} (h : St Z (σ ++ F) w) (hi : σ[i]? = some (.arr s esz els)) (hv : Rel Z w (.sl s len) v) (hl : len ≤ els.length) :
    St (fun b => Z b ∨ b ∈ s.blocks) (σ.eraseIdx i ++ F) w ∧ Rel (fun b => Z b ∨ b ∈ s.blocks) w (.ro esz els len) v := by
  refine ⟨h.freeze hi, ?_⟩
  cases hv
  exact arr_ro (Chunk.holds_mono (h.get hi) (fun _ h => .inl h) (fun _ _ => rfl) fun _ _ => rfl) hl fun b hb => .inr hb

/-- A slice's literal that nobody writes. -/
theorem OpT.buildRo {env : Env} {σ : List Chunk} {K X : D → List Chunk → Prop} {esz len : Nat} {zs : List D} {parts : List (Nat × Operand)} {els : List (List D)} (hp : parts.map (·.1) = List.range len) (he : elsOf env (parts.map (·.2)) = some els) (hl : ∀ e ∈ els, e.length = esz)
    (hk : K (.ro esz els len) σ) : OpT P W0 (.buildSl esz len zs parts) env σ K X := by
  obtain ⟨hlen, _⟩ := elsOf_get he
  have hpl : len ≤ els.length := by have := congrArg List.length hp; simp at this hlen; omega
  refine OpT.conv (K' := fun d σ' => ∃ b t, d = .sl (.at b 0 len t) len ∧ σ' = .arr (.at b 0 len t) esz els :: σ) (OpT.buildSl hp he hl fun b t => ⟨b, t, rfl, rfl⟩) ?_
  rintro Z F w v d σ' hst hv ⟨b, t, rfl, rfl⟩
  obtain ⟨h1, h2⟩ := freeze_val (i := 0) hst rfl hv hpl
  exact ⟨_, _, σ, fun _ h => .inl h, h1, h2, hk⟩

/-- A call that answers a slice of its own, which nobody writes. -/
theorem ACalls.frozen {f : FuncId} {args : List D} {esz : Nat} {els : List (List D)} (h : ACalls P W0 f args [] (GivesOwn esz els)) : ACalls P W0 f args [] (Gives (.ro esz els els.length)) := by
  intro Z F w vs hb hst hn hv
  refine (h Z F w vs hb hst hn hv).mono ?_
  rintro e w' ⟨Z', x, σ', h1, h2, h3, ⟨s, rfl, rfl⟩, h5⟩
  cases e with
  | returned v =>
    obtain ⟨g1, g2⟩ := freeze_val (i := 0) h5 rfl h3 (Nat.le_refl _)
    exact ⟨_, .ret _, [], fun b hb => .inl (h1 b hb), h2, g2, ⟨rfl, rfl⟩, g1⟩
  | panicked ch => exact h3.elim
  | outgrown => exact h3.elim

/-- Operations that touch no chunk, each with one datum, told in their order; those of R left out. -/
inductive QSkip (P : Program) (W0 : World) (R : List Nat) : Nat → List SOper → Env → (Env → Prop) → Prop
  | done {i : Nat} {env : Env} {K : Env → Prop} (h : K env) : QSkip P W0 R i [] env K
  | step {i : Nat} {o : SOper} {r : List SOper} {env : Env} {K : Env → Prop} (v : D) (hR : R.contains i = false) (h : RStep P W0 o env [] fun d σ' => d = v ∧ σ' = []) (k : QSkip P W0 R (i + 1) r (Env.put env o.dst v) K) : QSkip P W0 R i (o :: r) env K
  | late {i : Nat} {o : SOper} {r : List SOper} {env : Env} {K : Env → Prop} (hR : R.contains i = true) (k : QSkip P W0 R (i + 1) r (Env.put env o.dst .any) K) : QSkip P W0 R i (o :: r) env K
  | same {i : Nat} {l : List SOper} {env : Env} {K : Env → Prop} (env0 : Env) (h : ∀ t, eget env0 t = eget env t) (k : QSkip P W0 R i l env0 K) : QSkip P W0 R i l env K

theorem QSkip.run {R : List Nat} {i : Nat} {l : List SOper} {env : Env} {K : Env → Prop} (h : QSkip P W0 R i l env K) :
    ∃ vs, vs.length = l.length ∧ (∃ e, (∀ t, eget e t = eget (seqEnv env l vs) t) ∧ K e) ∧ ∀ (k : Nat) o v, l[k]? = some o → vs[k]? = some v →
      (R.contains (i + k) = true → v = .any) ∧ (R.contains (i + k) = false → ∃ e, (∀ t, eget e t = eget (seqEnv env (l.take k) vs) t) ∧ RStep P W0 o e [] fun d σ' => d = v ∧ σ' = []) := by
  induction h with
  | done h => exact ⟨[], rfl, ⟨_, fun _ => rfl, h⟩, fun k o v hk => by simp at hk⟩
  | step v hR h _ ih =>
    obtain ⟨vs, h1, ⟨e, h2, h3⟩, h4⟩ := ih
    refine ⟨v :: vs, by simp [h1], ⟨e, h2, h3⟩, fun k o' v' hk hv => ?_⟩
    cases k with
    | zero => simp at hk hv; subst hk; subst hv; exact ⟨fun e => (by rw [Nat.add_zero, hR] at e; cases e), fun _ => ⟨_, fun _ => rfl, h⟩⟩
    | succ k =>
      simp at hk hv
      have := h4 k o' v' hk hv
      rw [show ∀ n, n + 1 + k = n + (k + 1) from fun n => by omega] at this
      simpa [seqEnv] using this
  | late hR _ ih =>
    obtain ⟨vs, h1, ⟨e, h2, h3⟩, h4⟩ := ih
    refine ⟨.any :: vs, by simp [h1], ⟨e, h2, h3⟩, fun k o' v' hk hv => ?_⟩
    cases k with
    | zero => simp at hk hv; subst hv; exact ⟨fun _ => rfl, fun e => (by rw [Nat.add_zero, hR] at e; cases e)⟩
    | succ k =>
      simp at hk hv
      have := h4 k o' v' hk hv
      rw [show ∀ n, n + 1 + k = n + (k + 1) from fun n => by omega] at this
      simpa [seqEnv] using this
  | same env0 h _ ih =>
    obtain ⟨vs, h1, ⟨e, h2, h3⟩, h4⟩ := ih
    refine ⟨vs, h1, ⟨e, fun t => (h2 t).trans (seqEnv_congr h t), h3⟩, fun k o v hk hv => ?_⟩
    obtain ⟨h5, h6⟩ := h4 k o v hk hv
    refine ⟨h5, fun hR => ?_⟩
    obtain ⟨e, h7, h8⟩ := h6 hR
    exact ⟨e, fun t => (h7 t).trans (seqEnv_congr h t), h8⟩

theorem LSeq.runR {sops : List SOper} {Q' : AX → Env → List Chunk → Prop} (hQ : ∀ e e' σ, (∀ t, eget e t = eget e' t) → Q .nrm e σ → Q' .nrm e' σ)
    (hlook : ∀ (i : Nat) s, sops[i]? = some s → ∀ t ∈ looks s, ∀ (j : Nat) s', sops[j]? = some s' → s'.dst = some t → ((masks sops).getD i 0).testBit j = true ∧ j ≠ i) : ∀ (R : List Nat) (e e' : Env) (σ : List Chunk), (∀ i ∈ R, i < sops.length) → chainOk (masks sops) R = true →
    (∀ t, (∀ i ∈ R, ∀ o, sops[i]? = some o → o.dst ≠ some t) → eget e t = eget e' t) → LSeq P W0 Q (R.map fun i => sops.getD i default) e σ → RSeq P W0 sops Q' R e' σ := by
  intro R
  induction R with
  | nil => intro e e' σ _ _ he h; exact hQ e e' σ (fun t => he t (fun i hi => by cases hi)) h
  | cons i r ih =>
    intro e e' σ hlt hch he h
    have hi : i < sops.length := hlt i (by simp)
    have h0 : sops[i]? = some sops[i] := List.getElem?_eq_getElem hi
    have hg : sops.getD i default = sops[i] := by rw [List.getD_eq_getElem?_getD, h0]; rfl
    simp only [chainOk, Bool.and_eq_true, List.all_eq_true] at hch
    simp only [List.map_cons, LSeq, RSeq] at h ⊢
    rw [hg] at h ⊢
    refine RStep.mono (RStep.congr h fun t ht => he t fun j hj o' ho hd => ?_) fun d s hs => ih _ _ s (fun j hj => hlt j (by simp [hj])) hch.2 (fun t ht => ?_) hs
    · obtain ⟨hm, hne⟩ := hlook i _ h0 t ht j o' ho hd
      rcases List.mem_cons.1 hj with rfl | hj
      · exact hne rfl
      · have := (hch.1 j hj).2
        rw [hm] at this
        cases this
    · cases hd : sops[i].dst with
      | none =>
        refine he t fun j hj o' ho => ?_
        rcases List.mem_cons.1 hj with rfl | hj
        · rw [h0] at ho; cases ho; rw [hd]; simp
        · exact ht j hj o' ho
      | some u =>
        simp only [Env.put, eget_cons]
        by_cases e1 : u = t
        · rw [if_pos e1, if_pos e1]
        · rw [if_neg e1, if_neg e1]
          refine he t fun j hj o' ho => ?_
          rcases List.mem_cons.1 hj with rfl | hj
          · rw [h0] at ho; cases ho; rw [hd]; simpa using e1
          · exact ht j hj o' ho

/-- A REGION WHOSE ORDER IS DRAWN: a chain of operations, the others quiet, which read no chunk. -/
theorem ADraw.drawM {sops : List SOper} {env : Env} {σ : List Chunk} (R : List Nat) (hok : drawOk sops = true) (hR0 : R.Nodup) (hR1 : (R.all fun i => Nat.blt i sops.length) = true) (hch : chainOk (masks sops) R = true)
    (h : QSkip P W0 R 0 sops env fun env' => LSeq P W0 Q (R.map fun i => sops.getD i default) env' σ) : ADraw P W0 N sops env σ Q := by
  obtain ⟨va, h1, ⟨ef, h2, h3⟩, h4⟩ := h.run
  have hok' := hok
  simp only [drawOk, Bool.and_eq_true] at hok'
  have hlooks := looksOk_spec hok'.1
  have hback := backOk_spec hok'.2
  have hRlt : ∀ i ∈ R, i < sops.length := by
    intro i hi
    have := List.all_eq_true.1 hR1 i hi
    simpa [Nat.blt_eq] using this
  have hlook : ∀ (i : Nat) s, sops[i]? = some s → ∀ t ∈ looks s, ∀ (j : Nat) s', sops[j]? = some s' → s'.dst = some t → ((masks sops).getD i 0).testBit j = true ∧ j ≠ i := by
    intro i s hs t ht j s' hj hd
    obtain ⟨g1, g2⟩ := hlooks i s hs
    have hne : j ≠ i := by
      rintro rfl
      rw [hs] at hj; cases hj
      exact (g2 t hd).1 ht
    rcases g1 t ht j s' hj hd with h | h
    · exact absurd (by omega) hne
    · rw [Nat.zero_add] at h
      exact ⟨h, hne⟩
  have hcl : ∀ i, Closed (sops.map (·.after)) (fun k => k < i) := by
    intro i k a hk hki j hj
    rw [List.getElem?_map] at hk
    cases hs : sops[k]? with
    | none => rw [hs] at hk; cases hk
    | some s =>
      rw [hs] at hk
      cases hk
      have := hback k s hs j hj
      omega
  have hlt : ∀ (i : Nat) s, sops[i]? = some s → ∀ t ∈ looks s, ∀ (j : Nat) s', sops[j]? = some s' → s'.dst = some t → j < i := by
    intro i s hs t ht j s' hj hd
    obtain ⟨h, hne⟩ := hlook i s hs t ht j s' hj hd
    rcases masks_done (hcl i) hs (fun k hk => by have := hback i s hs k hk; omega) h with h' | h'
    · exact h'
    · exact absurd h' hne
  have huniq : ∀ (i : Nat) s (j : Nat) s' u, sops[i]? = some s → s.dst = some u → sops[j]? = some s' → s'.dst = some u → i = j := by
    intro i s j s' u h1 h2 h3 h4
    have := ((hlooks i s h1).2 u h2).2 j s' h3 h4
    omega
  have hA : ∀ (k : Nat) s t, sops[k]? = some s → s.dst = some t → ∀ v, va[k]? = some v → eget (addA R 0 sops va env) t = some v := by
    intro k s t hs hd v hv
    have := addA_at (R := R) (i := 0) (env := env) hs hv hd fun k' o' h4 h5 => huniq k' o' k s t h4 h5 hs hd
    rw [this, Nat.zero_add]
    have h5 := (h4 k s v hs hv).1
    rw [Nat.zero_add] at h5
    cases hc : R.contains k with
    | false => rfl
    | true => rw [h5 hc]; rfl
  have hseq : ∀ (m : Nat) t, (∀ (j : Nat) s, sops[j]? = some s → s.dst = some t → j < m) → eget (seqEnv env (sops.take m) va) t = eget (addA R 0 sops va env) t := by
    intro m t hw
    by_cases hex : ∃ (j : Nat) (s : SOper), sops[j]? = some s ∧ s.dst = some t
    · obtain ⟨j, s, hs, hd⟩ := hex
      have hjm := hw j s hs hd
      obtain ⟨v, hv⟩ : ∃ v, va[j]? = some v := ⟨_, List.getElem?_eq_getElem (by rw [h1]; exact (List.getElem?_eq_some_iff.1 hs).1)⟩
      rw [hA j s t hs hd _ hv]
      refine seqEnv_at (k := j) (o := s) ?_ hv hd fun k' o' hk' hd' => ?_
      · rw [List.getElem?_take, if_pos (by omega)]; exact hs
      · rw [List.getElem?_take] at hk'
        split at hk'
        · exact huniq k' o' j s t hk' hd' hs hd
        · cases hk'
    · rw [seqEnv_out fun k o hk hd => hex ⟨k, o, ?_, hd⟩, addA_get fun k o hk hd => hex ⟨k, o, hk, hd⟩]
      rw [List.getElem?_take] at hk
      split at hk
      · exact hk
      · cases hk
  refine ADraw.outLess ?_
  refine ADraw.draw R va hok hR0 hR1 h1 ?_ ?_
  · refine AAll.of h1 fun k o v hk hv hRk => ?_
    rw [Nat.zero_add] at hRk
    obtain ⟨e, g1, g2⟩ := (h4 k o v hk hv).2 (by rw [Nat.zero_add]; exact hRk)
    refine g2.congr fun t ht => (g1 t).trans (hseq k t fun j s hj hd => hlt k o hk t ht j s hj hd)
  · refine RAll.chain hch ?_
    refine LSeq.runR (Q := Q) (fun e e' s he hq => ⟨e, fun t d hd => by rw [← he t]; exact hd, hq⟩) hlook R ef _ σ hRlt hch (fun t _ => ?_) h3
    rw [h2 t]
    have := hseq sops.length t fun j s hj _ => (List.getElem?_eq_some_iff.1 hj).1
    rwa [List.take_length] at this

theorem AWP.drawM {sops : List SOper} {env : Env} {σ : List Chunk} (R : List Nat) (hm : P.follows .mixedOrders = true) (hok : drawOk sops = true) (hR0 : R.Nodup) (hR1 : (R.all fun i => Nat.blt i sops.length) = true) (hch : chainOk (masks sops) R = true)
    (h : QSkip P W0 R 0 sops env fun env' => LSeq P W0 Q (R.map fun i => sops.getD i default) env' σ) : AWP P W0 N (.draw sops) env σ Q := (ADraw.drawM R hok hR0 hR1 hch h).awp hm

/-! ### The last operation waits for all the others -/
/-- Its guard looks at no slot that the last operation writes. -/
def lastOk (l : List SOper) (s : SOper) : Bool :=
  ((List.range l.length).all (fun i => s.after.contains i) && s.after.all fun k => Nat.blt k l.length) && backOk 0 l && l.all fun o => match o.guard, s.dst with
    | some (t, _), some u => !(Nat.beq t u)
    | _, _ => true

theorem slimList_snoc {ops : Array Oper} {l : List SOper} {s : SOper} : ∀ {lo : List Oper}, SlimList P N ops lo (l ++ [s]) → ∃ lo' o, lo = lo' ++ [o] ∧ SlimList P N ops lo' l ∧ SlimOper P N ops o s := by
  induction l with
  | nil =>
    intro lo h
    cases h with
    | cons ho ht => cases ht; exact ⟨[], _, rfl, .nil, ho⟩
  | cons x l ih =>
    intro lo h
    cases h with
    | cons ho ht =>
      obtain ⟨lo', o, rfl, h1, h2⟩ := ih ht
      exact ⟨_ :: lo', o, rfl, .cons ho h1, h2⟩

def Last (P : Program) (W0 : World) (s : SOper) (Q : AX → Env → List Chunk → Prop) : AX → Env → List Chunk → Prop
  | .nrm, e, σ => RStep P W0 s e σ fun d σ' => Q .nrm (Env.put e s.dst d) σ'
  | x, e, σ => Q x e σ

theorem ADraw.last {l : List SOper} {s : SOper} {env : Env} {σ : List Chunk} (hok : lastOk l s = true)
    (h : ADraw P W0 N l env σ (Last P W0 s Q)) : ADraw P W0 N (l ++ [s]) env σ Q := by
  intro ops hsl he Z F a w hc
  obtain ⟨lo, o, hlo, h1, h2⟩ := slimList_snoc hsl
  simp only [lastOk, Bool.and_eq_true] at hok
  obtain ⟨⟨⟨hok1, hok4⟩, hok2⟩, hok3⟩ := hok
  -- the operations ahead
  let ops1 : Array Oper := lo.toArray
  have hops : ops = ops1.push o := by apply Array.toList_inj.1; simp [ops1, hlo]
  have hn : ops1.size = l.length := by have := (slim_get h1).1; simp [ops1, this]
  have hold : ∀ j, j < ops1.size → ops[j]? = ops1[j]? := fun j hj => by rw [hops, Array.getElem?_push, if_neg (by omega)]
  have hlast : ops[ops1.size]? = some o := by rw [hops]; simp
  have hedges : l.map (·.after) = ops1.toList.map edgesOf ∧ s.after = edgesOf o := by
    have := he
    rw [hlo, List.map_append, List.map_append] at this
    have hl : (l.map (·.after)).length = (lo.map edgesOf).length := by have := (slim_get h1).1; simp [this]
    obtain ⟨e1, e2⟩ := List.append_inj this hl
    exact ⟨by simpa [ops1] using e1, by simpa using e2⟩
  have hguard : ∀ (i : Nat) (x : Oper), lo[i]? = some x → ∀ j want, x.guard = some (j, want) → j < ops1.size ∧ ∀ tm, yielded ops1 tm j = yielded ops tm j := by
    intro i x hx j want hg
    obtain ⟨sx, hsx, hso⟩ := (slim_get h1).2 i x hx
    have hgd := hso.guard
    rw [hg] at hgd
    obtain ⟨oj, slot, hj, hjd, _, hsg⟩ := hgd
    have hjs : j < ops.size := by
      rcases Nat.lt_or_ge j ops.size with h | h
      · exact h
      · rw [Array.getElem?_eq_none h] at hj; cases hj
    have hjl : j < ops1.size := by
      rcases Nat.lt_or_ge j ops1.size with h | h
      · exact h
      · exfalso
        have : j = ops1.size := by rw [hops, Array.size_push] at hjs; omega
        subst this
        rw [hlast] at hj
        cases hj
        have h3 := List.all_eq_true.1 hok3 sx (List.mem_of_getElem? hsx)
        rw [hsg, h2.dst, hjd] at h3
        simp at h3
    exact ⟨hjl, fun tm => by simp only [yielded, hold j hjl]⟩
  have hsl1 : SlimList P N ops1 ops1.toList l := by
    show SlimList P N ops1 lo l
    have : ∀ (lo0 : List Oper) (l0 : List SOper), (∀ x ∈ lo0, x ∈ lo) → SlimList P N ops lo0 l0 → SlimList P N ops1 lo0 l0 := by
      intro lo0
      induction lo0 with
      | nil => intro l0 _ h; cases h; exact .nil
      | cons x r ih =>
        intro l0 hm h
        cases h with
        | cons hx hr =>
          refine .cons ⟨hx.dst, hx.lt, hx.op, ?_⟩ (ih _ (fun y hy => hm y (by simp [hy])) hr)
          have hg := hx.guard
          cases hgx : x.guard with
          | none => rw [hgx] at hg; exact hg
          | some p =>
            obtain ⟨j, want⟩ := p
            rw [hgx] at hg
            obtain ⟨i, hi⟩ := List.getElem?_of_mem (hm x (by simp))
            obtain ⟨hjl, _⟩ := hguard i x hi j want hgx
            obtain ⟨oj, slot, hj, hrest⟩ := hg
            exact ⟨oj, slot, by rw [← hold j hjl]; exact hj, hrest⟩
    exact this lo l (fun _ h => h) h1
  have hrun := h ops1 hsl1 hedges.1 Z F a w hc
  have hback := backOk_spec hok2
  have hafter : ∀ (i : Nat) x sx, ops1[i]? = some x → l[i]? = some sx → sx.after = edgesOf x := by
    intro i x sx h3 h4
    have := congrArg (fun l => l[i]?) hedges.1
    simp only [List.getElem?_map, h4, Array.getElem?_toList, h3, Option.map_some, Option.some.injEq] at this
    exact this
  -- what is ready
  have hmem : ∀ (os : Array Oper) (listed : Array Bool), listed.size = os.size → ∀ i, i ∈ Region.ready .any os listed ↔ ∃ x, os[i]? = some x ∧ listed.getD i false = false ∧ ∀ k ∈ edgesOf x, listed.getD k false = true := by
    intro os listed hls i
    simp only [Region.ready, List.mem_filter, List.mem_range, Bool.and_eq_true, Bool.not_eq_true']
    constructor
    · rintro ⟨g1, g2, g3⟩
      have hlt : i < listed.size := by rw [hls]; exact g1
      have ho : os[i]? = some os[i] := Array.getElem?_eq_getElem g1
      refine ⟨os[i], ho, ?_, ?_⟩
      · rw [Array.getD_eq_getD_getElem?, Array.getElem?_eq_getElem hlt] at g2 ⊢
        simpa using g2
      · rw [ho] at g3
        simp only [Option.map_some, Option.getD_some] at g3
        intro k hk
        simp only [edgesOf, List.mem_map, List.mem_filter] at hk
        obtain ⟨e, ⟨he1, he2⟩, rfl⟩ := hk
        have := Array.all_eq_true'.1 g3 e (Array.mem_toList_iff.1 he1)
        simpa [he2] using this
    · rintro ⟨x, g1, g2, g3⟩
      have hi : i < os.size := by
        rcases Nat.lt_or_ge i os.size with h | h
        · exact h
        · rw [Array.getElem?_eq_none h] at g1; cases g1
      have hlt : i < listed.size := by rw [hls]; exact hi
      refine ⟨hi, ?_, ?_⟩
      · rw [Array.getD_eq_getD_getElem?, Array.getElem?_eq_getElem hlt] at g2 ⊢
        simpa using g2
      · rw [g1]
        simp only [Option.map_some, Option.getD_some]
        refine Array.all_eq_true'.2 fun e he' => ?_
        by_cases hb : Region.binds .any e = true
        · have := g3 e.on (by simp only [edgesOf, List.mem_map, List.mem_filter]; exact ⟨e, ⟨Array.mem_toList_iff.2 he', hb⟩, rfl⟩)
          simp [this]
        · simp [hb]
  -- nothing ready: all done
  have hdone : ∀ listed : Array Bool, listed.size = ops1.size → Region.ready .any ops1 listed = [] → ∀ i, i < ops1.size → listed.getD i false = true := by
    intro listed hls hnil i
    induction i using Nat.strongRecOn with
    | _ i ihi =>
      intro hi
      cases hg : listed.getD i false with
      | true => rfl
      | false =>
        exfalso
        have ho : ops1[i]? = some ops1[i] := Array.getElem?_eq_getElem hi
        have : i ∈ Region.ready .any ops1 listed := by
          refine (hmem ops1 listed hls i).2 ⟨_, ho, hg, fun k hk => ?_⟩
          obtain ⟨sx, hsx, _⟩ := (slim_get hsl1).2 i _ (by rw [Array.getElem?_toList]; exact ho)
          rw [← hafter i _ sx ho hsx] at hk
          have hlt := hback i sx hsx k hk
          exact ihi k (by omega) (by omega)
        rw [hnil] at this
        cases this
  have hpush : ∀ (listed : Array Bool) (b : Bool) i, (listed.push b).getD i false = if i = listed.size then b else listed.getD i false := by
    intro listed b i
    simp only [Array.getD_eq_getD_getElem?, Array.getElem?_push]
    split
    · rfl
    · rfl
  -- the last one
  have hfin : ∀ (fuel : Nat) (listed : Array Bool) (a' : Act) (w' : World), listed.size = ops1.size → (∀ i, i < ops1.size → listed.getD i false = true) →
      Out W0 N Z F w (Last P W0 s Q) .normal a' w' → wpAny P .any ops (Out W0 N Z F w Q) (fuel + 1) (listed.push false) a' w' := by
    intro fuel listed a' w' hls hall hout
    obtain ⟨Z', x, e, σ', g1, g2, g3, g4, g5⟩ := hout
    have hx : x = .nrm := by cases x <;> first | rfl | exact g3.elim
    subst hx
    have hls' : (listed.push false).size = ops.size := by rw [hops]; simp [hls]
    have hready : ops1.size ∈ Region.ready .any ops (listed.push false) := by
      refine (hmem ops _ hls' _).2 ⟨o, hlast, by rw [hpush, if_pos hls.symm], fun k hk => ?_⟩
      rw [← hedges.2] at hk
      rw [hpush]
      have hk' := List.all_eq_true.1 hok4 k hk
      simp only [Nat.blt_eq] at hk'
      rw [if_neg (by omega)]; exact hall k (by omega)
    refine ⟨fun hn => (by rw [hn] at hready; cases hready), fun i hi => ?_⟩
    obtain ⟨x, hx1, hx2, hx3⟩ := (hmem ops _ hls' i).1 hi
    have hii : i = ops1.size := by
      rw [hpush] at hx2
      split at hx2
      · omega
      · have : i < ops.size := by
          rcases Nat.lt_or_ge i ops.size with h | h
          · exact h
          · rw [Array.getElem?_eq_none h] at hx1; cases hx1
        rw [hops, Array.size_push] at this
        rw [hall i (by omega)] at hx2; cases hx2
    subst hii
    have hend : ∀ (fuel : Nat) (a2 : Act) (w2 : World), Out W0 N Z F w Q .normal a2 w2 → wpAny P .any ops (Out W0 N Z F w Q) fuel ((listed.push false).setIfInBounds ops1.size true) a2 w2 := by
      intro fuel a2 w2 ho2
      have hnil : Region.ready .any ops ((listed.push false).setIfInBounds ops1.size true) = [] := by
        refine List.eq_nil_iff_forall_not_mem.2 fun i hi => ?_
        obtain ⟨x, hx1, hx2, _⟩ := (hmem ops _ (by simpa using hls') i).1 hi
        have hil : i < ops.size := by
          rcases Nat.lt_or_ge i ops.size with h | h
          · exact h
          · rw [Array.getElem?_eq_none h] at hx1; cases hx1
        rw [hops, Array.size_push] at hil
        rw [Array.getD_eq_getD_getElem?, Array.getElem?_setIfInBounds] at hx2
        by_cases e : ops1.size = i
        · rw [if_pos e] at hx2
          rw [if_pos (by simp [hls])] at hx2
          cases hx2
        · rw [if_neg e, ← Array.getD_eq_getD_getElem?, hpush, if_neg (by omega), hall i (by omega)] at hx2
          cases hx2
      cases fuel with
      | zero => exact ⟨hnil, ho2⟩
      | succ fuel => exact ⟨fun _ => ho2, fun i hi => by rw [hnil] at hi; cases hi⟩
    have hcfg : Cfg W0 N Z' F (Abs.restr (looks s) e) σ' a' w' := g5.less fun t d hd => (restr_get hd).2
    refine RStep.wp g4 h2 hlast hcfg fun Z2 v d σ2 w2 hz2 he2 hst2 hrel hK => hend fuel _ w2 ?_
    exact ⟨Z2, .nrm, _, σ2, fun b hb => hz2 b (g1 b hb), g2.trans g1 he2, trivial, hK, by have := g5.put (dst := s.dst) (fun t ht => h2.lt t (h2.dst ▸ ht)) hz2 he2 hst2 hrel; rwa [h2.dst] at this ⊢⟩
  -- the others
  have key : ∀ (fuel : Nat) (listed : Array Bool) (a' : Act) (w' : World), listed.size = ops1.size → wpAny P .any ops1 (Out W0 N Z F w (Last P W0 s Q)) fuel listed a' w' → wpAny P .any ops (Out W0 N Z F w Q) (fuel + 1) (listed.push false) a' w' := by
    intro fuel
    induction fuel with
    | zero => intro listed a' w' hls hh; exact hfin 0 listed a' w' hls (hdone listed hls hh.1) hh.2
    | succ fuel ih =>
      intro listed a' w' hls hh
      by_cases hnil : Region.ready .any ops1 listed = []
      · exact hfin (fuel + 1) listed a' w' hls (hdone listed hls hnil) (hh.1 hnil)
      · have hls' : (listed.push false).size = ops.size := by rw [hops]; simp [hls]
        have hex : ∃ i, i ∈ Region.ready .any ops1 listed := List.exists_mem_of_ne_nil _ hnil
        have hone : ∀ i, i ∈ Region.ready .any ops (listed.push false) → i ∈ Region.ready .any ops1 listed := by
          intro i hi
          obtain ⟨x, hx1, hx2, hx3⟩ := (hmem ops _ hls' i).1 hi
          have hil : i < ops.size := by
            rcases Nat.lt_or_ge i ops.size with h | h
            · exact h
            · rw [Array.getElem?_eq_none h] at hx1; cases hx1
          rw [hops, Array.size_push] at hil
          by_cases e : i = ops1.size
          · exfalso
            subst e
            rw [hlast] at hx1
            cases hx1
            obtain ⟨j, hj⟩ := hex
            obtain ⟨y, hy1, hy2, _⟩ := (hmem ops1 _ hls j).1 hj
            have hjl : j < ops1.size := by
              rcases Nat.lt_or_ge j ops1.size with h | h
              · exact h
              · rw [Array.getElem?_eq_none h] at hy1; cases hy1
            have := hx3 j (by rw [← hedges.2]; have := List.all_eq_true.1 hok1 j (List.mem_range.2 (by omega)); simpa using this)
            rw [hpush, if_neg (by omega), hy2] at this
            cases this
          · refine (hmem ops1 _ hls i).2 ⟨x, by rw [← hold i (by omega)]; exact hx1, by rw [hpush, if_neg (by omega)] at hx2; exact hx2, fun k hk => ?_⟩
            have hkk := hx3 k hk
            obtain ⟨sx, hsx, _⟩ := (slim_get hsl1).2 i x (by rw [Array.getElem?_toList, ← hold i (by omega)]; exact hx1)
            have hlt := hback i sx hsx k (by rw [hafter i x sx (by rw [← hold i (by omega)]; exact hx1) hsx]; exact hk)
            rwa [hpush, if_neg (by omega)] at hkk
        have hback2 : ∀ i, i ∈ Region.ready .any ops1 listed → i ∈ Region.ready .any ops (listed.push false) := by
          intro i hi
          obtain ⟨x, hx1, hx2, hx3⟩ := (hmem ops1 _ hls i).1 hi
          have hil : i < ops1.size := by
            rcases Nat.lt_or_ge i ops1.size with h | h
            · exact h
            · rw [Array.getElem?_eq_none h] at hx1; cases hx1
          refine (hmem ops _ hls' i).2 ⟨x, by rw [hold i hil]; exact hx1, by rw [hpush, if_neg (by omega)]; exact hx2, fun k hk => ?_⟩
          obtain ⟨sx, hsx, _⟩ := (slim_get hsl1).2 i x (by rw [Array.getElem?_toList]; exact hx1)
          have hlt := hback i sx hsx k (by rw [hafter i x sx hx1 hsx]; exact hk)
          rw [hpush, if_neg (by omega)]; exact hx3 k hk
        refine ⟨fun hn => ?_, fun i hi => ?_⟩
        · obtain ⟨i, hi⟩ := hex
          have := hback2 i hi
          rw [hn] at this
          cases this
        · have hi1 := hone i hi
          obtain ⟨x, hx1, _, _⟩ := (hmem ops1 _ hls i).1 hi1
          have hil : i < ops1.size := by
            rcases Nat.lt_or_ge i ops1.size with h | h
            · exact h
            · rw [Array.getElem?_eq_none h] at hx1; cases hx1
          have hset : (listed.push false).setIfInBounds i true = (listed.setIfInBounds i true).push false := by
            apply Array.ext_getElem?
            intro j
            simp only [Array.getElem?_setIfInBounds, Array.getElem?_push, Array.size_push, Array.size_setIfInBounds]
            by_cases e1 : i = j
            · subst e1
              rw [if_pos rfl, if_pos (by omega), if_neg (by omega), if_pos rfl, if_pos (by omega)]
            · rw [if_neg e1, if_neg e1]
          rw [hset]
          refine wpOp_imp hx1 (by rw [hold i hil]; exact hx1) (fun j want hg => (hguard i x (by simpa [ops1] using hx1) j want hg).2 _) (fun e a2 w2 hne ho2 => ?_) (fun a2 w2 hh2 => ih _ a2 w2 (by simpa using hls) hh2) (hh.2 i hi1)
          obtain ⟨Z', x2, e2, σ', g1, g2, g3, g4, g5⟩ := ho2
          refine ⟨Z', x2, e2, σ', g1, g2, g3, ?_, g5⟩
          cases x2 with
          | nrm => cases e <;> first | exact absurd rfl hne | exact g3.elim
          | ret => exact g4
          | exit i => exact g4
          | goto i => exact g4
          | pan d => exact g4
  have := key ops1.size (Array.replicate ops1.size false) a _ (by simp) hrun
  rw [show ops.size = ops1.size + 1 by rw [hops, Array.size_push], Array.replicate_succ]
  exact this

/-- The last operation behind the others. -/
theorem AWP.drawLast {sops : List SOper} {env : Env} {σ : List Chunk} (hm : P.follows .mixedOrders = true) {l : List SOper} {s : SOper} (hs : sops = l ++ [s]) (hok : lastOk l s = true) (h : ADraw P W0 N l env σ (Last P W0 s Q)) : AWP P W0 N (.draw sops) env σ Q := by
  subst hs
  exact (ADraw.last hok h).awp hm

section
variable {env : Env} {σ : List Chunk} {K : Env → Prop} {r : List SOper} {R : List Nat} {i : Nat}
theorem QSkip.st {t : Nat} {op : SOp} {af : List Nat} {v : D} (hR : R.contains i = false) (h : OpT P W0 op (restr (looks ⟨some t, none, op, af⟩) env) [] (fun d σ' => d = v ∧ σ' = []) (fun _ _ => False)) (k : QSkip P W0 R (i + 1) r ((t, v) :: env) K) : QSkip P W0 R i (⟨some t, none, op, af⟩ :: r) env K :=
  .step v hR (RStep.plain rfl h) k
theorem QSkip.skip {t : Nat} {g : Option (Nat × Bool)} {op : SOp} {af : List Nat} (hR : R.contains i = true) (k : QSkip P W0 R (i + 1) r ((t, .any) :: env) K) : QSkip P W0 R i (⟨some t, g, op, af⟩ :: r) env K :=
  .late hR k
theorem QSkip.skipN {g : Option (Nat × Bool)} {op : SOp} {af : List Nat} (hR : R.contains i = true) (k : QSkip P W0 R (i + 1) r env K) : QSkip P W0 R i (⟨none, g, op, af⟩ :: r) env K :=
  .late hR k
end

theorem getLast_split {α : Type} (l : List α) (d : α) (h : l ≠ []) : l = l.dropLast ++ [l.getLastD d] := by
  rw [List.getLastD_eq_getLast?, List.getLast?_eq_some_getLast h]
  exact (List.dropLast_concat_getLast h).symm
/-- The last operation behind the others. -/
theorem AWP.drawL1 {sops : List SOper} {env : Env} {σ : List Chunk} (hm : P.follows .mixedOrders = true) (h0 : sops.isEmpty = false) (hok : lastOk sops.dropLast (sops.getLastD default) = true) (h : ADraw P W0 N sops.dropLast env σ (Last P W0 (sops.getLastD default) Q)) : AWP P W0 N (.draw sops) env σ Q :=
  AWP.drawLast hm (getLast_split sops default (by intro e; rw [e] at h0; cases h0)) hok h
theorem ADraw.drawQ0 {sops : List SOper} {env : Env} {σ : List Chunk} (hok : drawOk sops = true) (h : QSeq P W0 σ sops env fun env' => Q .nrm env' σ) : ADraw P W0 N sops env σ Q := by
  refine ADraw.drawQ sops.length (by simp) hok ?_ ?_ ?_
  · rw [Nat.sub_self]; rfl
  · rw [Nat.sub_self]; rfl
  · rw [List.take_length, List.drop_length]; exact h
theorem lastS {s : SOper} {env : Env} {σ : List Chunk} {t : Nat} {op : SOp} {af : List Nat} (hs : s = ⟨some t, none, op, af⟩) (h : OpT P W0 op (restr (looks ⟨some t, none, op, af⟩) env) σ (fun d σ' => Q .nrm ((t, d) :: env) σ') (fun _ _ => False)) : Last P W0 s Q .nrm env σ := by
  subst hs; simp only [Last]; exact RStep.plain rfl h
theorem lastN {s : SOper} {env : Env} {σ : List Chunk} {op : SOp} {af : List Nat} (hs : s = ⟨none, none, op, af⟩) (h : OpT P W0 op (restr (looks ⟨none, none, op, af⟩) env) σ (fun _ σ' => Q .nrm env σ') (fun _ _ => False)) : Last P W0 s Q .nrm env σ := by
  subst hs; simp only [Last]; exact RStep.plain rfl h
end Go.Abs
