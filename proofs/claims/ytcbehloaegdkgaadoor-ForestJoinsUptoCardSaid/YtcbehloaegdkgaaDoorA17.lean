/- Abstract layer: regions whose order is drawn, told in one order; conditions parted on; ends with an equation. -/
import Derived.Test.YtcbehloaegdkgaaDoorA16
set_option linter.unusedVariables false
set_option linter.unusedSimpArgs false
namespace Go.Abs
open Go
variable {P : Program} {W0 : World} {N : Nat} {Q : AX → Env → List Chunk → Prop}

/-- What is asked of the end may be asked of less. -/
theorem AWP.outLess {s : SCode} {env : Env} {σ : List Chunk} (h : AWP P W0 N s env σ fun x e s => ∃ e0, (∀ t d, eget e0 t = some d → eget e t = some d) ∧ Q x e0 s) : AWP P W0 N s env σ Q :=
  fun c hs Z F a w hc => wp_mono (h c hs Z F a w hc) fun _ _ _ ⟨Z2, x, _, σ', h1, h2, h3, ⟨e0, h4, h5⟩, h6⟩ => ⟨Z2, x, e0, σ', h1, h2, h3, h5, h6.less h4⟩

theorem restr_congr {ts : List Nat} {e e' : Env} (h : ∀ t ∈ ts, eget e t = eget e' t) : restr ts e = restr ts e' := by
  induction ts with
  | nil => rfl
  | cons t r ih =>
    simp only [restr]
    rw [h t (by simp), ih fun u hu => h u (by simp [hu])]

theorem RStep.congr {o : SOper} {e e' : Env} {σ : List Chunk} {K : D → List Chunk → Prop} (h : RStep P W0 o e σ K) (he : ∀ t ∈ looks o, eget e t = eget e' t) : RStep P W0 o e' σ K := by
  unfold RStep at h ⊢
  rw [← restr_congr he]
  exact h

/-- Operations that touch no chunk, each with one datum, told in their order. -/
inductive QSeq (P : Program) (W0 : World) (σ : List Chunk) : List SOper → Env → (Env → Prop) → Prop
  | done {env : Env} {K : Env → Prop} (h : K env) : QSeq P W0 σ [] env K
  | step {o : SOper} {r : List SOper} {env : Env} {K : Env → Prop} (v : D) (h : RStep P W0 o env σ fun d σ' => d = v ∧ σ' = σ) (k : QSeq P W0 σ r (Env.put env o.dst v) K) : QSeq P W0 σ (o :: r) env K
  | same {l : List SOper} {env : Env} {K : Env → Prop} (env0 : Env) (h : ∀ t, eget env0 t = eget env t) (k : QSeq P W0 σ l env0 K) : QSeq P W0 σ l env K

/-- Operations told in their order, the chunks changed on the way. -/
def LSeq (P : Program) (W0 : World) (Q : AX → Env → List Chunk → Prop) : List SOper → Env → List Chunk → Prop
  | [], env, σ => Q .nrm env σ
  | o :: r, env, σ => RStep P W0 o env σ fun d σ' => LSeq P W0 Q r (Env.put env o.dst d) σ'

def seqEnv : Env → List SOper → List D → Env
  | env, o :: r, v :: vs => seqEnv (Env.put env o.dst v) r vs
  | env, _, _ => env

theorem put_congr {e e' : Env} {dst : Option Nat} {v : D} (h : ∀ t, eget e t = eget e' t) : ∀ t, eget (Env.put e dst v) t = eget (Env.put e' dst v) t := by
  intro t
  cases dst with
  | none => exact h t
  | some u => simp only [Env.put, eget_cons]; rw [h t]

theorem seqEnv_congr {l : List SOper} : ∀ {vs : List D} {e e' : Env}, (∀ t, eget e t = eget e' t) → ∀ t, eget (seqEnv e l vs) t = eget (seqEnv e' l vs) t := by
  induction l with
  | nil => intro vs e e' h; exact h
  | cons o r ih =>
    intro vs e e' h
    cases vs with
    | nil => exact h
    | cons v vs => exact ih (put_congr h)

theorem QSeq.run {σ : List Chunk} {l : List SOper} {env : Env} {K : Env → Prop} (h : QSeq P W0 σ l env K) :
    ∃ vs, vs.length = l.length ∧ (∃ e, (∀ t, eget e t = eget (seqEnv env l vs) t) ∧ K e) ∧ ∀ (k : Nat) o v, l[k]? = some o → vs[k]? = some v → ∃ e, (∀ t, eget e t = eget (seqEnv env (l.take k) vs) t) ∧ RStep P W0 o e σ fun d σ' => d = v ∧ σ' = σ := by
  induction h with
  | done h => exact ⟨[], rfl, ⟨_, fun _ => rfl, h⟩, fun k o v hk => by simp at hk⟩
  | step v h _ ih =>
    obtain ⟨vs, h1, ⟨e, h2, h3⟩, h4⟩ := ih
    refine ⟨v :: vs, by simp [h1], ⟨e, h2, h3⟩, fun k o' v' hk hv => ?_⟩
    cases k with
    | zero => simp at hk hv; subst hk; subst hv; exact ⟨_, fun _ => rfl, h⟩
    | succ k => simp at hk hv; simpa [seqEnv] using h4 k o' v' hk hv
  | same env0 h _ ih =>
    obtain ⟨vs, h1, ⟨e, h2, h3⟩, h4⟩ := ih
    refine ⟨vs, h1, ⟨e, fun t => (h2 t).trans (seqEnv_congr h t), h3⟩, fun k o v hk hv => ?_⟩
    obtain ⟨e, h5, h6⟩ := h4 k o v hk hv
    exact ⟨e, fun t => (h5 t).trans (seqEnv_congr h t), h6⟩

theorem seqEnv_out {l : List SOper} {t : Nat} : ∀ {vs : List D} {env : Env}, (∀ (k : Nat) o, l[k]? = some o → o.dst ≠ some t) → eget (seqEnv env l vs) t = eget env t := by
  induction l with
  | nil => intro vs env _; rfl
  | cons o r ih =>
    intro vs env h
    cases vs with
    | nil => rfl
    | cons v vs =>
      simp only [seqEnv]
      rw [ih fun k o' hk => h (k + 1) o' (by simpa using hk)]
      cases hd : o.dst with
      | none => rfl
      | some u =>
        simp only [Env.put, eget_cons]
        rw [if_neg]
        rintro rfl
        exact h 0 o rfl hd

theorem seqEnv_at {l : List SOper} {t : Nat} : ∀ {vs : List D} {env : Env} {k : Nat} {o : SOper} {v : D}, l[k]? = some o → vs[k]? = some v → o.dst = some t → (∀ (k' : Nat) o', l[k']? = some o' → o'.dst = some t → k' = k) → eget (seqEnv env l vs) t = some v := by
  induction l with
  | nil => intro vs env k o v hk; simp at hk
  | cons o r ih =>
    intro vs env k o' v hk hv hd hu
    cases vs with
    | nil => simp at hv
    | cons v' vs =>
      simp only [seqEnv]
      cases k with
      | zero =>
        simp at hk hv; subst hk; subst hv
        rw [seqEnv_out]
        · rw [hd]; simp [Env.put, eget_cons]
        · intro k' o'' hk' hd'
          have := hu (k' + 1) o'' (by simpa using hk') hd'
          omega
      | succ k =>
        simp at hk hv
        exact ih hk hv hd fun k' o'' hk' hd' => by
          have := hu (k' + 1) o'' (by simpa using hk') hd'
          omega

theorem AAll.of {σA : List Chunk} {R : List Nat} {envA : Env} : ∀ {r : List SOper} {vs : List D} {i : Nat}, vs.length = r.length → (∀ (k : Nat) o v, r[k]? = some o → vs[k]? = some v → R.contains (i + k) = false → RStep P W0 o envA σA fun d σ' => d = v ∧ σ' = σA) → AAll P W0 σA R envA i r vs := by
  intro r
  induction r with
  | nil => intro vs i _ _; exact AAll.nil
  | cons o r ih =>
    intro vs i hl h
    cases vs with
    | nil => simp at hl
    | cons v vs =>
      have ht := ih (vs := vs) (i := i + 1) (by simpa using hl) fun k o' v' hk hv hR => h (k + 1) o' v' (by simpa using hk) (by simpa using hv) (by rwa [show i + (k + 1) = i + 1 + k by omega])
      cases hR : R.contains i with
      | true => exact AAll.consR hR ht
      | false => exact AAll.consA hR (h 0 o v rfl rfl (by simpa using hR)) ht

theorem LSeq.run {sops : List SOper} {Q' : AX → Env → List Chunk → Prop} (hQ : ∀ e e' σ, (∀ t, eget e t = eget e' t) → Q .nrm e σ → Q' .nrm e' σ)
    (hlook : ∀ (i : Nat) s, sops[i]? = some s → ∀ t ∈ looks s, ∀ (j : Nat) s', sops[j]? = some s' → s'.dst = some t → j < i) : ∀ (r : List SOper) (i : Nat) (e e' : Env) (σ : List Chunk), (∀ k, r[k]? = sops[i + k]?) →
    (∀ t, (∀ (k : Nat) o, r[k]? = some o → o.dst ≠ some t) → eget e t = eget e' t) → LSeq P W0 Q r e σ → RSeq P W0 sops Q' (List.range' i r.length) e' σ := by
  intro r
  induction r with
  | nil => intro i e e' σ _ he h; exact hQ e e' σ (fun t => he t (fun k o hk => by simp at hk)) h
  | cons o r ih =>
    intro i e e' σ hr he h
    have h0 := hr 0
    simp only [List.getElem?_cons_zero, Nat.add_zero] at h0
    have hg : sops.getD i default = o := by rw [List.getD_eq_getElem?_getD, ← h0]; rfl
    simp only [List.length_cons, List.range'_succ, RSeq]
    rw [hg]
    simp only [LSeq] at h
    refine RStep.mono (RStep.congr h fun t ht => he t fun k o' hk hd => ?_) fun d s hs => ih (i + 1) _ _ s (fun k => ?_) (fun t ht => ?_) hs
    · have := hlook i o h0.symm t ht (i + k) o' (by rw [← hr k]; exact hk) hd
      omega
    · have := hr (k + 1)
      rw [show i + 1 + k = i + (k + 1) by omega, ← this]; rfl
    · cases hd : o.dst with
      | none =>
        refine he t fun k o' hk => ?_
        cases k with
        | zero => simp at hk; subst hk; rw [hd]; simp
        | succ k => exact ht k o' (by simpa using hk)
      | some u =>
        simp only [Env.put, eget_cons]
        by_cases e1 : u = t
        · rw [if_pos e1, if_pos e1]
        · rw [if_neg e1, if_neg e1]
          refine he t fun k o' hk => ?_
          cases k with
          | zero => simp at hk; subst hk; rw [hd]; simpa using e1
          | succ k => exact ht k o' (by simpa using hk)

/-- A REGION WHOSE ORDER IS DRAWN: the first operations quiet, the others one behind the other. -/
theorem ADraw.drawQ {sops : List SOper} {env : Env} {σ : List Chunk} (n : Nat) (hn : Nat.ble n sops.length = true) (hok : drawOk sops = true) (hlate : lateOk (List.range' n (sops.length - n)) sops = true) (hch : chainOk (masks sops) (List.range' n (sops.length - n)) = true)
    (h : QSeq P W0 σ (sops.take n) env fun env' => LSeq P W0 Q (sops.drop n) env' σ) : ADraw P W0 N sops env σ Q := by
  have hn : n ≤ sops.length := Nat.le_of_ble_eq_true hn
  obtain ⟨vs, h1, ⟨ef, h2, h3⟩, h4⟩ := h.run
  have hok' := hok
  simp only [drawOk, Bool.and_eq_true] at hok'
  have hlooks := looksOk_spec hok'.1
  have hback := backOk_spec hok'.2
  have htl : (sops.take n).length = n := by simp [hn]
  have hcl : ∀ i, Closed (sops.map (·.after)) (fun k => k < i) := by
    intro i k a hk hki j hj
    rw [List.getElem?_map] at hk
    cases hs : sops[k]? with
    | none => rw [hs] at hk; cases hk
    | some s =>
      rw [hs] at hk
      cases hk
      have := hback k s hs j hj
      omega
  have hlook : ∀ (i : Nat) s, sops[i]? = some s → ∀ t ∈ looks s, ∀ (j : Nat) s', sops[j]? = some s' → s'.dst = some t → j < i := by
    intro i s hs t ht j s' hj hd
    obtain ⟨g1, g2⟩ := hlooks i s hs
    rcases g1 t ht j s' hj hd with h | h
    · exfalso
      have hij : i = j := by omega
      subst hij
      rw [hs] at hj; cases hj
      exact (g2 t hd).1 ht
    · rw [Nat.zero_add] at h
      rcases masks_done (hcl i) hs (fun k hk => by have := hback i s hs k hk; omega) h with h' | h'
      · exact h'
      · exfalso
        subst h'
        rw [hs] at hj; cases hj
        exact (g2 t hd).1 ht
  have huniq : ∀ (i : Nat) s (j : Nat) s' u, sops[i]? = some s → s.dst = some u → sops[j]? = some s' → s'.dst = some u → i = j := by
    intro i s j s' u h1 h2 h3 h4
    have := ((hlooks i s h1).2 u h2).2 j s' h3 h4
    omega
  let R := List.range' n (sops.length - n)
  let va := vs ++ List.replicate (sops.length - n) D.any
  have hR : ∀ i, R.contains i = decide (n ≤ i ∧ i < sops.length) := by
    intro i
    rw [List.contains_eq_mem]
    apply decide_eq_decide.2
    rw [List.mem_range'_1]
    omega
  have hva : ∀ k, k < n → va[k]? = vs[k]? := fun k hk => List.getElem?_append_left (by omega)
  -- a slot of a quiet operation
  have hA : ∀ (k : Nat) s t, sops[k]? = some s → s.dst = some t → k < n → ∀ v, vs[k]? = some v → eget (addA R 0 sops va env) t = some v := by
    intro k s t hs hd hk v hv
    have := addA_at (R := R) (i := 0) (env := env) hs (by rw [hva k hk]; exact hv) hd fun k' o' h4 h5 => huniq k' o' k s t h4 h5 hs hd
    rw [this, Nat.zero_add, hR, decide_eq_false (by omega)]; rfl
  have hgetTake : ∀ (m k : Nat) (o : SOper), ((sops.take n).take m)[k]? = some o → sops[k]? = some o ∧ k < m ∧ k < n := by
    intro m k o hk
    rw [List.take_take] at hk
    have hlt := (List.getElem?_eq_some_iff.1 hk).1
    simp at hlt
    rw [List.getElem?_take, if_pos (by omega)] at hk
    exact ⟨hk, by omega, by omega⟩
  have hseq : ∀ (m : Nat) t, m ≤ n → (∀ (j : Nat) s, sops[j]? = some s → s.dst = some t → j < m) → eget (seqEnv env ((sops.take n).take m) vs) t = eget (addA R 0 sops va env) t := by
    intro m t hm' hw
    by_cases hex : ∃ (j : Nat) (s : SOper), sops[j]? = some s ∧ s.dst = some t
    · obtain ⟨j, s, hs, hd⟩ := hex
      have hjm := hw j s hs hd
      have hv : vs[j]? = some vs[j] := List.getElem?_eq_getElem (by omega)
      rw [hA j s t hs hd (by omega) _ hv]
      refine seqEnv_at (k := j) (o := s) ?_ hv hd fun k' o' hk' hd' => ?_
      · rw [List.take_take, List.getElem?_take, if_pos (by omega)]; exact hs
      · obtain ⟨g1, _, _⟩ := hgetTake _ _ _ hk'
        exact huniq k' o' j s t g1 hd' hs hd
    · rw [seqEnv_out fun k o hk hd => hex ⟨k, o, (hgetTake _ _ _ hk).1, hd⟩, addA_get fun k o hk hd => hex ⟨k, o, hk, hd⟩]
  refine ADraw.outLess ?_
  refine ADraw.drawL R va hok hlate List.nodup_range' ?_ (by simp only [va, List.length_append, h1, htl, List.length_replicate]; omega) ?_ ?_
  · refine List.all_eq_true.2 fun i hi => ?_
    have h7 : n ≤ i ∧ i < n + (sops.length - n) := List.mem_range'_1.1 hi
    simp only [Nat.blt_eq]
    omega
  · refine AAll.of (by simp only [va, List.length_append, h1, htl, List.length_replicate]; omega) fun k o v hk hv hRk => ?_
    rw [Nat.zero_add, hR, decide_eq_false_iff_not] at hRk
    have hkl := (List.getElem?_eq_some_iff.1 hk).1
    have hkn : k < n := by omega
    obtain ⟨e, g1, g2⟩ := h4 k o v (by rw [List.getElem?_take, if_pos hkn]; exact hk) (by rw [← hva k hkn]; exact hv)
    refine g2.congr fun t ht => (g1 t).trans (hseq k t (by omega) fun j s hj hd => hlook k o hk t ht j s hj hd)
  · have hlen : R.length = (sops.drop n).length := by simp [R]
    refine RAll.chain hch ?_
    show RSeq P W0 sops _ (List.range' n (sops.length - n)) _ σ
    have hl2 : sops.length - n = (sops.drop n).length := by simp
    rw [hl2]
    refine LSeq.run (Q := Q) (fun e e' s he hq => ⟨e, fun t d hd => by rw [← he t]; exact hd, hq⟩) hlook (sops.drop n) n ef _ σ (fun k => by rw [List.getElem?_drop]) (fun t ht => ?_) h3
    rw [h2 t]
    have := hseq n t (Nat.le_refl _) fun j s hj hd => by
      rcases Nat.lt_or_ge j n with h | h
      · exact h
      · exact absurd hd (ht (j - n) s (by rw [List.getElem?_drop, show n + (j - n) = j by omega]; exact hj))
    rwa [List.take_of_length_le (by omega)] at this

/-- All are quiet. -/
theorem AWP.drawQ {sops : List SOper} {env : Env} {σ : List Chunk} (n : Nat) (hm : P.follows .mixedOrders = true) (hn : Nat.ble n sops.length = true) (hok : drawOk sops = true) (hlate : lateOk (List.range' n (sops.length - n)) sops = true) (hch : chainOk (masks sops) (List.range' n (sops.length - n)) = true)
    (h : QSeq P W0 σ (sops.take n) env fun env' => LSeq P W0 Q (sops.drop n) env' σ) : AWP P W0 N (.draw sops) env σ Q := (ADraw.drawQ n hn hok hlate hch h).awp hm
theorem AWP.drawQ0 {sops : List SOper} {env : Env} {σ : List Chunk} (hm : P.follows .mixedOrders = true) (hok : drawOk sops = true) (h : QSeq P W0 σ sops env fun env' => Q .nrm env' σ) : AWP P W0 N (.draw sops) env σ Q := by
  refine AWP.drawQ sops.length hm (by simp) hok ?_ ?_ ?_
  · rw [Nat.sub_self]; rfl
  · rw [Nat.sub_self]; rfl
  · rw [List.take_length, List.drop_length]; exact h

/-! ### The rules -/
section
variable {env : Env} {σ : List Chunk} {K : Env → Prop} {r : List SOper}
theorem QSeq.st {t : Nat} {op : SOp} {af : List Nat} {v : D} (h : OpT P W0 op (restr (looks ⟨some t, none, op, af⟩) env) σ (fun d σ' => d = v ∧ σ' = σ) (fun _ _ => False)) (k : QSeq P W0 σ r ((t, v) :: env) K) : QSeq P W0 σ (⟨some t, none, op, af⟩ :: r) env K :=
  .step v (RStep.plain rfl h) k
theorem QSeq.yes {t slot : Nat} {want : Bool} {op : SOp} {af : List Nat} {v : D} (hb : eget (restr (looks ⟨some t, some (slot, want), op, af⟩) env) slot = some (.v (.bool want))) (h : OpT P W0 op (restr (looks ⟨some t, some (slot, want), op, af⟩) env) σ (fun d σ' => d = v ∧ σ' = σ) (fun _ _ => False)) (k : QSeq P W0 σ r ((t, v) :: env) K) : QSeq P W0 σ (⟨some t, some (slot, want), op, af⟩ :: r) env K :=
  .step v (RStep.yes rfl hb h) k
theorem QSeq.no {t slot : Nat} {want : Bool} {op : SOp} {af : List Nat} (hb : eget (restr (looks ⟨some t, some (slot, want), op, af⟩) env) slot = some (.v (.bool (!want)))) (k : QSeq P W0 σ r ((t, .v undef) :: env) K) : QSeq P W0 σ (⟨some t, some (slot, want), op, af⟩ :: r) env K :=
  .step (.v undef) (RStep.no rfl hb ⟨rfl, rfl⟩) k
theorem QSeq.und {t slot : Nat} {want : Bool} {op : SOp} {af : List Nat} (hb : eget (restr (looks ⟨some t, some (slot, want), op, af⟩) env) slot = some (.v undef)) (k : QSeq P W0 σ r ((t, .v undef) :: env) K) : QSeq P W0 σ (⟨some t, some (slot, want), op, af⟩ :: r) env K :=
  .step (.v undef) (RStep.und rfl hb ⟨rfl, rfl⟩) k
theorem QSeq.part {l : List SOper} {slot : Nat} {b : Bool} (hb : eget env slot = some (.v (.bool b))) (h1 : b = true → QSeq P W0 σ l ((slot, .v (.bool true)) :: env) K) (h2 : b = false → QSeq P W0 σ l ((slot, .v (.bool false)) :: env) K) : QSeq P W0 σ l env K := by
  cases b with
  | true =>
    refine .same _ (fun t => ?_) (h1 rfl)
    rw [eget_cons]
    by_cases e : slot = t
    · subst e; rw [if_pos rfl, hb]
    · rw [if_neg e]
  | false =>
    refine .same _ (fun t => ?_) (h2 rfl)
    rw [eget_cons]
    by_cases e : slot = t
    · subst e; rw [if_pos rfl, hb]
    · rw [if_neg e]
theorem QSeq.gD {t slot : Nat} {want : Bool} {op : SOp} {af : List Nat} {p : Prop} {dp : Decidable p} (hb : eget env slot = some (.v (.bool (@decide p dp)))) (h1 : p → QSeq P W0 σ (⟨some t, some (slot, want), op, af⟩ :: r) ((slot, .v (.bool true)) :: env) K) (h2 : ¬ p → QSeq P W0 σ (⟨some t, some (slot, want), op, af⟩ :: r) ((slot, .v (.bool false)) :: env) K) : QSeq P W0 σ (⟨some t, some (slot, want), op, af⟩ :: r) env K :=
  QSeq.part hb (fun h => h1 (of_decide_eq_true h)) (fun h => h2 (of_decide_eq_false h))
theorem QSeq.gB {t slot : Nat} {want : Bool} {op : SOp} {af : List Nat} {b : Bool} (hb : eget env slot = some (.v (.bool b))) (h1 : b = true → QSeq P W0 σ (⟨some t, some (slot, want), op, af⟩ :: r) ((slot, .v (.bool true)) :: env) K) (h2 : b = false → QSeq P W0 σ (⟨some t, some (slot, want), op, af⟩ :: r) ((slot, .v (.bool false)) :: env) K) : QSeq P W0 σ (⟨some t, some (slot, want), op, af⟩ :: r) env K :=
  QSeq.part hb h1 h2
theorem LSeq.done (h : Q .nrm env σ) : LSeq P W0 Q [] env σ := h
theorem LSeq.st {t : Nat} {op : SOp} {af : List Nat} (h : OpT P W0 op (restr (looks ⟨some t, none, op, af⟩) env) σ (fun d σ' => LSeq P W0 Q r ((t, d) :: env) σ') (fun _ _ => False)) : LSeq P W0 Q (⟨some t, none, op, af⟩ :: r) env σ := RStep.plain rfl h
theorem LSeq.sn {op : SOp} {af : List Nat} (h : OpT P W0 op (restr (looks ⟨none, none, op, af⟩) env) σ (fun _ σ' => LSeq P W0 Q r env σ') (fun _ _ => False)) : LSeq P W0 Q (⟨none, none, op, af⟩ :: r) env σ := RStep.plain rfl h

theorem AWP.condD {c : Operand} {x y : SCode} {p : Prop} {dp : Decidable p} (hb : aget env c = some (.v (.bool (@decide p dp)))) (h1 : p → AWP P W0 N x env σ Q) (h2 : ¬ p → AWP P W0 N y env σ Q) : AWP P W0 N (.cond c x y) env σ Q :=
  AWP.cond hb (fun h => h1 (of_decide_eq_true h)) (fun h => h2 (of_decide_eq_false h))
theorem AOps.gD {t slot : Nat} {want : Bool} {op : SOp} {af : List Nat} {l : List SOper} {p : Prop} {dp : Decidable p} (hb : eget env slot = some (.v (.bool (@decide p dp)))) (h1 : p → AOps P W0 N (⟨some t, some (slot, want), op, af⟩ :: l) ((slot, .v (.bool true)) :: env) σ Q) (h2 : ¬ p → AOps P W0 N (⟨some t, some (slot, want), op, af⟩ :: l) ((slot, .v (.bool false)) :: env) σ Q) : AOps P W0 N (⟨some t, some (slot, want), op, af⟩ :: l) env σ Q :=
  AOps.part slot hb (fun h => h1 (of_decide_eq_true h)) (fun h => h2 (of_decide_eq_false h))
theorem AOps.gB {t slot : Nat} {want : Bool} {op : SOp} {af : List Nat} {l : List SOper} {b : Bool} (hb : eget env slot = some (.v (.bool b))) (h1 : b = true → AOps P W0 N (⟨some t, some (slot, want), op, af⟩ :: l) ((slot, .v (.bool true)) :: env) σ Q) (h2 : b = false → AOps P W0 N (⟨some t, some (slot, want), op, af⟩ :: l) ((slot, .v (.bool false)) :: env) σ Q) : AOps P W0 N (⟨some t, some (slot, want), op, af⟩ :: l) env σ Q :=
  AOps.part slot hb h1 h2
theorem OpT.notD {K : D → List Chunk → Prop} {X : D → List Chunk → Prop} {x : Operand} {p : Prop} {dp : Decidable p} (hx : aget env x = some (.v (.bool (@decide p dp)))) (hk : K (.v (.bool (decide (¬ p)))) σ) : OpT P W0 (.un .not x) env σ K X :=
  OpT.not hx (by rw [show (!@decide p dp) = decide (¬ p) by by_cases h : p <;> simp [h]]; exact hk)

theorem size_lit (l : List UInt8) : (ByteArray.mk l.toArray).size = l.length := rfl

/-! ### Ends, by an equation -/
theorem finE {t : Nat} {d d' : D} (h : eget env t = some d) (e : d = d') : Fin [.tmp t] (Gives d') .ret env σ := e ▸ finG h
theorem finI {t : Nat} {k : IntKind} {m n : Int} (h : eget env t = some (.v (.int k m))) (e : m = n) : Fin [.tmp t] (Gives (.v (.int k n))) .ret env σ := e ▸ finG h
theorem finB {t : Nat} {b c : Bool} (h : eget env t = some (.v (.bool b))) (e : b = c) : Fin [.tmp t] (Gives (.v (.bool c))) .ret env σ := e ▸ finG h
theorem finS {t : Nat} {b c : ByteArray} (h : eget env t = some (.v (.string b))) (e : b = c) : Fin [.tmp t] (Gives (.v (.string c))) .ret env σ := e ▸ finG h
theorem finDT {t : Nat} {p : Prop} {dp : Decidable p} (h : eget env t = some (.v (.bool true))) (e : p) : Fin [.tmp t] (Gives (.v (.bool (@decide p dp)))) .ret env σ := by rw [decide_eq_true e]; exact finG h
theorem finDF {t : Nat} {p : Prop} {dp : Decidable p} (h : eget env t = some (.v (.bool false))) (e : ¬ p) : Fin [.tmp t] (Gives (.v (.bool (@decide p dp)))) .ret env σ := by rw [decide_eq_false e]; exact finG h
theorem finDD {t : Nat} {p q : Prop} {dp : Decidable p} {dq : Decidable q} (h : eget env t = some (.v (.bool (@decide q dq)))) (e : q ↔ p) : Fin [.tmp t] (Gives (.v (.bool (@decide p dp)))) .ret env σ := by rw [show @decide p dp = @decide q dq from decide_eq_decide.2 e.symm]; exact finG h
end
end Go.Abs
