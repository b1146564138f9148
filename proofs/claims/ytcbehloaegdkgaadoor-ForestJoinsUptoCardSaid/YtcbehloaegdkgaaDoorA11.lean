/-
  An abstract layer over the model: regions whose order is drawn. Operations whose data are known ahead, in whatever order; the others in each order that their edges leave open.
-/
import Derived.Test.YtcbehloaegdkgaaDoorA10
set_option linter.unusedVariables false
set_option linter.unusedSimpArgs false
namespace Go.Abs
open Go
variable {P : Program} {W0 : World} {N : Nat} {Q : AX → Env → List Chunk → Prop}

/-- For each operation, as bits, which ones it waits for, directly or through others. -/
def maskOf (ms : List Nat) : List Nat → Nat
  | [] => 0
  | k :: r => (2 ^ k ||| ms.getD k 0) ||| maskOf ms r

def masksFrom (ms : List Nat) : List (List Nat) → List Nat
  | [] => ms
  | a :: r => masksFrom (ms ++ [maskOf ms a]) r

def masks (ops : List SOper) : List Nat := masksFrom [] (ops.map (·.after))

/-- The slots that an operation looks at. -/
def oslot : Operand → List Nat
  | .tmp t => [t]
  | _ => []
def ooslot : Option Operand → List Nat
  | some x => oslot x
  | none => []
def oslots : List Operand → List Nat
  | [] => []
  | x :: r => oslot x ++ oslots r

def slots : SOp → List Nat
  | .move x | .box _ x | .load _ _ x | .nilChk x | .un _ x | .toInt _ x | .same x | .strBytes x | .bytesStr x | .fld _ x | .getf _ _ _ x | .lenS x | .lenL x | .lenM x | .ext x _ | .mkI _ x | .pan x => oslot x
  | .pick a b c => oslot a ++ oslot b ++ oslot c
  | .alloc _ _ => []
  | .build _ ps => oslots (ps.map (·.2.2))
  | .buildSl _ _ _ ps => oslots (ps.map (·.2))
  | .store _ x y | .bin _ x y | .eqB _ x y | .eqP _ x y | .eqT _ _ x y | .eqF _ _ x y | .idxA _ x y | .idxR _ _ x y | .idxS x y | .idxV _ _ _ x y | .max x y | .min x y | .app _ _ _ x y | .appS _ x y | .makeSl _ _ _ x y => oslot x ++ oslot y
  | .slS x lo hi => oslot x ++ ooslot lo ++ ooslot hi
  | .slL _ x lo hi mx => oslot x ++ ooslot lo ++ ooslot hi ++ ooslot mx
  | .call _ xs => oslots xs
  | .callv x xs => oslot x ++ oslots xs
  | .mkF _ xs ys => oslots xs ++ oslots ys
  | .raw o _ => oslots o.operands.toList

def gslot : Option (Nat × Bool) → List Nat
  | some (t, _) => [t]
  | none => []

def looks (s : SOper) : List Nat := gslot s.guard ++ slots s.op

/-- What is known of these slots alone. -/
def restr : List Nat → Env → Env
  | [], _ => []
  | t :: r, e => match eget e t with
    | some d => (t, d) :: restr r e
    | none => restr r e

theorem restr_get {ts : List Nat} {e : Env} {t : Nat} {d : D} (h : eget (restr ts e) t = some d) : t ∈ ts ∧ eget e t = some d := by
  induction ts with
  | nil => cases h
  | cons u r ih =>
    simp only [restr] at h
    cases hu : eget e u with
    | none => rw [hu] at h; obtain ⟨h1, h2⟩ := ih h; exact ⟨by simp [h1], h2⟩
    | some d' =>
      rw [hu] at h
      simp only [eget_cons] at h
      by_cases e1 : u = t
      · subst e1; rw [if_pos rfl] at h; cases h; exact ⟨by simp, hu⟩
      · rw [if_neg e1] at h; obtain ⟨h1, h2⟩ := ih h; exact ⟨by simp [h1], h2⟩

/-- Whoever writes a slot that an operation looks at, or writes, is one that it waits for. -/
def slotOk (ops : List SOper) (ms : List Nat) (i : Nat) (t : Nat) : Nat → List SOper → Bool
  | _, [] => true
  | j, o :: r => (match o.dst with
    | some u => decide (u ≠ t) || decide (i = j) || (ms.getD i 0).testBit j
    | none => true) && slotOk ops ms i t (j + 1) r

def looksOk (ops : List SOper) (ms : List Nat) : Nat → List SOper → Bool
  | _, [] => true
  | i, o :: r => ((looks o).all fun t => slotOk ops ms i t 0 ops) && (match o.dst with
    | some u => !((looks o).contains u) && ops.zipIdx.all fun p => (match p.1.dst with | some u' => decide (u ≠ u') || decide (i = p.2) | none => true)
    | none => true) && looksOk ops ms (i + 1) r

def backOk : Nat → List SOper → Bool
  | _, [] => true
  | i, o :: r => (o.after.all fun k => Nat.blt k i) && backOk (i + 1) r

def drawOk (ops : List SOper) : Bool := looksOk ops (masks ops) 0 ops && backOk 0 ops

/-- One operation, as it stands in the region. -/
def RStep (P : Program) (W0 : World) (s : SOper) (env : Env) (σ : List Chunk) (K : D → List Chunk → Prop) : Prop :=
  match s.guard with
  | none => OpT P W0 s.op (restr (looks s) env) σ K (fun _ _ => False)
  | some (slot, want) => (∃ b, eget (restr (looks s) env) slot = some (.v (.bool b)) ∧ (b = want → OpT P W0 s.op (restr (looks s) env) σ K (fun _ _ => False)) ∧ (b = !want → K (.v undef) σ)) ∨ (eget (restr (looks s) env) slot = some (.v undef) ∧ K (.v undef) σ)

def freeOf (ms : List Nat) (rem : List Nat) (i : Nat) : Bool := rem.all fun j => !((ms.getD i 0).testBit j) || Nat.beq j i

def AllI (f : Nat → Prop) : List Nat → Prop
  | [] => True
  | [i] => f i
  | i :: r => f i ∧ AllI f r

theorem AllI.get {f : Nat → Prop} {l : List Nat} (h : AllI f l) {i : Nat} (hi : i ∈ l) : f i := by
  induction l with
  | nil => cases hi
  | cons x r ih =>
    cases r with
    | nil => simp at hi; subst hi; exact h
    | cons y r =>
      rcases List.mem_cons.1 hi with rfl | hi
      · exact h.1
      · exact ih h.2 hi

/-- The operations that are told one by one, in each order that the edges leave open. -/
def RAll (P : Program) (W0 : World) (ops : List SOper) (ms : List Nat) (Q : AX → Env → List Chunk → Prop) : Nat → List Nat → Env → List Chunk → Prop
  | 0, _, env, σ => Q .nrm env σ
  | k + 1, rem, env, σ => AllI (fun i => RStep P W0 (ops.getD i default) env σ fun d σ' => RAll P W0 ops ms Q k (rem.erase i) (Env.put env (ops.getD i default).dst d) σ') (rem.filter (freeOf ms rem))

/-- The slots with the data that are known ahead. -/
def addA (R : List Nat) : Nat → List SOper → List D → Env → Env
  | i, o :: r, v :: vs, env => Env.put (addA R (i + 1) r vs env) o.dst (bif R.contains i then .any else v)
  | _, _, _, env => env

/-- The operations whose data are known ahead. -/
def AAll (P : Program) (W0 : World) (σA : List Chunk) (R : List Nat) (envA : Env) : Nat → List SOper → List D → Prop
  | _, [], _ => True
  | _, _ :: _, [] => False
  | i, o :: r, v :: vs => (bif R.contains i then True else RStep P W0 o envA σA fun d σ' => d = v ∧ σ' = σA) ∧ AAll P W0 σA R envA (i + 1) r vs

/-- Those told one by one wait for all the others. -/
def lateOk (R : List Nat) (ops : List SOper) : Bool := R.all fun r => (List.range ops.length).all fun i => R.contains i || ((masks ops).getD r 0).testBit i

/-! ### The proof -/
theorem getD_out {l : List Nat} {i : Nat} (h : l.length ≤ i) : l.getD i 0 = 0 := by
  rw [List.getD_eq_getElem?_getD, List.getElem?_eq_none h]; rfl
theorem getD_left {l m : List Nat} {i : Nat} (h : i < l.length) : (l ++ m).getD i 0 = l.getD i 0 := by
  rw [List.getD_eq_getElem?_getD, List.getD_eq_getElem?_getD, List.getElem?_append_left h]
theorem getD_last {l : List Nat} {x : Nat} : (l ++ [x]).getD l.length 0 = x := by
  rw [List.getD_eq_getElem?_getD, List.getElem?_append_right (Nat.le_refl _)]; simp
theorem maskOf_bit {ms : List Nat} {l : List Nat} {j : Nat} (h : (maskOf ms l).testBit j = true) : ∃ k ∈ l, k = j ∨ (ms.getD k 0).testBit j = true := by
  induction l with
  | nil => simp [maskOf] at h
  | cons k r ih =>
    simp only [maskOf, Nat.testBit_or, Bool.or_eq_true] at h
    rcases h with (h | h) | h
    · rw [Nat.testBit_two_pow] at h; exact ⟨k, by simp, .inl (by simpa using h)⟩
    · exact ⟨k, by simp, .inr h⟩
    · obtain ⟨k', h1, h2⟩ := ih h; exact ⟨k', by simp [h1], h2⟩

/-- A set of operations that holds whatever its operations wait for. -/
def Closed (afters : List (List Nat)) (S : Nat → Prop) : Prop := ∀ i a, afters[i]? = some a → S i → ∀ k ∈ a, S k

theorem masksFrom_ok {afters : List (List Nat)} {S : Nat → Prop} (hS : Closed afters S) : ∀ (r : List (List Nat)) (ms : List Nat), (∀ j, r[j]? = afters[ms.length + j]?) → (∀ i, i < ms.length → S i → ∀ j, (ms.getD i 0).testBit j = true → S j) →
    ∀ i, S i → ∀ j, ((masksFrom ms r).getD i 0).testBit j = true → S j := by
  intro r
  induction r with
  | nil =>
    intro ms _ h i hi j hj
    simp only [masksFrom] at hj
    rcases Nat.lt_or_ge i ms.length with hl | hl
    · exact h i hl hi j hj
    · rw [getD_out hl] at hj; simp at hj
  | cons a r ih =>
    intro ms hr h
    simp only [masksFrom]
    refine ih (ms ++ [maskOf ms a]) (fun j => ?_) fun i hi hSi j hj => ?_
    · have := hr (j + 1)
      simp only [List.getElem?_cons_succ] at this
      rw [this]; congr 1; simp; omega
    · rcases Nat.lt_or_ge i ms.length with hl | hl
      · rw [getD_left hl] at hj
        exact h i hl hSi j hj
      · have e : i = ms.length := by simp at hi; omega
        subst e
        rw [getD_last] at hj
        obtain ⟨k, hk, h'⟩ := maskOf_bit hj
        have ha : afters[ms.length]? = some a := by have := hr 0; simpa using this.symm
        have hSk : S k := hS _ a ha hSi k hk
        rcases h' with rfl | h'
        · exact hSk
        · rcases Nat.lt_or_ge k ms.length with hkl | hkl
          · exact h k hkl hSk j h'
          · rw [getD_out hkl] at h'; simp at h'

/-- What an operation waits for has been done, where the direct ones have. -/
theorem masks_done {ops : List SOper} {S : Nat → Prop} (hS : Closed (ops.map (·.after)) S) {i : Nat} {s : SOper} (hi : ops[i]? = some s) (hd : ∀ k ∈ s.after, S k) {j : Nat} (hj : ((masks ops).getD i 0).testBit j = true) : S j ∨ j = i := by
  have hS' : Closed (ops.map (·.after)) (fun k => S k ∨ k = i) := by
    intro k a ha hk l hl
    rcases hk with hk | rfl
    · exact .inl (hS k a ha hk l hl)
    · rw [List.getElem?_map, hi] at ha
      cases ha
      exact .inl (hd l hl)
  exact masksFrom_ok hS' _ [] (by simp) (fun i hi => by simp at hi) i (.inr rfl) j hj

theorem slotOk_spec {ops : List SOper} {ms : List Nat} {i t : Nat} : ∀ {r : List SOper} {j : Nat}, slotOk ops ms i t j r = true → ∀ k o, r[k]? = some o → o.dst = some t → i = j + k ∨ (ms.getD i 0).testBit (j + k) = true := by
  intro r
  induction r with
  | nil => intro j _ k o hk; simp at hk
  | cons o r ih =>
    intro j h k o' hk hd
    simp only [slotOk, Bool.and_eq_true] at h
    cases k with
    | zero =>
      simp at hk
      subst hk
      have h1 := h.1
      rw [hd] at h1
      simp only [Bool.or_eq_true, decide_eq_true_eq] at h1
      rcases h1 with (h1 | h1) | h1
      · exact absurd rfl h1
      · exact .inl (by omega)
      · exact .inr (by simpa using h1)
    | succ k =>
      simp at hk
      have := ih h.2 k o' hk hd
      rwa [show j + 1 + k = j + (k + 1) by omega] at this

theorem looksOk_spec {ops : List SOper} {ms : List Nat} : ∀ {r : List SOper} {i : Nat}, looksOk ops ms i r = true → ∀ k o, r[k]? = some o → (∀ t ∈ looks o, ∀ j o', ops[j]? = some o' → o'.dst = some t → i + k = j ∨ (ms.getD (i + k) 0).testBit j = true) ∧
    ∀ u, o.dst = some u → u ∉ looks o ∧ ∀ j o', ops[j]? = some o' → o'.dst = some u → i + k = j := by
  intro r
  induction r with
  | nil => intro i _ k o hk; simp at hk
  | cons o r ih =>
    intro i h k o' hk
    simp only [looksOk, Bool.and_eq_true] at h
    cases k with
    | zero =>
      simp at hk
      subst hk
      refine ⟨fun t ht j o' hj hd => ?_, fun u hu => ?_⟩
      · have := slotOk_spec (List.all_eq_true.1 h.1.1 t ht) j o' hj hd
        simpa using this
      · have h2 := h.1.2
        rw [hu] at h2
        simp only [Bool.and_eq_true, Bool.not_eq_true'] at h2
        refine ⟨fun hm => ?_, fun j o' hj hd => ?_⟩
        · have := List.contains_iff_mem.2 hm
          rw [this] at h2; cases h2.1
        · have := List.all_eq_true.1 h2.2 (o', j) (by rw [List.mem_zipIdx_iff_getElem?]; exact hj)
          simp only at this
          rw [hd] at this
          simp only [Bool.or_eq_true, decide_eq_true_eq] at this
          rcases this with h3 | h3
          · exact absurd rfl h3
          · omega
    | succ k =>
      simp at hk
      have := ih h.2 k o' hk
      rwa [show i + 1 + k = i + (k + 1) by omega] at this

theorem addA_get {R : List Nat} {t : Nat} : ∀ {r : List SOper} {vs : List D} {i : Nat} {env : Env}, (∀ (k : Nat) o, r[k]? = some o → o.dst ≠ some t) → eget (addA R i r vs env) t = eget env t := by
  intro r
  induction r with
  | nil => intro vs i env _; cases vs <;> rfl
  | cons o r ih =>
    intro vs i env hn
    cases vs with
    | nil => rfl
    | cons v vs =>
      simp only [addA]
      have ih' := ih (vs := vs) (i := i + 1) (env := env) fun k o' hk => hn (k + 1) o' (by simpa using hk)
      cases hd : o.dst with
      | none => simpa [Env.put] using ih'
      | some u =>
        simp only [Env.put, eget_cons]
        by_cases e : u = t
        · subst e; exact absurd hd (hn 0 o rfl)
        · rw [if_neg e]; exact ih'

theorem addA_at {R : List Nat} {t : Nat} : ∀ {r : List SOper} {vs : List D} {i : Nat} {env : Env} {k : Nat} {o : SOper} {v : D}, r[k]? = some o → vs[k]? = some v → o.dst = some t → (∀ (k' : Nat) o', r[k']? = some o' → o'.dst = some t → k' = k) → eget (addA R i r vs env) t = some (bif R.contains (i + k) then .any else v) := by
  intro r
  induction r with
  | nil => intro vs i env k o v hk; simp at hk
  | cons o r ih =>
    intro vs i env k o' v hk hv hd hu
    cases vs with
    | nil => simp at hv
    | cons v' vs =>
      simp only [addA]
      cases k with
      | zero =>
        simp at hk hv
        subst hk; subst hv
        rw [hd]
        simp [Env.put, eget_cons]
      | succ k =>
        have ih' := ih (vs := vs) (i := i + 1) (env := env) (k := k) (o := o') (v := v) (by simpa using hk) (by simpa using hv) hd fun k' o'' hk' hd' => by
          have := hu (k' + 1) o'' (by simpa using hk') hd'
          omega
        rw [show i + 1 + k = i + (k + 1) by omega] at ih'
        cases hd0 : o.dst with
        | none => simpa [Env.put] using ih'
        | some u =>
          simp only [Env.put, eget_cons]
          by_cases e : u = t
          · subst e
            have := hu 0 o rfl hd0
            omega
          · rw [if_neg e]; exact ih'

theorem AAll_get {σA : List Chunk} {R : List Nat} {envA : Env} : ∀ {r : List SOper} {vs : List D} {i : Nat}, AAll P W0 σA R envA i r vs → vs.length ≥ r.length ∧ ∀ (k : Nat) o v, r[k]? = some o → vs[k]? = some v → R.contains (i + k) = false → RStep P W0 o envA σA fun d σ' => d = v ∧ σ' = σA := by
  intro r
  induction r with
  | nil => intro vs i _; exact ⟨by simp, fun k o v hk => by simp at hk⟩
  | cons o r ih =>
    intro vs i h
    cases vs with
    | nil => exact h.elim
    | cons v vs =>
      obtain ⟨h1, h2⟩ := h
      obtain ⟨g1, g2⟩ := ih h2
      refine ⟨by simp; omega, fun k o' v' hk hv hR => ?_⟩
      cases k with
      | zero =>
        simp at hk hv
        subst hk; subst hv
        have hR' : R.contains i = false := by simpa using hR
        rw [hR'] at h1
        exact h1
      | succ k => exact g2 k o' v' (by simpa using hk) (by simpa using hv) (by rwa [show i + 1 + k = i + (k + 1) by omega])

theorem slim_get {P : Program} {N : Nat} {ops : Array Oper} : ∀ {lo : List Oper} {l : List SOper}, SlimList P N ops lo l → lo.length = l.length ∧ ∀ (i : Nat) o, lo[i]? = some o → ∃ s, l[i]? = some s ∧ SlimOper P N ops o s := by
  intro lo l h
  induction h with
  | nil => exact ⟨rfl, fun i o ho => by simp at ho⟩
  | cons ho _ ih =>
    refine ⟨by simp [ih.1], fun i o hi => ?_⟩
    cases i with
    | zero => simp at hi; subst hi; exact ⟨_, rfl, ho⟩
    | succ i => simp at hi; simpa using ih.2 i o hi

/-- While the region runs: what has been done, and what is known. -/
structure Mid (W0 : World) (N : Nat) (Z : Nat → Prop) (F : List Chunk) (sops : List SOper) (S : Nat → Prop) (envF : Env) (σ : List Chunk) (a : Act) (w : World) : Prop where
  base : Base W0 Z w
  st : St Z (σ ++ F) w
  env : ∀ t d, eget envF t = some d → (∀ j s, sops[j]? = some s → s.dst = some t → S j) → Rel Z w d (a.tmps.getD t undef)
  size : a.tmps.size = N
  defers : a.defers = []

theorem Mid.restr {Z : Nat → Prop} {F : List Chunk} {sops : List SOper} {S : Nat → Prop} {envF : Env} {σ : List Chunk} {a : Act} {w : World} (h : Mid W0 N Z F sops S envF σ a w) {ts : List Nat} (hts : ∀ t ∈ ts, ∀ j s, sops[j]? = some s → s.dst = some t → S j) {σ1 : List Chunk} {F1 : List Chunk} (hp : (σ ++ F).Perm (σ1 ++ F1)) :
    Cfg W0 N Z F1 (restr ts envF) σ1 a w :=
  ⟨h.base, h.st.perm hp, fun t d hd => by obtain ⟨h1, h2⟩ := restr_get hd; exact h.env t d h2 (hts t h1), h.size, h.defers⟩

/-- One operation's step in the region. -/
theorem RStep.wp {ops : Array Oper} {o : Oper} {s : SOper} {env : Env} {σ : List Chunk} {K : D → List Chunk → Prop} (h : RStep P W0 s env σ K) (ho : SlimOper P N ops o s) {i : Nat} (hi : ops[i]? = some o) {Z : Nat → Prop} {F : List Chunk} {a : Act} {w : World} (hc : Cfg W0 N Z F (Abs.restr (looks s) env) σ a w)
    {next : Act → World → Prop} {Q' : Exit → Act → World → Prop}
    (hn : ∀ (Z' : Nat → Prop) (v : Value) (d : D) (σ' : List Chunk) (w' : World), (∀ b, Z b → Z' b) → Evo Z w w' → St Z' (σ' ++ F) w' → Rel Z' w' d v → K d σ' → next (a.put o.dst v) w') : wpOp P ops Q' i next a w := by
  unfold wpOp
  simp only [hi]
  unfold RStep at h
  have hg := ho.guard
  cases hgo : o.guard with
  | none =>
    rw [hgo] at hg
    rw [hg] at h
    rw [if_pos (by simp [Region.wanted, hgo])]
    exact .inl (h o ho.op N Z F a w hc next Q' hn fun _ _ _ _ _ _ _ _ _ hx => hx.elim)
  | some p =>
    obtain ⟨j, want⟩ := p
    rw [hgo] at hg
    obtain ⟨oj, slot, hj, hjd, hlt, he⟩ := hg
    rw [he] at h
    rcases h with ⟨b, hb, h1, h2⟩ | ⟨hb, h2⟩
    case inr =>
      have hv := hc.eval_v (x := .tmp slot) hb
      have hy : yielded ops a.tmps j = none := by
        have hv' : a.tmps.getD slot undef = undef := hv
        rw [Array.getD_eq_getD_getElem?] at hv'
        cases h3 : a.tmps[slot]? with
        | none => simp [yielded, hj, hjd, h3]
        | some u => rw [h3] at hv'; simp at hv'; simp [yielded, hj, hjd, h3, hv', undef]
      rw [if_neg (by simp [Region.wanted, hgo, hy])]
      exact hn Z undef (.v undef) σ w (fun _ h => h) .refl hc.st (.v _) h2
    have hv := hc.eval_v (x := .tmp slot) hb
    have hy : yielded ops a.tmps j = some b := by
      have hv' : a.tmps.getD slot undef = .bool b := hv
      have : a.tmps[slot]? = some (.bool b) := by
        rw [Array.getD_eq_getD_getElem?] at hv'
        cases h3 : a.tmps[slot]? with
        | none => rw [h3] at hv'; simp [undef] at hv'
        | some u => rw [h3] at hv'; simp at hv'; rw [hv']
      simp [yielded, hj, hjd, this]
    by_cases hbw : b = want
    · rw [if_pos (by simp [Region.wanted, hgo, hy, hbw])]
      exact .inl (h1 hbw o ho.op N Z F a w hc next Q' hn fun _ _ _ _ _ _ _ _ _ hx => hx.elim)
    · have hbn : b = !want := by cases b <;> cases want <;> simp_all
      rw [if_neg (by simp only [Region.wanted, hgo, hy]; simpa using hbw)]
      exact hn Z undef (.v undef) σ w (fun _ h => h) .refl hc.st (.v _) (h2 hbn)

theorem backOk_spec : ∀ {r : List SOper} {i : Nat}, backOk i r = true → ∀ (k : Nat) o, r[k]? = some o → ∀ j ∈ o.after, j < i + k := by
  intro r
  induction r with
  | nil => intro i _ k o hk; simp at hk
  | cons o r ih =>
    intro i h k o' hk j hj
    simp only [backOk, Bool.and_eq_true] at h
    cases k with
    | zero =>
      simp at hk; subst hk
      have := List.all_eq_true.1 h.1 j hj
      simpa [Nat.blt_eq] using this
    | succ k =>
      have := ih h.2 k o' (by simpa using hk) j hj
      omega

theorem countP_lt {l : List Nat} {p q : Nat → Bool} (h : ∀ x, q x = true → p x = true) {i : Nat} (hi : i ∈ l) (hp : p i = true) (hq : q i = false) : l.countP q < l.countP p := by
  induction l with
  | nil => cases hi
  | cons x l ih =>
    have mono : l.countP q ≤ l.countP p := List.countP_mono_left fun y _ hy => h y hy
    rcases List.mem_cons.1 hi with rfl | hi
    · rw [List.countP_cons_of_pos hp, List.countP_cons_of_neg (by rw [hq]; simp)]; omega
    · have := ih hi
      by_cases hx : q x = true
      · rw [List.countP_cons_of_pos hx, List.countP_cons_of_pos (h x hx)]; omega
      · rw [List.countP_cons_of_neg hx]
        by_cases hx' : p x = true
        · rw [List.countP_cons_of_pos hx']; omega
        · rw [List.countP_cons_of_neg hx']; omega

/-- What a region whose order is drawn does, whatever the order. -/
def ADraw (P : Program) (W0 : World) (N : Nat) (sops : List SOper) (env : Env) (σ : List Chunk) (Q : AX → Env → List Chunk → Prop) : Prop :=
  ∀ (ops : Array Oper), SlimList P N ops ops.toList sops → sops.map (·.after) = ops.toList.map edgesOf → ∀ (Z : Nat → Prop) (F : List Chunk) (a : Act) (w : World), Cfg W0 N Z F env σ a w →
    wpAny P .any ops (Out W0 N Z F w Q) ops.size (Array.replicate ops.size false) a { w with drawn := w.drawn + 1 }
theorem ADraw.awp {sops : List SOper} {env : Env} {σ : List Chunk} (hm : P.follows .mixedOrders = true) (h : ADraw P W0 N sops env σ Q) : AWP P W0 N (.draw sops) env σ Q := by
  intro c hs Z F a w hc
  cases hs with
  | draw hsl he => exact wp_region_any hm (h _ hsl he Z F a w hc)

theorem wpOp_imp {ops ops' : Array Oper} {R R' : Exit → Act → World → Prop} {i : Nat} {K K' : Act → World → Prop} {a : Act} {w : World} {o : Oper} (ho : ops[i]? = some o) (ho' : ops'[i]? = some o) (hy : ∀ j want, o.guard = some (j, want) → yielded ops a.tmps j = yielded ops' a.tmps j)
    (hR : ∀ e a w, e ≠ .normal → R e a w → R' e a w) (hK : ∀ a w, K a w → K' a w) (hh : wpOp P ops R i K a w) : wpOp P ops' R' i K' a w := by
  unfold wpOp at hh ⊢
  simp only [ho] at hh
  simp only [ho']
  have hw : Region.wanted o (yielded ops a.tmps) = Region.wanted o (yielded ops' a.tmps) := by
    unfold Region.wanted
    split
    · rfl
    · rename_i j want hg
      rw [hy j want hg]
  rw [← hw]
  split
  · rename_i hw'
    rw [if_pos hw'] at hh
    rcases hh with hh | ⟨ha, a0, w0, hq⟩
    · refine .inl ?_
      have h1 : o.wp P a w K' R := Oper.wp_mono hK hh
      unfold Oper.wp at h1 ⊢
      generalize (execOp a.eval o).run P w = r at h1 ⊢
      cases r with
      | ok n w' =>
        cases n <;> simp only [Oper.upon] at h1 ⊢ <;> first
          | exact h1
          | exact Calls.mono h1 (fun e w'' he => by cases e <;> first | exact he | exact hR _ _ _ (by simp) he | (obtain ⟨a0, w0, hq⟩ := he; exact ⟨a0, w0, hR _ _ _ (by simp) hq⟩))
      | halt x w' => cases x <;> simp only [Oper.upon] at h1 ⊢ <;> first | exact h1 | exact hR _ _ _ (by simp) h1
    · exact .inr ⟨ha, a0, w0, hR _ _ _ (by simp) hq⟩
  · rename_i hw'
    rw [if_neg hw'] at hh
    exact hK _ _ hh

theorem wpAny_imp {ops : Array Oper} {R R' : Exit → Act → World → Prop} (h : ∀ e a w, R e a w → R' e a w) : ∀ (fuel : Nat) (listed : Array Bool) (a : Act) (w : World), wpAny P .any ops R fuel listed a w → wpAny P .any ops R' fuel listed a w := by
  intro fuel
  induction fuel with
  | zero => intro listed a w hh; exact ⟨hh.1, h _ _ _ hh.2⟩
  | succ fuel ih =>
    intro listed a w hh
    refine ⟨fun hn => h _ _ _ (hh.1 hn), fun i hi => ?_⟩
    have := hh.2 i hi
    cases ho : ops[i]? with
    | none => unfold wpOp at this ⊢; simp only [ho] at this ⊢; exact ih _ _ _ this
    | some o => exact wpOp_imp ho ho (fun _ _ _ => rfl) (fun e a w _ => h e a w) (fun a w => ih _ a w) this

theorem ADraw.outLess {sops : List SOper} {env : Env} {σ : List Chunk} (h : ADraw P W0 N sops env σ fun x e s => ∃ e0, (∀ t d, eget e0 t = some d → eget e t = some d) ∧ Q x e0 s) : ADraw P W0 N sops env σ Q :=
  fun ops hsl he Z F a w hc => wpAny_imp (fun _ _ _ ⟨Z2, x, _, σ', h1, h2, h3, ⟨e0, h4, h5⟩, h6⟩ => ⟨Z2, x, e0, σ', h1, h2, h3, h5, h6.less h4⟩) _ _ _ _ (h ops hsl he Z F a w hc)

theorem ADraw.x {sops : List SOper} {env : Env} {σ : List Chunk} (σA : List Chunk) (hσA : σA = [] ∨ σA = σ) (R : List Nat) (hlate : σA = [] ∨ lateOk R sops = true) (va : List D) (hok : drawOk sops = true) (hR0 : R.Nodup) (hR1 : (R.all fun i => Nat.blt i sops.length) = true)
    (hl : va.length = sops.length) (hA : AAll P W0 σA R (addA R 0 sops va env) 0 sops va) (hR : RAll P W0 sops (masks sops) Q R.length R (addA R 0 sops va env) σ) : ADraw P W0 N sops env σ Q := by
    intro ops hsl he Z F a w hc
    obtain ⟨hlen, hget⟩ := slim_get hsl
    have hsz : ops.size = sops.length := by simpa using hlen
    obtain ⟨_, hAget⟩ := AAll_get hA
    simp only [drawOk, Bool.and_eq_true] at hok
    have hlooks := looksOk_spec hok.1
    have hback := backOk_spec hok.2
    have hafter : ∀ (i : Nat) o s, ops[i]? = some o → sops[i]? = some s → s.after = edgesOf o := by
      intro i o s h1 h2
      have := congrArg (fun l => l[i]?) he
      simp only [List.getElem?_map, h2, Array.getElem?_toList, h1, Option.map_some, Option.some.injEq] at this
      exact this
    have huniq : ∀ (i : Nat) s (j : Nat) s' u, sops[i]? = some s → s.dst = some u → sops[j]? = some s' → s'.dst = some u → i = j := by
      intro i s j s' u h1 h2 h3 h4
      have := ((hlooks i s h1).2 u h2).2 j s' h3 h4
      omega
    have hRlt : ∀ i ∈ R, i < sops.length := by
      intro i hi
      have := List.all_eq_true.1 hR1 i hi
      simpa [Nat.blt_eq] using this
    -- the data known ahead, of a slot that an operation ahead writes
    have hvaat : ∀ (i : Nat) s v u, sops[i]? = some s → va[i]? = some v → s.dst = some u → eget (addA R 0 sops va env) u = some (bif R.contains i then .any else v) := by
      intro i s v u h1 h2 h3
      have := addA_at (R := R) (i := 0) (env := env) h1 h2 h3 fun k' o' h4 h5 => huniq k' o' i s u h4 h5 h1 h3
      simpa using this
    -- any set of operations, done in some order
    have key : ∀ (fuel : Nat) (listed : Array Bool) (rem : List Nat) (envF : Env) (σ : List Chunk) (Z' : Nat → Prop) (a : Act) (w' : World), listed.size = ops.size → (List.range ops.size).countP (fun i => !listed.getD i false) ≤ fuel →
        rem.Nodup → (∀ i, i ∈ rem ↔ i ∈ R ∧ listed.getD i false = false) → Closed (sops.map (·.after)) (fun i => listed.getD i false = true) → (∀ b, Z b → Z' b) → Evo Z w w' →
        (∀ t, (∀ (j : Nat) s, sops[j]? = some s → s.dst = some t → j ∉ R) → eget envF t = eget (addA R 0 sops va env) t) → (σA = [] ∨ ((∃ i, i < ops.size ∧ i ∉ R ∧ listed.getD i false = false) → σ = σA)) →
        Mid W0 N Z' F sops (fun i => listed.getD i false = true) envF σ a w' → RAll P W0 sops (masks sops) Q rem.length rem envF σ →
        wpAny P .any ops (Out W0 N Z F w Q) fuel listed a w' := by
      intro fuel
      induction fuel with
      | zero =>
        intro listed rem envF σ Z' a w' hls hcnt hnd hrem hcl hz hev henv hsa hmid hall
        have hall' : ∀ i, i < ops.size → listed.getD i false = true := by
          intro i hi
          have h0 : (List.range ops.size).countP (fun i => !listed.getD i false) = 0 := by omega
          have := List.countP_eq_zero.1 h0 i (List.mem_range.2 hi)
          simpa using this
        have hrem0 : rem = [] := by
          cases rem with
          | nil => rfl
          | cons x r =>
            obtain ⟨h1, h2⟩ := (hrem x).1 (by simp)
            have := hall' x (by rw [hsz]; exact hRlt x h1)
            rw [this] at h2; cases h2
        subst hrem0
        refine ⟨?_, Z', .nrm, envF, σ, hz, hev, trivial, hall, ⟨hmid.base, hmid.st, fun t d hd => hmid.env t d hd fun j s hj hd' => hall' j ?_, hmid.size, hmid.defers⟩⟩
        · refine List.eq_nil_iff_forall_not_mem.2 fun i hi => ?_
          simp only [Region.ready, List.mem_filter, List.mem_range, Bool.and_eq_true, Bool.not_eq_true'] at hi
          have h1 := hall' i hi.1
          have h2 := hi.2.1
          have hlt : i < listed.size := by rw [hls]; exact hi.1
          rw [Array.getD_eq_getD_getElem?] at h1 h2
          rw [Array.getElem?_eq_getElem hlt] at h1 h2
          simp at h1 h2
          rw [h1] at h2; cases h2
        · rw [hsz]; exact (List.getElem?_eq_some_iff.1 hj).1
      | succ fuel ih =>
        intro listed rem envF σ Z' a w' hls hcnt hnd hrem hcl hz hev henv hsa hmid hall
        have hready : ∀ i, i ∈ Region.ready .any ops listed ↔ ∃ o, ops[i]? = some o ∧ listed.getD i false = false ∧ ∀ k ∈ edgesOf o, listed.getD k false = true := by
          intro i
          simp only [Region.ready, List.mem_filter, List.mem_range, Bool.and_eq_true, Bool.not_eq_true']
          constructor
          · rintro ⟨h1, h2, h3⟩
            have hlt : i < listed.size := by rw [hls]; exact h1
            have ho : ops[i]? = some ops[i] := Array.getElem?_eq_getElem h1
            refine ⟨ops[i], ho, ?_, ?_⟩
            · rw [Array.getD_eq_getD_getElem?, Array.getElem?_eq_getElem hlt] at h2 ⊢
              simpa using h2
            · rw [ho] at h3
              simp only [Option.map_some, Option.getD_some] at h3
              intro k hk
              simp only [edgesOf, List.mem_map, List.mem_filter] at hk
              obtain ⟨e, ⟨he1, he2⟩, rfl⟩ := hk
              have := Array.all_eq_true'.1 h3 e (Array.mem_toList_iff.1 he1)
              simpa [he2] using this
          · rintro ⟨o, h1, h2, h3⟩
            have hi : i < ops.size := by
              rcases Nat.lt_or_ge i ops.size with h | h
              · exact h
              · rw [Array.getElem?_eq_none h] at h1; cases h1
            have hlt : i < listed.size := by rw [hls]; exact hi
            refine ⟨hi, ?_, ?_⟩
            · rw [Array.getD_eq_getD_getElem?, Array.getElem?_eq_getElem hlt] at h2 ⊢
              simpa using h2
            · rw [h1]
              simp only [Option.map_some, Option.getD_some]
              refine Array.all_eq_true'.2 fun e he' => ?_
              by_cases hb : Region.binds .any e = true
              · have := h3 e.on (by simp only [edgesOf, List.mem_map, List.mem_filter]; exact ⟨e, ⟨Array.mem_toList_iff.2 he', hb⟩, rfl⟩)
                simp [this]
              · simp [hb]
        refine ⟨fun hnil => ?_, fun i hi => ?_⟩
        · -- nothing is ready: all is done
          have hall' : ∀ i, i < ops.size → listed.getD i false = true := by
            intro i
            induction i using Nat.strongRecOn with
            | _ i ihi =>
              intro hi
              cases hg : listed.getD i false with
              | true => rfl
              | false =>
                exfalso
                have ho : ops[i]? = some ops[i] := Array.getElem?_eq_getElem hi
                have hmem : i ∈ Region.ready .any ops listed := by
                  refine (hready i).2 ⟨ops[i], ho, hg, fun k hk => ?_⟩
                  obtain ⟨s, hs, hso⟩ := hget i ops[i] (by simp)
                  rw [← hafter i _ s ho hs] at hk
                  have hlt := hback i s hs k hk
                  exact ihi k (by omega) (by omega)
                rw [hnil] at hmem
                cases hmem
          have hrem0 : rem = [] := by
            cases rem with
            | nil => rfl
            | cons x r =>
              obtain ⟨h1, h2⟩ := (hrem x).1 (by simp)
              have := hall' x (by rw [hsz]; exact hRlt x h1)
              rw [this] at h2; cases h2
          subst hrem0
          exact ⟨Z', .nrm, envF, σ, hz, hev, trivial, hall, ⟨hmid.base, hmid.st, fun t d hd => hmid.env t d hd fun j s hj hd' => hall' j (by rw [hsz]; exact (List.getElem?_eq_some_iff.1 hj).1), hmid.size, hmid.defers⟩⟩
        · obtain ⟨o, ho, hli, hed⟩ := (hready i).1 hi
          obtain ⟨s, hs, hso⟩ := hget i o (by simpa using ho)
          have hilt : i < ops.size := by rw [hsz]; exact (List.getElem?_eq_some_iff.1 hs).1
          have haf : ∀ k ∈ s.after, listed.getD k false = true := by rw [hafter i o s ho hs]; exact hed
          have hdone : ∀ t ∈ looks s, ∀ (j : Nat) s', sops[j]? = some s' → s'.dst = some t → listed.getD j false = true := by
            intro t ht j s' hj hd
            obtain ⟨g1, g2⟩ := hlooks i s hs
            rcases g1 t ht j s' hj hd with h | h
            · exfalso
              have hij : i = j := by omega
              subst hij
              rw [hs] at hj
              cases hj
              exact (g2 t hd).1 ht
            · rw [Nat.zero_add] at h
              rcases masks_done hcl hs haf h with h' | h'
              · exact h'
              · exfalso
                subst h'
                rw [hs] at hj
                cases hj
                exact (g2 t hd).1 ht
          -- the set, with this one
          have hset : ∀ k, (listed.setIfInBounds i true).getD k false = if k = i then true else listed.getD k false := by
            intro k
            simp only [Array.getD_eq_getD_getElem?, Array.getElem?_setIfInBounds]
            by_cases e : i = k
            · subst e; simp [hls, hilt]
            · simp [e, Ne.symm e]
          have hcl' : Closed (sops.map (·.after)) (fun k => (listed.setIfInBounds i true).getD k false = true) := by
            intro k af hk hS l hl
            rw [hset] at hS ⊢
            by_cases e : l = i
            · rw [if_pos e]
            · rw [if_neg e]
              by_cases e2 : k = i
              · subst e2
                rw [List.getElem?_map, hs] at hk
                cases hk
                exact haf l hl
              · rw [if_neg e2] at hS
                exact hcl k af hk hS l hl
          have hcnt' : (List.range ops.size).countP (fun k => !(listed.setIfInBounds i true).getD k false) ≤ fuel := by
            have : (List.range ops.size).countP (fun k => !(listed.setIfInBounds i true).getD k false) < (List.range ops.size).countP (fun k => !listed.getD k false) := by
              refine countP_lt (i := i) (fun x hx => ?_) (List.mem_range.2 hilt) (by simp [hli]) (by rw [hset, if_pos rfl]; rfl)
              rw [hset] at hx
              by_cases e : x = i
              · rw [if_pos e] at hx; cases hx
              · rw [if_neg e] at hx; exact hx
            omega
          -- what goes on behind it
          have next : ∀ (rem' : List Nat) (envF' : Env) (σ' : List Chunk) (Z2 : Nat → Prop) (v : Value) (w2 : World), rem'.Nodup → (∀ k, k ∈ rem' ↔ k ∈ R ∧ (listed.setIfInBounds i true).getD k false = false) → (∀ b, Z' b → Z2 b) → Evo Z' w' w2 → St Z2 (σ' ++ F) w2 →
              (∀ t, (∀ (j : Nat) s, sops[j]? = some s → s.dst = some t → j ∉ R) → eget envF' t = eget (addA R 0 sops va env) t) → (σA = [] ∨ ((∃ k, k < ops.size ∧ k ∉ R ∧ (listed.setIfInBounds i true).getD k false = false) → σ' = σA)) →
              (∀ t d, eget envF' t = some d → (s.dst = some t → Rel Z2 w2 d v) ∧ (s.dst ≠ some t → eget envF t = some d)) → RAll P W0 sops (masks sops) Q rem'.length rem' envF' σ' →
              wpAny P .any ops (Out W0 N Z F w Q) fuel (listed.setIfInBounds i true) (a.put o.dst v) w2 := by
            intro rem' envF' σ' Z2 v w2 hnd' hrem' hz2 he2 hst2 henv' hsa' hput hall'
            refine ih _ rem' envF' σ' Z2 _ w2 (by simpa using hls) hcnt' hnd' hrem' hcl' (fun b hb => hz2 b (hz b hb)) (hev.trans hz he2) henv' hsa' ⟨hmid.base.go hz2 he2, hst2, fun t d hd hw => ?_, ?_, ?_⟩ hall'
            · obtain ⟨p1, p2⟩ := hput t d hd
              by_cases e : s.dst = some t
              · rw [hso.dst] at e
                rw [e, getD_put_same (by rw [hmid.size]; exact hso.lt t e)]
                exact p1 (hso.dst.trans e)
              · have hne : o.dst ≠ some t := by rw [← hso.dst]; exact e
                have hg : (a.put o.dst v).tmps.getD t undef = a.tmps.getD t undef := by
                  cases hd' : o.dst with
                  | none => rfl
                  | some u => exact getD_put_other (by rintro rfl; exact hne hd')
                rw [hg]
                refine (hmid.env t d (p2 e) fun j s' hj hd' => ?_).mono hz2 he2.block
                have := hw j s' hj hd'
                rw [hset] at this
                by_cases e2 : j = i
                · subst e2; rw [hs] at hj; cases hj; exact absurd hd' e
                · rwa [if_neg e2] at this
            · cases o.dst <;> simp [Act.put, hmid.size]
            · cases o.dst <;> simp [Act.put, hmid.defers]
          by_cases hiR : i ∈ R
          · -- one of those that are told one by one
            have hirem : i ∈ rem := (hrem i).2 ⟨hiR, hli⟩
            obtain ⟨k, hk⟩ : ∃ k, rem.length = k + 1 := ⟨rem.length - 1, by have := List.length_pos_of_mem hirem; omega⟩
            rw [hk] at hall
            simp only [RAll] at hall
            have hfree : i ∈ rem.filter (freeOf (masks sops) rem) := by
              refine List.mem_filter.2 ⟨hirem, List.all_eq_true.2 fun j hj => ?_⟩
              obtain ⟨_, hjl⟩ := (hrem j).1 hj
              cases hb : ((masks sops).getD i 0).testBit j with
              | false => rfl
              | true =>
                rcases masks_done hcl hs haf hb with h' | h'
                · rw [hjl] at h'; cases h'
                · simp [h']
            have hstep := hall.get hfree
            have hgs : sops.getD i default = s := by rw [List.getD_eq_getElem?_getD, hs]; rfl
            rw [hgs] at hstep
            have hcfg : Cfg W0 N Z' F (Abs.restr (looks s) envF) σ a w' := hmid.restr (hdone) (List.Perm.refl _)
            refine hstep.wp hso ho hcfg fun Z2 v d σ' w2 hz2 he2 hst2 hrel hK => ?_
            have hlen' : (rem.erase i).length = k := by rw [List.length_erase_of_mem hirem]; omega
            refine next (rem.erase i) (Env.put envF s.dst d) σ' Z2 v w2 (hnd.erase i) (fun j => ?_) hz2 he2 hst2 (fun t ht => ?_) ?_ (fun t d' hd' => ?_) (by rw [hlen']; exact hK)
            · rw [hnd.mem_erase_iff, hrem, hset]
              by_cases e : j = i
              · simp [e]
              · simp [e]
            · cases hd0 : s.dst with
              | none => exact henv t ht
              | some u =>
                simp only [Env.put, eget_cons]
                by_cases e : u = t
                · subst e; exact absurd hiR (ht i s hs hd0)
                · rw [if_neg e]; exact henv t ht
            · rcases hlate with h | h
              · exact .inl h
              · refine .inr ?_
                rintro ⟨k, hk1, hk2, hk3⟩
                exfalso
                have h1 := List.all_eq_true.1 (List.all_eq_true.1 h i hiR) k (List.mem_range.2 (by rw [← hsz]; exact hk1))
                have hkc : R.contains k = false := by simpa using hk2
                rw [hkc, Bool.false_or] at h1
                rw [hset] at hk3
                by_cases e : k = i
                · subst e; exact hk2 hiR
                · rw [if_neg e] at hk3
                  rcases masks_done hcl hs haf h1 with h' | h'
                  · rw [hk3] at h'; cases h'
                  · exact e h'
            · cases hd0 : s.dst with
              | none =>
                rw [hd0] at hd'
                exact ⟨fun e => (by cases e), fun _ => hd'⟩
              | some u =>
                rw [hd0] at hd'
                simp only [Env.put, eget_cons] at hd'
                by_cases e : u = t
                · subst e
                  rw [if_pos rfl] at hd'
                  cases hd'
                  exact ⟨fun _ => hrel, fun h => absurd rfl h⟩
                · rw [if_neg e] at hd'
                  exact ⟨fun h => absurd (Option.some.inj h) e, fun _ => hd'⟩
          · -- one whose datum is known ahead
            have hiv : ∃ v, va[i]? = some v := ⟨_, List.getElem?_eq_getElem (by rw [hl, ← hsz]; exact hilt)⟩
            obtain ⟨vi, hvi⟩ := hiv
            have hci : R.contains i = false := by simpa using hiR
            have hstep := hAget i s vi hs hvi (by simpa using hci)
            have hcenv : ∀ t d, eget (Abs.restr (looks s) (addA R 0 sops va env)) t = some d → Rel Z' w' d (a.tmps.getD t undef) := by
              intro t d hd
              obtain ⟨h1, h2⟩ := restr_get hd
              by_cases hw : ∃ (j : Nat) (s' : SOper), sops[j]? = some s' ∧ s'.dst = some t ∧ j ∈ R
              · obtain ⟨j, s', hj, hd', hjR⟩ := hw
                have hjv : ∃ v, va[j]? = some v := ⟨_, List.getElem?_eq_getElem (by rw [hl]; exact (List.getElem?_eq_some_iff.1 hj).1)⟩
                obtain ⟨vj, hvj⟩ := hjv
                have hjc : R.contains j = true := by simpa using hjR
                rw [hvaat j s' vj t hj hvj hd', hjc] at h2
                cases h2
                exact .any _
              · have := henv t fun j s' hj hd' hjR => hw ⟨j, s', hj, hd', hjR⟩
                rw [← this] at h2
                exact hmid.env t d h2 (hdone t h1)
            have hsub : ∃ F1, (σ ++ F).Perm (σA ++ F1) ∧ ∀ Z2 w2, St Z2 (σA ++ F1) w2 → St Z2 (σ ++ F) w2 := by
              rcases hsa with h | h
              · subst h; exact ⟨σ ++ F, by simp, fun Z2 w2 h => by simpa using h⟩
              · have := h ⟨i, hilt, hiR, hli⟩
                subst this
                exact ⟨F, List.Perm.refl _, fun Z2 w2 h => h⟩
            obtain ⟨F1, hperm, hback'⟩ := hsub
            have hcfg : Cfg W0 N Z' F1 (Abs.restr (looks s) (addA R 0 sops va env)) σA a w' := ⟨hmid.base, hmid.st.perm hperm, hcenv, hmid.size, hmid.defers⟩
            refine hstep.wp hso ho hcfg fun Z2 v d σ' w2 hz2 he2 hst2 hrel hK => ?_
            obtain ⟨rfl, rfl⟩ := hK
            refine next rem envF σ Z2 v w2 hnd (fun j => ?_) hz2 he2 (hback' _ _ hst2) henv ?_ (fun t d' hd' => ?_) hall
            · rw [hrem, hset]
              by_cases e : j = i
              · subst e; simp [hiR]
              · simp [e]
            · rcases hsa with h | h
              · exact .inl h
              · refine .inr ?_
                rintro ⟨k, hk1, hk2, hk3⟩
                refine h ⟨k, hk1, hk2, ?_⟩
                rw [hset] at hk3
                by_cases e : k = i
                · rw [if_pos e] at hk3; cases hk3
                · rwa [if_neg e] at hk3
            · refine ⟨fun e => ?_, fun _ => hd'⟩
              have h1 : eget envF t = eget (addA R 0 sops va env) t := henv t fun j s' hj hd'' hjR => by
                have := huniq j s' i s t hj hd'' hs e
                subst this
                exact hiR hjR
              rw [h1, hvaat i s d t hs hvi e, hci] at hd'
              cases hd'
              exact hrel
    refine key ops.size (Array.replicate ops.size false) R (addA R 0 sops va env) σ Z a _ (by simp) ?_ hR0 (fun i => ?_) (fun i af _ h => ?_) (fun _ h => h) ⟨rfl, rfl, rfl, Nat.le_refl _, fun _ _ => rfl⟩ (fun _ _ => rfl) ?_ ⟨⟨⟨hc.base.evo.os, hc.base.evo.tape, hc.base.evo.output, hc.base.evo.size, hc.base.evo.block⟩, hc.base.low⟩, ?_, fun t d hd hw => ?_, hc.size, hc.defers⟩ hR
    · exact Nat.le_trans (List.countP_le_length) (by simp)
    · simp [Array.getD_eq_getD_getElem?, Array.getElem?_replicate]
      intro _
      by_cases e : i < ops.size <;> simp [e]
    · exfalso
      simp only [Array.getD_eq_getD_getElem?, Array.getElem?_replicate] at h
      by_cases e : i < ops.size <;> simp [e] at h
    · rcases hσA with h | h
      · exact .inl h
      · exact .inr fun _ => h.symm
    · exact hc.st.evo (fun _ h => h) (fun _ _ => rfl) (fun _ _ => rfl) hc.st.apart hc.st.inh
    · have hn : ∀ (j : Nat) s, sops[j]? = some s → s.dst ≠ some t := by
        intro j s hj hd'
        have := hw j s hj hd'
        simp only [Array.getD_eq_getD_getElem?, Array.getElem?_replicate] at this
        by_cases e : j < ops.size <;> simp [e] at this
      rw [addA_get hn] at hd
      refine Rel.mono (fun _ h => h) (fun _ _ => ?_) (hc.env t d hd)
      rfl

theorem AWP.drawX {sops : List SOper} {env : Env} {σ : List Chunk} (σA : List Chunk) (hσA : σA = [] ∨ σA = σ) (R : List Nat) (hlate : σA = [] ∨ lateOk R sops = true) (va : List D) (hm : P.follows .mixedOrders = true) (hok : drawOk sops = true) (hR0 : R.Nodup) (hR1 : (R.all fun i => Nat.blt i sops.length) = true)
    (hl : va.length = sops.length) (hA : AAll P W0 σA R (addA R 0 sops va env) 0 sops va) (hR : RAll P W0 sops (masks sops) Q R.length R (addA R 0 sops va env) σ) : AWP P W0 N (.draw sops) env σ Q :=
  (ADraw.x σA hσA R hlate va hok hR0 hR1 hl hA hR).awp hm
theorem ADraw.draw {sops : List SOper} {env : Env} {σ : List Chunk} (R : List Nat) (va : List D) (hok : drawOk sops = true) (hR0 : R.Nodup) (hR1 : (R.all fun i => Nat.blt i sops.length) = true)
    (hl : va.length = sops.length) (hA : AAll P W0 [] R (addA R 0 sops va env) 0 sops va) (hR : RAll P W0 sops (masks sops) Q R.length R (addA R 0 sops va env) σ) : ADraw P W0 N sops env σ Q :=
  ADraw.x [] (.inl rfl) R (.inl rfl) va hok hR0 hR1 hl hA hR
theorem ADraw.drawL {sops : List SOper} {env : Env} {σ : List Chunk} (R : List Nat) (va : List D) (hok : drawOk sops = true) (hlate : lateOk R sops = true) (hR0 : R.Nodup) (hR1 : (R.all fun i => Nat.blt i sops.length) = true)
    (hl : va.length = sops.length) (hA : AAll P W0 σ R (addA R 0 sops va env) 0 sops va) (hR : RAll P W0 sops (masks sops) Q R.length R (addA R 0 sops va env) σ) : ADraw P W0 N sops env σ Q :=
  ADraw.x σ (.inr rfl) R (.inr hlate) va hok hR0 hR1 hl hA hR

theorem AWP.draw {sops : List SOper} {env : Env} {σ : List Chunk} (R : List Nat) (va : List D) (hm : P.follows .mixedOrders = true) (hok : drawOk sops = true) (hR0 : R.Nodup) (hR1 : (R.all fun i => Nat.blt i sops.length) = true)
    (hl : va.length = sops.length) (hA : AAll P W0 [] R (addA R 0 sops va env) 0 sops va) (hR : RAll P W0 sops (masks sops) Q R.length R (addA R 0 sops va env) σ) : AWP P W0 N (.draw sops) env σ Q :=
  AWP.drawX [] (.inl rfl) R (.inl rfl) va hm hok hR0 hR1 hl hA hR

/-- The others read the chunks as they stand; those told one by one wait for them all. -/
theorem AWP.drawL {sops : List SOper} {env : Env} {σ : List Chunk} (R : List Nat) (va : List D) (hm : P.follows .mixedOrders = true) (hok : drawOk sops = true) (hlate : lateOk R sops = true) (hR0 : R.Nodup) (hR1 : (R.all fun i => Nat.blt i sops.length) = true)
    (hl : va.length = sops.length) (hA : AAll P W0 σ R (addA R 0 sops va env) 0 sops va) (hR : RAll P W0 sops (masks sops) Q R.length R (addA R 0 sops va env) σ) : AWP P W0 N (.draw sops) env σ Q :=
  AWP.drawX σ (.inr rfl) R (.inr hlate) va hm hok hR0 hR1 hl hA hR
end Go.Abs
