/-
  An abstract layer over the model: values as data, chunks of owned memory, what is immutable. Core definitions: how a datum stands for a value, what a list of chunks says of a world.
-/
import Derived.WalkKit
import Derived.KernelRfl
import Derived.Below
import Derived.Deep.Draws
set_option linter.unusedVariables false
set_option linter.unusedSimpArgs false
namespace Go.Abs
open Go

/-- A slice of the call's own: none yet, or a row of a block from a place on, with room for so many elements. -/
inductive Sl where
  | nil
  | at (b pre cap : Nat) (tt : TypeId)

def Sl.val : Sl → Nat → Value
  | .nil, n => .slice none n 0
  | .at b pre cap _, n => .slice (some ⟨b, pre, none⟩) n cap
def Sl.ptr : Sl → Nat → Value
  | .nil, _ => .pointer none
  | .at b pre _ _, n => .pointer (some ⟨b, pre + n, none⟩)
def Sl.blocks : Sl → List Nat
  | .nil => []
  | .at b _ _ _ => [b]

/-- A row of its own from its block's first cell on, of this type; or none yet. -/
def Sl.ty (e : TypeId) (n : Nat) : Sl → Prop
  | .nil => n = 0
  | .at _ pre cap t => pre = 0 ∧ t = e ∧ 0 < cap

/-- What stands for a value: the value itself; anything; an aggregate; immutable memory that is read through a slice or a pointer; a slice of the call's own. -/
inductive D where
  | v (x : Value)
  | any
  | agg (ds : List D)
  | tup (ds : List D)
  | ifc (t : TypeId) (d : D)
  | ro (esz : Nat) (els : List (List D)) (len : Nat)
  | rp (ds : List D)
  | sl (s : Sl) (len : Nat)
  | ep (s : Sl) (esz i j : Nat)

instance : Inhabited D := ⟨.any⟩

/-- 'd' stands for 'x', where the blocks of Z are immutable and the world is w. -/
inductive Rel (Z : Nat → Prop) (w : World) : D → Value → Prop
  | v (x : Value) : Rel Z w (.v x) x
  | any (x : Value) : Rel Z w .any x
  | agg {ds : List D} {vs : Array Value} (hl : ds.length = vs.size) (h : ∀ i d, ds[i]? = some d → Rel Z w d (vs.getD i undef)) : Rel Z w (.agg ds) (.agg vs)
  | tup {ds : List D} {vs : Array Value} (hl : ds.length = vs.size) (h : ∀ i d, ds[i]? = some d → Rel Z w d (vs.getD i undef)) : Rel Z w (.tup ds) (.tuple vs)
  | ifc {t : TypeId} {d : D} {x : Value} (h : Rel Z w d x) : Rel Z w (.ifc t d) (.iface t x)
  | ro {esz : Nat} {els : List (List D)} {len b off cap : Nat} (f : Nat → Nat → Value) (hb : Z b) (hl : len ≤ els.length) (hc : els.length ≤ cap)
      (he : ∀ (i : Nat) e, els[i]? = some e → e.length = esz)
      (hm : ∀ (i : Nat) e (j : Nat) d, els[i]? = some e → e[j]? = some d → w.cell? ⟨b, off + i * esz + j, none⟩ = some (f i j))
      (h : ∀ (i : Nat) e (j : Nat) d, els[i]? = some e → e[j]? = some d → Rel Z w d (f i j)) : Rel Z w (.ro esz els len) (.slice (some ⟨b, off, none⟩) len cap)
  | ronil {esz : Nat} (a : Option Addr) : Rel Z w (.ro esz [] 0) (.slice a 0 0)
  | rp {ds : List D} {b off : Nat} (f : Nat → Value) (hb : Z b) (hm : ∀ (j : Nat) d, ds[j]? = some d → w.cell? ⟨b, off + j, none⟩ = some (f j))
      (h : ∀ (j : Nat) d, ds[j]? = some d → Rel Z w d (f j)) : Rel Z w (.rp ds) (.pointer (some ⟨b, off, none⟩))
  | sl (s : Sl) (len : Nat) : Rel Z w (.sl s len) (s.val len)
  | ep (s : Sl) (esz i j : Nat) : Rel Z w (.ep s esz i j) (s.ptr (i * esz + j))

/-- How a world goes on: the streams stay, no block goes, what is immutable stays. -/
structure Evo (Z : Nat → Prop) (w w' : World) : Prop where
  os : w'.os = w.os
  tape : w'.tape = w.tape
  output : w'.output = w.output
  size : w.heap.size ≤ w'.heap.size
  block : ∀ b, Z b → w'.heap[b]? = w.heap[b]?

theorem Evo.refl {Z : Nat → Prop} {w : World} : Evo Z w w := ⟨rfl, rfl, rfl, Nat.le_refl _, fun _ _ => rfl⟩
theorem Evo.trans {Z Z' : Nat → Prop} {a b c : World} (h : Evo Z a b) (hz : ∀ x, Z x → Z' x) (k : Evo Z' b c) : Evo Z a c :=
  ⟨k.os.trans h.os, k.tape.trans h.tape, k.output.trans h.output, Nat.le_trans h.size k.size, fun i hi => (k.block i (hz i hi)).trans (h.block i hi)⟩
theorem Evo.weak {Z Z' : Nat → Prop} {a b : World} (h : Evo Z' a b) (hz : ∀ x, Z x → Z' x) : Evo Z a b :=
  ⟨h.os, h.tape, h.output, h.size, fun i hi => h.block i (hz i hi)⟩

theorem cell_of_block {w w' : World} {b o : Nat} (h : w'.heap[b]? = w.heap[b]?) : w'.cell? ⟨b, o, none⟩ = w.cell? ⟨b, o, none⟩ := by
  simp [World.cell?, h]

theorem Rel.mono {Z Z' : Nat → Prop} {w w' : World} (hz : ∀ x, Z x → Z' x) (he : ∀ b, Z b → w'.heap[b]? = w.heap[b]?) {d : D} {x : Value} (h : Rel Z w d x) : Rel Z' w' d x := by
  induction h with
  | v x => exact .v x
  | any x => exact .any x
  | agg hl _ ih => exact .agg hl ih
  | tup hl _ ih => exact .tup hl ih
  | ifc _ ih => exact .ifc ih
  | ro f hb hl hc hes hm _ ih => exact .ro f (hz _ hb) hl hc hes (fun i e j d h1 h2 => (cell_of_block (he _ hb)).trans (hm i e j d h1 h2)) ih
  | ronil a => exact .ronil a
  | rp f hb hm _ ih => exact .rp f (hz _ hb) (fun j d h1 => (cell_of_block (he _ hb)).trans (hm j d h1)) ih
  | sl s len => exact .sl s len
  | ep s e i j => exact .ep s e i j

/-- Owned memory: one block whole; a slice of the call's own with what its elements hold; an object. -/
inductive Chunk where
  | box (b : Nat) (t : TypeId) (cs : List D)
  | arr (s : Sl) (esz : Nat) (els : List (List D))
  | obj (b : Nat) (o : Obj)

def Chunk.blocks : Chunk → List Nat
  | .box b _ _ => [b]
  | .arr s _ _ => s.blocks
  | .obj b _ => [b]

/-- A block is a row of cells of this type, none of them frozen. -/
def rowT (w : World) (b : Nat) (t : TypeId) (c : Array Value) : Prop :=
  ∃ lo hi, w.heap[b]? = some (.cells c t (lo, hi)) ∧ ∀ o, o < c.size → ¬ (lo ≤ o ∧ o < hi)
def rowAt (w : World) (b : Nat) (c : Array Value) : Prop := ∃ t, rowT w b t c
theorem rowT.at {w : World} {b : Nat} {t : TypeId} {c : Array Value} (h : rowT w b t c) : rowAt w b c := ⟨t, h⟩

def Chunk.holds (Z : Nat → Prop) (w : World) : Chunk → Prop
  | .box b t cs => ∃ c, rowT w b t c ∧ c.size = cs.length ∧ ∀ i d, cs[i]? = some d → Rel Z w d (c.getD i undef)
  | .arr .nil _ els => els = []
  | .arr (.at b pre cap tt) esz els => ∃ c, rowT w b tt c ∧ pre + cap * esz ≤ c.size ∧ els.length ≤ cap ∧ (∀ (i : Nat) e, els[i]? = some e → e.length = esz) ∧
      ∀ (i : Nat) e (j : Nat) d, els[i]? = some e → e[j]? = some d → Rel Z w d (c.getD (pre + i * esz + j) undef)
  | .obj b o => w.heap[b]? = some o ∧ ∀ c t f, o ≠ .cells c t f

theorem rowT.of_block {w w' : World} {b : Nat} {t : TypeId} {c : Array Value} (h : rowT w b t c) (e : w'.heap[b]? = w.heap[b]?) : rowT w' b t c := by
  obtain ⟨lo, hi, h1, h2⟩ := h
  exact ⟨lo, hi, e.trans h1, h2⟩
theorem rowAt.of_block {w w' : World} {b : Nat} {c : Array Value} (h : rowAt w b c) (e : w'.heap[b]? = w.heap[b]?) : rowAt w' b c := by
  obtain ⟨t, h⟩ := h
  exact ⟨t, h.of_block e⟩

theorem Chunk.holds_mono {Z Z' : Nat → Prop} {w w' : World} {ch : Chunk} (h : ch.holds Z w) (hz : ∀ x, Z x → Z' x) (he : ∀ b, Z b → w'.heap[b]? = w.heap[b]?)
    (hb : ∀ b ∈ ch.blocks, w'.heap[b]? = w.heap[b]?) : ch.holds Z' w' := by
  cases ch with
  | box b t cs =>
    obtain ⟨c, h1, h2, h3⟩ := h
    exact ⟨c, h1.of_block (hb b (by simp [Chunk.blocks])), h2, fun i d hd => (h3 i d hd).mono hz he⟩
  | arr s esz els =>
    cases s with
    | nil => exact h
    | «at» b pre cap tt =>
      obtain ⟨c, h1, h2, h3, h4, h5⟩ := h
      exact ⟨c, h1.of_block (hb b (by simp [Chunk.blocks, Sl.blocks])), h2, h3, h4, fun i e j d he' hd => (h5 i e j d he' hd).mono hz he⟩
  | obj b o => exact ⟨(hb b (by simp [Chunk.blocks])).trans h.1, h.2⟩

theorem Chunk.lt_size {Z : Nat → Prop} {w : World} {ch : Chunk} (h : ch.holds Z w) {b : Nat} (hb : b ∈ ch.blocks) : b < w.heap.size := by
  have key : ∀ o, w.heap[b]? = some o → b < w.heap.size := fun o ho => by
    rcases Nat.lt_or_ge b w.heap.size with h | h
    · exact h
    · simp [Array.getElem?_eq_none h] at ho
  cases ch with
  | box b' t cs =>
    obtain ⟨c, ⟨lo, hi, h1, _⟩, _⟩ := h
    simp only [Chunk.blocks, List.mem_singleton] at hb
    subst hb; exact key _ h1
  | arr s esz els =>
    cases s with
    | nil => simp [Chunk.blocks, Sl.blocks] at hb
    | «at» b' pre cap tt =>
      obtain ⟨c, ⟨lo, hi, h1, _⟩, _⟩ := h
      simp only [Chunk.blocks, Sl.blocks, List.mem_singleton] at hb
      subst hb; exact key _ h1
  | obj b' o =>
    simp only [Chunk.blocks, List.mem_singleton] at hb
    subst hb; exact key _ h.1

def foot (L : List Chunk) : List Nat := L.flatMap Chunk.blocks

/-- What a list of chunks says of a world: they hold, apart from each other and from what is immutable. -/
structure St (Z : Nat → Prop) (L : List Chunk) (w : World) : Prop where
  nodup : (foot L).Nodup
  apart : ∀ b ∈ foot L, ¬ Z b
  holds : ∀ ch ∈ L, ch.holds Z w
  inh : ∀ b, Z b → b < w.heap.size

theorem mem_foot {L : List Chunk} {b : Nat} : b ∈ foot L ↔ ∃ ch ∈ L, b ∈ ch.blocks := by simp [foot]
theorem foot_append (L M : List Chunk) : foot (L ++ M) = foot L ++ foot M := by simp [foot]
theorem foot_cons (ch : Chunk) (L : List Chunk) : foot (ch :: L) = ch.blocks ++ foot L := by simp [foot]
@[simp] theorem foot_nil : foot [] = [] := rfl

theorem St.lt {Z : Nat → Prop} {L : List Chunk} {w : World} (h : St Z L w) {b : Nat} (hb : b ∈ foot L) : b < w.heap.size := by
  obtain ⟨ch, hc, hb⟩ := mem_foot.1 hb
  exact Chunk.lt_size (h.holds ch hc) hb

/-- The world went on and no chunk's block was touched. -/
theorem St.evo {Z Z' : Nat → Prop} {L : List Chunk} {w w' : World} (h : St Z L w) (hz : ∀ x, Z x → Z' x) (he : ∀ b, Z b → w'.heap[b]? = w.heap[b]?)
    (hb : ∀ b ∈ foot L, w'.heap[b]? = w.heap[b]?) (ha : ∀ b ∈ foot L, ¬ Z' b) (hi : ∀ b, Z' b → b < w'.heap.size) : St Z' L w' :=
  ⟨h.nodup, ha, fun ch hc => Chunk.holds_mono (h.holds ch hc) hz he fun b hb' => hb b (mem_foot.2 ⟨ch, hc, hb'⟩), hi⟩

theorem St.perm {Z : Nat → Prop} {L M : List Chunk} {w : World} (h : St Z L w) (p : L.Perm M) : St Z M w :=
  ⟨(List.Perm.nodup_iff (List.Perm.flatMap_right _ p)).1 h.nodup, fun b hb => h.apart b ((List.Perm.mem_iff (List.Perm.flatMap_right _ p)).2 hb), fun ch hc => h.holds ch ((List.Perm.mem_iff p).2 hc), h.inh⟩

theorem St.tail {Z : Nat → Prop} {ch : Chunk} {L : List Chunk} {w : World} (h : St Z (ch :: L) w) : St Z L w := by
  have hn := h.nodup
  rw [foot_cons] at hn
  exact ⟨(List.nodup_append.1 hn).2.1, fun b hb => h.apart b (by rw [foot_cons]; exact List.mem_append.2 (.inr hb)), fun c hc => h.holds c (List.mem_cons.2 (.inr hc)), h.inh⟩

theorem St.cons {Z : Nat → Prop} {ch : Chunk} {L : List Chunk} {w : World} (hc : ch.holds Z w) (h : St Z L w) (hn : ch.blocks.Nodup) (hd : ∀ b ∈ ch.blocks, b ∉ foot L) (ha : ∀ b ∈ ch.blocks, ¬ Z b) : St Z (ch :: L) w := by
  refine ⟨?_, ?_, ?_, h.inh⟩
  · rw [foot_cons]
    exact List.nodup_append.2 ⟨hn, h.nodup, fun a ha' b hb' e => hd a ha' (e ▸ hb')⟩
  · intro b hb
    rw [foot_cons] at hb
    rcases List.mem_append.1 hb with hb | hb
    · exact ha b hb
    · exact h.apart b hb
  · intro c hc'
    rcases List.mem_cons.1 hc' with rfl | hc'
    · exact hc
    · exact h.holds c hc'

theorem St.head {Z : Nat → Prop} {ch : Chunk} {L : List Chunk} {w : World} (h : St Z (ch :: L) w) :
    ch.holds Z w ∧ (∀ b ∈ ch.blocks, b ∉ foot L) ∧ ∀ b ∈ ch.blocks, ¬ Z b := by
  have hn := h.nodup
  rw [foot_cons] at hn
  refine ⟨h.holds ch (List.mem_cons.2 (.inl rfl)), fun b hb hb' => ?_, fun b hb => h.apart b (by rw [foot_cons]; exact List.mem_append.2 (.inl hb))⟩
  exact (List.nodup_append.1 hn).2.2 b hb b hb' rfl

/-- One chunk's block was rewritten (or its memory moved to new blocks): the others stay. -/
theorem St.put {Z : Nat → Prop} {ch ch' : Chunk} {L : List Chunk} {w w' : World} (h : St Z (ch :: L) w) (he : Evo Z w w')
    (hb : ∀ b, b < w.heap.size → b ∉ ch.blocks → w'.heap[b]? = w.heap[b]?) (hc : ch'.holds Z w') (hn : ch'.blocks.Nodup) (hf : ∀ b ∈ ch'.blocks, b ∈ ch.blocks ∨ (w.heap.size ≤ b ∧ ¬ Z b)) : St Z (ch' :: L) w' := by
  obtain ⟨h1, h2, h3⟩ := h.head
  have ht := h.tail
  refine St.cons hc (ht.evo (fun _ h => h) he.block (fun b hb' => hb b (ht.lt hb') fun hm => h2 b hm hb') ht.apart (fun b hz => Nat.lt_of_lt_of_le (h.inh b hz) he.size)) hn ?_ ?_
  · intro b hb' hm
    rcases hf b hb' with h | h
    · exact h2 b h hm
    · have := ht.lt hm; omega
  · intro b hb'
    rcases hf b hb' with h | h
    · exact h3 b h
    · exact h.2

theorem at_front {α : Type} {L : List α} {i : Nat} {x : α} (h : L[i]? = some x) (y : α) : L.Perm (x :: L.eraseIdx i) ∧ (L.set i y).Perm (y :: L.eraseIdx i) := by
  induction L generalizing i with
  | nil => simp at h
  | cons a l ih =>
    cases i with
    | zero => simp at h; subst h; exact ⟨by simp, by simp⟩
    | succ i =>
      simp only [List.getElem?_cons_succ] at h
      obtain ⟨p, q⟩ := ih h
      exact ⟨(p.cons a).trans (List.Perm.swap _ _ _), by simpa using (q.cons a).trans (List.Perm.swap _ _ _)⟩

/-- The chunk at a place of the list is changed: what 'St.put' says, at a place, with a frame behind. -/
theorem St.set {Z : Nat → Prop} {ch ch' : Chunk} {L F : List Chunk} {i : Nat} {w w' : World} (h : St Z (L ++ F) w) (hi : L[i]? = some ch) (he : Evo Z w w')
    (hb : ∀ b, b < w.heap.size → b ∉ ch.blocks → w'.heap[b]? = w.heap[b]?) (hc : ch'.holds Z w') (hn : ch'.blocks.Nodup) (hf : ∀ b ∈ ch'.blocks, b ∈ ch.blocks ∨ (w.heap.size ≤ b ∧ ¬ Z b)) : St Z (L.set i ch' ++ F) w' := by
  obtain ⟨p, q⟩ := at_front hi ch'
  have h1 : St Z (ch :: (L.eraseIdx i ++ F)) w := h.perm (by simpa using p.append_right F)
  exact (h1.put he hb hc hn hf).perm (by simpa using (q.append_right F).symm)

theorem St.get {Z : Nat → Prop} {ch : Chunk} {L F : List Chunk} {i : Nat} {w : World} (h : St Z (L ++ F) w) (hi : L[i]? = some ch) : ch.holds Z w :=
  h.holds ch (List.mem_append.2 (.inl (List.mem_of_getElem? hi)))
theorem St.get_apart {Z : Nat → Prop} {ch : Chunk} {L F : List Chunk} {i : Nat} {w : World} (h : St Z (L ++ F) w) (hi : L[i]? = some ch) {b : Nat} (hb : b ∈ ch.blocks) : ¬ Z b :=
  h.apart b (mem_foot.2 ⟨ch, List.mem_append.2 (.inl (List.mem_of_getElem? hi)), hb⟩)

/-- A new block. -/
theorem St.push {Z : Nat → Prop} {L F : List Chunk} {w w' : World} (h : St Z (L ++ F) w) (he : Evo Z w w') (hb : ∀ b, b < w.heap.size → w'.heap[b]? = w.heap[b]?) {ch : Chunk}
    (hc : ch.holds Z w') (hn : ch.blocks.Nodup) (hf : ∀ b ∈ ch.blocks, w.heap.size ≤ b ∧ ¬ Z b) : St Z ((ch :: L) ++ F) w' := by
  refine St.cons hc (h.evo (fun _ h => h) he.block (fun b hb' => hb b (h.lt hb')) h.apart (fun b hz => Nat.lt_of_lt_of_le (h.inh b hz) he.size)) hn ?_ ?_
  · intro b hb' hm
    have := h.lt hm
    have := (hf b hb').1
    omega
  · exact fun b hb' => (hf b hb').2

/-- What is forgotten is forgotten. -/
theorem St.drop {Z : Nat → Prop} {L F : List Chunk} {i : Nat} {w : World} (h : St Z (L ++ F) w) : St Z (L.eraseIdx i ++ F) w := by
  cases hi : L[i]? with
  | none => rw [List.eraseIdx_of_length_le (by simpa using List.getElem?_eq_none_iff.1 hi)]; exact h
  | some ch =>
    obtain ⟨p, _⟩ := at_front hi ch
    have h1 : St Z (ch :: (L.eraseIdx i ++ F)) w := h.perm (by simpa using p.append_right F)
    exact h1.tail

/-- What is no longer written becomes immutable. -/
theorem St.freeze {Z : Nat → Prop} {L F : List Chunk} {i : Nat} {ch : Chunk} {w : World} (h : St Z (L ++ F) w) (hi : L[i]? = some ch) :
    St (fun b => Z b ∨ b ∈ ch.blocks) (L.eraseIdx i ++ F) w := by
  obtain ⟨p, _⟩ := at_front hi ch
  have h1 : St Z (ch :: (L.eraseIdx i ++ F)) w := h.perm (by simpa using p.append_right F)
  obtain ⟨_, h2, _⟩ := h1.head
  refine h1.tail.evo (fun _ h => .inl h) (fun _ _ => rfl) (fun _ _ => rfl) (fun b hb => ?_) (fun b hb => ?_)
  · rintro (hz | hm)
    · exact h1.tail.apart b hb hz
    · exact h2 b hm hb
  · rcases hb with hz | hm
    · exact h.inh b hz
    · exact Chunk.lt_size (h.get hi) hm
end Go.Abs
