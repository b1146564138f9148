/- The data of package api as lists, and how they stand in memory. -/
import Derived.Test.YtcbehloaegdkgaaDoorC
import Derived.Test.YtcbehloaegdkgaaDoorA23
set_option linter.unusedVariables false
set_option linter.unusedSimpArgs false
namespace Go.Proofs.YtcbehloaegdkgaaDoor
open Go Go.Abs

/-- Elements, and what is known behind them. -/
def encL {α : Type} (f : α → List D) (room : List (List D)) (xs : List α) : List (List D) := xs.map f ++ room
theorem encL_get {α : Type} {f : α → List D} {room : List (List D)} {xs : List α} {k : Nat} {x : α} (h : xs[k]? = some x) : (encL f room xs)[((k : Nat) : Int).toNat]? = some (f x) := by
  have := (List.getElem?_eq_some_iff.1 h).1
  simp only [Int.toNat_natCast, encL]
  rw [List.getElem?_append_left (by simpa using this), List.getElem?_map, h]; rfl

structure Attr where
  name : ByteArray
  value : ByteArray
  deriving DecidableEq

def encAttr (a : Attr) : List D := [.v (.string a.name), .v (.string a.value)]
def str (l : List UInt8) : ByteArray := ⟨l.toArray⟩
def roomStr : ByteArray := ⟨#[126, 114, 111, 111, 109]⟩
def noStr : ByteArray := ⟨#[]⟩
def roomA : Bool → List (List D)
  | true => [[.v (.string roomStr), .v (.string noStr)], [.v (.string roomStr), .v (.string noStr)]]
  | false => []
def dAttrs (r : Bool) (xs : List Attr) : D := .ro 2 (encL encAttr (roomA r) xs) xs.length

/-- A node of a forest. -/
inductive Tree where
  | mk (tag text : ByteArray) (attrs : List Attr) (kids : List Tree)
namespace Tree
def tag : Tree → ByteArray | mk a _ _ _ => a
def text : Tree → ByteArray | mk _ a _ _ => a
def attrs : Tree → List Attr | mk _ _ a _ => a
def kids : Tree → List Tree | mk _ _ _ a => a
end Tree
noncomputable instance : DecidableEq Tree := fun _ _ => Classical.propDecidable _
theorem Tree.ext {t u : Tree} (h1 : t.tag = u.tag) (h2 : t.text = u.text) (h3 : t.attrs = u.attrs) (h4 : t.kids = u.kids) : t = u := by
  cases t; cases u; simp only [Tree.tag, Tree.text, Tree.attrs, Tree.kids] at h1 h2 h3 h4; subst h1 h2 h3 h4; rfl

def roomTree : List D := [.v (.string roomStr), .v (.string noStr), .ro 2 [] 0, .ro 4 [] 0]
def roomT : Bool → List (List D)
  | true => [roomTree, roomTree]
  | false => []
mutual
def encTree (r : Bool) : Tree → List D
  | .mk a b c ks => [.v (.string a), .v (.string b), dAttrs r c, .ro 4 (encTrees r ks ++ roomT r) ks.length]
def encTrees (r : Bool) : List Tree → List (List D)
  | [] => []
  | t :: ts => encTree r t :: encTrees r ts
end
theorem encTrees_map (r : Bool) (ts : List Tree) : encTrees r ts = ts.map (encTree r) := by
  induction ts with
  | nil => rfl
  | cons t ts ih => simp only [encTrees, List.map_cons, ih]
def dTrees (r : Bool) (ts : List Tree) : D := .ro 4 (encL (encTree r) (roomT r) ts) ts.length
theorem encTree_eq (r : Bool) (t : Tree) : encTree r t = [.v (.string t.tag), .v (.string t.text), dAttrs r t.attrs, dTrees r t.kids] := by
  cases t; simp only [encTree, Tree.tag, Tree.text, Tree.attrs, Tree.kids, dTrees, encL, encTrees_map]
theorem encT_get {r : Bool} {ts : List Tree} {k : Nat} {t : Tree} (h : ts[k]? = some t) :
    (encL (encTree r) (roomT r) ts)[((k : Nat) : Int).toNat]? = some [.v (.string t.tag), .v (.string t.text), dAttrs r t.attrs, dTrees r t.kids] := by
  rw [encL_get h, encTree_eq]

/-- How much a list of trees holds. -/
def bulkA : List Attr → Nat
  | [] => 0
  | a :: r => 1 + a.name.size + a.value.size + bulkA r
mutual
def bulkT : Tree → Nat
  | .mk a b c ks => 1 + a.size + b.size + bulkA c + bulk ks
def bulk : List Tree → Nat
  | [] => 0
  | t :: ts => bulkT t + bulk ts
end
theorem bulkT_eq (t : Tree) : bulkT t = 1 + t.tag.size + t.text.size + bulkA t.attrs + bulk t.kids := by cases t; rfl
theorem bulk_get {ts : List Tree} {k : Nat} {t : Tree} (h : ts[k]? = some t) : bulkT t ≤ bulk ts := by
  induction ts generalizing k with
  | nil => simp at h
  | cons u us ih =>
    cases k with
    | zero => simp at h; subst h; simp only [bulk]; omega
    | succ k => have := ih (by simpa using h); simp only [bulk]; omega
theorem length_bulk (ts : List Tree) : ts.length ≤ bulk ts := by
  induction ts with
  | nil => simp
  | cons t ts ih => have := bulkT_eq t; simp only [bulk, List.length_cons]; omega
theorem length_bulkA (xs : List Attr) : xs.length ≤ bulkA xs := by
  induction xs with
  | nil => simp
  | cons x xs ih => simp only [bulkA, List.length_cons]; omega
theorem kids_bulk {ts : List Tree} {k : Nat} {t : Tree} (h : ts[k]? = some t) : bulk t.kids < bulk ts := by
  have := bulk_get h; have := bulkT_eq t; omega
theorem attrs_bulk {ts : List Tree} {k : Nat} {t : Tree} (h : ts[k]? = some t) : bulkA t.attrs < bulk ts := by
  have := bulk_get h; have := bulkT_eq t; omega
theorem bulkA_get {xs : List Attr} {k : Nat} {a : Attr} (h : xs[k]? = some a) : 1 + a.name.size + a.value.size ≤ bulkA xs := by
  induction xs generalizing k with
  | nil => simp at h
  | cons u us ih =>
    cases k with
    | zero => simp at h; subst h; simp only [bulkA]; omega
    | succ k => have := ih (by simpa using h); simp only [bulkA]; omega
theorem bulk_append (xs ys : List Tree) : bulk (xs ++ ys) = bulk xs + bulk ys := by
  induction xs with
  | nil => simp [bulk]
  | cons x xs ih => simp only [List.cons_append, bulk, ih]; omega

theorem Sub.of_eq {d e : D} (h : d = e) : Sub d e := h ▸ Sub.refl d
theorem roomA_len (r : Bool) : ∀ e ∈ roomA r, e.length = 2 ∧ allCell e = true := by cases r <;> simp [roomA] <;> decide
theorem encAttr_len (xs : List Attr) : ∀ e ∈ xs.map encAttr, e.length = 2 ∧ allCell e = true := by
  intro e he
  obtain ⟨a, _, rfl⟩ := List.mem_map.1 he
  exact ⟨rfl, rfl⟩
theorem encTree_len (r : Bool) (ts : List Tree) : ∀ e ∈ ts.map (encTree r), e.length = 4 ∧ allCell e = true := by
  intro e he
  obtain ⟨a, _, rfl⟩ := List.mem_map.1 he
  rw [encTree_eq]
  exact ⟨rfl, rfl⟩
theorem encL_take {α : Type} {f : α → List D} {room : List (List D)} {xs : List α} : (encL f room xs).take xs.length = xs.map f := by
  simp [encL]
theorem take_enc {α : Type} {f : α → List D} {xs : List α} {k : Nat} {x : α} (h : xs[k]? = some x) : List.take k ((xs.take k).map f) ++ [f x] = (xs.take (k + 1)).map f := by
  rw [List.take_of_length_le (by simp; omega), List.take_add_one, h, List.map_append]; rfl
theorem encTree_one (r : Bool) (t : Tree) : ∀ e ∈ [encTree r t], e.length = 4 ∧ allCell e = true := fun e he => encTree_len r [t] e he
theorem get_lt {α : Type} {xs : List α} {k : Nat} (h : k < xs.length) : ∃ x, xs[k]? = some x := ⟨_, List.getElem?_eq_getElem h⟩
end Go.Proofs.YtcbehloaegdkgaaDoor
