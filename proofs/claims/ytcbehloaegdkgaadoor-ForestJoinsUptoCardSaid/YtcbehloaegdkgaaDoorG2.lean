/- A forest, read off the row's arguments. -/
import Derived.Test.YtcbehloaegdkgaaDoorE
import Derived.Test.YtcbehloaegdkgaaDoorA22
import Derived.Test.YtcbehloaegdkgaaDoorRows
set_option linter.unusedVariables false
set_option linter.unusedSimpArgs false
namespace Go.Proofs.YtcbehloaegdkgaaDoor
open Go Go.Abs

theorem upto_all {H : Type} (ds : List (DataW H)) : Rows.uptoBulkAll ds = (ds.map Rows.uptoBulk).sum := by
  induction ds with
  | nil => rfl
  | cons d r ih => simp only [Rows.uptoBulkAll, List.map_cons, List.sum_cons, ih]
theorem bulkA_sum (xs : List Attr) : bulkA xs = (xs.map fun a => 1 + a.name.size + a.value.size).sum := by
  induction xs with
  | nil => rfl
  | cons x r ih => simp only [bulkA, List.map_cons, List.sum_cons, ih]
theorem bulk_sum (ts : List Tree) : bulk ts = (ts.map bulkT).sum := by
  induction ts with
  | nil => rfl
  | cons x r ih => simp only [bulk, List.map_cons, List.sum_cons, ih]
theorem k9 : Tryd.prog.cellsOf 9 = 1 := by kernel_rfl
theorem k22 : Tryd.prog.cellsOf 22 = 1 := by kernel_rfl
theorem k35 : Tryd.prog.cellsOf 35 = 1 := by kernel_rfl
theorem k37 : Tryd.prog.cellsOf 37 = 4 := by kernel_rfl
theorem k54 : Tryd.prog.cellsOf 54 = 2 := by kernel_rfl

theorem upto_string {H : Type} (s : ByteArray) : Rows.uptoBulk (H := H) (.lit (.string s.data.toList)) = s.size + 1 := rfl

theorem attr_data {H : Type} {n : Nat} {d : DataW H} (h : hasType Tryd.prog n 54 d) : ∃ a : Attr, toDs Tryd.prog n 54 d = encAttr a ∧ 1 + a.name.size + a.value.size ≤ Rows.uptoBulk d := by
  obtain ⟨m, parts, rfl, rfl, hl, hp, hD⟩ := struct_data Tryd.underlying54 h
  match parts, hl with
  | [p0, p1], _ =>
    obtain ⟨s0, rfl, e0⟩ := str_data Tryd.underlying9 (hp 0 _ _ rfl rfl)
    obtain ⟨s1, rfl, e1⟩ := str_data Tryd.underlying9 (hp 1 _ _ rfl rfl)
    refine ⟨⟨s0, s1⟩, ?_, ?_⟩
    · rw [hD, k54]
      simp [List.range_succ, cellAt, k9, e0, e1, encAttr]
    · simp only [Rows.uptoBulk, Rows.uptoBulkAll, upto_string]; simp only [Array.length_toList]; show 1 + s0.size + s1.size ≤ _; simp only [ByteArray.size_data] ; omega

theorem attrs_data {H : Type} {n : Nat} {d : DataW H} (h : hasType Tryd.prog n 35 d) : ∃ xs : List Attr, toDs Tryd.prog n 35 d = [dAttrs false xs] ∧ bulkA xs ≤ Rows.uptoBulk d := by
  obtain ⟨m, elems, spare, rfl, hd, hel, hD⟩ := slice_data Tryd.underlying35 (by rw [k54]; decide) h
  obtain ⟨xs, h1, h2, h3⟩ := list_data (bk := Rows.uptoBulk) fun x hx => attr_data (hel x hx)
  refine ⟨xs, ?_, ?_⟩
  · rw [hD, h1, k54, ← h3]; simp [dAttrs, encL, roomA]
  · rw [bulkA_sum]
    rcases hd with ⟨rfl, rfl⟩ | rfl
    · simp at h3; subst h3; simp
    · simp only [Rows.uptoBulk, upto_all]; omega

theorem trees_data {H : Type} : ∀ (n : Nat) (d : DataW H), hasType Tryd.prog n 22 d → ∃ ts : List Tree, toDs Tryd.prog n 22 d = [dTrees false ts] ∧ bulk ts + 1 ≤ Rows.uptoBulk d := by
  intro n
  induction n using Nat.strongRecOn with
  | _ n ih =>
    intro d h
    obtain ⟨m, elems, spare, rfl, hd, hel, hD⟩ := slice_data Tryd.underlying22 (by rw [k37]; decide) h
    have htree : ∀ x ∈ elems, ∃ t : Tree, toDs Tryd.prog m 37 x = encTree false t ∧ bulkT t ≤ Rows.uptoBulk x := by
      intro x hx
      obtain ⟨k, parts, rfl, rfl, hl, hp, hX⟩ := struct_data Tryd.underlying37 (hel x hx)
      match parts, hl with
      | [p0, p1, p2, p3], _ =>
        obtain ⟨s0, rfl, e0⟩ := str_data Tryd.underlying9 (hp 0 _ _ rfl rfl)
        obtain ⟨s1, rfl, e1⟩ := str_data Tryd.underlying9 (hp 1 _ _ rfl rfl)
        obtain ⟨xs, e2, b2⟩ := attrs_data (hp 2 _ _ rfl rfl)
        obtain ⟨ts, e3, b3⟩ := ih k (by omega) p3 (hp 3 _ _ rfl rfl)
        refine ⟨⟨s0, s1, xs, ts⟩, ?_, ?_⟩
        · rw [hX, k37, encTree_eq]
          simp [List.range_succ, cellAt, k9, k35, k22, e0, e1, e2, e3, Tree.tag, Tree.text, Tree.attrs, Tree.kids]
        · rw [bulkT_eq]
          simp only [Rows.uptoBulk, Rows.uptoBulkAll, Tree.tag, Tree.text, Tree.attrs, Tree.kids]
          have u0 : s0.data.toList.length = s0.size := rfl
          have u1 : s1.data.toList.length = s1.size := rfl
          omega
    obtain ⟨ts, h1, h2, h3⟩ := list_data (bk := Rows.uptoBulk) htree
    refine ⟨ts, ?_, ?_⟩
    · rw [hD, h1, k37, ← h3]; simp [dTrees, encL, roomT]
    · rw [bulk_sum]
      rcases hd with ⟨rfl, rfl⟩ | rfl
      · simp at h3; subst h3; simp [Rows.uptoBulk]
      · simp only [Rows.uptoBulk, upto_all]; omega
end Go.Proofs.YtcbehloaegdkgaaDoor
