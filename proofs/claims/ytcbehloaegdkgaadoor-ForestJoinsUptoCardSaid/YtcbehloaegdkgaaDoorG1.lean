/- The plain law: what is counted in a forest, what its Html is. -/
import Derived.Test.YtcbehloaegdkgaaDoorF12
set_option linter.unusedVariables false
set_option linter.unusedSimpArgs false
namespace Go.Proofs.YtcbehloaegdkgaaDoor
open Go Go.Abs

mutual
/-- The document's look at a node: so many nodes ahead, so deep; how many then, and the first fault. -/
def lookT : Tree → Nat → Nat → Nat × Nat
  | .mk a b c ks, m, d => if m ≥ 4096 then (m, 702) else if d > 64 then (m, 701) else if nodeOk (.mk a b c ks) = false then (m, 700) else lookL ks (m + 1) (d + 1)
def lookL : List Tree → Nat → Nat → Nat × Nat
  | [], m, _ => (m, 0)
  | t :: ts, m, d => if (lookT t m d).2 ≠ 0 then lookT t m d else lookL ts (lookT t m d).1 d
end
mutual
def deepT : Tree → Nat
  | .mk _ _ _ ks => 1 + deepL ks
def deepL : List Tree → Nat
  | [] => 0
  | t :: ts => max (deepT t) (deepL ts)
end
mutual
def nodesT : Tree → Nat
  | .mk _ _ _ ks => 1 + nodesL ks
def nodesL : List Tree → Nat
  | [] => 0
  | t :: ts => nodesT t + nodesL ts
end
mutual
def fineT : Tree → Prop
  | .mk a b c ks => nodeOk (.mk a b c ks) = true ∧ fineL ks
def fineL : List Tree → Prop
  | [] => True
  | t :: ts => fineT t ∧ fineL ts
end
def attrHtml (a : Attr) : List UInt8 := 32 :: (a.name.data.toList ++ [61, 34] ++ esc true a.value.data.toList ++ [34])
mutual
def htmlT : Tree → List UInt8
  | .mk a b c ks => if a = ⟨#[]⟩ then esc false b.data.toList else 60 :: (a.data.toList ++ c.flatMap attrHtml ++ [62] ++ htmlL ks ++ [60, 47] ++ a.data.toList ++ [62])
def htmlL : List Tree → List UInt8
  | [] => []
  | t :: ts => htmlT t ++ htmlL ts
end
theorem lookT_eq (t : Tree) (m d : Nat) : lookT t m d = if m ≥ 4096 then (m, 702) else if d > 64 then (m, 701) else if nodeOk t = false then (m, 700) else lookL t.kids (m + 1) (d + 1) := by cases t; rfl
theorem deepT_eq (t : Tree) : deepT t = 1 + deepL t.kids := by cases t; rfl
theorem nodesT_eq (t : Tree) : nodesT t = 1 + nodesL t.kids := by cases t; rfl
theorem fineT_eq (t : Tree) : fineT t = (nodeOk t = true ∧ fineL t.kids) := by cases t; rfl
theorem htmlT_eq (t : Tree) : htmlT t = if t.tag = ⟨#[]⟩ then esc false t.text.data.toList else 60 :: (t.tag.data.toList ++ t.attrs.flatMap attrHtml ++ [62] ++ htmlL t.kids ++ [60, 47] ++ t.tag.data.toList ++ [62]) := by cases t; rfl

/-- What is told of a forest. -/
def checkF (fs : List Tree) : Nat := (lookL fs 0 1).2
def countF (fs : List Tree) : Nat := if checkF fs = 0 then (lookL fs 0 1).1 else 0
def depthF (fs : List Tree) : Nat := if checkF fs = 0 then deepL fs else 0
def htmlF (fs : List Tree) : ByteArray := if checkF fs = 0 then ⟨(htmlL fs).toArray⟩ else ⟨#[]⟩

theorem lookL_le (n : Nat) : ∀ (fs : List Tree) (m d : Nat), bulk fs ≤ n → m ≤ 4096 → (lookL fs m d).1 ≤ 4096 := by
  induction n using Nat.strongRecOn with
  | _ n ih =>
    intro fs
    induction fs with
    | nil => intro m d _ hm; exact hm
    | cons t ts ihs =>
      intro m d hb hm
      simp only [bulk, bulkT_eq] at hb
      have h1 : (lookT t m d).1 ≤ 4096 := by
        rw [lookT_eq]
        split
        · exact hm
        · split
          · exact hm
          · split
            · exact hm
            · exact ih (bulk t.kids) (by omega) t.kids _ _ (Nat.le_refl _) (by omega)
      simp only [lookL]
      split
      · exact h1
      · exact ihs _ _ (by omega) h1

/-- Where all is fine, the look counts; too deep: it says so. -/
theorem lookL_fine (n : Nat) : ∀ (fs : List Tree) (m d : Nat), bulk fs ≤ n → 1 ≤ d → fineL fs → m + nodesL fs ≤ 4096 → (d - 1 + deepL fs ≤ 64 → lookL fs m d = (m + nodesL fs, 0)) ∧ (64 < d - 1 + deepL fs → 0 < deepL fs → (lookL fs m d).2 = 701) := by
  induction n using Nat.strongRecOn with
  | _ n ih =>
    intro fs
    induction fs with
    | nil => intro m d _ _ _ _; exact ⟨fun _ => rfl, fun _ h => absurd h (Nat.lt_irrefl _)⟩
    | cons t ts ihs =>
      intro m d hb hd hf hm
      simp only [bulk, bulkT_eq] at hb
      simp only [fineL, fineT_eq] at hf
      simp only [nodesL, nodesT_eq] at hm
      simp only [deepL, deepT_eq, lookL, nodesL, nodesT_eq]
      obtain ⟨⟨hn, hk⟩, hts⟩ := hf
      obtain ⟨k1, k2⟩ := ih (bulk t.kids) (by omega) t.kids (m + 1) (d + 1) (Nat.le_refl _) (by omega) hk (by omega)
      have hlook : lookT t m d = if d > 64 then (m, 701) else lookL t.kids (m + 1) (d + 1) := by rw [lookT_eq, if_neg (by omega)]; split; · rfl
                                                                                                 rw [hn]; rfl
      by_cases h1 : d > 64
      · rw [hlook, if_pos h1]
        exact ⟨fun h => by omega, fun _ _ => by simp⟩
      · rw [hlook, if_neg h1]
        by_cases h2 : d + deepL t.kids ≤ 64
        · rw [k1 (by omega)]
          obtain ⟨g1, g2⟩ := ihs (m + 1 + nodesL t.kids) d (by omega) hd hts (by omega)
          simp only [ne_eq, not_true, if_false]
          refine ⟨fun h => ?_, fun h _ => g2 (by omega) (by omega)⟩
          rw [g1 (by omega)]
          congr 1; omega
        · have := k2 (by omega) (by omega)
          refine ⟨fun h => by omega, fun _ _ => ?_⟩
          rw [this]; simp [this]

/-- Where the look finds no fault, all is fine. -/
theorem lookL_zero (n : Nat) : ∀ (fs : List Tree) (m d : Nat), bulk fs ≤ n → 1 ≤ d → m ≤ 4096 → (lookL fs m d).2 = 0 → fineL fs ∧ m + nodesL fs ≤ 4096 ∧ (0 < deepL fs → d - 1 + deepL fs ≤ 64) := by
  induction n using Nat.strongRecOn with
  | _ n ih =>
    intro fs
    induction fs with
    | nil => intro m d _ _ hm _; exact ⟨trivial, hm, fun h => absurd h (Nat.lt_irrefl _)⟩
    | cons t ts ihs =>
      intro m d hb hd hm h
      simp only [bulk, bulkT_eq] at hb
      simp only [lookL] at h
      split at h
      · rename_i hne; exact absurd h hne
      · rename_i he
        have he : (lookT t m d).2 = 0 := by simpa using he
        rw [lookT_eq] at he
        split at he
        · cases he
        · split at he
          · cases he
          · split at he
            · cases he
            · rename_i h1 h2 h3
              have hn : nodeOk t = true := by simpa using h3
              obtain ⟨g1, g2, g3⟩ := ih (bulk t.kids) (by omega) t.kids (m + 1) (d + 1) (Nat.le_refl _) (by omega) (by omega) he
              have hdl : d + deepL t.kids ≤ 64 := by
                rcases Nat.eq_zero_or_pos (deepL t.kids) with h0 | h0
                · omega
                · have := g3 h0; omega
              have hl := (lookL_fine (bulk t.kids) t.kids (m + 1) (d + 1) (Nat.le_refl _) (by omega) g1 g2).1 (by omega)
              rw [show lookT t m d = (m + 1 + nodesL t.kids, 0) by rw [lookT_eq, if_neg h1, if_neg h2, if_neg h3, hl]] at h
              obtain ⟨k1, k2, k3⟩ := ihs (m + 1 + nodesL t.kids) d (by omega) hd g2 h
              simp only [fineL, fineT_eq, nodesL, nodesT_eq, deepL, deepT_eq]
              refine ⟨⟨⟨hn, g1⟩, k1⟩, by omega, fun _ => ?_⟩
              rcases Nat.eq_zero_or_pos (deepL ts) with h0 | h0
              · omega
              · have := k3 h0; omega

theorem deepL_append (a b : List Tree) : deepL (a ++ b) = max (deepL a) (deepL b) := by
  induction a with
  | nil => simp [deepL]
  | cons t ts ih => simp only [List.cons_append, deepL, ih]; omega
theorem nodesL_append (a b : List Tree) : nodesL (a ++ b) = nodesL a + nodesL b := by
  induction a with
  | nil => simp [nodesL]
  | cons t ts ih => simp only [List.cons_append, nodesL, ih]; omega
theorem fineL_append {a b : List Tree} (ha : fineL a) (hb : fineL b) : fineL (a ++ b) := by
  induction a with
  | nil => exact hb
  | cons t ts ih => exact ⟨ha.1, ih ha.2⟩
theorem htmlL_append (a b : List Tree) : htmlL (a ++ b) = htmlL a ++ htmlL b := by
  induction a with
  | nil => rfl
  | cons t ts ih => simp only [List.cons_append, htmlL, ih, List.append_assoc]
theorem deepL_le (n : Nat) : ∀ fs : List Tree, bulk fs ≤ n → deepL fs ≤ bulk fs := by
  induction n using Nat.strongRecOn with
  | _ n ih =>
    intro fs
    induction fs with
    | nil => intro _; exact Nat.zero_le _
    | cons t ts ihs =>
      intro hb
      simp only [bulk, bulkT_eq] at hb
      have h1 := ih (bulk t.kids) (by omega) t.kids (Nat.le_refl _)
      have h2 := ihs (by omega)
      simp only [deepL, deepT_eq, bulk, bulkT_eq]; omega

/-- A forest that may be, in numbers. -/
theorem check_zero {fs : List Tree} (h : checkF fs = 0) : fineL fs ∧ nodesL fs ≤ 4096 ∧ deepL fs ≤ 64 ∧ countF fs = nodesL fs ∧ depthF fs = deepL fs := by
  obtain ⟨h1, h2, h3⟩ := lookL_zero (bulk fs) fs 0 1 (Nat.le_refl _) (by omega) (by omega) h
  have hd : deepL fs ≤ 64 := by
    rcases Nat.eq_zero_or_pos (deepL fs) with h0 | h0
    · omega
    · have := h3 h0; omega
  refine ⟨h1, by omega, hd, ?_, by unfold depthF; rw [if_pos h]⟩
  unfold countF
  rw [if_pos h, (lookL_fine (bulk fs) fs 0 1 (Nat.le_refl _) (by omega) h1 h2).1 (by omega)]
  simp
theorem check_fine {fs : List Tree} (h1 : fineL fs) (h2 : nodesL fs ≤ 4096) (h3 : deepL fs ≤ 64) : checkF fs = 0 := by
  unfold checkF
  rw [(lookL_fine (bulk fs) fs 0 1 (Nat.le_refl _) (by omega) h1 (by omega)).1 (by omega)]
theorem check_deep {fs : List Tree} (h1 : fineL fs) (h2 : nodesL fs ≤ 4096) (h3 : 64 < deepL fs) : checkF fs = 701 :=
  (lookL_fine (bulk fs) fs 0 1 (Nat.le_refl _) (by omega) h1 (by omega)).2 (by omega) (by omega)
end Go.Proofs.YtcbehloaegdkgaaDoor
