/- Texts: what is UTF-8, as the document has it, and as the decoder has it. -/
import Derived.Test.YtcbehloaegdkgaaDoorF9
import Derived.Test.YtcbehloaegdkgaaDoorU
import Derived.Test.YtcbehloaegdkgaaDoorA16
import Derived.Lib.DecodeN
set_option linter.unusedVariables false
set_option linter.unusedSimpArgs false
namespace Go.Proofs.YtcbehloaegdkgaaDoor
open Go Go.Abs

/-- The byte at a place; 0 where there is none. -/
def byte (s : ByteArray) (i : Nat) : Nat := (s.data.toList.getD i 0).toNat
theorem byte_lt (s : ByteArray) (i : Nat) : byte s i < 256 := (s.data.toList.getD i 0).toNat_lt
theorem get!_byte (s : ByteArray) (i : Nat) : (s.get! i).toNat = byte s i := by
  unfold byte
  rw [List.getD_eq_getElem?_getD, Array.getElem?_toList]
  show (s.data[i]!).toNat = _
  rw [getElem!_def]
  cases s.data[i]? <;> rfl

/-- How many bytes a character has: so many bytes stand there, these are the first four. -/
def clenN (n b0 b1 b2 b3 : Nat) : Nat :=
  if b0 < 128 then 1
  else if (194 ≤ b0 ∧ b0 < 224) ∧ (1 < n ∧ 128 ≤ b1 ∧ b1 < 192) then 2
  else if (224 ≤ b0 ∧ b0 < 240) ∧ (1 < n ∧ 128 ≤ b1 ∧ b1 < 192) ∧ (2 < n ∧ 128 ≤ b2 ∧ b2 < 192) then (if (b0 = 224 ∧ b1 < 160) ∨ (b0 = 237 ∧ b1 ≥ 160) then 0 else 3)
  else if (240 ≤ b0 ∧ b0 < 245) ∧ (1 < n ∧ 128 ≤ b1 ∧ b1 < 192) ∧ (2 < n ∧ 128 ≤ b2 ∧ b2 < 192) ∧ (3 < n ∧ 128 ≤ b3 ∧ b3 < 192) then (if (b0 = 240 ∧ b1 < 144) ∨ (b0 = 244 ∧ b1 ≥ 144) then 0 else 4)
  else 0
def clen (s : ByteArray) (i : Nat) : Nat := clenN (s.size - i) (byte s i) (byte s (i + 1)) (byte s (i + 2)) (byte s (i + 3))

theorem clenN_le (n b0 b1 b2 b3 : Nat) (hn : 0 < n) : clenN n b0 b1 b2 b3 ≤ n := by
  unfold clenN
  repeat' split
  all_goals omega

set_option maxHeartbeats 4000000 in
theorem clenN_decode (n b0 b1 b2 b3 : Nat) (h0 : b0 < 256) (h1 : b1 < 256) (h2 : b2 < 256) (h3 : b3 < 256) :
    (clenN n b0 b1 b2 b3 = 0 ∧ (Lib.decodeN n b0 b1 b2 b3).1 = 65533 ∧ (Lib.decodeN n b0 b1 b2 b3).2 = 1) ∨
    (clenN n b0 b1 b2 b3 ≠ 0 ∧ (Lib.decodeN n b0 b1 b2 b3).2 = clenN n b0 b1 b2 b3 ∧ ((Lib.decodeN n b0 b1 b2 b3).1 ≠ 65533 ∨ (Lib.decodeN n b0 b1 b2 b3).2 ≠ 1)) := by
  unfold clenN Lib.decodeN
  repeat' split
  all_goals first | omega | (simp; try omega)

def badFrom (s : ByteArray) (i : Nat) : Option Nat :=
  if i < s.size then (if clen s i = 0 then some i else badFrom s (i + clen s i)) else none
termination_by s.size - i
decreasing_by omega

/-- Is a text UTF-8, of at most so many bytes? -/
def textOk (s : ByteArray) : Bool := (badFrom s 0).isNone && decide (s.size ≤ 4096)
end Go.Proofs.YtcbehloaegdkgaaDoor
