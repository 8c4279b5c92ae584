/- The JSON reader, plainly: one model that both sides are held against. No program in sight. -/
import Derived.Test.YtlpgkpaogadolaaDoorTextPlain
namespace Go.Proofs.YtlpgkpaogadolaaDoor
open Go.RowKit

/-- The byte at a place; -1 at the end. -/
def pk (s : ByteArray) (i : Nat) : Int := if i < s.size then bAt s i else -1
theorem pk_in {s : ByteArray} {i : Nat} (h : i < s.size) : pk s i = bAt s i := if_pos h
theorem pk_out {s : ByteArray} {i : Nat} (h : ¬ i < s.size) : pk s i = -1 := if_neg h
theorem pk_range (s : ByteArray) (i : Nat) : -1 ≤ pk s i ∧ pk s i ≤ 255 := by
  have := bAt_range s i
  unfold pk
  split <;> omega
theorem pk_lt {s : ByteArray} {i : Nat} (h : 0 ≤ pk s i) : i < s.size := by
  unfold pk at h
  split at h
  · assumption
  · omega
def isBlankC (c : Int) : Prop := c = 32 ∨ c = 9 ∨ c = 10 ∨ c = 13
instance (c : Int) : Decidable (isBlankC c) := by unfold isBlankC; infer_instance
def isDigC (c : Int) : Prop := 48 ≤ c ∧ c ≤ 57
instance (c : Int) : Decidable (isDigC c) := by unfold isDigC; infer_instance
/-- Behind the blanks from a place on. -/
def skipN (s : ByteArray) : Nat → Nat → Nat
  | 0, i => i
  | f + 1, i => if isBlankC (pk s i) then skipN s f (i + 1) else i
def skipB (s : ByteArray) (i : Nat) : Nat := skipN s (s.size - i) i
/-- Behind the digits from a place on. -/
def digN (s : ByteArray) : Nat → Nat → Nat
  | 0, i => i
  | f + 1, i => if isDigC (pk s i) then digN s f (i + 1) else i
def digE (s : ByteArray) (i : Nat) : Nat := digN s (s.size - i) i
theorem blank_lt {s : ByteArray} {i : Nat} (h : isBlankC (pk s i)) : i < s.size := pk_lt (by unfold isBlankC at h; omega)
theorem dig_lt {s : ByteArray} {i : Nat} (h : isDigC (pk s i)) : i < s.size := pk_lt (by unfold isDigC at h; omega)
theorem skipB_yes {s : ByteArray} {i : Nat} (h : isBlankC (pk s i)) : skipB s i = skipB s (i + 1) := by
  have := blank_lt h
  unfold skipB
  obtain ⟨k, hk⟩ : ∃ k, s.size - i = k + 1 := ⟨s.size - i - 1, by omega⟩
  rw [hk, show s.size - (i + 1) = k by omega]
  exact if_pos h
theorem skipB_no {s : ByteArray} {i : Nat} (h : ¬ isBlankC (pk s i)) : skipB s i = i := by
  unfold skipB
  cases s.size - i with
  | zero => rfl
  | succ k => exact if_neg h
theorem digE_yes {s : ByteArray} {i : Nat} (h : isDigC (pk s i)) : digE s i = digE s (i + 1) := by
  have := dig_lt h
  unfold digE
  obtain ⟨k, hk⟩ : ∃ k, s.size - i = k + 1 := ⟨s.size - i - 1, by omega⟩
  rw [hk, show s.size - (i + 1) = k by omega]
  exact if_pos h
theorem digE_no {s : ByteArray} {i : Nat} (h : ¬ isDigC (pk s i)) : digE s i = i := by
  unfold digE
  cases s.size - i with
  | zero => rfl
  | succ k => exact if_neg h
theorem skipN_bd (s : ByteArray) : ∀ f i, i ≤ skipN s f i ∧ skipN s f i ≤ i + f
  | 0, i => ⟨Nat.le_refl _, Nat.le_refl _⟩
  | f + 1, i => by
    have := skipN_bd s f (i + 1)
    simp only [skipN]
    split <;> omega
theorem digN_bd (s : ByteArray) : ∀ f i, i ≤ digN s f i ∧ digN s f i ≤ i + f
  | 0, i => ⟨Nat.le_refl _, Nat.le_refl _⟩
  | f + 1, i => by
    have := digN_bd s f (i + 1)
    simp only [digN]
    split <;> omega
theorem skipB_bd (s : ByteArray) (i : Nat) : i ≤ skipB s i ∧ (i ≤ s.size → skipB s i ≤ s.size) := by
  have := skipN_bd s (s.size - i) i
  unfold skipB
  omega
theorem digE_bd (s : ByteArray) (i : Nat) : i ≤ digE s i ∧ (i ≤ s.size → digE s i ≤ s.size) := by
  have := digN_bd s (s.size - i) i
  unfold digE
  omega
/-- What a reading comes to: a value, or a code and where it is. -/
abbrev Rd (α : Type) := Except (Int × Nat) α
def digits1 (s : ByteArray) (i : Nat) : Rd Nat := if isDigC (pk s i) then .ok (digE s i) else .error (2, i)
def signE (s : ByteArray) (i : Nat) : Nat := if pk s i = 43 ∨ pk s i = 45 then i + 1 else i
def expE (s : ByteArray) (i : Nat) : Rd Nat := if pk s i = 101 ∨ pk s i = 69 then digits1 s (signE s (i + 1)) else .ok i
def fracE (s : ByteArray) (i : Nat) : Rd Nat := if pk s i = 46 then digits1 s (i + 1) else .ok i
def intE (s : ByteArray) (i : Nat) : Rd Nat := if pk s i = 48 then .ok (i + 1) else digits1 s i
def minusE (s : ByteArray) (i : Nat) : Nat := if pk s i = 45 then i + 1 else i
/-- Behind a number. -/
def numE (s : ByteArray) (i : Nat) : Rd Nat := (intE s (minusE s i)).bind fun j => (fracE s j).bind fun k => expE s k
/-- A hexadecimal digit; -1 if it is none. -/
def hexV (c : Int) : Int := if 48 ≤ c ∧ c ≤ 57 then c - 48 else if 97 ≤ c ∧ c ≤ 102 then c - 97 + 10 else if 65 ≤ c ∧ c ≤ 70 then c - 65 + 10 else -1
theorem hexV_bd (c : Int) : -1 ≤ hexV c ∧ hexV c ≤ 15 := by
  unfold hexV
  repeat' split
  all_goals omega
/-- So many hexadecimal digits from a place on. -/
def hexN (s : ByteArray) : Nat → Nat → Int → Rd (Int × Nat)
  | 0, i, n => .ok (n, i)
  | k + 1, i, n => if hexV (pk s i) < 0 then .error (2, i) else hexN s k (i + 1) (16 * n + hexV (pk s i))
theorem hexN_bd {s : ByteArray} : ∀ {k i : Nat} {n m : Int} {j : Nat}, hexN s k i n = .ok (m, j) → i ≤ s.size → j = i + k ∧ j ≤ s.size ∧ n * 16 ^ k ≤ m ∧ m + 1 ≤ (n + 1) * 16 ^ k
  | 0, i, n, m, j, h, hi => by cases h; simp; omega
  | k + 1, i, n, m, j, h, hi => by
    simp only [hexN] at h
    split at h
    · cases h
    · rename_i hh
      have hv := hexV_bd (pk s i)
      have hlt : i < s.size := by
        rcases Nat.lt_or_ge i s.size with k | k
        · exact k
        · rw [pk_out (by omega)] at hh; exact absurd (show hexV (-1) < 0 by decide) hh
      have ih := hexN_bd h (by omega)
      have e : (16 : Int) ^ (k + 1) = 16 ^ k * 16 := Int.pow_succ _ _
      have hp : (0 : Int) ≤ 16 ^ k := Int.pow_nonneg (by omega)
      refine ⟨by omega, ih.2.1, ?_, ?_⟩
      · rw [e]
        refine Int.le_trans ?_ ih.2.2.1
        rw [← Int.mul_assoc, Int.mul_comm (n * 16 ^ k) 16, ← Int.mul_assoc]
        exact Int.mul_le_mul_of_nonneg_right (by omega) hp
      · rw [e]
        refine Int.le_trans ih.2.2.2 ?_
        rw [← Int.mul_assoc, Int.mul_comm ((n + 1) * 16 ^ k) 16, ← Int.mul_assoc]
        exact Int.mul_le_mul_of_nonneg_right (by omega) hp
theorem hexN_err {s : ByteArray} : ∀ {k i : Nat} {n c : Int} {p : Nat}, hexN s k i n = .error (c, p) → c = 2
  | 0, i, n, c, p, h => by cases h
  | k + 1, i, n, c, p, h => by
    simp only [hexN] at h
    split at h
    · cases h; rfl
    · exact hexN_err h
/-- What a letter behind a backslash stands for. -/
def escV (c : Int) : Option Int :=
  if c = 34 ∨ c = 92 ∨ c = 47 then some c else if c = 98 then some 8 else if c = 102 then some 12 else if c = 110 then some 10 else if c = 114 then some 13 else if c = 116 then some 9 else none
theorem escV_some {c x : Int} (h : escV c = some x) : (c = 34 ∧ x = 34) ∨ (c = 92 ∧ x = 92) ∨ (c = 47 ∧ x = 47) ∨ (c = 98 ∧ x = 8) ∨ (c = 102 ∧ x = 12) ∨ (c = 110 ∧ x = 10) ∨ (c = 114 ∧ x = 13) ∨ (c = 116 ∧ x = 9) := by
  unfold escV at h
  repeat' split at h
  all_goals first | (injection h with h; omega) | cases h
theorem escV_none {c : Int} (h : escV c = none) : c ≠ 34 ∧ c ≠ 92 ∧ c ≠ 47 ∧ c ≠ 98 ∧ c ≠ 102 ∧ c ≠ 110 ∧ c ≠ 114 ∧ c ≠ 116 := by
  unfold escV at h
  repeat' split at h
  all_goals first | omega | cases h
/-- The second one of two surrogates; the escape begins at 'first'. -/
def pairR (s : ByteArray) (first j : Nat) (n : Int) : Rd (Int × Nat) :=
  if pk s j < 0 then .error (2, j) else if pk s j ≠ 92 then .error (2, first)
  else if pk s (j + 1) < 0 then .error (2, j + 1) else if pk s (j + 1) ≠ 117 then .error (2, first)
  else (hexN s 4 (j + 2) 0).bind fun (m, k) => if 56320 ≤ m ∧ m ≤ 57343 then .ok (65536 + 1024 * (n - 55296) + m - 56320, k) else .error (2, first)
/-- Four digits behind \u, and what follows. -/
def uniR (s : ByteArray) (first j : Nat) (n : Int) : Rd (Int × Nat) :=
  if 55296 ≤ n ∧ n ≤ 56319 then pairR s first j n else if point n = true then .ok (n, j) else .error (2, first)
/-- An escape that begins at a place: the code point, and the place behind it. -/
def escR (s : ByteArray) (i : Nat) : Rd (Int × Nat) :=
  if pk s (i + 1) < 0 then .error (2, i + 1) else match escV (pk s (i + 1)) with
  | some x => .ok (x, i + 2)
  | none => if pk s (i + 1) ≠ 117 then .error (2, i) else (hexN s 4 (i + 2) 0).bind fun (n, j) => uniR s i j n
end Go.Proofs.YtlpgkpaogadolaaDoor
