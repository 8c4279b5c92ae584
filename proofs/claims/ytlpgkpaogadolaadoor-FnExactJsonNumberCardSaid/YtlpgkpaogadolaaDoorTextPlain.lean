/- Texts, plainly: how both sides decode a string. No program in sight. -/
import Derived.WalkKit
namespace Go.Proofs.YtlpgkpaogadolaaDoor
open Go.RowKit

/-- n is from lo to hi. -/
def betw (n lo hi : Int) : Bool := decide (lo ≤ n ∧ n ≤ hi)
/-- A code point. -/
def point (c : Int) : Bool := betw c 1 1114111 && !betw c 55296 57343
theorem betw_true {n lo hi : Int} (h : lo ≤ n ∧ n ≤ hi) : betw n lo hi = true := decide_eq_true h
theorem betw_false {n lo hi : Int} (h : ¬ (lo ≤ n ∧ n ≤ hi)) : betw n lo hi = false := decide_eq_false h
/-- A code point's bytes, as numbers. -/
def ptBytes (c : Int) : List Int :=
  if c < 128 then [c % 256] else if c < 2048 then [(192 + c / 64) % 256, (128 + c % 64) % 256]
  else if c < 65536 then [(224 + c / 4096) % 256, (128 + c / 64 % 64) % 256, (128 + c % 64) % 256]
  else [(240 + c / 262144) % 256, (128 + c / 4096 % 64) % 256, (128 + c / 64 % 64) % 256, (128 + c % 64) % 256]
/-- A string's byte as a number. -/
def bAt (s : ByteArray) (i : Nat) : Int := ((s.get! i).toNat : Int)
theorem bAt_eq (s : ByteArray) (i : Nat) (h : i < s.size) : ((s[i]'h).toNat : Int) = bAt s i := by
  unfold bAt
  congr 2
  simp [ByteArray.get!, getElem!_pos, h]
  rfl
theorem one_byte {s : ByteArray} {b : UInt8} (h : s.size = 1) (hb : bAt s 0 = (b.toNat : Int)) : s = ⟨#[b]⟩ := by
  rw [← bAt_eq s 0 (by omega)] at hb
  obtain ⟨⟨l⟩⟩ := s
  simp only [ByteArray.size, List.size_toArray] at h
  match l, h with
  | [x], _ =>
    have : x = b := UInt8.toNat.inj (by have : (x.toNat : Int) = b.toNat := hb
                                        omega)
    rw [this]
theorem bAt_range (s : ByteArray) (i : Nat) : 0 ≤ bAt s i ∧ bAt s i ≤ 255 := by
  have := (s.get! i).toNat_lt
  unfold bAt
  omega
/-- How many bytes a leading byte announces, and what it brings. -/
def lead (b : Int) : Int × Int :=
  if b < 128 then (1, b) else if 192 ≤ b ∧ b ≤ 223 then (2, b - 192) else if 224 ≤ b ∧ b ≤ 239 then (3, b - 224) else if 240 ≤ b ∧ b ≤ 247 then (4, b - 240) else (0, 0)
/-- The number behind j more bytes. -/
def cAt (s : ByteArray) (i : Nat) (c0 : Int) : Nat → Int
  | 0 => c0
  | j + 1 => 64 * cAt s i c0 j + bAt s (i + (j + 1)) - 128
def conts (s : ByteArray) (i : Nat) (n : Int) : Prop := ∀ j : Nat, 1 ≤ j → (j : Int) < n → 128 ≤ bAt s (i + j) ∧ bAt s (i + j) ≤ 191
noncomputable instance (s : ByteArray) (i : Nat) (n : Int) : Decidable (conts s i n) := Classical.propDecidable _
attribute [irreducible] lead point
theorem lead_bd {b n c : Int} (h : lead b = (n, c)) (h0 : 0 ≤ b) : 0 ≤ n ∧ n ≤ 4 ∧ 0 ≤ c ∧ c ≤ 127 := by
  unfold lead at h
  split at h
  · cases h; omega
  split at h
  · cases h; omega
  split at h
  · cases h; omega
  split at h
  · cases h; omega
  · cases h; omega
theorem cAt_bd (s : ByteArray) (i : Nat) (c : Int) (h0 : 0 ≤ c) (h1 : c ≤ 127) : ∀ j : Nat, (∀ m : Nat, 1 ≤ m → m ≤ j → 128 ≤ bAt s (i + m) ∧ bAt s (i + m) ≤ 191) → 0 ≤ cAt s i c j ∧ cAt s i c j + 1 ≤ 128 * 64 ^ j
  | 0, _ => by simp [cAt]; omega
  | j + 1, h => by
    have ih := cAt_bd s i c h0 h1 j fun m a b => h m a (by omega)
    have hj := h (j + 1) (by omega) (Nat.le_refl _)
    have e : (128 : Int) * 64 ^ (j + 1) = 64 * (128 * 64 ^ j) := by rw [Int.pow_succ]; omega
    rw [e]
    simp only [cAt]
    omega
theorem cAt_bd3 (s : ByteArray) (i : Nat) (c : Int) (h0 : 0 ≤ c) (h1 : c ≤ 127) (j : Nat) (hj : j ≤ 3) (h : ∀ m : Nat, 1 ≤ m → m ≤ j → 128 ≤ bAt s (i + m) ∧ bAt s (i + m) ≤ 191) : 0 ≤ cAt s i c j ∧ cAt s i c j ≤ 33554432 := by
  have := cAt_bd s i c h0 h1 j h
  have hp : (64 : Int) ^ j ≤ 262144 := by
    rcases (show j = 0 ∨ j = 1 ∨ j = 2 ∨ j = 3 by omega) with rfl | rfl | rfl | rfl <;> decide
  omega
/-- What the reference reads at a place: a code point and its length; 0, 0 if there is none. -/
noncomputable def nextP (s : ByteArray) (i : Nat) : Int × Int :=
  let l := lead (bAt s i)
  if l.1 = 0 ∨ (s.size : Int) - i < l.1 then (0, 0)
  else if conts s i l.1 then
    let c := cAt s i l.2 (l.1 - 1).toNat
    if point c = true ∧ ((ptBytes c).length : Int) = l.1 then (c, l.1) else (0, 0)
  else (0, 0)
attribute [irreducible] nextP
theorem below_succ {p : Nat → Prop} {j : Nat} (h : ∀ m : Nat, m < j → p m) (hj : p j) : ∀ m : Nat, m < j + 1 → p m := fun m b => by
  by_cases e : m = j
  · rw [e]; exact hj
  · exact h m (by omega)
theorem upto_succ {p : Nat → Prop} {j : Nat} (h : ∀ m : Nat, 1 ≤ m → m ≤ j → p m) (hj : p (j + 1)) : ∀ m : Nat, 1 ≤ m → m ≤ j + 1 → p m := fun m a b => by
  by_cases e : m = j + 1
  · rw [e]; exact hj
  · exact h m a (by omega)
theorem nextP_stop {s : ByteArray} {i : Nat} {n c : Int} (hl : lead (bAt s i) = (n, c)) (hn : ¬ (n = 0 ∨ (s.size : Int) - i < n)) (j : Nat) (h1 : 1 ≤ j) (h2 : (j : Int) < n) (h : ¬ (128 ≤ bAt s (i + j) ∧ bAt s (i + j) ≤ 191)) : nextP s i = (0, 0) := by
  simp only [nextP, hl]
  rw [if_neg hn, if_neg (fun hc => h (hc j h1 h2))]
theorem nextP_end {s : ByteArray} {i : Nat} {n c : Int} (hl : lead (bAt s i) = (n, c)) (hn : ¬ (n = 0 ∨ (s.size : Int) - i < n)) (j : Nat) (hj : (j : Int) + 1 = n) (h : ∀ m : Nat, 1 ≤ m → m ≤ j → 128 ≤ bAt s (i + m) ∧ bAt s (i + m) ≤ 191) :
    nextP s i = if point (cAt s i c j) = true ∧ ((ptBytes (cAt s i c j)).length : Int) = n then (cAt s i c j, n) else (0, 0) := by
  have e : (n - 1).toNat = j := by omega
  simp only [nextP, hl]
  have hcs : conts s i n := fun m a b => h m a (by omega)
  rw [if_neg hn, if_pos hcs, e]
theorem nextP_bd {s : ByteArray} {i : Nat} {c n : Int} (h : nextP s i = (c, n)) (hn : n ≠ 0) : 1 ≤ n ∧ n ≤ 4 ∧ n ≤ (s.size : Int) - i ∧ point c = true := by
  have hb := bAt_range s i
  obtain ⟨l1, l2⟩ : ∃ a b, lead (bAt s i) = (a, b) := ⟨(lead (bAt s i)).1, (lead (bAt s i)).2, rfl⟩
  obtain ⟨l2, hl⟩ := l2
  have bd := lead_bd hl hb.1
  simp only [nextP, hl] at h
  split at h
  · cases h; exact absurd rfl hn
  split at h
  · split at h
    · rename_i hp
      cases h
      exact ⟨by omega, by omega, by omega, hp.1⟩
    · cases h; exact absurd rfl hn
  · cases h; exact absurd rfl hn
/-- The code points from a place on; none if there is a fault. -/
noncomputable def runesFrom (s : ByteArray) : Nat → Nat → Option (List Int)
  | 0, _ => some []
  | f + 1, i => if s.size ≤ i then some [] else if (nextP s i).2 = 0 then none else (runesFrom s f (i + (nextP s i).2.toNat)).map ((nextP s i).1 :: ·)
/-- The code points of a text. -/
noncomputable def runesP (s : ByteArray) : Option (List Int) := if 1000 < s.size then none else runesFrom s s.size 0
theorem runes_fuel (s : ByteArray) : ∀ f i, s.size - i ≤ f → runesFrom s f i = runesFrom s (s.size - i) i
  | 0, i, h => by rw [show s.size - i = 0 by omega]
  | f + 1, i, h => by
    by_cases hi : s.size ≤ i
    · rw [show s.size - i = 0 by omega]; simp only [runesFrom, if_pos hi]
    · obtain ⟨g, hg⟩ : ∃ g, s.size - i = g + 1 := ⟨s.size - i - 1, by omega⟩
      rw [hg]
      simp only [runesFrom, if_neg hi]
      by_cases hn : (nextP s i).2 = 0
      · rw [if_pos hn, if_pos hn]
      · have := nextP_bd (s := s) (i := i) (c := (nextP s i).1) (n := (nextP s i).2) rfl hn
        rw [if_neg hn, if_neg hn, runes_fuel s f _ (by omega), runes_fuel s g _ (by omega)]
theorem runes_step {s : ByteArray} {i : Nat} {c n : Int} (hi : i < s.size) (h : nextP s i = (c, n)) (hn : n ≠ 0) : runesFrom s (s.size - i) i = (runesFrom s (s.size - (i + n.toNat)) (i + n.toNat)).map (c :: ·) := by
  have hb := nextP_bd h hn
  obtain ⟨g, hg⟩ : ∃ g, s.size - i = g + 1 := ⟨s.size - i - 1, by omega⟩
  rw [hg]
  simp only [runesFrom, h]
  rw [if_neg (by omega), if_neg hn, runes_fuel s g _ (by omega)]
theorem runes_stop {s : ByteArray} {i : Nat} {c : Int} (hi : i < s.size) (h : nextP s i = (c, 0)) : runesFrom s (s.size - i) i = none := by
  obtain ⟨g, hg⟩ : ∃ g, s.size - i = g + 1 := ⟨s.size - i - 1, by omega⟩
  rw [hg]
  simp only [runesFrom, h]
  rw [if_neg (by omega)]
  simp
/-- So far: the code points ahead of a place are L. -/
def SoFar (s : ByteArray) (i : Nat) (L : List Int) : Prop := i ≤ s.size ∧ L.length ≤ i ∧ runesFrom s s.size 0 = (runesFrom s (s.size - i) i).map (L ++ ·)
theorem SoFar.start (s : ByteArray) : SoFar s 0 [] := ⟨by omega, by simp, by simp⟩
theorem SoFar.step {s : ByteArray} {i : Nat} {L : List Int} {c n : Int} (h : SoFar s i L) (hi : i < s.size) (hc : nextP s i = (c, n)) (hn : n ≠ 0) : SoFar s (i + n.toNat) (L ++ [c]) := by
  have hb := nextP_bd hc hn
  refine ⟨by omega, by have := h.2.1; simp; omega, ?_⟩
  rw [h.2.2, runes_step hi hc hn, Option.map_map]
  congr 1
  funext x
  simp
theorem SoFar.fin {s : ByteArray} {i : Nat} {L : List Int} (h : SoFar s i L) (h1 : s.size ≤ 1000) (hi : ¬ i < s.size) : runesP s = some L := by
  simp only [runesP]
  rw [if_neg (by omega), h.2.2, show s.size - i = 0 by omega]
  simp [runesFrom]
theorem SoFar.stop {s : ByteArray} {i : Nat} {L : List Int} {c : Int} (h : SoFar s i L) (h1 : s.size ≤ 1000) (hi : i < s.size) (hc : nextP s i = (c, 0)) : runesP s = none := by
  simp only [runesP]
  rw [if_neg (by omega), h.2.2, runes_stop hi hc]
  rfl
theorem runesP_long {s : ByteArray} (h : 1000 < s.size) : runesP s = none := by simp only [runesP]; rw [if_pos h]
end Go.Proofs.YtlpgkpaogadolaaDoor
