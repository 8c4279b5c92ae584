/- The JSON reader, plainly: strings and values. -/
import Derived.Test.YtlpgkpaogadolaaDoorJsonPlain
namespace Go.Proofs.YtlpgkpaogadolaaDoor
open Go.RowKit

/-- A string from behind its first quote on: its bytes, and the place behind it. -/
def strN (s : ByteArray) : Nat → Nat → List Int → Rd (List Int × Nat)
  | 0, j, _ => .error (2, j)
  | f + 1, j, acc =>
    if pk s j < 32 then .error (2, j) else if pk s j = 34 then .ok (acc, j + 1)
    else if pk s j = 92 then (escR s j).bind fun (x, k) => strN s f k (acc ++ ptBytes x)
    else strN s f (j + 1) (acc ++ [pk s j])
/-- A string that begins at a place. -/
def strR (s : ByteArray) (i : Nat) : Rd (List Int × Nat) := strN s (s.size - i) (i + 1) []
theorem pairR_bd {s : ByteArray} {i j k : Nat} {n x : Int} (h : pairR s i j n = .ok (x, k)) (_hj : j ≤ s.size) : j < k ∧ k ≤ s.size := by
  unfold pairR at h
  split at h
  · cases h
  split at h
  · cases h
  split at h
  · cases h
  split at h
  · cases h
  · rename_i a b c d
    have h1 := pk_lt (s := s) (i := j + 1) (by omega)
    rcases hx : hexN s 4 (j + 2) 0 with e | ⟨m, k'⟩
    · rw [hx] at h; cases h
    · rw [hx] at h
      have := hexN_bd hx (by omega)
      simp only [Except.bind] at h
      split at h
      · injection h with h; injection h with _ h; omega
      · cases h
theorem escR_bd {s : ByteArray} {i k : Nat} {x : Int} (h : escR s i = .ok (x, k)) : i < k ∧ k ≤ s.size := by
  unfold escR at h
  split at h
  · cases h
  rename_i h0
  have h1 := pk_lt (s := s) (i := i + 1) (by omega)
  split at h
  · injection h with h; injection h with _ h; omega
  · split at h
    · cases h
    rcases hx : hexN s 4 (i + 2) 0 with e | ⟨n, j⟩
    · rw [hx] at h; cases h
    · rw [hx] at h
      have hb := hexN_bd hx (by omega)
      simp only [Except.bind] at h
      unfold uniR at h
      split at h
      · have := pairR_bd h hb.2.1
        omega
      · split at h
        · injection h with h; injection h with _ h; omega
        · cases h
theorem pairR_err {s : ByteArray} {i j p : Nat} {n c : Int} (h : pairR s i j n = .error (c, p)) : c = 2 := by
  unfold pairR at h
  split at h
  · cases h; rfl
  split at h
  · cases h; rfl
  split at h
  · cases h; rfl
  split at h
  · cases h; rfl
  · rcases hx : hexN s 4 (j + 2) 0 with ⟨e, q⟩ | ⟨m, k'⟩
    · rw [hx] at h
      simp only [Except.bind] at h
      cases h
      exact hexN_err hx
    · rw [hx] at h
      simp only [Except.bind] at h
      split at h
      · cases h
      · cases h; rfl
theorem escR_err {s : ByteArray} {i p : Nat} {c : Int} (h : escR s i = .error (c, p)) : c = 2 := by
  unfold escR at h
  split at h
  · cases h; rfl
  split at h
  · cases h
  · split at h
    · cases h; rfl
    rcases hx : hexN s 4 (i + 2) 0 with ⟨e, q⟩ | ⟨n, j⟩
    · rw [hx] at h
      simp only [Except.bind] at h
      cases h
      exact hexN_err hx
    · rw [hx] at h
      simp only [Except.bind] at h
      unfold uniR at h
      split at h
      · exact pairR_err h
      · split at h
        · cases h
        · cases h; rfl
theorem pairR_point {s : ByteArray} {i j k : Nat} {n x : Int} (h : pairR s i j n = .ok (x, k)) (hn : 55296 ≤ n ∧ n ≤ 56319) : 0 ≤ x ∧ x ≤ 1114111 := by
  unfold pairR at h
  split at h
  · cases h
  split at h
  · cases h
  split at h
  · cases h
  split at h
  · cases h
  · rcases hx : hexN s 4 (j + 2) 0 with e | ⟨m, k'⟩
    · rw [hx] at h; cases h
    · rw [hx] at h
      simp only [Except.bind] at h
      split at h
      · injection h with h; injection h with h _; omega
      · cases h
theorem escR_point {s : ByteArray} {i k : Nat} {x : Int} (h : escR s i = .ok (x, k)) : 0 ≤ x ∧ x ≤ 1114111 := by
  unfold escR at h
  split at h
  · cases h
  split at h
  · rename_i hv
    injection h with h; injection h with h _
    have := escV_some hv
    omega
  · split at h
    · cases h
    rcases hx : hexN s 4 (i + 2) 0 with e | ⟨n, j⟩
    · rw [hx] at h; cases h
    · rw [hx] at h
      simp only [Except.bind] at h
      unfold uniR at h
      split at h
      · rename_i hs
        exact pairR_point h hs
      · split at h
        · rename_i hp
          injection h with h; injection h with h _
          unfold point betw at hp
          simp only [Bool.and_eq_true, decide_eq_true_eq] at hp
          omega
        · cases h
theorem strN_fuel {s : ByteArray} : ∀ (f j : Nat) (acc : List Int), s.size + 1 - j ≤ f → j ≤ s.size → strN s f j acc = strN s (s.size + 1 - j) j acc := by
  intro f
  induction f using Nat.strongRecOn with
  | _ f ih =>
    intro j acc hf hj
    obtain ⟨m, rfl⟩ : ∃ m, f = m + 1 := ⟨f - 1, by omega⟩
    rw [show s.size + 1 - j = (s.size - j) + 1 by omega]
    simp only [strN]
    split
    · rfl
    rename_i h32
    have hlt : j < s.size := pk_lt (by omega)
    split
    · rfl
    split
    · rcases hx : escR s j with e | ⟨x, k⟩
      · rfl
      · have hk := escR_bd hx
        simp only [Except.bind]
        rw [ih m (by omega) k _ (by omega) hk.2]
        by_cases he : s.size - j = m + 1
        · omega
        · rw [ih (s.size - j) (by omega) k _ (by omega) hk.2]
    · rw [ih m (by omega) (j + 1) _ (by omega) (by omega), ih (s.size - j) (by omega) (j + 1) _ (by omega) (by omega)]
theorem ptBytes_bd (c : Int) : (ptBytes c).length ≤ 4 := by
  unfold ptBytes
  repeat' split
  all_goals simp
end Go.Proofs.YtlpgkpaogadolaaDoor
