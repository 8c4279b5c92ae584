/- The JSON reader, plainly: a number alone. -/
import Derived.Test.YtlpgkpaogadolaaDoorJsonPlainC
namespace Go.Proofs.YtlpgkpaogadolaaDoor
open Go.RowKit

theorem itemsR_last {s : ByteArray} {obj : Bool} {V : ValF} : ∀ {f i b : Nat} {L : List JN} {keys : List ByteArray} {kids : List Int} {G : Got}, itemsR s obj V f i b L keys kids = .ok G → ∃ (M : List JN) (n : JN), G.L = M ++ [n] ∧ n.kind = kindG obj
  | 0, i, b, L, keys, kids, G, h => by cases h
  | f + 1, i, b, L, keys, kids, G, h => by
    simp only [itemsR] at h
    rcases hk : (if obj then (keyR s keys i).bind fun (k, j) => .ok (keys ++ [k], j) else .ok (keys, i) : Rd (List ByteArray × Nat)) with e | ⟨K, j⟩
    · rw [hk] at h; cases h
    rw [hk] at h
    simp only [Except.bind] at h
    rcases hv : V j b L with e | G1
    · rw [hv] at h; cases h
    rw [hv] at h
    simp only [] at h
    split at h
    · cases h; exact ⟨_, _, rfl, rfl⟩
    split at h
    · cases h
    · exact itemsR_last h
theorem groupR_last {s : ByteArray} {V : Option ValF} {obj : Bool} {i b : Nat} {L : List JN} {G : Got} (h : groupR s V obj i b L = .ok G) : ∃ (M : List JN) (n : JN), G.L = M ++ [n] ∧ n.kind = kindG obj := by
  unfold groupR at h
  cases V with
  | none => cases h
  | some V =>
    simp only [] at h
    split at h
    · cases h; exact ⟨_, _, rfl, rfl⟩
    · exact itemsR_last h
theorem extract_all (s : ByteArray) : s.extract 0 s.size = s := by
  apply ByteArray.ext
  rw [ByteArray.data_extract]
  exact Array.extract_size
theorem extract_eq {s : ByteArray} {i j : Nat} (h : s.extract i j = s) (hi : i < s.size) (hj : j ≤ s.size) : i = 0 ∧ j = s.size := by
  have := congrArg ByteArray.size h
  rw [ByteArray.size_extract] at this
  omega
theorem numE_start {s : ByteArray} {i j : Nat} (h : numE s i = .ok j) : pk s i = 45 ∨ (48 ≤ pk s i ∧ pk s i ≤ 57) := by
  unfold numE at h
  by_cases hm : pk s i = 45
  · exact .inl hm
  · right
    have : minusE s i = i := if_neg hm
    rw [this] at h
    rcases hx : intE s i with e | a
    · rw [hx] at h; cases h
    unfold intE at hx
    split at hx
    · omega
    · unfold digits1 at hx
      split at hx
      · assumption
      · cases hx
/-- A line is one number, and that is all of it. -/
def oneNum (s : ByteArray) : Prop := ∃ n : JN, readR s = .ok [n] ∧ n.kind = 4 ∧ n.text = s
theorem oneNum_iff (s : ByteArray) : oneNum s ↔ numE s 0 = .ok s.size := by
  constructor
  · rintro ⟨n, hr, hk, ht⟩
    unfold readR at hr
    rcases hv : valR s 8 (skipB s 0) 0 [] with e | G
    · rw [hv] at hr; cases hr
    rw [hv] at hr
    simp only [Except.bind] at hr
    split at hr
    · cases hr
    have hL : G.L = [n] := by injection hr
    clear hr
    have hg : ∀ {obj : Bool} {b : Nat} {V : Option ValF}, groupR s V obj (skipB s 0) b [] = .ok G → False := by
      intro obj b V h
      obtain ⟨M, m, h1, h2⟩ := groupR_last h
      rw [hL] at h1
      cases M with
      | nil => simp only [List.nil_append, List.cons.injEq, and_true] at h1; rw [← h1, hk] at h2; cases obj <;> exact absurd h2 (by decide)
      | cons x M => have := congrArg List.length h1; simp at this
    have hv' : valB s (some (valR s 7)) (skipB s 0) 0 [] = .ok G := hv
    unfold valB at hv'
    simp only [] at hv'
    split at hv'
    · cases hv'
    rename_i hst
    have hi : skipB s 0 < s.size := pk_lt (by have := pk_range s (skipB s 0); rw [Decidable.not_not] at hst; unfold startC at hst; omega)
    split at hv'
    · cases hv'
    split at hv'
    · rcases hx : wordR s (wordOf (pk s (skipB s 0))) (skipB s 0) with e | j
      · rw [hx] at hv'; cases hv'
      · rw [hx] at hv'; cases hv'
        simp only [List.nil_append, List.cons.injEq, and_true] at hL
        rw [← hL] at hk
        exfalso
        have hk' : kindOf (pk s (skipB s 0)) = 4 := hk
        unfold kindOf at hk'
        split at hk'
        · exact absurd hk' (by decide)
        split at hk'
        · exact absurd hk' (by decide)
        · exact absurd hk' (by decide)
    split at hv'
    · rcases hx : strR s (skipB s 0) with e | ⟨acc, j⟩
      · rw [hx] at hv'; cases hv'
      · rw [hx] at hv'; cases hv'
        simp only [List.nil_append, List.cons.injEq, and_true] at hL
        rw [← hL] at hk
        exact absurd (show (5 : Int) = 4 from hk) (by decide)
    split at hv'
    · exact (hg hv').elim
    split at hv'
    · exact (hg hv').elim
    · rcases hx : numE s (skipB s 0) with e | j
      · rw [hx] at hv'; cases hv'
      · have hb := numE_bd hx (by omega)
        rw [hx] at hv'; cases hv'
        simp only [List.nil_append, List.cons.injEq, and_true] at hL
        rw [← hL] at ht
        have := extract_eq ht hi hb.2
        rw [this.1] at hx
        rw [hx, this.2]
  · intro h
    have hs := numE_start h
    have h0 : skipB s 0 = 0 := skipB_no (by unfold isBlankC; omega)
    have hsz : skipB s s.size = s.size := skipB_no (by rw [pk_out (by omega)]; unfold isBlankC; omega)
    refine ⟨⟨4, s.extract 0 s.size, [], []⟩, ?_, rfl, extract_all s⟩
    unfold readR
    have hv : valR s 8 (skipB s 0) 0 [] = .ok ⟨s.size, 1, [⟨4, s.extract 0 s.size, [], []⟩]⟩ := by
      rw [h0]
      show valB s (some (valR s 7)) 0 0 [] = _
      unfold valB
      simp only []
      rw [if_neg (by unfold startC; omega), if_neg (by omega), if_neg (by omega), if_neg (by omega), if_neg (by omega), if_neg (by omega), h]
      rfl
    rw [hv]
    simp only [Except.bind]
    rw [hsz, if_neg (by omega)]
end Go.Proofs.YtlpgkpaogadolaaDoor
