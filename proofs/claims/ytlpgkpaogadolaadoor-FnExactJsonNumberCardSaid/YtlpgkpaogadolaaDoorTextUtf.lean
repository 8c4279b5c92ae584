/- Texts, plainly: the reference's decoder is the model's own. -/
import Derived.Test.YtlpgkpaogadolaaDoorTextPlain
import Derived.Lib.DecodeN
import Derived.Lib.DecodeNEq
import Derived.Lib.ValidLaws
import Derived.Lib.RuneCountTail
import Derived.Lib.RuneCount
import Derived.Lib.ValidAsc
import Derived.Lib.IndexLaws
import Derived.Lib.Bytealg
namespace Go.Proofs.YtlpgkpaogadolaaDoor
open Go.RowKit

/-- What the model's decoder reads, 0 and 0 where the reference finds a fault. -/
def nextD (d : Nat × Nat) : Int × Int := if d.1 = 0 ∨ (d.1 = 65533 ∧ d.2 = 1) then (0, 0) else ((d.1 : Int), (d.2 : Int))
theorem conts_one (s : ByteArray) (i : Nat) : conts s i 1 := fun j a b => by omega
theorem conts_two (s : ByteArray) (i : Nat) : conts s i 2 ↔ 128 ≤ bAt s (i + 1) ∧ bAt s (i + 1) ≤ 191 :=
  ⟨fun h => h 1 (by omega) (by omega), fun h j a b => by obtain rfl : j = 1 := by omega
                                                         exact h⟩
theorem conts_three (s : ByteArray) (i : Nat) : conts s i 3 ↔ (128 ≤ bAt s (i + 1) ∧ bAt s (i + 1) ≤ 191) ∧ (128 ≤ bAt s (i + 2) ∧ bAt s (i + 2) ≤ 191) :=
  ⟨fun h => ⟨h 1 (by omega) (by omega), h 2 (by omega) (by omega)⟩, fun h j a b => by
    rcases (show j = 1 ∨ j = 2 by omega) with rfl | rfl
    · exact h.1
    · exact h.2⟩
theorem conts_four (s : ByteArray) (i : Nat) : conts s i 4 ↔ (128 ≤ bAt s (i + 1) ∧ bAt s (i + 1) ≤ 191) ∧ (128 ≤ bAt s (i + 2) ∧ bAt s (i + 2) ≤ 191) ∧ (128 ≤ bAt s (i + 3) ∧ bAt s (i + 3) ≤ 191) :=
  ⟨fun h => ⟨h 1 (by omega) (by omega), h 2 (by omega) (by omega), h 3 (by omega) (by omega)⟩, fun h j a b => by
    rcases (show j = 1 ∨ j = 2 ∨ j = 3 by omega) with rfl | rfl | rfl
    · exact h.1
    · exact h.2.1
    · exact h.2.2⟩
theorem point_iff (c : Int) : point c = true ↔ (1 ≤ c ∧ c ≤ 1114111) ∧ ¬ (55296 ≤ c ∧ c ≤ 57343) := by
  simp only [point, betw, Bool.and_eq_true, decide_eq_true_eq, Bool.not_eq_true', decide_eq_false_iff_not]
theorem ptBytes_len (c : Int) : ((ptBytes c).length : Int) = if c < 128 then 1 else if c < 2048 then 2 else if c < 65536 then 3 else 4 := by
  unfold ptBytes
  repeat' split
  all_goals simp
theorem nextP_of {s : ByteArray} {i : Nat} {n c : Int} (hl : lead (bAt s i) = (n, c)) : nextP s i =
    if n = 0 ∨ (s.size : Int) - i < n then (0, 0) else if conts s i n then if ((1 ≤ cAt s i c (n - 1).toNat ∧ cAt s i c (n - 1).toNat ≤ 1114111) ∧ ¬ (55296 ≤ cAt s i c (n - 1).toNat ∧ cAt s i c (n - 1).toNat ≤ 57343)) ∧
      (if cAt s i c (n - 1).toNat < 128 then 1 else if cAt s i c (n - 1).toNat < 2048 then 2 else if cAt s i c (n - 1).toNat < 65536 then 3 else 4) = n then (cAt s i c (n - 1).toNat, n) else (0, 0) else (0, 0) := by
  simp only [nextP, hl, point_iff, ptBytes_len]
/-- The reference's last test. -/
def lastP (C n : Int) : Int × Int := if ((1 ≤ C ∧ C ≤ 1114111) ∧ ¬ (55296 ≤ C ∧ C ≤ 57343)) ∧ (if C < 128 then 1 else if C < 2048 then 2 else if C < 65536 then 3 else 4) = n then (C, n) else (0, 0)
theorem nextP_of' {s : ByteArray} {i : Nat} {n c : Int} (hl : lead (bAt s i) = (n, c)) : nextP s i =
    if n = 0 ∨ (s.size : Int) - i < n then (0, 0) else if conts s i n then lastP (cAt s i c (n - 1).toNat) n else (0, 0) := nextP_of hl
theorem lenP_eq (C : Int) (n : Int) : (if C < 128 then 1 else if C < 2048 then 2 else if C < 65536 then 3 else 4) = n ↔ (C < 128 ∧ n = 1) ∨ (128 ≤ C ∧ C < 2048 ∧ n = 2) ∨ (2048 ≤ C ∧ C < 65536 ∧ n = 3) ∨ (65536 ≤ C ∧ n = 4) := by
  repeat' split
  all_goals omega
theorem lastP_yes {C n : Int} (h : ((1 ≤ C ∧ C ≤ 1114111) ∧ ¬ (55296 ≤ C ∧ C ≤ 57343)) ∧ ((C < 128 ∧ n = 1) ∨ (128 ≤ C ∧ C < 2048 ∧ n = 2) ∨ (2048 ≤ C ∧ C < 65536 ∧ n = 3) ∨ (65536 ≤ C ∧ n = 4))) : lastP C n = (C, n) := by
  unfold lastP; exact if_pos ⟨h.1, (lenP_eq C n).2 h.2⟩
theorem lastP_no {C n : Int} (h : ¬ (((1 ≤ C ∧ C ≤ 1114111) ∧ ¬ (55296 ≤ C ∧ C ≤ 57343)) ∧ ((C < 128 ∧ n = 1) ∨ (128 ≤ C ∧ C < 2048 ∧ n = 2) ∨ (2048 ≤ C ∧ C < 65536 ∧ n = 3) ∨ (65536 ≤ C ∧ n = 4)))) : lastP C n = (0, 0) := by
  unfold lastP; exact if_neg fun k => h ⟨k.1, (lenP_eq C n).1 k.2⟩
theorem nextD_bad : nextD (65533, 1) = (0, 0) := rfl
theorem nextD_good (C n : Nat) (h : C ≠ 0) (h2 : n ≠ 1) : nextD (C, n) = ((C : Int), (n : Int)) := by
  unfold nextD; rw [if_neg (by simp only []; omega)]
theorem nextP_decode (s : ByteArray) (i : Nat) (hi : i < s.size) : nextP s i = nextD (Utf8.decode s i) := by
  rw [Lib.decode_at]
  obtain ⟨b0, h0⟩ : ∃ b, (s.get! i).toNat = b := ⟨_, rfl⟩
  obtain ⟨b1, h1⟩ : ∃ b, (s.get! (i + 1)).toNat = b := ⟨_, rfl⟩
  obtain ⟨b2, h2⟩ : ∃ b, (s.get! (i + 2)).toNat = b := ⟨_, rfl⟩
  obtain ⟨b3, h3⟩ : ∃ b, (s.get! (i + 3)).toNat = b := ⟨_, rfl⟩
  have e0 : bAt s i = b0 := by unfold bAt; rw [h0]
  have e1 : bAt s (i + 1) = b1 := by unfold bAt; rw [h1]
  have e2 : bAt s (i + 2) = b2 := by unfold bAt; rw [h2]
  have e3 : bAt s (i + 3) = b3 := by unfold bAt; rw [h3]
  have r0 : b0 < 256 := by rw [← h0]; exact (s.get! i).toNat_lt
  have r1 : b1 < 256 := by rw [← h1]; exact (s.get! (i + 1)).toNat_lt
  have r2 : b2 < 256 := by rw [← h2]; exact (s.get! (i + 2)).toNat_lt
  have r3 : b3 < 256 := by rw [← h3]; exact (s.get! (i + 3)).toNat_lt
  rw [h0, h1, h2, h3]
  obtain ⟨N, hN⟩ : ∃ N, s.size - i = N := ⟨_, rfl⟩
  have hN1 : 1 ≤ N := by omega
  have hNi : (s.size : Int) - i = N := by omega
  rw [hN]
  by_cases c1 : b0 < 128
  · rw [nextP_of (show lead (bAt s i) = (1, (b0 : Int)) by rw [e0]; unfold lead; rw [if_pos (by omega)]), if_neg (by omega), if_pos (conts_one s i), show ((1 : Int) - 1).toNat = 0 from rfl, show cAt s i b0 0 = b0 from rfl]
    unfold Lib.decodeN nextD
    rw [if_pos c1]
    by_cases z : b0 = 0
    · subst z; rw [if_neg (by omega)]; simp
    · rw [if_pos (by constructor; omega; rw [if_pos (by omega)]), if_neg (by omega)]; rfl
  by_cases c2 : 192 ≤ b0 ∧ b0 ≤ 223
  · rw [nextP_of' (show lead (bAt s i) = (2, (b0 : Int) - 192) by rw [e0]; unfold lead; rw [if_neg (by omega), if_pos (by omega)]), show ((2 : Int) - 1).toNat = 1 from rfl, show cAt s i ((b0 : Int) - 192) 1 = 64 * ((b0 : Int) - 192) + bAt s (i + 1) - 128 from rfl]
    simp only [conts_two, e1, hNi]
    by_cases g : 1 < N ∧ b1 / 64 = 2
    · obtain ⟨C, hC⟩ : ∃ C, b0 % 32 * 64 + b1 % 64 = C := ⟨_, rfl⟩
      rw [if_neg (by omega), if_pos (by omega), show 64 * ((b0 : Int) - 192) + (b1 : Int) - 128 = (C : Int) by omega]
      unfold Lib.decodeN
      rw [if_neg c1, if_pos (by omega), hC]
      by_cases k : C ≥ 128
      · rw [if_pos k, nextD_good _ _ (by omega) (by omega), lastP_yes (by omega)]; rfl
      · rw [if_neg k, nextD_bad, lastP_no (by omega)]
    · by_cases g1 : N < 2
      · rw [if_pos (by omega)]
        unfold Lib.decodeN
        rw [if_neg c1, if_neg (by omega), if_neg (by omega), if_neg (by omega), nextD_bad]
      · rw [if_neg (by omega), if_neg (by omega)]
        unfold Lib.decodeN
        rw [if_neg c1, if_neg (by omega), if_neg (by omega), if_neg (by omega), nextD_bad]
  by_cases c3 : 224 ≤ b0 ∧ b0 ≤ 239
  · rw [nextP_of' (show lead (bAt s i) = (3, (b0 : Int) - 224) by rw [e0]; unfold lead; rw [if_neg (by omega), if_neg (by omega), if_pos (by omega)]), show ((3 : Int) - 1).toNat = 2 from rfl, show cAt s i ((b0 : Int) - 224) 2 = 64 * (64 * ((b0 : Int) - 224) + bAt s (i + 1) - 128) + bAt s (i + 2) - 128 from rfl]
    simp only [conts_three, e1, e2, hNi]
    by_cases g : (1 < N ∧ b1 / 64 = 2) ∧ (2 < N ∧ b2 / 64 = 2)
    · obtain ⟨C, hC⟩ : ∃ C, b0 % 16 * 4096 + b1 % 64 * 64 + b2 % 64 = C := ⟨_, rfl⟩
      rw [if_neg (by omega), if_pos (by omega), show 64 * (64 * ((b0 : Int) - 224) + (b1 : Int) - 128) + (b2 : Int) - 128 = (C : Int) by omega]
      unfold Lib.decodeN
      rw [if_neg c1, if_neg (by omega), if_pos (by omega), hC]
      by_cases k : C ≥ 2048 ∧ (C < 55296 ∨ (57344 ≤ C ∧ C ≤ 1114111))
      · rw [if_pos k, nextD_good _ _ (by omega) (by omega), lastP_yes (by omega)]; rfl
      · rw [if_neg k, nextD_bad, lastP_no (by omega)]
    · by_cases g1 : N < 3
      · rw [if_pos (by omega)]
        unfold Lib.decodeN
        rw [if_neg c1, if_neg (by omega), if_neg (by omega), if_neg (by omega), nextD_bad]
      · rw [if_neg (by omega), if_neg (by omega)]
        unfold Lib.decodeN
        rw [if_neg c1, if_neg (by omega), if_neg (by omega), if_neg (by omega), nextD_bad]
  by_cases c4 : 240 ≤ b0 ∧ b0 ≤ 247
  · rw [nextP_of' (show lead (bAt s i) = (4, (b0 : Int) - 240) by rw [e0]; unfold lead; rw [if_neg (by omega), if_neg (by omega), if_neg (by omega), if_pos (by omega)]), show ((4 : Int) - 1).toNat = 3 from rfl, show cAt s i ((b0 : Int) - 240) 3 = 64 * (64 * (64 * ((b0 : Int) - 240) + bAt s (i + 1) - 128) + bAt s (i + 2) - 128) + bAt s (i + 3) - 128 from rfl]
    simp only [conts_four, e1, e2, e3, hNi]
    by_cases g : (1 < N ∧ b1 / 64 = 2) ∧ (2 < N ∧ b2 / 64 = 2) ∧ (3 < N ∧ b3 / 64 = 2)
    · obtain ⟨C, hC⟩ : ∃ C, b0 % 8 * 262144 + b1 % 64 * 4096 + b2 % 64 * 64 + b3 % 64 = C := ⟨_, rfl⟩
      rw [if_neg (by omega), if_pos (by omega), show 64 * (64 * (64 * ((b0 : Int) - 240) + (b1 : Int) - 128) + (b2 : Int) - 128) + (b3 : Int) - 128 = (C : Int) by omega]
      unfold Lib.decodeN
      rw [if_neg c1, if_neg (by omega), if_neg (by omega), if_pos (by omega), hC]
      by_cases k : C ≥ 65536 ∧ (C < 55296 ∨ (57344 ≤ C ∧ C ≤ 1114111))
      · rw [if_pos k, nextD_good _ _ (by omega) (by omega), lastP_yes (by omega)]; rfl
      · rw [if_neg k, nextD_bad, lastP_no (by omega)]
    · by_cases g1 : N < 4
      · rw [if_pos (by omega)]
        unfold Lib.decodeN
        rw [if_neg c1, if_neg (by omega), if_neg (by omega), if_neg (by omega), nextD_bad]
      · rw [if_neg (by omega), if_neg (by omega)]
        unfold Lib.decodeN
        rw [if_neg c1, if_neg (by omega), if_neg (by omega), if_neg (by omega), nextD_bad]
  · rw [nextP_of' (show lead (bAt s i) = (0, 0) by rw [e0]; unfold lead; rw [if_neg (by omega), if_neg (by omega), if_neg (by omega), if_neg (by omega)]), if_pos (Or.inl rfl)]
    unfold Lib.decodeN
    rw [if_neg c1, if_neg (by omega), if_neg (by omega), if_neg (by omega), nextD_bad]

theorem nextP_nonzero {s : ByteArray} {i : Nat} {c n : Int} (h : nextP s i = (c, n)) (hn : n ≠ 0) (j : Nat) (hj : (j : Int) < n) : bAt s (i + j) ≠ 0 := by
  have hb := bAt_range s i
  obtain ⟨l1, l2, hl⟩ : ∃ a b, lead (bAt s i) = (a, b) := ⟨(lead (bAt s i)).1, (lead (bAt s i)).2, rfl⟩
  rw [nextP_of' hl] at h
  split at h
  · cases h; exact absurd rfl hn
  split at h
  · rename_i hc
    by_cases hp : lastP (cAt s i l2 (l1 - 1).toNat) l1 = (cAt s i l2 (l1 - 1).toNat, l1)
    · rw [hp] at h
      cases h
      by_cases j0 : j = 0
      · subst j0
        intro hz
        rw [Nat.add_zero] at hz
        rw [hz] at hl
        have : lead 0 = (1, 0) := by unfold lead; rfl
        rw [this] at hl
        cases hl
        have : lastP (cAt s i 0 ((1 : Int) - 1).toNat) 1 = (0, 0) := lastP_no (by simp [cAt])
        rw [this] at hp
        cases hp
      · have := hc j (by omega) hj
        omega
    · exfalso
      apply hp
      by_cases hq : (((1 ≤ cAt s i l2 (l1 - 1).toNat ∧ cAt s i l2 (l1 - 1).toNat ≤ 1114111) ∧ ¬ (55296 ≤ cAt s i l2 (l1 - 1).toNat ∧ cAt s i l2 (l1 - 1).toNat ≤ 57343)) ∧ ((cAt s i l2 (l1 - 1).toNat < 128 ∧ l1 = 1) ∨ (128 ≤ cAt s i l2 (l1 - 1).toNat ∧ cAt s i l2 (l1 - 1).toNat < 2048 ∧ l1 = 2) ∨ (2048 ≤ cAt s i l2 (l1 - 1).toNat ∧ cAt s i l2 (l1 - 1).toNat < 65536 ∧ l1 = 3) ∨ (65536 ≤ cAt s i l2 (l1 - 1).toNat ∧ l1 = 4)))
      · exact lastP_yes hq
      · rw [lastP_no hq] at h
        cases h
        exact absurd rfl hn
  · cases h; exact absurd rfl hn

/-- Is the rest of a string from a place on valid? -/
def vFrom (s : ByteArray) (i : Nat) : Bool := Lib.validD (s.extract i s.size).data.toList
theorem toArr (b : ByteArray) : (⟨b.data.toList.toArray⟩ : ByteArray) = b := by cases b; simp
theorem vFrom_zero (s : ByteArray) : vFrom s 0 = Lib.validD s.data.toList := by
  unfold vFrom; rw [Lib.extract_data, Nat.sub_zero, List.drop_zero, List.take_of_length_le (by rw [← Lib.size_eq]; exact Nat.le_refl _)]
theorem vFrom_end (s : ByteArray) (i : Nat) (h : s.size ≤ i) : vFrom s i = true := by
  unfold vFrom
  rw [Lib.extract_data, show s.size - i = 0 by omega]
  simp [Lib.validD_nil]
theorem ext_ext (s : ByteArray) (i k : Nat) : (s.extract i s.size).data.toList.drop k = (s.extract (i + k) s.size).data.toList := by
  rw [Lib.extract_data, Lib.extract_data, List.drop_take, List.drop_drop]
  congr 1
  omega
theorem vFrom_step (s : ByteArray) (i : Nat) (hi : i < s.size) : vFrom s i = if (Utf8.decode s i).1 = 65533 ∧ (Utf8.decode s i).2 = 1 then false else vFrom s (i + (Utf8.decode s i).2) := by
  have hz : (s.extract i s.size).data.toList ≠ [] := by
    intro h
    have := congrArg List.length h
    rw [← Lib.size_eq, Lib.ext_size] at this
    simp at this
    omega
  have hd : Lib.decodeL (s.extract i s.size).data.toList = Utf8.decode s i := by
    unfold Lib.decodeL
    rw [toArr, Lib.tail_decode]
    rfl
  show Lib.validD _ = _
  rw [Lib.validD_step _ hz, hd, ext_ext]
  rfl
/-- No byte is 0 from a place on. -/
def NoZero (s : ByteArray) (i : Nat) : Prop := ∀ j, i ≤ j → j < s.size → bAt s j ≠ 0
theorem runes_some : ∀ (d : Nat) (s : ByteArray) (i : Nat), s.size - i = d → ((runesFrom s (s.size - i) i).isSome = true ↔ vFrom s i = true ∧ NoZero s i) := by
  intro d
  induction d using Nat.strongRecOn with
  | _ d ih =>
    intro s i hd
    by_cases hi : i < s.size
    · obtain ⟨c, n, hcn⟩ : ∃ c n, nextP s i = (c, n) := ⟨(nextP s i).1, (nextP s i).2, rfl⟩
      have hdc := nextP_decode s i hi
      rw [hcn] at hdc
      by_cases hn : n = 0
      · subst hn
        rw [runes_stop hi hcn]
        simp only [Option.isSome_none, Bool.false_eq_true, false_iff]
        rintro ⟨hv, hz⟩
        rw [vFrom_step s i hi] at hv
        unfold nextD at hdc
        split at hdc
        · rename_i hc
          rcases hc with hc | hc
          · have h0 := hz i (Nat.le_refl _) hi
            apply h0
            have hq := Lib.decode_at s i
            have r0 : (s.get! i).toNat < 256 := (s.get! i).toNat_lt
            have : (Lib.decodeN (s.size - i) (s.get! i).toNat (s.get! (i + 1)).toNat (s.get! (i + 2)).toNat (s.get! (i + 3)).toNat).1 = 0 := by rw [← hq]; exact hc
            unfold bAt
            unfold Lib.decodeN at this
            repeat' split at this
            all_goals first | omega | (simp only [] at this; omega)
          · rw [if_pos hc] at hv; cases hv
        · rename_i hc
          have := Lib.decode_width_pos s i hi
          injection hdc with _ hh
          omega
      · have hb := nextP_bd hcn hn
        rw [runes_step hi hcn hn]
        have hk : s.size - (i + n.toNat) < d := by omega
        rw [Option.isSome_map, ih _ hk s (i + n.toNat) rfl, vFrom_step s i hi]
        unfold nextD at hdc
        split at hdc
        · injection hdc with _ hh; exact absurd hh hn
        · rename_i hc
          injection hdc with _ hh
          rw [if_neg (fun k => hc (Or.inr k)), show (Utf8.decode s i).2 = n.toNat by omega]
          refine and_congr_right fun _ => ⟨fun hz j h1 h2 => ?_, fun hz j h1 h2 => hz j (by omega) h2⟩
          by_cases hj : i + n.toNat ≤ j
          · exact hz j hj h2
          · have := nextP_nonzero hcn hn (j - i) (by omega)
            rwa [show i + (j - i) = j by omega] at this
    · rw [show s.size - i = 0 by omega]
      simp only [runesFrom, Option.isSome_some, true_iff]
      exact ⟨vFrom_end s i (by omega), fun j h1 h2 => by omega⟩
theorem indexByte_zero (s : ByteArray) : (0 ≤ Lib.indexByte s.data.toList 0) ↔ ¬ NoZero s 0 := by
  have hget : ∀ j, j < s.size → (s.data.toList[j]? = some 0 ↔ bAt s j = 0) := by
    intro j hj
    rw [← bAt_eq s j hj]
    have hl : j < s.data.toList.length := by rw [← Lib.size_eq]; exact hj
    rw [List.getElem?_eq_getElem hl]
    have e : s.data.toList[j] = s[j] := by simp [ByteArray.getElem_eq_getElem_data]
    rw [e]
    constructor
    · intro h; injection h with h; rw [h]; rfl
    · intro h; congr 1; apply UInt8.toNat.inj; have : (s[j]).toNat = 0 := by omega
      rw [this]; rfl
  constructor
  · intro h hz
    obtain ⟨o, ho⟩ : ∃ o : Nat, Lib.indexByte s.data.toList 0 = o := ⟨(Lib.indexByte s.data.toList 0).toNat, by omega⟩
    have := (Lib.indexByte_some ho).1
    have hlt : o < s.size := by
      rw [Lib.size_eq]
      rcases Nat.lt_or_ge o s.data.toList.length with k | k
      · exact k
      · rw [List.getElem?_eq_none k] at this; cases this
    exact hz o (by omega) hlt ((hget o hlt).1 this)
  · intro h
    rcases (show Lib.indexByte s.data.toList 0 < 0 ∨ 0 ≤ Lib.indexByte s.data.toList 0 by omega) with k | k
    · exfalso
      apply h
      intro j _ hj hz
      have := Lib.indexByte_ge s.data.toList 0
      exact Lib.indexByte_none (by omega) j ((hget j hj).2 hz)
    · exact k
/-- A text, as the program asks for it. -/
theorem runesP_isSome (s : ByteArray) : (runesP s).isSome = true ↔ s.size ≤ 1000 ∧ Lib.validD s.data.toList = true ∧ ¬ (0 ≤ Lib.indexByte s.data.toList 0) := by
  rw [indexByte_zero, Classical.not_not]
  unfold runesP
  split
  · simp; omega
  · have := runes_some s.size s 0 (by omega)
    rw [Nat.sub_zero] at this
    rw [this, vFrom_zero]
    constructor
    · rintro ⟨a, b⟩; exact ⟨by omega, a, b⟩
    · rintro ⟨_, a, b⟩; exact ⟨a, b⟩
/-- In a text the model's decoder reads what the reference reads. -/
theorem SoFar.decode {s : ByteArray} {i : Nat} {L : List Int} (h : SoFar s i L) (h1 : (runesP s).isSome = true) (hi : i < s.size) : ∃ c n : Nat, Utf8.decode s i = (c, n) ∧ nextP s i = ((c : Int), (n : Int)) ∧ n ≠ 0 := by
  have h2 : ¬ 1000 < s.size := by
    intro k
    rw [runesP_long k] at h1
    cases h1
  obtain ⟨c, n, hcn⟩ : ∃ c n, nextP s i = (c, n) := ⟨(nextP s i).1, (nextP s i).2, rfl⟩
  by_cases hn : n = 0
  · subst hn
    rw [h.stop (by omega) hi hcn] at h1
    cases h1
  · have hd := nextP_decode s i hi
    rw [hcn] at hd
    unfold nextD at hd
    split at hd
    · injection hd with _ hh; exact absurd hh hn
    · injection hd with ha hb
      exact ⟨(Utf8.decode s i).1, (Utf8.decode s i).2, rfl, by rw [hcn, ha, hb], by omega⟩
end Go.Proofs.YtlpgkpaogadolaaDoor
