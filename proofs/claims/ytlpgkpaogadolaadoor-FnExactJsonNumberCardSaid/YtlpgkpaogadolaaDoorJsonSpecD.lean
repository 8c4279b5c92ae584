/- The reference's JSON reader: escapes, walked. -/
import Derived.Test.YtlpgkpaogadolaaDoorJsonSpecC
import Derived.IntWalk
namespace Go.Proofs.YtlpgkpaogadolaaDoor
open Go.RowKit
set_option maxRecDepth 100000

set_option maxHeartbeats 2000000 in
theorem escape_simple (g : Nat) (r : RdS) (i : Nat) (w : World) (h : RdAt w g r) (hs : r.s.size ≤ 1000000) (hi : r.i = i + 1) (_hc : r.code = 0) (hin : i + 1 < r.s.size) (x : Int) (hx : escV (pk r.s (i + 1)) = some x) :
    Calls Tryd.prog 90 #[.pointer (some ⟨g, 0, none⟩), .int .i64 i] w (IsHex g r (escR r.s i) w) := by
  have HE : Hid (escR r.s i = .ok (x, i + 2)) := by
    unfold Hid escR
    rw [if_neg (by rw [pk_in hin]; have := bAt_range r.s (i + 1); omega), hx]
  have H := Lib.hid h
  obtain ⟨c0, c1, c2, -⟩ := h.facts
  have hf := h.free
  have hpv : peekV r = pk r.s (i + 1) := by rw [peekV_in (by omega), hi]
  have HI := Lib.hid hi
  have hi2 : (r.i : Int) + 1 = ((i + 2 : Nat) : Int) := by omega
  have HI2 := Lib.hid hi2
  rw [hi] at c1
  have hcase : (peekV r = 34 ∧ x = 34) ∨ (peekV r = 92 ∧ x = 92) ∨ (peekV r = 47 ∧ x = 47) ∨ (peekV r = 98 ∧ x = 8) ∨ (peekV r = 102 ∧ x = 12) ∨ (peekV r = 110 ∧ x = 10) ∨ (peekV r = 114 ∧ x = 13) ∨ (peekV r = 116 ∧ x = 9) := by
    rw [hpv]
    exact escV_some hx
  clear h hpv hi hi2 hx
  rcases hcase with ⟨hp, rfl⟩ | ⟨hp, rfl⟩ | ⟨hp, rfl⟩ | ⟨hp, rfl⟩ | ⟨hp, rfl⟩ | ⟨hp, rfl⟩ | ⟨hp, rfl⟩ | ⟨hp, rfl⟩
  all_goals
    go_enter Tryd.func90, Tryd.ntmps90
    go_wp2_with (go_at_call 56; refine (peek_any g r _ H.out hs).mono ?_; rintro e w' ⟨rfl, m, rfl⟩)
    go_ret
    exact isHex_ok HE.out (((Only.refl g w).drewN _).set 1 _) (RdAt.stepTo (H.out.drewN _) _ _ (by congr 1))
set_option maxHeartbeats 2000000 in
theorem escape_none (g : Nat) (r : RdS) (i : Nat) (w : World) (h : RdAt w g r) (hs : r.s.size ≤ 1000000) (hi : r.i = i + 1) (hc : r.code = 0) (hin : i + 1 ≤ r.s.size) (hx : escV (pk r.s (i + 1)) = none) (hu : pk r.s (i + 1) ≠ 117) :
    Calls Tryd.prog 90 #[.pointer (some ⟨g, 0, none⟩), .int .i64 i] w (IsHex g r (escR r.s i) w) := by
  have H := Lib.hid h
  obtain ⟨c0, c1, c2, -⟩ := h.facts
  have hf := h.free
  have hn : (peekV r == 34) = false ∧ (peekV r == 92) = false ∧ (peekV r == 47) = false ∧ (peekV r == 98) = false ∧ (peekV r == 102) = false ∧ (peekV r == 110) = false ∧ (peekV r == 114) = false ∧ (peekV r == 116) = false ∧ (peekV r == 117) = false := by
    have : peekV r = pk r.s (i + 1) ∨ peekV r = 0 := by unfold peekV pk; rw [hi]; split <;> simp
    have := escV_none hx
    simp only [beq_eq_false_iff_ne]
    omega
  obtain ⟨n1, n2, n3, n4, n5, n6, n7, n8, n9⟩ := hn
  have HI := Lib.hid hi
  rw [hi] at c1
  have HC := Lib.hid hc
  by_cases hlt : i + 1 < r.s.size
  · have HE : Hid (escR r.s i = .error (2, i)) := by
      unfold Hid escR
      rw [if_neg (by rw [pk_in hlt]; have := bAt_range r.s (i + 1); omega), hx]
      simp only []
      rw [if_pos hu]
    have hle : i + 1 + 1 ≤ r.s.size := by omega
    have ht : ¬ ((r.s.size : Int) < (i : Int) + 1 + 1) := by omega
    clear h hc hi hx hu
    go_enter Tryd.func90, Tryd.ntmps90
    go_wp2_with (go_at_call 56; refine (peek_any g r _ H.out hs).mono ?_; rintro e w' ⟨rfl, m, rfl⟩)
    go_quiet (fail)
    go_wp2_with (go_at_call 29; refine (fail_any g (r.to (i + 1 + 1)) _ _ _ (RdAt.drewN (RdAt.stepTo (H.out.drewN _) _ _ (by go_num)) _)).mono ?_; rintro e w' ⟨rfl, hR2, hO2⟩)
    go_ret
    rw [RdS.failS_yes (r := r.to (i + 1 + 1)) HC.out] at hR2
    exact isHex_err HE.out (((((Only.refl g w).drewN _).set 1 _).drewN _).trans hO2) (j := i + 1 + 1) hR2 (by omega)
  · have HE : Hid (escR r.s i = .error (2, i + 1)) := by
      unfold Hid escR
      rw [if_pos (by rw [pk_out hlt]; omega)]
    have ht : (r.s.size : Int) < (i : Int) + 1 + 1 := by omega
    have HS : Hid ((r.s.size : Int) = ((i + 1 : Nat) : Int)) := by unfold Hid; omega
    clear h hc hi hx hu
    go_enter Tryd.func90, Tryd.ntmps90
    go_wp2_with (go_at_call 56; refine (peek_any g r _ H.out hs).mono ?_; rintro e w' ⟨rfl, m, rfl⟩)
    go_quiet (fail)
    go_wp2_with (go_at_call 29; refine (fail_any g (r.to (i + 1 + 1)) _ _ _ (RdAt.drewN (RdAt.stepTo (H.out.drewN _) _ _ (by go_num)) _)).mono ?_; rintro e w' ⟨rfl, hR2, hO2⟩)
    go_ret
    rw [RdS.failS_yes (r := r.to (i + 1 + 1)) HC.out, HS.out] at hR2
    exact isHex_err HE.out (((((Only.refl g w).drewN _).set 1 _).drewN _).trans hO2) (j := i + 1 + 1) hR2 (by omega)
theorem escR_u {s : ByteArray} {i : Nat} (h : pk s (i + 1) = 117) : escR s i = (hexN s 4 (i + 2) 0).bind fun (n, j) => uniR s i j n := by
  unfold escR
  rw [if_neg (by omega), h]
  have : escV 117 = none := by decide
  rw [this]
  simp only []
  rw [if_neg (by omega)]
theorem four_off (g : Nat) (r : RdS) (w : World) (h : RdAt w g r) (hc : ¬ r.code = 0) :
    Calls Tryd.prog 113 #[.pointer (some ⟨g, 0, none⟩)] w fun e w' => e = .returned (.int .i64 0) ∧ ∃ m, w' = w.drewN m := by
  obtain ⟨-, -, c2, -⟩ := h.facts
  have hq : (r.code == 0) = false := beq_no hc
  clear h
  go_enter Tryd.func113, Tryd.ntmps113
  go_wp2_with fail
  go_loopw [3, 4] (fun sn sk wr => sn = .int .i64 0 ∧ sk = .int .i64 0 ∧ wr = w) (fun _ _ _ => 0)
  case atStart => exact ⟨rfl, rfl, rfl⟩
  case round =>
    obtain ⟨rfl, rfl, rfl⟩ := hrel
    go_wp2_with fail
    go_ret
    exact ⟨rfl, 0, rfl⟩
theorem toList_tail {s : ByteArray} {j : Nat} (h : s.size ≤ j) : (s.extract j s.size).toList = [] := by
  rw [ByteArray.toList_eq, ByteArray.data_extract]
  simp
  omega
theorem get!_eq {s : ByteArray} {j : Nat} (h : j < s.data.toList.length) : s.data.toList[j] = s.get! j := by
  have h2 : j < s.data.size := h
  exact (getElem!_pos s.data j h2).symm
theorem toList_last {s : ByteArray} {j : Nat} (h : j + 1 = s.size) : (s.extract j s.size).toList = [s.get! j] := by
  have e : s.data.toList.length = s.size := rfl
  rw [ByteArray.toList_eq, ByteArray.data_extract, Array.toList_extract, List.extract_eq_take_drop, List.drop_eq_getElem_cons (by omega), get!_eq, show s.size - j = 0 + 1 by omega, List.take_succ_cons, List.take_zero]
theorem toList_two {s : ByteArray} {j : Nat} (h : j + 1 < s.size) : (s.extract j (j + 2)).toList = [s.get! j, s.get! (j + 1)] := by
  have e : s.data.toList.length = s.size := rfl
  rw [ByteArray.toList_eq, ByteArray.data_extract, Array.toList_extract, List.extract_eq_take_drop, List.drop_eq_getElem_cons (by omega), List.drop_eq_getElem_cons (by omega), get!_eq, get!_eq, show j + 2 - j = 0 + 1 + 1 by omega, List.take_succ_cons, List.take_succ_cons, List.take_zero]
theorem get!_num {s : ByteArray} {j : Nat} (h : j < s.size) : ((s.get! j).toNat : Int) = pk s j := by rw [pk_in h]; rfl
theorem byte_of {s : ByteArray} {j : Nat} {b : UInt8} (h : j < s.size) (hp : pk s j = (b.toNat : Int)) : s.get! j = b := UInt8.toNat.inj (by have := get!_num h; omega)
theorem byte_no {s : ByteArray} {j : Nat} {b : UInt8} (h : j < s.size) (hp : ¬ pk s j = (b.toNat : Int)) : s.get! j ≠ b := fun e => hp (by rw [← get!_num h, e])
theorem peekV_past {r : RdS} (h : ¬ r.i < r.s.size) : peekV r = 0 := if_neg h
/-- What a refused second half leaves. -/
def RdS.bad2 (r : RdS) (j : Nat) : RdS := { r with i := j, code := 2, bad := j }
set_option maxHeartbeats 4000000 in
theorem escape_u (g : Nat) (r : RdS) (i : Nat) (w : World) (h : RdAt w g r) (hs : r.s.size ≤ 1000000) (hi : r.i = i + 1) (hc : r.code = 0) (hu : pk r.s (i + 1) = 117) :
    Calls Tryd.prog 90 #[.pointer (some ⟨g, 0, none⟩), .int .i64 i] w (IsHex g r (escR r.s i) w) := by
  have hin := pk_lt (s := r.s) (i := i + 1) (by omega)
  have HU := Lib.hid (escR_u hu)
  have H := Lib.hid h
  obtain ⟨c0, c1, c2, -⟩ := h.facts
  have hf := h.free
  have hpv : peekV r = 117 := by rw [peekV_in (by omega), hi, hu]
  have HI := Lib.hid hi
  have HC := Lib.hid hc
  rw [hi] at c1
  clear h hc hi hu
  rcases hx : hexN r.s 4 (i + 2) 0 with ⟨cc, p⟩ | ⟨n, j⟩
  · have HE : Hid (escR r.s i = .error (cc, p)) := by unfold Hid; rw [HU.out, hx]; rfl
    have HX := Lib.hid hx
    have hcc : cc = 2 := hexN_err hx
    subst hcc
    clear hx
    go_enter Tryd.func90, Tryd.ntmps90
    go_wp2_with (first | (go_at_call 56; refine (peek_any g r _ H.out hs).mono ?_; rintro e w' ⟨rfl, m, rfl⟩) | (go_at_call 113; go_must (refine (four_at g (r.to (i + 1 + 1)) (.error (2, p)) _ (RdAt.stepTo (H.out.drewN _) _ _ (by go_num)) hs (show i + 1 + 1 ≤ r.s.size by omega) HC.out HX.out).mono ?_); rintro e w' hH; obtain ⟨rfl, hO2, j, hR2, hj⟩ := hH.err; obtain ⟨d0, d1, d2, -⟩ := hR2.facts; simp only [] at d0 d1 d2))
    go_ret
    exact isHex_err HE.out ((((Only.refl g w).drewN _).set 1 _).trans hO2) (j := j) hR2 hj
  · have hE0 : escR r.s i = uniR r.s i j n := by rw [HU.out, hx]; rfl
    have hbd := hexN_bd hx (by omega)
    simp only [show (16 : Int) ^ 4 = 65536 by decide] at hbd
    obtain ⟨hje, hjs, hm0, hm1⟩ := hbd
    have HJE := Lib.hid hje
    clear hje
    have HX := Lib.hid hx
    have HF : Hid (∀ W, RdAt W g (r.to (i + 1 + 1)) → Calls Tryd.prog 113 #[.pointer (some ⟨g, 0, none⟩)] W (IsHex g (r.to (i + 1 + 1)) (.ok (n, j)) W)) := fun W hW => four_at g (r.to (i + 1 + 1)) (.ok (n, j)) W hW hs (show i + 1 + 1 ≤ r.s.size by omega) HC.out HX.out
    clear hx
    by_cases hsur : 55296 ≤ n ∧ n ≤ 56319
    · have hE1 : escR r.s i = pairR r.s i j n := by rw [hE0]; unfold uniR; rw [if_pos hsur]
      have HE1 := Lib.hid hE1
      clear hE0 hE1 HU
      go_enter Tryd.func90, Tryd.ntmps90
      go_upto_region 23 with (first | (go_at_call 56; refine (peek_any g r _ H.out hs).mono ?_; rintro e w' ⟨rfl, m, rfl⟩) | (go_at_call 113; refine (HF.out _ (RdAt.stepTo (H.out.drewN _) _ _ (by go_num))).mono ?_; rintro e w' hH; obtain ⟨rfl, hO2, hR2⟩ := hH.ok; obtain ⟨d0, d1, d2, -⟩ := hR2.facts; simp only [RdS.to] at d0 d1 d2; rw [HC.out] at d2) | (go_at_call 111; refine (betw_yes _ _ _ _ hsur).mono ?_; rintro e w' ⟨rfl, rfl⟩))
      have hjz : (j : Int) ≤ (r.s.size : Int) := by omega
      rcases (show ¬ j < r.s.size ∨ j + 1 = r.s.size ∨ j + 1 < r.s.size by omega) with hj | hj | hj
      · have hj2 : (r.s.size : Int) ≤ j := by omega
        have hsl : (r.s.extract j r.s.size).toList.isEmpty = true := by rw [toList_tail (by omega)]; rfl
        have q1 : decide ((r.s.size : Int) ≤ (j : Int) + 1) = true := by simp; omega
        have q2 : decide ((j : Int) + 1 < (r.s.size : Int)) = false := by simp; omega
        have HE : Hid (escR r.s i = .error (2, j)) := by
          unfold Hid; rw [HE1.out]; unfold pairR; rw [if_pos (by rw [pk_out hj]; omega)]
        have HW1 : Hid ((r.to j).wantS 92 = r.bad2 j) := by
          unfold Hid; rw [RdS.wantS_no (by rw [peekV_past hj]; omega), RdS.failS_yes (r := r.to j) HC.out]; rfl
        have HW2 : Hid ((r.bad2 j).wantS 117 = r.bad2 j) := by
          unfold Hid; rw [RdS.wantS_no (by rw [peekV_past (r := r.bad2 j) hj]; omega), RdS.failS_no (r := r.bad2 j) (show ¬ (2 : Int) = 0 by decide)]
        refine wp_region_quiet_lit (by kernel_rfl) (by kernel_rfl) ?_
        dsimp only [List.append]
        repeat (go_big_quiet_step (fail))
        refine wpQuiet_nil ?_
        intro _ hw'
        obtain ⟨nq, hw''⟩ := hw'
        subst hw''
        clear q1 q2
        go_wp2_with (first
          | (go_at_call 58; refine (want_any g (r.bad2 j) 117 _ hR3 hs (show j ≤ 2000000 by omega)).mono ?_; rintro e w' ⟨rfl, hR4, hO4⟩; rw [HW2.out] at hR4; obtain ⟨f0, f1, f2, -⟩ := hR4.facts; simp only [RdS.bad2] at f0 f1 f2)
          | (go_at_call 58; refine (want_any g (r.to j) 92 _ (RdAt.drewN hR2 _) hs (show j ≤ 2000000 by omega)).mono ?_; rintro e w' ⟨rfl, hR3, hO3⟩; rw [HW1.out] at hR3; obtain ⟨e0, e1, e2, -⟩ := hR3.facts; simp only [RdS.bad2] at e0 e1 e2)
          | (go_at_call 113; refine (four_off g (r.bad2 j) _ hR4 (show ¬ (2 : Int) = 0 by decide)).mono ?_; rintro e w' ⟨rfl, m4, rfl⟩))
        go_ret
        exact isHex_err HE.out ((((((((Only.refl g w).drewN _).set 1 _).trans hO2).drewN _).trans hO3).trans hO4).drewN _) (j := j) (hR4.drewN _) (by omega)
      · have q1 : decide ((r.s.size : Int) ≤ (j : Int) + 1) = true := by simp; omega
        have q2 : decide ((j : Int) + 1 < (r.s.size : Int)) = false := by simp; omega
        have hsl : (r.s.extract j r.s.size).toList.isEmpty = false := by rw [toList_last hj]; rfl
        by_cases h92 : pk r.s j = 92
        · have hs92 : ((r.s.extract j r.s.size).toList == [92]) = true := by rw [toList_last hj, byte_of (b := 92) (by omega) h92]; rfl
          have HE : Hid (escR r.s i = .error (2, j + 1)) := by
            unfold Hid; rw [HE1.out]; unfold pairR; rw [if_neg (by omega), if_neg (by omega), if_pos (by rw [pk_out (by omega)]; omega)]
          have HW1 : Hid ((r.to j).wantS 92 = r.to (j + 1)) := by
            unfold Hid; rw [RdS.wantS_yes ((peekV_eq (r.to j) 92 (by omega)).2 h92)]; rfl
          have HW2 : Hid ((r.to (j + 1)).wantS 117 = r.bad2 (j + 1)) := by
            unfold Hid; rw [RdS.wantS_no (by rw [peekV_past (r := r.to (j + 1)) (show ¬ j + 1 < r.s.size by omega)]; omega), RdS.failS_yes (r := r.to (j + 1)) HC.out]; rfl
          clear h92
          refine wp_region_quiet_lit (by kernel_rfl) (by kernel_rfl) ?_
          dsimp only [List.append]
          repeat (go_big_quiet_step (fail))
          refine wpQuiet_nil ?_
          intro _ hw'
          obtain ⟨nq, hw''⟩ := hw'
          subst hw''
          clear q1 q2
          go_wp2_with (first
            | (go_at_call 58; refine (want_any g (r.to (j + 1)) 117 _ hR3 hs (show j + 1 ≤ 2000000 by omega)).mono ?_; rintro e w' ⟨rfl, hR4, hO4⟩; rw [HW2.out] at hR4; obtain ⟨f0, f1, f2, -⟩ := hR4.facts; simp only [RdS.bad2] at f0 f1 f2)
            | (go_at_call 58; refine (want_any g (r.to j) 92 _ (RdAt.drewN hR2 _) hs (show j ≤ 2000000 by omega)).mono ?_; rintro e w' ⟨rfl, hR3, hO3⟩; rw [HW1.out] at hR3; obtain ⟨e0, e1, e2, -⟩ := hR3.facts; simp only [RdS.to] at e0 e1 e2)
            | (go_at_call 113; refine (four_off g (r.bad2 (j + 1)) _ hR4 (show ¬ (2 : Int) = 0 by decide)).mono ?_; rintro e w' ⟨rfl, m4, rfl⟩))
          go_ret
          exact isHex_err HE.out ((((((((Only.refl g w).drewN _).set 1 _).trans hO2).drewN _).trans hO3).trans hO4).drewN _) (j := j + 1) (hR4.drewN _) (by omega)
        · have hs92 : ((r.s.extract j r.s.size).toList == [92]) = false := by rw [toList_last hj]; simp [byte_no (b := 92) (by omega) h92]
          have HE : Hid (escR r.s i = .error (2, i)) := by
            unfold Hid; rw [HE1.out]; unfold pairR; rw [if_neg (by rw [pk_in (by omega)]; have := bAt_range r.s j; omega), if_pos h92]
          clear h92
          refine wp_region_quiet_lit (by kernel_rfl) (by kernel_rfl) ?_
          dsimp only [List.append]
          repeat (go_big_quiet_step (fail))
          refine wpQuiet_nil ?_
          intro _ hw'
          obtain ⟨nq, hw''⟩ := hw'
          subst hw''
          clear q1 q2
          go_wp2_with (go_at_call 29; refine (fail_any g (r.to j) _ _ _ (RdAt.drewN hR2 _)).mono ?_; rintro e w' ⟨rfl, hR3, hO3⟩)
          go_ret
          rw [RdS.failS_yes (r := r.to j) HC.out] at hR3
          exact isHex_err HE.out ((((((Only.refl g w).drewN _).set 1 _).trans hO2).drewN _).trans hO3) (j := j) hR3 (by omega)
      · have q1 : decide ((r.s.size : Int) ≤ (j : Int) + 1) = false := by simp; omega
        have q2 : decide ((j : Int) + 1 < (r.s.size : Int)) = true := by simp; omega
        have q3 : (j : Int) + 2 ≤ (r.s.size : Int) := by omega
        by_cases h2 : pk r.s j = 92 ∧ pk r.s (j + 1) = 117
        · have hs2 : ((r.s.extract j (j + 2)).toList == [92, 117]) = true := by rw [toList_two hj, byte_of (b := 92) (by omega) h2.1, byte_of (b := 117) (by omega) h2.2]; rfl
          have HE2 : escR r.s i = (hexN r.s 4 (j + 2) 0).bind fun (m, k) => if 56320 ≤ m ∧ m ≤ 57343 then .ok (65536 + 1024 * (n - 55296) + m - 56320, k) else .error (2, i) := by
            rw [HE1.out]; unfold pairR; rw [if_neg (by omega), if_neg (by omega), if_neg (by omega), if_neg (by omega)]
          have HW1 : Hid ((r.to j).wantS 92 = r.to (j + 1)) := by
            unfold Hid; rw [RdS.wantS_yes ((peekV_eq (r.to j) 92 (by omega)).2 h2.1)]; rfl
          have HW2 : Hid ((r.to (j + 1)).wantS 117 = r.to (j + 2)) := by
            unfold Hid; rw [RdS.wantS_yes ((peekV_eq (r.to (j + 1)) 117 (by omega)).2 h2.2)]; rfl
          clear h2
          rcases hx : hexN r.s 4 (j + 2) 0 with ⟨cc, p⟩ | ⟨m2, k⟩
          · have HE : Hid (escR r.s i = .error (2, p)) := by unfold Hid; rw [HE2, hx, hexN_err hx]; rfl
            have HF2 : Hid (∀ W, RdAt W g (r.to (j + 2)) → Calls Tryd.prog 113 #[.pointer (some ⟨g, 0, none⟩)] W (IsHex g (r.to (j + 2)) (.error (2, p)) W)) := fun W hW => four_at g (r.to (j + 2)) (.error (2, p)) W hW hs (show j + 2 ≤ r.s.size by omega) HC.out (by rw [← hexN_err hx]; exact hx)
            clear hx HE2
            refine wp_region_quiet_lit (by kernel_rfl) (by kernel_rfl) ?_
            dsimp only [List.append]
            repeat (go_big_quiet_step (fail))
            refine wpQuiet_nil ?_
            intro _ hw'
            obtain ⟨nq, hw''⟩ := hw'
            subst hw''
            clear q1 q2
            go_wp2_with (first
              | (go_at_call 58; refine (want_any g (r.to (j + 1)) 117 _ hR3 hs (show j + 1 ≤ 2000000 by omega)).mono ?_; rintro e w' ⟨rfl, hR4, hO4⟩; rw [HW2.out] at hR4; obtain ⟨f0, f1, f2, -⟩ := hR4.facts; simp only [RdS.to] at f0 f1 f2)
              | (go_at_call 58; refine (want_any g (r.to j) 92 _ (RdAt.drewN hR2 _) hs (show j ≤ 2000000 by omega)).mono ?_; rintro e w' ⟨rfl, hR3, hO3⟩; rw [HW1.out] at hR3; obtain ⟨e0, e1, e2, -⟩ := hR3.facts; simp only [RdS.to] at e0 e1 e2)
              | (go_at_call 113; refine (HF2.out _ hR4).mono ?_; rintro e w' hH; obtain ⟨rfl, hO5, k, hR5, hk⟩ := hH.err; obtain ⟨z0, z1, z2, -⟩ := hR5.facts; simp only [RdS.to] at z0 z1 z2))
            go_ret
            exact isHex_err HE.out ((((((((Only.refl g w).drewN _).set 1 _).trans hO2).drewN _).trans hO3).trans hO4).trans hO5) (j := k) hR5 hk
          · have hb2 := hexN_bd hx (by omega)
            simp only [show (16 : Int) ^ 4 = 65536 by decide] at hb2
            obtain ⟨hk1, hk2, hm2, hm3⟩ := hb2
            have HF2 : Hid (∀ W, RdAt W g (r.to (j + 2)) → Calls Tryd.prog 113 #[.pointer (some ⟨g, 0, none⟩)] W (IsHex g (r.to (j + 2)) (.ok (m2, k)) W)) := fun W hW => four_at g (r.to (j + 2)) (.ok (m2, k)) W hW hs (show j + 2 ≤ r.s.size by omega) HC.out hx
            have HK := Lib.hid hk1
            by_cases hlow : 56320 ≤ m2 ∧ m2 ≤ 57343
            · have HE : Hid (escR r.s i = .ok (65536 + 1024 * (n - 55296) + m2 - 56320, k)) := by unfold Hid; rw [HE2, hx]; exact if_pos hlow
              clear hx HE2 hk1
              refine wp_region_quiet_lit (by kernel_rfl) (by kernel_rfl) ?_
              dsimp only [List.append]
              repeat (go_big_quiet_step (fail))
              refine wpQuiet_nil ?_
              intro _ hw'
              obtain ⟨nq, hw''⟩ := hw'
              subst hw''
              clear q1 q2
              go_wp2_with (first
                | (go_at_call 58; refine (want_any g (r.to (j + 1)) 117 _ hR3 hs (show j + 1 ≤ 2000000 by omega)).mono ?_; rintro e w' ⟨rfl, hR4, hO4⟩; rw [HW2.out] at hR4; obtain ⟨f0, f1, f2, -⟩ := hR4.facts; simp only [RdS.to] at f0 f1 f2)
                | (go_at_call 58; refine (want_any g (r.to j) 92 _ (RdAt.drewN hR2 _) hs (show j ≤ 2000000 by omega)).mono ?_; rintro e w' ⟨rfl, hR3, hO3⟩; rw [HW1.out] at hR3; obtain ⟨e0, e1, e2, -⟩ := hR3.facts; simp only [RdS.to] at e0 e1 e2)
                | (go_at_call 113; refine (HF2.out _ hR4).mono ?_; rintro e w' hH; obtain ⟨rfl, hO5, hR5⟩ := hH.ok; obtain ⟨z0, z1, z2, -⟩ := hR5.facts; simp only [RdS.to] at z0 z1 z2; rw [HC.out] at z2)
                | (go_at_call 111; refine (betw_yes _ _ _ _ hlow).mono ?_; rintro e w' ⟨rfl, rfl⟩))
              go_ret
              exact isHex_ok HE.out ((((((((Only.refl g w).drewN _).set 1 _).trans hO2).drewN _).trans hO3).trans hO4).trans hO5) hR5
            · have HE : Hid (escR r.s i = .error (2, i)) := by unfold Hid; rw [HE2, hx]; exact if_neg hlow
              clear hx HE2 hk1
              refine wp_region_quiet_lit (by kernel_rfl) (by kernel_rfl) ?_
              dsimp only [List.append]
              repeat (go_big_quiet_step (fail))
              refine wpQuiet_nil ?_
              intro _ hw'
              obtain ⟨nq, hw''⟩ := hw'
              subst hw''
              clear q1 q2
              go_wp2_with (first
                | (go_at_call 58; refine (want_any g (r.to (j + 1)) 117 _ hR3 hs (show j + 1 ≤ 2000000 by omega)).mono ?_; rintro e w' ⟨rfl, hR4, hO4⟩; rw [HW2.out] at hR4; obtain ⟨f0, f1, f2, -⟩ := hR4.facts; simp only [RdS.to] at f0 f1 f2)
                | (go_at_call 58; refine (want_any g (r.to j) 92 _ (RdAt.drewN hR2 _) hs (show j ≤ 2000000 by omega)).mono ?_; rintro e w' ⟨rfl, hR3, hO3⟩; rw [HW1.out] at hR3; obtain ⟨e0, e1, e2, -⟩ := hR3.facts; simp only [RdS.to] at e0 e1 e2)
                | (go_at_call 113; refine (HF2.out _ hR4).mono ?_; rintro e w' hH; obtain ⟨rfl, hO5, hR5⟩ := hH.ok; obtain ⟨z0, z1, z2, -⟩ := hR5.facts; simp only [RdS.to] at z0 z1 z2; rw [HC.out] at z2)
                | (go_at_call 111; refine (betw_no _ _ _ _ hlow).mono ?_; rintro e w' ⟨rfl, rfl⟩)
                | (go_at_call 29; refine (fail_any g (r.to k) _ _ _ hR5).mono ?_; rintro e w' ⟨rfl, hR6, hO6⟩))
              go_ret
              rw [RdS.failS_yes (r := r.to k) HC.out] at hR6
              exact isHex_err HE.out (((((((((Only.refl g w).drewN _).set 1 _).trans hO2).drewN _).trans hO3).trans hO4).trans hO5).trans hO6) (j := k) hR6 (by omega)
        · have hs2 : ((r.s.extract j (j + 2)).toList == [92, 117]) = false := by
            rw [toList_two hj]
            by_cases h92 : pk r.s j = 92
            · simp [byte_no (b := 117) (by omega) (fun e => h2 ⟨h92, e⟩)]
            · simp [byte_no (b := 92) (by omega) h92]
          have HE : Hid (escR r.s i = .error (2, i)) := by
            unfold Hid; rw [HE1.out]; unfold pairR
            have b1 := pk_in (s := r.s) (i := j) (by omega)
            have b2 := pk_in (s := r.s) (i := j + 1) (by omega)
            have c1 := bAt_range r.s j
            have c2 := bAt_range r.s (j + 1)
            rw [if_neg (by omega)]
            by_cases h92 : pk r.s j = 92
            · rw [if_neg (by omega), if_neg (by omega), if_pos (fun e => h2 ⟨h92, e⟩)]
            · rw [if_pos h92]
          clear h2
          refine wp_region_quiet_lit (by kernel_rfl) (by kernel_rfl) ?_
          dsimp only [List.append]
          repeat (go_big_quiet_step (fail))
          refine wpQuiet_nil ?_
          intro _ hw'
          obtain ⟨nq, hw''⟩ := hw'
          subst hw''
          clear q1 q2
          go_wp2_with (go_at_call 29; refine (fail_any g (r.to j) _ _ _ (RdAt.drewN hR2 _)).mono ?_; rintro e w' ⟨rfl, hR3, hO3⟩)
          go_ret
          rw [RdS.failS_yes (r := r.to j) HC.out] at hR3
          exact isHex_err HE.out ((((((Only.refl g w).drewN _).set 1 _).trans hO2).drewN _).trans hO3) (j := j) hR3 (by omega)
    · by_cases hpt : point n = true
      · have HE : Hid (escR r.s i = .ok (n, j)) := by unfold Hid; rw [hE0]; unfold uniR; rw [if_neg hsur, if_pos hpt]
        clear hE0 HU
        go_enter Tryd.func90, Tryd.ntmps90
        go_wp2_with (first | (go_at_call 56; refine (peek_any g r _ H.out hs).mono ?_; rintro e w' ⟨rfl, m, rfl⟩) | (go_at_call 113; refine (HF.out _ (RdAt.stepTo (H.out.drewN _) _ _ (by go_num))).mono ?_; rintro e w' hH; obtain ⟨rfl, hO2, hR2⟩ := hH.ok; obtain ⟨d0, d1, d2, -⟩ := hR2.facts; simp only [RdS.to] at d0 d1 d2; rw [HC.out] at d2) | (go_at_call 111; refine (betw_no _ _ _ _ hsur).mono ?_; rintro e w' ⟨rfl, rfl⟩) | (go_at_call 112; refine (point_any _ _).mono ?_; rintro e w' ⟨rfl, rfl⟩))
        go_ret
        exact isHex_ok HE.out ((((Only.refl g w).drewN _).set 1 _).trans hO2) hR2
      · have HE : Hid (escR r.s i = .error (2, i)) := by unfold Hid; rw [hE0]; unfold uniR; rw [if_neg hsur, if_neg hpt]
        have hpf : point n = false := by simpa using hpt
        clear hE0 HU hpt
        go_enter Tryd.func90, Tryd.ntmps90
        go_wp2_with (first | (go_at_call 56; refine (peek_any g r _ H.out hs).mono ?_; rintro e w' ⟨rfl, m, rfl⟩) | (go_at_call 113; refine (HF.out _ (RdAt.stepTo (H.out.drewN _) _ _ (by go_num))).mono ?_; rintro e w' hH; obtain ⟨rfl, hO2, hR2⟩ := hH.ok; obtain ⟨d0, d1, d2, -⟩ := hR2.facts; simp only [RdS.to] at d0 d1 d2; rw [HC.out] at d2) | (go_at_call 111; refine (betw_no _ _ _ _ hsur).mono ?_; rintro e w' ⟨rfl, rfl⟩) | (go_at_call 112; refine (point_any _ _).mono ?_; rintro e w' ⟨rfl, rfl⟩) | (go_at_call 29; refine (fail_any g (r.to j) _ _ _ hR2).mono ?_; rintro e w' ⟨rfl, hR3, hO3⟩))
        go_ret
        rw [RdS.failS_yes (r := r.to j) HC.out] at hR3
        exact isHex_err HE.out (((((Only.refl g w).drewN _).set 1 _).trans hO2).trans hO3) (j := j) hR3 (by omega)
theorem esc_said : EscSaid := by
  intro g r i w h hs hi hc hlt
  by_cases hu : pk r.s (i + 1) = 117
  · exact escape_u g r i w h hs hi hc hu
  · cases hx : escV (pk r.s (i + 1)) with
    | none => exact escape_none g r i w h hs hi hc (by omega) hx hu
    | some x =>
      have := escV_some hx
      exact escape_simple g r i w h hs hi hc (pk_lt (by omega)) x hx
end Go.Proofs.YtlpgkpaogadolaaDoor
