/- The reference's JSON reader: numbers, walked. -/
import Derived.Test.YtlpgkpaogadolaaDoorJsonSpecA
import Derived.Deep.DeepCutAuto
import Derived.Deep.Cut
namespace Go.Proofs.YtlpgkpaogadolaaDoor
open Go.RowKit
set_option maxRecDepth 100000

theorem beq_yes {a b : Int} (h : a = b) : (a == b) = true := by rw [h]; exact beq_self_eq_true b
theorem beq_no {a b : Int} (h : ¬ a = b) : (a == b) = false := by rw [beq_eq_false_iff_ne]; exact h
theorem minusE_bd (s : ByteArray) (i : Nat) : i ≤ minusE s i ∧ minusE s i ≤ i + 1 ∧ (i ≤ s.size → minusE s i ≤ s.size) := by
  unfold minusE
  split
  · rename_i h
    have := pk_lt (s := s) (i := i) (by omega)
    omega
  · omega
theorem signE_bd (s : ByteArray) (i : Nat) : i ≤ signE s i ∧ signE s i ≤ i + 1 ∧ (i ≤ s.size → signE s i ≤ s.size) := by
  unfold signE
  split
  · rename_i h
    have := pk_lt (s := s) (i := i) (by omega)
    omega
  · omega
theorem digits1_bd {s : ByteArray} {i j : Nat} (h : digits1 s i = .ok j) (_hi : i ≤ s.size) : i < j ∧ j ≤ s.size := by
  unfold digits1 at h
  split at h
  · rename_i k
    cases h
    have := digE_bd s (i + 1)
    have := dig_lt k
    rw [digE_yes k]
    omega
  · cases h
theorem digits1_err {s : ByteArray} {i p : Nat} {c : Int} (h : digits1 s i = .error (c, p)) : c = 2 := by
  unfold digits1 at h
  split at h
  · cases h
  · cases h; rfl
theorem intE_bd {s : ByteArray} {i j : Nat} (h : intE s i = .ok j) (hi : i ≤ s.size) : i < j ∧ j ≤ s.size := by
  unfold intE at h
  split at h
  · rename_i k
    have := pk_lt (s := s) (i := i) (by omega)
    cases h; omega
  · exact digits1_bd h hi
theorem intE_err {s : ByteArray} {i p : Nat} {c : Int} (h : intE s i = .error (c, p)) : c = 2 := by
  unfold intE at h
  split at h
  · cases h
  · exact digits1_err h
theorem fracE_bd {s : ByteArray} {i j : Nat} (h : fracE s i = .ok j) (hi : i ≤ s.size) : i ≤ j ∧ j ≤ s.size := by
  unfold fracE at h
  split at h
  · rename_i k
    have := pk_lt (s := s) (i := i) (by omega)
    have := digits1_bd h (by omega)
    omega
  · cases h; omega
theorem fracE_err {s : ByteArray} {i p : Nat} {c : Int} (h : fracE s i = .error (c, p)) : c = 2 := by
  unfold fracE at h
  split at h
  · exact digits1_err h
  · cases h
theorem RdS.ends_ok {r r' : RdS} {j : Nat} (h : r.ends (.ok j) r') : r' = r.to j := h
theorem RdS.ends_err {r r' : RdS} {c : Int} {p : Nat} (h : r.ends (.error (c, p)) r') (hc : r.code = 0) : ∃ j, r' = { r with i := j, code := c, bad := p } := by
  obtain ⟨j, rfl, -⟩ := h
  exact ⟨j, RdS.failS_yes (r := r.to j) hc c p⟩
theorem RdS.ends_to {r r' : RdS} {k : Nat} {x : Rd Nat} (h : (r.to k).ends x r') : r.ends x r' := h
set_option maxHeartbeats 4000000 in
theorem number_any (g : Nat) (r : RdS) (w : World) (h : RdAt w g r) (hs : r.s.size ≤ 1000000) (hi : r.i ≤ r.s.size) (hc : r.code = 0) :
    Calls Tryd.prog 62 #[.pointer (some ⟨g, 0, none⟩)] w fun e w' => e = .returned (.tuple #[]) ∧ (∃ r', r.ends (numE r.s r.i) r' ∧ RdAt w' g r') ∧ Only g w w' := by
  have H := Lib.hid h
  obtain ⟨c0, c1, c2, -⟩ := h.facts
  have hf := h.free
  have HC := Lib.hid hc
  clear h hc
  have bm := minusE_bd r.s r.i
  go_enter Tryd.func62, Tryd.ntmps62
  go_upto_if 4 with (go_at_call 56; refine (peek_any g r _ H.out hs).mono ?_; rintro e w' ⟨rfl, n, rfl⟩)
  go_cut [] (fun wx => RdAt wx g (r.to (minusE r.s r.i)) ∧ Only g w wx)
  case first =>
    by_cases hp : pk r.s r.i = 45
    · have hb := beq_yes ((peekV_eq r 45 (by omega)).2 hp)
      go_wp2_with fail
      go_meet
      unfold minusE
      rw [if_pos hp]
      exact ⟨RdAt.stepTo (H.out.drewN _) _ _ (by go_num), ((Only.refl g w).drewN _).set 1 _⟩
    · have hb := beq_no (fun k => hp ((peekV_eq r 45 (by omega)).1 k))
      go_wp2_with fail
      go_meet
      unfold minusE
      rw [if_neg hp]
      exact ⟨H.out.drewN _, (Only.refl g w).drewN _⟩
  case rest =>
    clear c0 c1 c2 hf
    obtain ⟨hR, hO⟩ := hcut
    obtain ⟨m, hm⟩ : ∃ m, minusE r.s r.i = m := ⟨_, rfl⟩
    rw [hm] at hR bm
    have HM := Lib.hid hm
    have HR := Lib.hid hR
    obtain ⟨c0, c1, c2, -⟩ := hR.facts
    have hf := hR.free
    simp only [RdS.to] at c0 c1 c2
    clear hR hm
    go_upto_if 14 with (go_at_call 56; refine (peek_any g (r.to m) _ HR.out hs).mono ?_; rintro e w' ⟨rfl, n, rfl⟩)
    go_cut [] (fun wx => ∃ r2, r.ends (intE r.s m) r2 ∧ RdAt wx g r2 ∧ Only g w wx)
    case first =>
      by_cases hp : pk r.s m = 48
      · have hb := beq_yes ((peekV_eq (r.to m) 48 (by omega)).2 hp)
        have HE : Hid (r.ends (intE r.s m) (r.to (m + 1))) := by unfold Hid intE; rw [if_pos hp]; rfl
        clear hp
        go_wp2_with fail
        go_meet
        exact ⟨_, HE.out, RdAt.stepTo (HR.out.drewN _) _ _ (by go_num), (hO.drewN _).set 1 _⟩
      · have hb := beq_no (fun k => hp ((peekV_eq (r.to m) 48 (by omega)).1 k))
        have HE : Hid (intE r.s m = digits1 r.s m) := by unfold Hid intE; rw [if_neg hp]
        clear hp
        go_wp2_with (go_at_call 92; refine (digits_any g (r.to m) _ (HR.out.drewN _) hs (by show m ≤ _; omega)).mono ?_; rintro e w' ⟨rfl, ⟨r2, hE2, hR2⟩, hO2⟩)
        go_meet
        exact ⟨r2, by rw [HE.out]; exact RdS.ends_to hE2, hR2, (hO.drewN _).trans hO2⟩
    case rest =>
      clear c0 c1 c2 hf hO HR
      obtain ⟨r2, hE, hR, hO⟩ := hcut
      rcases hx : intE r.s m with ⟨cc, p⟩ | j
      · rw [hx] at hE
        have hc2 := intE_err hx
        subst hc2
        have HE : Hid (r.ends (numE r.s r.i) r2) := by unfold Hid numE; rw [HM.out, hx]; exact hE
        obtain ⟨j, rfl⟩ := RdS.ends_err hE HC.out
        obtain ⟨c0, c1, c2, -⟩ := hR.facts
        have HR := Lib.hid hR
        simp only [] at c0 c1 c2
        clear hR hE hx
        go_wp2_with fail
        go_end0
        exact ⟨rfl, ⟨_, HE.out, HR.out⟩, hO⟩
      · rw [hx] at hE
        have hj := intE_bd hx (by omega)
        have HX := Lib.hid hx
        obtain rfl := RdS.ends_ok hE
        obtain ⟨c0, c1, c2, -⟩ := hR.facts
        have hf := hR.free
        have HR := Lib.hid hR
        simp only [RdS.to] at c0 c1 c2
        rw [HC.out] at c2
        clear hR hE hx
        go_upto_if 33 with (go_at_call 56; refine (peek_any g (r.to j) _ (by first | exact HR.out | exact HR.out.drewN _) hs).mono ?_; rintro e w' ⟨rfl, n, rfl⟩)
        go_cut [] (fun wx => ∃ r2, r.ends (fracE r.s j) r2 ∧ RdAt wx g r2 ∧ Only g w wx)
        case first =>
          by_cases hp : pk r.s j = 46
          · have hb := beq_yes ((peekV_eq (r.to j) 46 (by omega)).2 hp)
            have hlt := pk_lt (s := r.s) (i := j) (by omega)
            have HE : Hid (fracE r.s j = digits1 r.s (j + 1)) := by unfold Hid fracE; rw [if_pos hp]
            clear hp
            go_wp2_with (go_at_call 92; refine (digits_any g (r.to (j + 1)) _ (RdAt.stepTo (r := r.to j) (by first | exact HR.out | exact HR.out.drewN _) _ _ (by go_num)) hs (by show j + 1 ≤ _; omega)).mono ?_; rintro e w' ⟨rfl, ⟨r2, hE2, hR2⟩, hO2⟩)
            go_meet
            exact ⟨r2, by rw [HE.out]; exact RdS.ends_to hE2, hR2, ((hO.drewN _).set 1 _).trans hO2⟩
          · have hb := beq_no (fun k => hp ((peekV_eq (r.to j) 46 (by omega)).1 k))
            have HE : Hid (r.ends (fracE r.s j) (r.to j)) := by unfold Hid fracE; rw [if_neg hp]; rfl
            clear hp
            go_wp2_with fail
            go_meet
            exact ⟨_, HE.out, HR.out.drewN _, hO.drewN _⟩
        case rest =>
          clear c0 c1 c2 hf hO HR
          obtain ⟨r2, hE, hR, hO⟩ := hcut
          rcases hx : fracE r.s j with ⟨cc, p⟩ | k
          · rw [hx] at hE
            have hc2 := fracE_err hx
            subst hc2
            have HE : Hid (r.ends (numE r.s r.i) r2) := by unfold Hid numE; rw [HM.out, HX.out]; show r.ends ((fracE r.s j).bind _) r2; rw [hx]; exact hE
            obtain ⟨j, rfl⟩ := RdS.ends_err hE HC.out
            obtain ⟨c0, c1, c2, -⟩ := hR.facts
            have HR := Lib.hid hR
            simp only [] at c0 c1 c2
            clear hR hE hx
            go_wp2_with fail
            go_end0
            exact ⟨rfl, ⟨_, HE.out, HR.out⟩, hO⟩
          · rw [hx] at hE
            have hk := fracE_bd hx (by omega)
            have HN : Hid (numE r.s r.i = expE r.s k) := by unfold Hid numE; rw [HM.out, HX.out]; show (fracE r.s j).bind _ = _; rw [hx]; rfl
            obtain rfl := RdS.ends_ok hE
            obtain ⟨c0, c1, c2, -⟩ := hR.facts
            have hf := hR.free
            have HR := Lib.hid hR
            simp only [RdS.to] at c0 c1 c2
            rw [HC.out] at c2
            clear hR hE hx
            by_cases hp : pk r.s k = 101 ∨ pk r.s k = 69
            · have hlt := pk_lt (s := r.s) (i := k) (by omega)
              have hE1 : expE r.s k = digits1 r.s (signE r.s (k + 1)) := by unfold expE; rw [if_pos hp]
              have hb12 : ((peekV (r.to k) == 101) = true) ∨ ((peekV (r.to k) == 101) = false ∧ (peekV (r.to k) == 69) = true) := by
                rcases hp with hp | hp
                · exact .inl (beq_yes ((peekV_eq (r.to k) 101 (by omega)).2 hp))
                · exact .inr ⟨beq_no (fun e => by have := (peekV_eq (r.to k) 101 (by omega)).1 e; simp only [RdS.to] at this; omega), beq_yes ((peekV_eq (r.to k) 69 (by omega)).2 hp)⟩
              clear hp
              have HE : Hid (numE r.s r.i = digits1 r.s (signE r.s (k + 1))) := HN.out.trans hE1
              have hsb := signE_bd r.s (k + 1)
              clear hE1
              have hb34 : (Hid (signE r.s (k + 1) = k + 1 + 1) ∧ (peekV (r.to (k + 1)) == 43) = true) ∨ (Hid (signE r.s (k + 1) = k + 1 + 1) ∧ (peekV (r.to (k + 1)) == 43) = false ∧ (peekV (r.to (k + 1)) == 45) = true) ∨ (Hid (signE r.s (k + 1) = k + 1) ∧ (peekV (r.to (k + 1)) == 43) = false ∧ (peekV (r.to (k + 1)) == 45) = false) := by
                by_cases h1 : pk r.s (k + 1) = 43
                · exact .inl ⟨by unfold Hid signE; rw [if_pos (Or.inl h1)], beq_yes ((peekV_eq (r.to (k + 1)) 43 (by omega)).2 h1)⟩
                · by_cases h2 : pk r.s (k + 1) = 45
                  · exact .inr (.inl ⟨by unfold Hid signE; rw [if_pos (Or.inr h2)], beq_no (fun e => h1 ((peekV_eq (r.to (k + 1)) 43 (by omega)).1 e)), beq_yes ((peekV_eq (r.to (k + 1)) 45 (by omega)).2 h2)⟩)
                  · exact .inr (.inr ⟨by unfold Hid signE; rw [if_neg (by rintro (e | e); exact h1 e; exact h2 e)], beq_no (fun e => h1 ((peekV_eq (r.to (k + 1)) 43 (by omega)).1 e)), beq_no (fun e => h2 ((peekV_eq (r.to (k + 1)) 45 (by omega)).1 e))⟩)
              rcases hb12 with b1 | ⟨b1, b2⟩ <;> rcases hb34 with ⟨HS, b3⟩ | ⟨HS, b3, b4⟩ | ⟨HS, b3, b4⟩
              all_goals
                go_upto_region 9 with (go_at_call 56; refine (peek_any g (r.to k) _ (by first | exact HR.out | exact HR.out.drewN _) hs).mono ?_; rintro e w' ⟨rfl, n, rfl⟩)
                go_upto_if 72 with (go_at_call 56; refine (peek_any g (r.to (k + 1)) _ (by first | exact RdAt.stepTo (r := r.to k) (HR.out.drewN _) _ _ (by go_num) | exact (RdAt.stepTo (r := r.to k) (HR.out.drewN _) _ _ (by go_num)).drewN _) hs).mono ?_; rintro e w' ⟨rfl, n, rfl⟩)
                go_cut [] (fun wx => RdAt wx g (r.to (signE r.s (k + 1))) ∧ Only g w wx)
                case first =>
                  go_wp2_with fail
                  go_meet
                  rw [HS.out]
                  refine ⟨by first | exact RdAt.stepTo (r := r.to (k + 1)) ((RdAt.stepTo (r := r.to k) (HR.out.drewN _) _ _ (by go_num)).drewN _) _ _ (by go_num) | exact (RdAt.stepTo (r := r.to k) (HR.out.drewN _) _ _ (by go_num)).drewN _, ?_⟩
                  repeat (first | exact hO | refine Only.drewN ?_ _ | refine Only.set ?_ _ _)
                case rest =>
                  clear hO HR
                  obtain ⟨hR, hO⟩ := hcut
                  have HR := Lib.hid hR
                  clear hR
                  go_wp2_with (go_at_call 92; refine (digits_any g (r.to (signE r.s (k + 1))) _ HR.out hs (by show signE r.s (k + 1) ≤ _; omega)).mono ?_; rintro e w' ⟨rfl, ⟨r2, hE2, hR2⟩, hO2⟩)
                  go_end0
                  exact ⟨rfl, ⟨r2, by rw [HE.out]; exact RdS.ends_to hE2, hR2⟩, hO.trans hO2⟩
            · have hE1 : expE r.s k = .ok k := by unfold expE; rw [if_neg hp]
              have HE : Hid (r.ends (numE r.s r.i) (r.to k)) := by unfold Hid; rw [HN.out, hE1]; rfl
              have b1 : (peekV (r.to k) == 101) = false := beq_no (fun e => hp (.inl ((peekV_eq (r.to k) 101 (by omega)).1 e)))
              have b2 : (peekV (r.to k) == 69) = false := beq_no (fun e => hp (.inr ((peekV_eq (r.to k) 69 (by omega)).1 e)))
              clear hE1 hp
              go_wp2_with (go_at_call 56; refine (peek_any g (r.to k) _ (by first | exact HR.out | exact HR.out.drewN _) hs).mono ?_; rintro e w' ⟨rfl, n, rfl⟩)
              go_end0
              refine ⟨rfl, ⟨_, HE.out, by first | exact HR.out.drewN _ | exact (HR.out.drewN _).drewN _⟩, ?_⟩
              repeat (first | exact hO | refine Only.drewN ?_ _ | refine Only.set ?_ _ _)
end Go.Proofs.YtlpgkpaogadolaaDoor
