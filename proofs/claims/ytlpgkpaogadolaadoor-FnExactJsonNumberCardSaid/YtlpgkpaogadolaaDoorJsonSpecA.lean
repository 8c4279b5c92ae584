/- The reference's JSON reader: its small functions, walked. -/
import Derived.Test.YtlpgkpaogadolaaDoorTextsB
import Derived.Test.YtlpgkpaogadolaaDoorBlk
import Derived.Test.YtlpgkpaogadolaaDoorJsonPlain
import Derived.Deep.QuietTactic
import Derived.BigQuiet
import Derived.Deep.RegionWith
namespace Go.Proofs.YtlpgkpaogadolaaDoor
open Go.RowKit
set_option maxRecDepth 100000

/-- The reader's fields. -/
structure RdS where
  s : ByteArray
  i : Nat
  code : Int
  bad : Int
  deep : Int
  begun : Int
  v : Value
def RdS.cells (r : RdS) : Array Value := #[.string r.s, .int .i64 r.i, .int .i64 r.code, .int .i64 r.bad, .int .i64 r.deep, .int .i64 r.begun, r.v]
def RdAt (w : World) (g : Nat) (r : RdS) : Prop := Blk w g r.cells 51
/-- The facts that a walk reads off. -/
theorem RdAt.facts {w : World} {g : Nat} {r : RdS} (h : RdAt w g r) : w.cell? ⟨g, 0, none⟩ = some (.string r.s) ∧ w.cell? ⟨g, 1, none⟩ = some (.int .i64 r.i) ∧ w.cell? ⟨g, 2, none⟩ = some (.int .i64 r.code) ∧ w.cell? ⟨g, 3, none⟩ = some (.int .i64 r.bad) ∧
    w.cell? ⟨g, 4, none⟩ = some (.int .i64 r.deep) ∧ w.cell? ⟨g, 5, none⟩ = some (.int .i64 r.begun) ∧ w.cell? ⟨g, 6, none⟩ = some r.v :=
  ⟨Blk.cell h 0, Blk.cell h 1, Blk.cell h 2, Blk.cell h 3, Blk.cell h 4, Blk.cell h 5, Blk.cell h 6⟩
theorem RdAt.free {w : World} {g : Nat} {r : RdS} (h : RdAt w g r) : ∀ i, w.frozen? ⟨g, i, none⟩ = false := fun i => Blk.froz h i
theorem RdAt.drewN {w : World} {g : Nat} {r : RdS} (h : RdAt w g r) (n : Nat) : RdAt (w.drewN n) g r := h
def peekV (r : RdS) : Int := if r.i < r.s.size then bAt r.s r.i else 0

theorem peek_any (g : Nat) (r : RdS) (w : World) (h : RdAt w g r) (_hs : r.s.size ≤ 1000000) :
    Calls Tryd.prog 56 #[.pointer (some ⟨g, 0, none⟩)] w fun e w' => e = .returned (.int .i64 (peekV r)) ∧ ∃ n, w.drewN n = w' := by
  obtain ⟨c0, c1, -⟩ := h.facts
  by_cases hi : r.i < r.s.size
  · have he := bAt_eq r.s r.i hi
    have hr := bAt_range r.s r.i
    have hv : Hid (peekV r = bAt r.s r.i) := if_pos hi
    clear h
    go_enter Tryd.func56, Tryd.ntmps56
    go_wp2_with fail
    go_quiet (fail)
    go_wp2_with fail
    go_quiet (fail)
    go_wp2_with fail
    go_ret
    exact ⟨ret_int hv.out.symm, same_drewN (same_drewN (same_refl w) _) _⟩
  · have hv : Hid (peekV r = 0) := if_neg hi
    clear h
    go_enter Tryd.func56, Tryd.ntmps56
    go_wp2_with fail
    go_quiet (fail)
    go_wp2_with fail
    go_ret
    exact ⟨ret_int hv.out.symm, same_drewN (same_refl w) _⟩
def RdS.failS (r : RdS) (code i : Int) : RdS := if r.code = 0 then { r with code := code, bad := i } else r
def RdS.to (r : RdS) (i : Nat) : RdS := { r with i := i }
theorem RdS.failS_yes {r : RdS} (h : r.code = 0) (code i : Int) : r.failS code i = { r with code := code, bad := i } := if_pos h
theorem RdS.failS_no {r : RdS} (h : ¬ r.code = 0) (code i : Int) : r.failS code i = r := if_neg h
theorem RdAt.stepTo {w : World} {g : Nat} {r : RdS} (h : RdAt w g r) (i : Nat) (x : Value) (hx : x = .int .i64 i) : RdAt (w.setCell ⟨g, 1, none⟩ x) g (r.to i) := by subst hx; exact h.set 1 _
theorem fail_any (g : Nat) (r : RdS) (code i : Int) (w : World) (h : RdAt w g r) :
    Calls Tryd.prog 29 #[.pointer (some ⟨g, 0, none⟩), .int .i64 code, .int .i64 i] w fun e w' => e = .returned (.int .i64 0) ∧ RdAt w' g (r.failS code i) ∧ Only g w w' := by
  obtain ⟨c0, c1, c2, c3, -⟩ := h.facts
  have hf := h.free
  have H := Lib.hid h
  clear h
  by_cases hc : r.code = 0
  · have hb : (r.code == 0) = true := by rw [hc]; rfl
    have HC := Lib.hid hc
    clear hc
    go_enter Tryd.func29, Tryd.ntmps29
    go_wp2_with fail
    go_ret
    refine ⟨rfl, ?_, ((Only.refl g w).set 2 _).set 3 _⟩
    rw [RdS.failS_yes HC.out]
    exact (H.out.set 2 _).set 3 _
  · have hb : (r.code == 0) = false := by rw [beq_eq_false_iff_ne]; exact hc
    have HC := Lib.hid hc
    clear hc
    go_enter Tryd.func29, Tryd.ntmps29
    go_wp2_with fail
    go_ret
    refine ⟨rfl, ?_, Only.refl g w⟩
    rw [RdS.failS_no HC.out]
    exact H.out
def RdS.wantS (r : RdS) (c : Int) : RdS := if peekV r = c then r.to (r.i + 1) else r.failS 2 r.i
theorem RdS.wantS_yes {r : RdS} {c : Int} (h : peekV r = c) : r.wantS c = r.to (r.i + 1) := if_pos h
theorem RdS.wantS_no {r : RdS} {c : Int} (h : ¬ peekV r = c) : r.wantS c = r.failS 2 r.i := if_neg h
theorem want_any (g : Nat) (r : RdS) (c : Int) (w : World) (h : RdAt w g r) (hs : r.s.size ≤ 1000000) (hi : r.i ≤ 2000000) :
    Calls Tryd.prog 58 #[.pointer (some ⟨g, 0, none⟩), .int .i64 c] w fun e w' => e = .returned (.tuple #[]) ∧
      RdAt w' g (r.wantS c) ∧ Only g w w' := by
  obtain ⟨c0, c1, -⟩ := h.facts
  have hf := h.free
  have H := Lib.hid h
  by_cases hp : peekV r = c
  · have hb : (peekV r == c) = true := by rw [hp]; exact beq_self_eq_true c
    have HP := Lib.hid hp
    clear hp
    go_enter Tryd.func58, Tryd.ntmps58
    go_wp2_with (go_at_call 56; refine (peek_any g r _ H.out hs).mono ?_; rintro e w' ⟨rfl, n, rfl⟩)
    refine bodyPost_ret (results_none rfl _ _ _) rfl ?_
    refine ⟨rfl, ?_, ((Only.refl g w).drewN _).set 1 _⟩
    rw [RdS.wantS_yes HP.out]
    exact RdAt.stepTo (H.out.drewN _) _ _ (by go_num)
  · have hb : (peekV r == c) = false := by rw [beq_eq_false_iff_ne]; exact hp
    have HP := Lib.hid hp
    clear hp
    go_enter Tryd.func58, Tryd.ntmps58
    go_wp2_with (first | (go_at_call 56; refine (peek_any g r _ H.out hs).mono ?_; rintro e w' ⟨rfl, n, rfl⟩) | (go_at_call 29; refine (fail_any g r _ _ _ (H.out.drewN _)).mono ?_; rintro e w' ⟨rfl, hR, hO⟩))
    go_end0
    refine ⟨rfl, ?_, ((Only.refl g w).drewN _).trans hO⟩
    rw [RdS.wantS_no HP.out]
    exact hR

theorem isBlank_any (c : Int) (w : World) : Calls Tryd.prog 55 #[.int .i64 c] w fun e w' => e = .returned (.bool (decide (isBlankC c))) ∧ w = w' := by
  go_enter Tryd.func55, Tryd.ntmps55
  go_wp2
  all_goals
    go_ret
    refine ⟨ret_bool ?_, rfl⟩
    unfold isBlankC
    grind
theorem isBlank_yes (c : Int) (w : World) (h : isBlankC c) : Calls Tryd.prog 55 #[.int .i64 c] w fun e w' => e = .returned (.bool true) ∧ w = w' := by
  rw [← decide_eq_true h]; exact isBlank_any c w
theorem isBlank_no (c : Int) (w : World) (h : ¬ isBlankC c) : Calls Tryd.prog 55 #[.int .i64 c] w fun e w' => e = .returned (.bool false) ∧ w = w' := by
  rw [← decide_eq_false h]; exact isBlank_any c w
theorem digit_any (c : Int) (w : World) (_h0 : 0 ≤ c) (_h1 : c ≤ 255) : Calls Tryd.prog 57 #[.int .u8 c] w fun e w' => e = .returned (.bool (decide (isDigC c))) ∧ w = w' := by
  go_enter Tryd.func57, Tryd.ntmps57
  go_wp2
  all_goals
    go_ret
    refine ⟨ret_bool ?_, rfl⟩
    unfold isDigC
    grind
theorem peekV_in {r : RdS} (h : r.i < r.s.size) : peekV r = pk r.s r.i := by unfold peekV pk; rw [if_pos h, if_pos h]
theorem blanks_any (g : Nat) (r : RdS) (w : World) (h : RdAt w g r) (hs : r.s.size ≤ 1000000) (hi : r.i ≤ 2000000) :
    Calls Tryd.prog 27 #[.pointer (some ⟨g, 0, none⟩)] w fun e w' => e = .returned (.tuple #[]) ∧ RdAt w' g (r.to (skipB r.s r.i)) ∧ Only g w w' := by
  go_enter Tryd.func27, Tryd.ntmps27
  go_wp2_with fail
  go_loopg [] (r.s.size + 1) (fun gk wr => ∃ i : Nat, RdAt wr g (r.to i) ∧ Only g w wr ∧ skipB r.s i = skipB r.s r.i ∧ r.s.size - i < gk ∧ i ≤ 2000000)
  case atStart => exact ⟨r.i, h, Only.refl g w, rfl, by omega, hi⟩
  case round =>
    clear h
    obtain ⟨i, hR, hO, hk, hm, hi2⟩ := hrel
    obtain ⟨c0, c1, -⟩ := hR.facts
    have hf := hR.free
    have HR := Lib.hid hR
    have HK := Lib.hid hk
    clear hR hk
    simp only [RdS.to] at c0 c1
    by_cases hlt : i < r.s.size
    · by_cases hb : isBlankC (pk r.s i)
      · go_wp2_with fail
        go_quiet ((first | (go_at_call 56; exact quiet_same (peek_any g (r.to i) _ (HR.out.drewN _) hs)) | (go_at_call 55; exact quiet_eq (isBlank_yes _ _ (by rw [peekV_in hlt]; exact hb)))))
        go_wp2_with fail
        go_roundg (r.s.size - i)
        case measure => omega
        case rel => exact ⟨i + 1, RdAt.stepTo (HR.out.drewN _) _ _ (by go_num), (hO.drewN _).set 1 _, by rw [← HK.out, skipB_yes hb], by omega, by omega⟩
      · go_wp2_with fail
        go_quiet ((first | (go_at_call 56; exact quiet_same (peek_any g (r.to i) _ (HR.out.drewN _) hs)) | (go_at_call 55; exact quiet_eq (isBlank_no _ _ (by rw [peekV_in hlt]; exact hb)))))
        go_wp2_with fail
        go_end0
        refine ⟨rfl, ?_, hO.drewN _⟩
        rw [← HK.out, skipB_no hb]
        exact HR.out.drewN _
    · have hd : decide ((i : Int) < (r.s.size : Int)) = false := by simp; omega
      go_wp2_with fail
      go_quiet (fail)
      go_wp2_with fail
      go_end0
      refine ⟨rfl, ?_, hO.drewN _⟩
      rw [← HK.out, skipB_no (fun k => hlt (blank_lt k))]
      exact HR.out.drewN _
theorem digit_yes (c : Int) (w : World) (h : isDigC c) : Calls Tryd.prog 57 #[.int .u8 c] w fun e w' => e = .returned (.bool true) ∧ w = w' := by
  rw [← decide_eq_true h]; exact digit_any c w (by unfold isDigC at h; omega) (by unfold isDigC at h; omega)
theorem digit_no (c : Int) (w : World) (h : ¬ isDigC c) (h0 : 0 ≤ c) (h1 : c ≤ 255) : Calls Tryd.prog 57 #[.int .u8 c] w fun e w' => e = .returned (.bool false) ∧ w = w' := by
  rw [← decide_eq_false h]; exact digit_any c w h0 h1
theorem peekV_range (r : RdS) : 0 ≤ peekV r ∧ peekV r ≤ 255 := by
  have := bAt_range r.s r.i
  unfold peekV
  split <;> omega
theorem peekV_dig (r : RdS) : isDigC (peekV r) ↔ isDigC (pk r.s r.i) := by
  unfold peekV pk isDigC
  split <;> omega
theorem peekV_eq (r : RdS) (c : Int) (h : 1 ≤ c) : peekV r = c ↔ pk r.s r.i = c := by
  unfold peekV pk
  split <;> omega
/-- The reader behind a reading of a place. -/
def RdS.ends (r : RdS) (x : Rd Nat) : RdS → Prop := fun r' => match x with
  | .ok j => r' = r.to j
  | .error (c, p) => ∃ j, r' = (r.to j).failS c p ∧ j ≤ 1000002
theorem digits_any (g : Nat) (r : RdS) (w : World) (h : RdAt w g r) (hs : r.s.size ≤ 1000000) (hi : r.i ≤ 1000002) :
    Calls Tryd.prog 92 #[.pointer (some ⟨g, 0, none⟩)] w fun e w' => e = .returned (.tuple #[]) ∧ (∃ r', r.ends (digits1 r.s r.i) r' ∧ RdAt w' g r') ∧ Only g w w' := by
  obtain ⟨c0, c1, -⟩ := h.facts
  have hf := h.free
  have H := Lib.hid h
  have hr := peekV_range r
  clear h
  by_cases hd : isDigC (pk r.s r.i)
  · have hD := hd
    rw [← peekV_dig] at hD
    go_enter Tryd.func92, Tryd.ntmps92
    go_wp2_with (first | (go_at_call 56; refine (peek_any g r _ H.out hs).mono ?_; rintro e w' ⟨rfl, n, rfl⟩) | (go_at_call 57; refine (digit_yes _ _ hD).mono ?_; rintro e w' ⟨rfl, rfl⟩))
    go_loopg [] (r.s.size + 1) (fun gk wr => ∃ i : Nat, RdAt wr g (r.to i) ∧ Only g w wr ∧ digE r.s i = digE r.s r.i ∧ r.s.size - i < gk ∧ i ≤ 1000002)
    case atStart => exact ⟨r.i, H.out.drewN _, (Only.refl g w).drewN _, rfl, by omega, hi⟩
    case round =>
      clear c0 c1 hf
      obtain ⟨i, hR, hO, hk, hm, hi2⟩ := hrel
      obtain ⟨c0, c1, -⟩ := hR.facts
      have hf := hR.free
      have HR := Lib.hid hR
      have HK := Lib.hid hk
      have hr2 := peekV_range (r.to i)
      clear hR hk
      simp only [RdS.to] at c0 c1
      by_cases hb : isDigC (pk r.s i)
      · have hB : isDigC (peekV (r.to i)) := (peekV_dig _).2 hb
        have hlt := dig_lt hb
        go_wp2_with (first | (go_at_call 56; refine (peek_any g (r.to i) _ HR.out hs).mono ?_; rintro e w' ⟨rfl, n, rfl⟩) | (go_at_call 57; refine (digit_yes _ _ hB).mono ?_; rintro e w' ⟨rfl, rfl⟩))
        go_roundg (r.s.size - i)
        case measure => omega
        case rel => exact ⟨i + 1, RdAt.stepTo (HR.out.drewN _) _ _ (by go_num), (hO.drewN _).set 1 _, by rw [← HK.out, digE_yes hb], by omega, by omega⟩
      · have hB : ¬ isDigC (peekV (r.to i)) := fun k => hb ((peekV_dig _).1 k)
        go_wp2_with (first | (go_at_call 56; refine (peek_any g (r.to i) _ HR.out hs).mono ?_; rintro e w' ⟨rfl, n, rfl⟩) | (go_at_call 57; refine (digit_no _ _ hB hr2.1 hr2.2).mono ?_; rintro e w' ⟨rfl, rfl⟩))
        go_end0
        refine ⟨rfl, ⟨r.to i, ?_, HR.out.drewN _⟩, hO.drewN _⟩
        unfold digits1 RdS.ends
        rw [if_pos hd, ← HK.out, digE_no hb]
  · have hD := hd
    rw [← peekV_dig] at hD
    go_enter Tryd.func92, Tryd.ntmps92
    go_wp2_with (first | (go_at_call 56; refine (peek_any g r _ H.out hs).mono ?_; rintro e w' ⟨rfl, n, rfl⟩) | (go_at_call 57; refine (digit_no _ _ hD hr.1 hr.2).mono ?_; rintro e w' ⟨rfl, rfl⟩) | (go_at_call 29; refine (fail_any g r _ _ _ (H.out.drewN _)).mono ?_; rintro e w' ⟨rfl, hR, hO⟩))
    obtain ⟨r1, hr1⟩ : ∃ r1, r.failS 2 r.i = r1 := ⟨_, rfl⟩
    have q1 : r1.i = r.i := by rw [← hr1]; unfold RdS.failS; split <;> rfl
    have q2 : r1.s = r.s := by rw [← hr1]; unfold RdS.failS; split <;> rfl
    rw [hr1] at hR
    have HE : Hid (r.ends (digits1 r.s r.i) r1) := by
      unfold digits1 RdS.ends Hid
      rw [if_neg hd]
      exact ⟨r.i, hr1.symm, hi⟩
    have hr3 := peekV_range r1
    have hD1 : ¬ isDigC (peekV r1) := fun k => hd (by rw [peekV_dig, q1, q2] at k; exact k)
    have hs1 : r1.s.size ≤ 1000000 := by rw [q2]; exact hs
    have H1 := Lib.hid hR
    have HO1 := Lib.hid (((Only.refl g w).drewN _).trans hO)
    clear hr1 q1 q2 c0 c1 hf hO hR
    go_loopg [] 1 (fun gk wr => RdAt wr g r1 ∧ Only g w wr)
    case atStart => exact ⟨H1.out, HO1.out⟩
    case round =>
      obtain ⟨hR, hO⟩ := hrel
      obtain ⟨c0, c1, -⟩ := hR.facts
      have HR := Lib.hid hR
      clear hR
      go_wp2_with (first | (go_at_call 56; refine (peek_any g r1 _ HR.out hs1).mono ?_; rintro e w' ⟨rfl, n, rfl⟩) | (go_at_call 57; refine (digit_no _ _ hD1 hr3.1 hr3.2).mono ?_; rintro e w' ⟨rfl, rfl⟩))
      go_end0
      exact ⟨rfl, ⟨r1, HE.out, HR.out.drewN _⟩, hO.drewN _⟩
end Go.Proofs.YtlpgkpaogadolaaDoor
