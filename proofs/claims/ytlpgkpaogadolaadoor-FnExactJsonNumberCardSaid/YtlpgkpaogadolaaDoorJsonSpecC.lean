/- The reference's JSON reader: hexadecimal digits, walked. -/
import Derived.Test.YtlpgkpaogadolaaDoorJsonSpecB
namespace Go.Proofs.YtlpgkpaogadolaaDoor
open Go.RowKit
set_option maxRecDepth 100000

theorem hex_any (c : Int) (w : World) (h0 : -1 ≤ c) (h1 : c ≤ 255) : Calls Tryd.prog 123 #[.int .i64 c] w fun e w' => e = .returned (.int .i64 (hexV c)) ∧ w = w' := by
  go_enter Tryd.func123, Tryd.ntmps123
  go_wp2_with (go_at_call 111; refine (betw_parts _ _ _ _).mono ?_; rintro e w' ⟨rfl, ⟨rfl, ha⟩ | ⟨rfl, ha⟩⟩)
  all_goals
    go_ret
    refine ⟨ret_int ?_, rfl⟩
    unfold hexV
    grind
theorem hexV_peek (r : RdS) : hexV (peekV r) = hexV (pk r.s r.i) := by
  unfold peekV pk
  split
  · rfl
  · decide
/-- What four hexadecimal digits come to. -/
def IsHex (g : Nat) (r : RdS) (x : Rd (Int × Nat)) (w : World) (e : Ending) (w' : World) : Prop :=
  Only g w w' ∧ match x with
  | .ok (n, j) => e = .returned (.int .i64 n) ∧ RdAt w' g (r.to j)
  | .error (c, p) => e = .returned (.int .i64 0) ∧ ∃ j, RdAt w' g { r with i := j, code := c, bad := p } ∧ j ≤ r.s.size + 1
theorem isHex_ok {g : Nat} {r : RdS} {x : Rd (Int × Nat)} {n : Int} {j : Nat} {w w' : World} (h : x = .ok (n, j)) (hO : Only g w w') (hR : RdAt w' g (r.to j)) : IsHex g r x w (.returned (.int .i64 n)) w' := by
  rw [h]; exact ⟨hO, rfl, hR⟩
theorem isHex_err {g : Nat} {r : RdS} {x : Rd (Int × Nat)} {c : Int} {p j : Nat} {w w' : World} (h : x = .error (c, p)) (hO : Only g w w') (hR : RdAt w' g { r with i := j, code := c, bad := p }) (hj : j ≤ r.s.size + 1) : IsHex g r x w (.returned (.int .i64 0)) w' := by
  rw [h]; exact ⟨hO, rfl, j, hR, hj⟩
set_option maxHeartbeats 1000000 in
theorem four_any (g : Nat) (r : RdS) (w : World) (h : RdAt w g r) (hs : r.s.size ≤ 1000000) (hi : r.i ≤ r.s.size) (hc : r.code = 0) :
    Calls Tryd.prog 113 #[.pointer (some ⟨g, 0, none⟩)] w (IsHex g r (hexN r.s 4 r.i 0) w) := by
  have HC := Lib.hid hc
  clear hc
  go_enter Tryd.func113, Tryd.ntmps113
  go_wp2_with fail
  go_loopw [3, 4] (fun sn sk wr => ∃ (k : Nat) (n : Int) (i : Nat), k ≤ 4 ∧ sk = .int .i64 k ∧ sn = .int .i64 n ∧ 0 ≤ n ∧ (k = 0 → n = 0) ∧ (k = 1 → n < 16) ∧ (k = 2 → n < 256) ∧ (k = 3 → n < 4096) ∧ i ≤ r.s.size ∧ RdAt wr g (r.to i) ∧ Only g w wr ∧ hexN r.s (4 - k) i n = hexN r.s 4 r.i 0) (fun _ sk _ => (4 - intOf sk).toNat)
  case atStart => exact ⟨0, 0, r.i, by omega, rfl, rfl, by omega, fun _ => rfl, by omega, by omega, by omega, hi, h, Only.refl g w, rfl⟩
  case round =>
    clear h
    obtain ⟨k, n, i, hk, rfl, rfl, hn0, n0, n1, n2, n3, hi2, hR, hO, hx⟩ := hrel
    obtain ⟨c0, c1, c2, -⟩ := hR.facts
    have hf := hR.free
    simp only [RdS.to] at c0 c1 c2
    rw [HC.out] at c2
    have HR := Lib.hid hR
    have N0 := Lib.hid n0; have N1 := Lib.hid n1; have N2 := Lib.hid n2; have N3 := Lib.hid n3
    have hn4 : k < 4 → n < 4096 := by omega
    clear hR n0 n1 n2 n3
    by_cases hlt : k < 4
    · have hn5 := hn4 hlt
      have hpk := peekV_range (r.to i)
      have hv := hexV_bd (pk r.s i)
      have he : hexV (peekV (r.to i)) = hexV (pk r.s i) := hexV_peek (r.to i)
      have HE := Lib.hid he
      obtain ⟨q, hq⟩ : ∃ q, 4 - k = q + 1 := ⟨3 - k, by omega⟩
      by_cases hneg : hexV (pk r.s i) < 0
      · have HX : Hid (hexN r.s 4 r.i 0 = .error (2, i)) := by unfold Hid; rw [← hx, hq]; simp only [hexN]; rw [if_pos hneg]
        clear hx hn4 hq
        go_wp2_with (first | (go_at_call 56; refine (peek_any g (r.to i) _ HR.out hs).mono ?_; rintro e w' ⟨rfl, m, rfl⟩) | (go_at_call 123; refine (hex_any _ _ (by omega) (by omega)).mono ?_; rintro e w' ⟨rfl, rfl⟩) | (go_at_call 29; refine (fail_any g (r.to i) _ _ _ (HR.out.drewN _)).mono ?_; rintro e w' ⟨rfl, hR2, hO2⟩))
        go_ret
        refine isHex_err HX.out ((hO.drewN _).trans hO2) (j := i) ?_ (by omega)
        rw [RdS.failS_yes (r := r.to i) HC.out] at hR2
        exact hR2
      · have HX : Hid (hexN r.s q (i + 1) (16 * n + hexV (pk r.s i)) = hexN r.s 4 r.i 0) := by unfold Hid; rw [← hx, hq]; simp only [hexN]; rw [if_neg hneg]
        have hin : i < r.s.size := by
          rcases Nat.lt_or_ge i r.s.size with z | z
          · exact z
          · rw [pk_out (by omega)] at hneg; exact absurd (show hexV (-1) < 0 by decide) hneg
        have HQ := Lib.hid hq
        clear hx hn4 hq
        go_wp2_with (first | (go_at_call 56; refine (peek_any g (r.to i) _ HR.out hs).mono ?_; rintro e w' ⟨rfl, m, rfl⟩) | (go_at_call 123; refine (hex_any _ _ (by omega) (by omega)).mono ?_; rintro e w' ⟨rfl, rfl⟩))
        go_roundw
        case rel =>
          have z0 := N0.out; have z1 := N1.out; have z2 := N2.out; have z3 := N3.out; have zq := HQ.out
          exact ⟨k + 1, 16 * n + hexV (pk r.s i), i + 1, by omega, by go_num, rfl, by omega, by omega, by omega, by omega, by omega, by omega, RdAt.stepTo (HR.out.drewN _) _ _ (by go_num), (hO.drewN _).set 1 _, by rw [show 4 - (k + 1) = q by omega]; exact HX.out⟩
        case measure => simp [intOf]; omega
    · have HX : Hid (hexN r.s 4 r.i 0 = .ok (n, i)) := by unfold Hid; rw [← hx, show 4 - k = 0 by omega]; rfl
      clear hx hn4
      go_wp2_with fail
      go_ret
      exact isHex_ok HX.out hO HR.out
theorem four_at (g : Nat) (r : RdS) (x : Rd (Int × Nat)) (w : World) (h : RdAt w g r) (hs : r.s.size ≤ 1000000) (hi : r.i ≤ r.s.size) (hc : r.code = 0) (hx : hexN r.s 4 r.i 0 = x) :
    Calls Tryd.prog 113 #[.pointer (some ⟨g, 0, none⟩)] w (IsHex g r x w) := by
  rw [← hx]; exact four_any g r w h hs hi hc
theorem IsHex.err {g : Nat} {r : RdS} {c : Int} {p : Nat} {w w' : World} {e : Ending} (h : IsHex g r (.error (c, p)) w e w') : e = .returned (.int .i64 0) ∧ Only g w w' ∧ ∃ j, RdAt w' g { r with i := j, code := c, bad := p } ∧ j ≤ r.s.size + 1 := ⟨h.2.1, h.1, h.2.2⟩
theorem IsHex.ok {g : Nat} {r : RdS} {n : Int} {j : Nat} {w w' : World} {e : Ending} (h : IsHex g r (.ok (n, j)) w e w') : e = .returned (.int .i64 n) ∧ Only g w w' ∧ RdAt w' g (r.to j) := ⟨h.2.1, h.1, h.2.2⟩
/-- What is said of escapes. -/
def EscSaid : Prop := ∀ (g : Nat) (r : RdS) (i : Nat) (w : World), RdAt w g r → r.s.size ≤ 1000000 → r.i = i + 1 → r.code = 0 → i < r.s.size →
    Calls Tryd.prog 90 #[.pointer (some ⟨g, 0, none⟩), .int .i64 i] w (IsHex g r (escR r.s i) w)
end Go.Proofs.YtlpgkpaogadolaaDoor
