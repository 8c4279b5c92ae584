/- The program's JSON reader: numbers, walked. -/
import Derived.Test.YtlpgkpaogadolaaDoorTextsC
import Derived.Test.YtlpgkpaogadolaaDoorBlk
import Derived.Test.YtlpgkpaogadolaaDoorJsonPlainC
import Derived.Deep.QuietTactic
import Derived.BigQuiet
import Derived.Deep.RegionWith
import Derived.Deep.RegionHeld3
import Derived.Deep.DeepCutAuto
import Derived.Deep.Cut
import Derived.StillTailTactics
namespace Go.Proofs.YtlpgkpaogadolaaDoor
open Go.RowKit
set_option maxRecDepth 100000

/-- The program's reader. -/
structure ImS where
  s : ByteArray
  i : Nat
  begun : Int
  v : Value
def ImS.cells (r : ImS) : Array Value := #[.string r.s, .int .i64 r.i, .int .i64 r.begun, r.v]
def ImAt (w : World) (g : Nat) (r : ImS) : Prop := Blk w g r.cells 47
theorem ImAt.facts {w : World} {g : Nat} {r : ImS} (h : ImAt w g r) : w.cell? ⟨g, 0, none⟩ = some (.string r.s) ∧ w.cell? ⟨g, 1, none⟩ = some (.int .i64 r.i) ∧ w.cell? ⟨g, 2, none⟩ = some (.int .i64 r.begun) ∧ w.cell? ⟨g, 3, none⟩ = some r.v :=
  ⟨Blk.cell h 0, Blk.cell h 1, Blk.cell h 2, Blk.cell h 3⟩
theorem ImAt.free {w : World} {g : Nat} {r : ImS} (h : ImAt w g r) : ∀ i, w.frozen? ⟨g, i, none⟩ = false := fun i => Blk.froz h i
theorem ImAt.drewN {w : World} {g : Nat} {r : ImS} (h : ImAt w g r) (n : Nat) : ImAt (w.drewN n) g r := h
theorem ImAt.drew1 {w : World} {g : Nat} {r : ImS} (h : ImAt w g r) : ImAt w.drew g r := h
def ImS.to (r : ImS) (i : Nat) : ImS := { r with i := i }
theorem ImAt.stepTo {w : World} {g : Nat} {r : ImS} (h : ImAt w g r) (i : Nat) (x : Value) (hx : x = .int .i64 i) : ImAt (w.setCell ⟨g, 1, none⟩ x) g (r.to i) := by subst hx; exact Blk.set h 1 _
theorem beq_yes' {a b : Int} (h : a = b) : (a == b) = true := by rw [h]; exact beq_self_eq_true b
theorem beq_no' {a b : Int} (h : ¬ a = b) : (a == b) = false := by rw [beq_eq_false_iff_ne]; exact h
theorem next_i (g : Nat) (r : ImS) (w : World) (h : ImAt w g r) (_hs : r.s.size ≤ 1048576) (hi : r.i ≤ r.s.size) :
    Calls Tryd.prog 64 #[.pointer (some ⟨g, 0, none⟩)] w fun e w' => e = .returned (.int .i64 (pk r.s r.i)) ∧ ∃ n, w.drewN n = w' := by
  obtain ⟨c0, c1, -⟩ := h.facts
  by_cases hlt : r.i < r.s.size
  · have he := bAt_eq r.s r.i hlt
    have hr := bAt_range r.s r.i
    have hv : Hid (pk r.s r.i = bAt r.s r.i) := pk_in hlt
    have hq : ((r.i : Int) == (r.s.size : Int)) = false := beq_no' (by omega)
    clear h
    go_enter Tryd.func64, Tryd.ntmps64
    go_wp2_with fail
    go_quiet (fail)
    go_wp2_with fail
    go_quiet (fail)
    go_wp2_with fail
    go_ret
    exact ⟨ret_int hv.out.symm, same_drewN (same_drewN (same_refl w) _) _⟩
  · have hv : Hid (pk r.s r.i = -1) := pk_out hlt
    have hq : ((r.i : Int) == (r.s.size : Int)) = true := beq_yes' (by omega)
    clear h
    go_enter Tryd.func64, Tryd.ntmps64
    go_wp2_with fail
    go_quiet (fail)
    go_wp2_with fail
    go_ret
    exact ⟨ret_int hv.out.symm, same_drewN (same_refl w) _⟩
theorem take_yes (g : Nat) (r : ImS) (c : Int) (w : World) (h : ImAt w g r) (hs : r.s.size ≤ 1048576) (hi : r.i ≤ r.s.size) (hc : pk r.s r.i = c) :
    Calls Tryd.prog 52 #[.pointer (some ⟨g, 0, none⟩), .int .i64 c] w fun e w' => e = .returned (.bool true) ∧ ImAt w' g (r.to (r.i + 1)) ∧ Only g w w' := by
  obtain ⟨c0, c1, -⟩ := h.facts
  have hf := h.free
  have H := Lib.hid h
  have hq : (pk r.s r.i != c) = false := by rw [hc]; simp
  clear h hc
  go_enter Tryd.func52, Tryd.ntmps52
  go_wp2_with (go_at_call 64; refine (next_i g r _ H.out hs hi).mono ?_; rintro e w' ⟨rfl, n, rfl⟩)
  go_ret
  exact ⟨rfl, ImAt.stepTo (H.out.drewN _) _ _ (by go_num), ((Only.refl g w).drewN _).set 1 _⟩
theorem take_no (g : Nat) (r : ImS) (c : Int) (w : World) (h : ImAt w g r) (hs : r.s.size ≤ 1048576) (hi : r.i ≤ r.s.size) (hc : ¬ pk r.s r.i = c) :
    Calls Tryd.prog 52 #[.pointer (some ⟨g, 0, none⟩), .int .i64 c] w fun e w' => e = .returned (.bool false) ∧ ∃ n, w.drewN n = w' := by
  have H := Lib.hid h
  have hq : (pk r.s r.i != c) = true := by rw [bne_iff_ne]; exact hc
  clear h hc
  go_enter Tryd.func52, Tryd.ntmps52
  go_wp2_with (go_at_call 64; refine (next_i g r _ H.out hs hi).mono ?_; rintro e w' ⟨rfl, n, rfl⟩)
  go_ret
  exact ⟨rfl, same_drewN (same_refl w) _⟩
theorem digitsEnd_any (s : ByteArray) (i : Nat) (w : World) (hs : s.size ≤ 1048576) (hi : i ≤ s.size) : Calls Tryd.prog 88 #[.string s, .int .i64 i] w fun e w' => e = .returned (.int .i64 (digE s i)) ∧ w = w' := by
  go_enter Tryd.func88, Tryd.ntmps88
  go_wp2_with fail
  go_loop [1] (fun k => ∃ j : Nat, k = .int .i64 j ∧ j ≤ s.size ∧ digE s j = digE s i) (fun k => s.size - (intOf k).toNat)
  case atStart => exact ⟨i, rfl, hi, rfl⟩
  case round =>
    obtain ⟨j, rfl, hj, hd⟩ := hrel
    have HD := Lib.hid hd
    clear hd
    by_cases hlt : j < s.size
    · have he := bAt_eq s j hlt
      have hr := bAt_range s j
      by_cases h1 : 48 ≤ bAt s j
      · by_cases h2 : bAt s j ≤ 57
        · go_wp2_with fail
          go_round
          case rel => exact ⟨j + 1, by go_num, by omega, by rw [← HD.out, digE_yes (s := s) (i := j) (by rw [pk_in hlt]; exact ⟨h1, h2⟩)]⟩
          case measure => simp [intOf]; omega
        · have HN : Hid (digE s i = j) := by unfold Hid; rw [← HD.out]; exact digE_no (fun k => by rw [pk_in hlt] at k; exact h2 k.2)
          go_wp2_with fail
          go_ret
          exact ⟨ret_int (by rw [HN.out]), rfl⟩
      · have HN : Hid (digE s i = j) := by unfold Hid; rw [← HD.out]; exact digE_no (fun k => by rw [pk_in hlt] at k; exact h1 k.1)
        go_wp2_with fail
        go_ret
        exact ⟨ret_int (by rw [HN.out]), rfl⟩
    · have HN : Hid (digE s i = j) := by unfold Hid; rw [← HD.out]; exact digE_no (fun k => hlt (dig_lt k))
      go_wp2_with fail
      go_ret
      exact ⟨ret_int (by rw [HN.out]), rfl⟩
theorem digE_gt (s : ByteArray) (i : Nat) : isDigC (pk s i) ↔ i < digE s i := by
  constructor
  · intro h
    have := digE_bd s (i + 1)
    rw [digE_yes h]; omega
  · intro h
    by_cases k : isDigC (pk s i)
    · exact k
    · rw [digE_no k] at h; omega
theorem digits_i (g : Nat) (r : ImS) (w : World) (h : ImAt w g r) (hs : r.s.size ≤ 1048576) (hi : r.i ≤ r.s.size) :
    Calls Tryd.prog 53 #[.pointer (some ⟨g, 0, none⟩)] w fun e w' => e = .returned (.bool (decide (r.i < digE r.s r.i))) ∧ ImAt w' g (r.to (digE r.s r.i)) ∧ Only g w w' := by
  obtain ⟨c0, c1, -⟩ := h.facts
  have hf := h.free
  have H := Lib.hid h
  clear h
  go_enter Tryd.func53, Tryd.ntmps53
  go_wp2_with fail
  go_still_tail 12, (by kernel_rfl)
  still_call ((digitsEnd_any r.s r.i _ hs hi).mono (fun _ _ h => ⟨h.1, h.2.symm⟩))
  repeat still_step
  refine wpStill_nil ?_
  change wpList _ _ _ _ _ (World.drew _)
  go_wp2_with fail
  go_ret
  exact ⟨ret_bool (by simp), ImAt.stepTo H.out.drew1 _ _ rfl, ((Only.refl g w).drew).set 1 _⟩
theorem digits_i_yes (g : Nat) (r : ImS) (w : World) (h : ImAt w g r) (hs : r.s.size ≤ 1048576) (hi : r.i ≤ r.s.size) (hd : isDigC (pk r.s r.i)) :
    Calls Tryd.prog 53 #[.pointer (some ⟨g, 0, none⟩)] w fun e w' => e = .returned (.bool true) ∧ ImAt w' g (r.to (digE r.s r.i)) ∧ Only g w w' := by
  have := digits_i g r w h hs hi
  rwa [decide_eq_true ((digE_gt _ _).1 hd)] at this
theorem digits_i_no (g : Nat) (r : ImS) (w : World) (h : ImAt w g r) (hs : r.s.size ≤ 1048576) (hi : r.i ≤ r.s.size) (hd : ¬ isDigC (pk r.s r.i)) :
    Calls Tryd.prog 53 #[.pointer (some ⟨g, 0, none⟩)] w fun e w' => e = .returned (.bool false) ∧ ImAt w' g r ∧ Only g w w' := by
  have := digits_i g r w h hs hi
  rw [decide_eq_false (fun k => hd ((digE_gt _ _).2 k)), digE_no hd] at this
  exact this
end Go.Proofs.YtlpgkpaogadolaaDoor
