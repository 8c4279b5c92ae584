/- The program's JsonNumber and the law, walked. -/
import Derived.Test.YtlpgkpaogadolaaDoorJsonImpB
import Derived.Test.YtlpgkpaogadolaaDoorJsonSpecO
namespace Go.Proofs.YtlpgkpaogadolaaDoor
open Go.RowKit
set_option maxRecDepth 100000

theorem implOk_yes (s : ByteArray) (w : World) (hs : s.size ≤ 9223372036854775807) (hT : Tabs w) (h : (runesP s).isSome = true) : Calls Tryd.prog 24 #[.string s] w fun e w' => e = .returned (.bool true) ∧ Below w.heap.size w w' := by rw [← h]; exact implTextOk_any s w hs hT
theorem implOk_no (s : ByteArray) (w : World) (hs : s.size ≤ 9223372036854775807) (hT : Tabs w) (h : (runesP s).isSome = false) : Calls Tryd.prog 24 #[.string s] w fun e w' => e = .returned (.bool false) ∧ Below w.heap.size w w' := by rw [← h]; exact implTextOk_any s w hs hT
theorem Only.belowN {w w1 w3 : World} {o : Obj} (hb : Below w.heap.size w w1) (hO : Only w1.heap.size (w1.alloc o) w3) : Below w.heap.size w w3 :=
  (hb.alloc hb.size _).trans (hO.out hb.size (by have := hb.size; simp; omega))
set_option maxHeartbeats 1000000 in
theorem implNumber_any (s : ByteArray) (w : World) (hs : s.size ≤ 9223372036854775807) (hT : Tabs w) : Calls Tryd.prog 9 #[.string s] w fun e w' => e = .returned (.bool (numOk s)) ∧ Below w.heap.size w w' := by
  cases hR : (runesP s).isSome with
  | false =>
    have HN : Hid (numOk s = false) := numOk_no fun h => by have := h.1; rw [hR] at this; cases this
    have HR := Lib.hid hR
    clear hR
    go_enter Tryd.func9, Tryd.ntmps9
    go_wp2_with (go_at_call 24; refine (implOk_no s _ hs hT HR.out).mono ?_; rintro e w1 ⟨rfl, hb1⟩)
    go_ret
    exact ⟨ret_bool HN.out.symm, hb1⟩
  | true =>
    have hsz := runesP_size hR
    have HR := Lib.hid hR
    have HF := Lib.hid fun (g : Nat) (W : World) hW => number_i g ⟨s, 0, 0, .slice none 0 0⟩ W hW (show s.size ≤ 1048576 by omega) (Nat.zero_le _)
    rcases hx : numE s 0 with ⟨c, p⟩ | j
    · have HN : Hid (numOk s = false) := numOk_no fun h => by have := h.2; rw [hx] at this; cases this
      have hq : (c == 0) = false := by rw [numE_err hx]; rfl
      have HX := Lib.hid hx
      clear hR hx
      go_enter Tryd.func9, Tryd.ntmps9
      go_wp2_with (first
        | (go_at_call 24; refine (implOk_yes s _ hs hT HR.out).mono ?_; rintro e w1 ⟨rfl, hb1⟩)
        | (go_at_call 25; refine (HF.out _ _ (Blk.new w1 _ _)).mono ?_; rintro e w2 hI; obtain ⟨hO, hI⟩ := hI; rw [HX.out] at hI; obtain ⟨rfl, hA⟩ := hI))
      go_ret
      exact ⟨ret_bool HN.out.symm, Only.belowN hb1 hO⟩
    · have hj := numE_bd hx (Nat.zero_le _)
      have HX := Lib.hid hx
      by_cases he : j = s.size
      · have HN : Hid (numOk s = true) := numOk_yes ⟨hR, by rw [hx, he]⟩
        have hq : ((j : Int) == (s.size : Int)) = true := by rw [he]; simp
        clear hR hx he
        go_enter Tryd.func9, Tryd.ntmps9
        go_wp2_with (first
          | (go_at_call 24; refine (implOk_yes s _ hs hT HR.out).mono ?_; rintro e w1 ⟨rfl, hb1⟩)
          | (go_at_call 25; refine (HF.out _ _ (Blk.new w1 _ _)).mono ?_; rintro e w2 hI; obtain ⟨hO, hI⟩ := hI; rw [HX.out] at hI; obtain ⟨rfl, hA⟩ := hI; obtain ⟨d0, d1, -⟩ := hA.facts; simp only [ImS.to] at d0 d1))
        go_ret
        exact ⟨ret_bool HN.out.symm, Only.belowN hb1 hO⟩
      · have HN : Hid (numOk s = false) := numOk_no fun h => by
          have := h.2; rw [hx] at this; injection this with this; exact he this
        have hq : ((j : Int) == (s.size : Int)) = false := beq_no' (by omega)
        clear hR hx he
        go_enter Tryd.func9, Tryd.ntmps9
        go_wp2_with (first
          | (go_at_call 24; refine (implOk_yes s _ hs hT HR.out).mono ?_; rintro e w1 ⟨rfl, hb1⟩)
          | (go_at_call 25; refine (HF.out _ _ (Blk.new w1 _ _)).mono ?_; rintro e w2 hI; obtain ⟨hO, hI⟩ := hI; rw [HX.out] at hI; obtain ⟨rfl, hA⟩ := hI; obtain ⟨d0, d1, -⟩ := hA.facts; simp only [ImS.to] at d0 d1))
        go_ret
        exact ⟨ret_bool HN.out.symm, Only.belowN hb1 hO⟩
theorem law_number (s : ByteArray) (w : World) (hs : s.size ≤ 9223372036854775807) (hT : Tabs w) : Calls Tryd.prog 3 #[.string s] w fun e w' => e = .returned (.bool true) ∧ Below w.heap.size w w' := by
  by_cases hl : 1048576 < s.size
  · go_enter Tryd.func3, Tryd.ntmps3
    go_wp2_with fail
    go_ret
    exact ⟨rfl, Below.refl _ _⟩
  · generalize hb : numOk s = b
    have H1 := Lib.hid (fun W => specNumber_any s W hs)
    have H2 := Lib.hid (fun W hW => implNumber_any s W hs hW)
    rw [hb] at H1 H2
    go_enter Tryd.func3, Tryd.ntmps3
    go_wp2_with (first
      | (go_at_call 8; refine (H1.out _).mono ?_; rintro e w1 ⟨rfl, hb1⟩)
      | (go_at_call 9; refine (H2.out _ (hT.below hb1)).mono ?_; rintro e w2 ⟨rfl, hb2⟩))
    go_ret
    exact ⟨rfl, below_after hb1 hb1.size hb2⟩
end Go.Proofs.YtlpgkpaogadolaaDoor
