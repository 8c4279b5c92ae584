/- Texts: the reference's Runes and TextOk, walked. -/
import Derived.Test.YtlpgkpaogadolaaDoorTexts
namespace Go.Proofs.YtlpgkpaogadolaaDoor
open Go.RowKit
set_option maxRecDepth 100000

theorem info_int : (Tryd.prog.info? 3).map (fun i => (i.zero, i.size, i.bytes)) = some (some (.int .i64 0), 1, 8) := by kernel_rfl
def ints (l : List Int) : List Value := l.map (Value.int .i64)
theorem ints_snoc (l : List Int) (x : Int) : ints (l ++ [x]) = ints l ++ [.int .i64 x] := by simp [ints]
theorem ints_length (l : List Int) : (ints l).length = l.length := by simp [ints]
/-- The code points of a text as a slice of the call's own, and whether it is one. -/
def RunesAre (s : ByteArray) (w : World) (e : Ending) (w' : World) : Prop :=
  ∃ v, e = .returned (.tuple #[v, .bool (runesP s).isSome]) ∧ w'.ownsRow w.heap.size 3 1 v ((runesP s).getD []).length (ints ((runesP s).getD [])) ∧ Below w.heap.size w w'
theorem runesAre_no {s : ByteArray} {w w' : World} {v : Value} (h : runesP s = none) (ho : w'.ownsRow w.heap.size 3 1 v 0 []) (hb : Below w.heap.size w w') : RunesAre s w (.returned (.tuple #[v, .bool false])) w' :=
  ⟨v, by rw [h]; rfl, by rw [h]; exact ho, hb⟩
theorem runesAre_yes {s : ByteArray} {w w' : World} {v : Value} {L : List Int} (h : runesP s = some L) (ho : w'.ownsRow w.heap.size 3 1 v L.length (ints L)) (hb : Below w.heap.size w w') : RunesAre s w (.returned (.tuple #[v, .bool true])) w' :=
  ⟨v, by rw [h]; rfl, by rw [h]; exact ho, hb⟩
def RunesRel (s : ByteArray) (w : World) (v p : Value) (wr : World) : Prop :=
  ∃ (i : Nat) (L : List Int), p = .int .i64 i ∧ SoFar s i L ∧ wr.ownsRow w.heap.size 3 1 v L.length (ints L) ∧ Below w.heap.size w wr
theorem next_eq (s : ByteArray) (i : Nat) (c n : Int) (w : World) (hs : s.size ≤ 9223372036854775807) (hi : i < s.size) (h : Hid (nextP s i = (c, n))) :
    Calls Tryd.prog 89 #[.string s, .int .i64 i] w fun e w' => e = .returned (.tuple #[.int .i64 c, .int .i64 n]) ∧ Below w.heap.size w w' :=
  (next_any s i w hs hi).mono fun e w' ⟨he, hb⟩ => ⟨by rw [he, h.out], hb⟩
theorem runesRel_start (s : ByteArray) (w : World) : RunesRel s w (.slice (some ⟨w.heap.size, 0, none⟩) 0 0) (.int .i64 0) (w.alloc (.cells #[] 3)) :=
  ⟨0, [], rfl, SoFar.start s, World.ownsRow_made w #[] 0 (Nat.le_refl _) (by simp [maxLen]) rfl, (Below.refl _ _).alloc (Nat.le_refl _) _⟩
theorem runesRel_step {s : ByteArray} {w wr : World} {i : Nat} {L : List Int} {c n : Int} {v : Value} (hL : SoFar s i L) (hi : i < s.size) (hc : nextP s i = (c, n)) (hn : n ≠ 0)
    (ho : wr.ownsRow w.heap.size 3 1 v ((ints L).length + 1) (ints L ++ [Value.int .i64 c])) (hb : Below w.heap.size w wr) : RunesRel s w v (.int .i64 ((i : Int) + n)) wr := by
  have hd := nextP_bd hc hn
  refine ⟨i + n.toNat, L ++ [c], by congr 1; omega, hL.step hi hc hn, ?_, hb⟩
  rw [ints_snoc, List.length_append, ← ints_length L]
  exact ho
set_option maxHeartbeats 400000 in
theorem runes_any (s : ByteArray) (w : World) (hs : s.size ≤ 9223372036854775807) :
    Calls Tryd.prog 54 #[.string s] w (RunesAre s w) := by
  by_cases h1 : 1000 < s.size
  · have HN := Lib.hid (runesP_long h1)
    go_enter Tryd.func54, Tryd.ntmps54
    go_wp2_with fail
    go_ret2
    exact runesAre_no HN.out (World.ownsRow_made w #[] 0 (Nat.le_refl _) (by simp [maxLen]) rfl) ((Below.refl _ _).alloc (Nat.le_refl _) _)
  · go_enter Tryd.func54, Tryd.ntmps54
    go_wp2_with fail
    go_loopw [4, 5] (RunesRel s w) (fun _ p _ => s.size - (intOf p).toNat)
    case atStart => exact runesRel_start s w
    case round =>
      obtain ⟨i, L, rfl, hL, hown, hb⟩ := hrel
      have HL := Lib.hid hL
      have hle := hL.1
      have hlen := hL.2.1
      clear hL
      by_cases hlt : i < s.size
      · obtain ⟨c, n, hcn⟩ : ∃ c n, nextP s i = (c, n) := ⟨(nextP s i).1, (nextP s i).2, rfl⟩
        have HC := Lib.hid hcn
        by_cases hn : n = 0
        · have hnb : (n == 0) = true := by rw [hn]; rfl
          have HN := Lib.hid (HL.out.stop (by omega) hlt (by rw [hcn, hn]))
          clear hn hcn
          go_wp2_with (go_at_call 89; refine (next_eq s i c n _ hs hlt HC).mono ?_; rintro e w1 ⟨rfl, hb1⟩)
          go_ret2
          have hz := hb.size
          have hz1 := hb1.size
          exact runesAre_no HN.out (World.ownsRow_made w1 #[] 0 (by omega) (by simp [maxLen]) rfl) ((below_after hb hz hb1).alloc (by omega) _)
        · have hnb : (n == 0) = false := by rw [beq_eq_false_iff_ne]; exact hn
          have hd := nextP_bd hcn hn
          have HN := Lib.hid hn
          clear hn hcn
          have hz := hb.size
          go_wp2_with fail
          refine (next_eq s i c n _ hs hlt HC).mono ?_
          rintro e w1 ⟨rfl, hb1⟩
          have hown1 := own_below hown hb1
          have hbw := below_after hb hz hb1
          have hz1 := hb1.size
          rw [← ints_length] at hown1
          clear hown hb hb1
          go_wp2_with (at_builtin; go_must (refine append_one hown1 hbw (Nat.le_refl _) (.int .i64 c) 42 (.int .i64 0) 8 Tryd.underlying42 info_int rfl (by omega) rfl ?hz ?hl _ _ rfl rfl rfl rfl ?_))
          case hz => omega
          case hl => rw [ints_length]; omega
          intro v1 w2 hown2 hb2 _
          go_wp2_with fail
          go_roundw
          case rel => exact runesRel_step HL.out hlt HC.out HN.out hown2 hb2
          case measure => simp [intOf]; omega
      · have HN := Lib.hid (HL.out.fin (by omega) hlt)
        go_wp2_with fail
        go_ret2
        exact runesAre_yes HN.out hown hb
theorem textOk_any (s : ByteArray) (w : World) (hs : s.size ≤ 9223372036854775807) :
    Calls Tryd.prog 26 #[.string s] w fun e w' => e = .returned (.bool (runesP s).isSome) ∧ Below w.heap.size w w' := by
  go_enter Tryd.func26, Tryd.ntmps26
  go_wp2_with (go_at_call 54; refine (runes_any s _ hs).mono ?_; rintro e w1 ⟨v, rfl, _, hb1⟩)
  go_ret
  exact ⟨rfl, hb1⟩
end Go.Proofs.YtlpgkpaogadolaaDoor
