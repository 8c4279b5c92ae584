/- Texts: the program's runesOf and TextOk, walked. -/
import Derived.Test.YtlpgkpaogadolaaDoorTextsB
import Derived.Test.YtlpgkpaogadolaaDoorTextUtf
import Derived.Test.YtlpgkpaogadolaaDoorShelf
namespace Go.Proofs.YtlpgkpaogadolaaDoor
open Go.RowKit
set_option maxRecDepth 100000

/-- utf8's two tables lie as their initialisers lay them. -/
def Tabs (w : World) : Prop := Lib.Utf8Tabs (Tryd.lays196_ren.g 3) (Tryd.lays196_ren.g 4) w
theorem Tabs.below {w w' : World} (h : Tabs w) (hb : Below w.heap.size w w') : Tabs w' := Utf8Tabs_below h hb
theorem valid_any (s : ByteArray) (w : World) (hs : s.size ≤ 9223372036854775807) (hT : Tabs w) :
    Calls Tryd.prog 87 #[.string s] w fun e w' => e = .returned (.bool (Lib.validD s.data.toList)) ∧ Below w.heap.size w w' := Tryd.utf8_ValidString s w hs hT
theorem indexByte_any (s : ByteArray) (c : Int) (w : World) :
    Calls Tryd.prog 65 #[.string s, .int .u8 c] w fun e w' => e = .returned (.int .i64 (Lib.indexByte s.data.toList c.toNat.toUInt8)) ∧ w = w' :=
  (Tryd.strings_IndexByte s c w).mono fun _ _ h => ⟨h.1, h.2.symm⟩
def RuneLoop (s : ByteArray) (w : World) (K : Nat) (v : Value) (wr : World) : Prop :=
  ∃ (i : Nat) (L : List Int), wr.heap[K]? = some (.stringIter s i) ∧ SoFar s i L ∧ wr.ownsRow (K + 1) 3 1 v (ints L).length (ints L) ∧ Below w.heap.size w wr
set_option maxHeartbeats 1000000 in
theorem runesOf_any (s : ByteArray) (w : World) (hs : s.size ≤ 9223372036854775807) (hT : Tabs w) :
    Calls Tryd.prog 51 #[.string s] w (RunesAre s w) := by
  have HI := Lib.hid (runesP_isSome s)
  by_cases h1 : 1000 < s.size
  · have HN := Lib.hid (runesP_long h1)
    go_enter Tryd.func51, Tryd.ntmps51
    go_wp2_with fail
    go_ret2
    exact runesAre_no HN.out (World.ownsRow_nil _ _ _ _) (Below.refl _ _)
  by_cases h2 : Lib.validD s.data.toList = true
  · by_cases h3 : 0 ≤ Lib.indexByte s.data.toList 0
    · have HN : Hid (runesP s = none) := by
        cases hr : runesP s with
        | none => exact rfl
        | some L => exact absurd h3 (HI.out.1 (by rw [hr]; rfl)).2.2
      clear HI
      go_enter Tryd.func51, Tryd.ntmps51
      go_wp2_with fail
      refine (valid_any s _ hs hT).mono ?_
      rintro e w1 ⟨rfl, hb1⟩
      go_wp2_with fail
      refine (indexByte_any s _ _).mono ?_
      rintro e w2 ⟨rfl, rfl⟩
      go_wp2_with fail
      go_ret2
      exact runesAre_no HN.out (World.ownsRow_nil _ _ _ _) hb1
    · have hY := HI.out.2 ⟨by omega, h2, h3⟩
      clear HI
      obtain ⟨Lf, hLf⟩ := Option.isSome_iff_exists.1 hY
      have HF := Lib.hid hLf
      have HY := Lib.hid hY
      clear hY hLf
      go_enter Tryd.func51, Tryd.ntmps51
      go_wp2_with fail
      refine (valid_any s _ hs hT).mono ?_
      rintro e w1 ⟨rfl, hb1⟩
      go_wp2_with fail
      refine (indexByte_any s _ _).mono ?_
      rintro e w2 ⟨rfl, rfl⟩
      have hz1 := hb1.size
      go_wp2_with fail
      go_loopw [4] (RuneLoop s w w1.heap.size) (fun _ wr => s.size - wr.iterPos w1.heap.size)
      case atStart => exact ⟨0, [], World.iter_heap _ _ _, SoFar.start s, World.ownsRow_nil _ _ _ _, hb1.alloc hz1 _⟩
      case round =>
        clear h2 h3 hT
        obtain ⟨i, L, hk, hL, hown, hb⟩ := hrel
        have HL := Lib.hid hL
        have hle := hL.1
        have hlen := hL.2.1
        clear hL
        have hlk : w1.heap.size < wr.heap.size := (Array.getElem?_eq_some_iff.1 hk).1
        by_cases hlt : i < s.size
        · obtain ⟨c, n, hd, hcn, hn⟩ := HL.out.decode HY.out hlt
          have hnx := Lib.run_next_any_at (P := Tryd.prog) wr w1.heap.size s i 0 hk hlt
          have HD := Lib.hid hd
          have HC := Lib.hid hcn
          have hip := iterPos_of hk
          have hc32 : c ≤ 1114111 := by
            have := (nextP_bd hcn (by omega)).2.2.2
            rw [point_iff] at this
            omega
          have hni : (n : Int) ≤ (s.size : Int) - i := (nextP_bd hcn (by omega)).2.2.1
          have HN := Lib.hid hn
          have HIP := Lib.hid hip
          have HK := Lib.hid (Lib.iterAt_heap wr w1.heap.size s i (i + n) hk)
          rw [hd] at hnx
          clear hd hcn hip hk hn
          have hown1 := own_iterAt hown (Nat.lt_succ_self _) s (i + n)
          have hbw := below_iterAt hb hz1 s (i + n)
          have hsz := iterAt_size wr w1.heap.size s (i + n)
          have HS := Lib.hid hsz
          clear hown hb hsz
          go_wp2_with (at_builtin; go_must (refine append_one hown1 hbw (Nat.le_succ_of_le hz1) (.int .i64 c) 42 (.int .i64 0) 8 Tryd.underlying42 info_int rfl (by omega) rfl ?hz ?hl _ _ rfl rfl rfl rfl ?_))
          case hz => rw [HS.out]; omega
          case hl => rw [ints_length]; omega
          intro v1 w2 hown2 hb2 hg2
          have HK2 : Hid (w2.heap[w1.heap.size]? = some (.stringIter s (i + n))) := by
            rw [Hid, hg2.block _ (by rw [HS.out]; exact hlk) ?_]
            · exact HK.out
            · intro hh
              have := own_base hown1 _ hh.symm
              omega
          clear hg2
          go_wp2_with fail
          go_roundw
          case rel => exact ⟨i + n, L ++ [(c : Int)], HK2.out, by simpa using HL.out.step hlt HC.out (by have := HN.out; omega), by rw [ints_snoc, List.length_append]; exact hown2, hb2⟩
          case measure => rw [HIP.out, iterPos_of HK2.out]; have := HN.out; omega
        · have hne := Lib.run_next_end_at (P := Tryd.prog) wr w1.heap.size s i 0 hk hlt
          have HN := Lib.hid (HL.out.fin (by omega) hlt)
          have hown2 := own_mono hown (show w.heap.size ≤ w1.heap.size + 1 by omega)
          rw [ints_length] at hown2
          clear hk hown
          go_wp2_with fail
          go_ret2
          exact runesAre_yes HN.out hown2 hb
  · have HN : Hid (runesP s = none) := by
      cases hr : runesP s with
      | none => exact rfl
      | some L => exact absurd (HI.out.1 (by rw [hr]; rfl)).2.1 h2
    have hvf : Lib.validD s.data.toList = false := by simpa using h2
    clear HI h2
    go_enter Tryd.func51, Tryd.ntmps51
    go_wp2_with fail
    refine (valid_any s _ hs hT).mono ?_
    rintro e w1 ⟨rfl, hb1⟩
    go_wp2_with fail
    go_ret2
    exact runesAre_no HN.out (World.ownsRow_nil _ _ _ _) hb1
theorem implTextOk_any (s : ByteArray) (w : World) (hs : s.size ≤ 9223372036854775807) (hT : Tabs w) :
    Calls Tryd.prog 24 #[.string s] w fun e w' => e = .returned (.bool (runesP s).isSome) ∧ Below w.heap.size w w' := by
  go_enter Tryd.func24, Tryd.ntmps24
  go_wp2_with (go_at_call 51; refine (runesOf_any s _ hs hT).mono ?_; rintro e w1 ⟨v, rfl, _, hb1⟩)
  go_ret
  exact ⟨rfl, hb1⟩
end Go.Proofs.YtlpgkpaogadolaaDoor
