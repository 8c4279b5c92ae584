/- Texts: the reference's functions, walked. -/
import Derived.Test.YtlpgkpaogadolaaDoorProg
import Derived.Test.YtlpgkpaogadolaaDoorTextPlain
import Derived.Test.YtlpgkpaogadolaaDoorMem
import Derived.WalkKit
import Derived.WalkSpells
import Derived.WalkLawsBesides
import Derived.Lib.Hide
import Derived.Outline
import Derived.Deep.DeepCutAuto
import Derived.Deep.CutBlock
namespace Go.Proofs.YtlpgkpaogadolaaDoor
open Go.RowKit
set_option maxRecDepth 100000

theorem betw_any (n lo hi : Int) (w : World) :
    Calls Tryd.prog 111 #[.int .i64 n, .int .i64 lo, .int .i64 hi] w fun e w' => e = .returned (.bool (betw n lo hi)) ∧ w = w' := by
  by_cases h1 : lo ≤ n
  · go_enter Tryd.func111, Tryd.ntmps111
    go_wp2
    go_ret
    exact ⟨ret_bool (by simp [betw, h1]), rfl⟩
  · go_enter Tryd.func111, Tryd.ntmps111
    go_wp2
    go_ret
    exact ⟨ret_bool ((betw_false (by omega)).symm), rfl⟩
theorem betw_yes (n lo hi : Int) (w : World) (h : lo ≤ n ∧ n ≤ hi) :
    Calls Tryd.prog 111 #[.int .i64 n, .int .i64 lo, .int .i64 hi] w fun e w' => e = .returned (.bool true) ∧ w = w' := by
  rw [← betw_true h]; exact betw_any n lo hi w
theorem betw_no (n lo hi : Int) (w : World) (h : ¬ (lo ≤ n ∧ n ≤ hi)) :
    Calls Tryd.prog 111 #[.int .i64 n, .int .i64 lo, .int .i64 hi] w fun e w' => e = .returned (.bool false) ∧ w = w' := by
  rw [← betw_false h]; exact betw_any n lo hi w

theorem point_range {n : Int} (h : point n = true) : 0 ≤ n ∧ n ≤ 1114111 := by
  simp only [point, betw, Bool.and_eq_true, decide_eq_true_eq] at h
  omega
theorem point_any (n : Int) (w : World) :
    Calls Tryd.prog 112 #[.int .i64 n] w fun e w' => e = .returned (.bool (point n)) ∧ w = w' := by
  by_cases h1 : 1 ≤ n ∧ n ≤ 1114111
  · go_enter Tryd.func112, Tryd.ntmps112
    go_wp2_with fail
    refine (betw_yes _ _ _ _ h1).mono ?_
    rintro e w' ⟨rfl, rfl⟩
    go_wp2_with fail
    refine (betw_any _ _ _ _).mono ?_
    rintro e w' ⟨rfl, rfl⟩
    go_wp2_with fail
    go_ret
    exact ⟨ret_bool (by simp [point, betw_true h1]), rfl⟩
  · go_enter Tryd.func112, Tryd.ntmps112
    go_wp2_with (go_at_call 111; refine (betw_no _ _ _ _ h1).mono ?_; rintro e w' ⟨rfl, rfl⟩)
    go_ret
    exact ⟨ret_bool (by simp [point, betw_false h1]), rfl⟩

/-- The same, parted. -/
def Parts (p : Prop) (w : World) (e : Ending) (w' : World) : Prop := w = w' ∧ ((e = .returned (.bool true) ∧ p) ∨ (e = .returned (.bool false) ∧ ¬ p))
theorem parts_of {P : Program} {f : FuncId} {args : Array Value} {w : World} {b : Bool} {p : Prop} (h : Calls P f args w fun e w' => e = .returned (.bool b) ∧ w = w') (hb : b = true ↔ p) : Calls P f args w (Parts p w) :=
  h.mono fun e w' ⟨he, hw⟩ => ⟨hw, by
    cases b
    · exact .inr ⟨he, fun k => by have := hb.2 k; cases this⟩
    · exact .inl ⟨he, hb.1 rfl⟩⟩
theorem betw_parts (n lo hi : Int) (w : World) : Calls Tryd.prog 111 #[.int .i64 n, .int .i64 lo, .int .i64 hi] w (Parts (lo ≤ n ∧ n ≤ hi) w) :=
  parts_of (betw_any n lo hi w) (by simp [betw])

def IsBytes (w : World) (c : Int) (e : Ending) (w' : World) : Prop :=
  e = .returned (.slice (some ⟨w.heap.size, 0, none⟩) (ptBytes c).length (ptBytes c).length) ∧ w.alloc (.cells ⟨(ptBytes c).map (Value.int .u8)⟩ 5) = w'
theorem isBytes_mk (w : World) (c : Int) (l : List Int) (h : ptBytes c = l) :
    IsBytes w c (.returned (.slice (some ⟨w.heap.size, 0, none⟩) l.length l.length)) (w.alloc (.cells ⟨l.map (Value.int .u8)⟩ 5)) := by
  rw [← h]; exact ⟨rfl, rfl⟩
theorem bytes_any (n : Int) (w : World) (h0 : 0 ≤ n) (h1 : n ≤ 1114111) : Calls Tryd.prog 91 #[.int .i64 n] w (IsBytes w n) := by
  by_cases a1 : n < 128
  · go_enter Tryd.func91, Tryd.ntmps91
    go_wp2
    go_ret
    exact isBytes_mk w n [n] (by simp [ptBytes, a1]; omega)
  by_cases a2 : n < 2048
  · go_enter Tryd.func91, Tryd.ntmps91
    go_wp2
    go_ret
    refine isBytes_mk w n [_, _] ?_
    simp only [ptBytes, if_neg (show ¬ n < 128 by omega), if_pos (show n < 2048 by omega)]
    simp only [List.cons.injEq, and_true]; omega
  by_cases a3 : n < 65536
  · go_enter Tryd.func91, Tryd.ntmps91
    go_wp2
    go_ret
    refine isBytes_mk w n [_, _, _] ?_
    simp only [ptBytes, if_neg (show ¬ n < 128 by omega), if_neg (show ¬ n < 2048 by omega), if_pos (show n < 65536 by omega)]
    simp only [List.cons.injEq, and_true]; omega
  · go_enter Tryd.func91, Tryd.ntmps91
    go_wp2
    go_ret
    refine isBytes_mk w n [_, _, _, _] ?_
    simp only [ptBytes, if_neg (show ¬ n < 128 by omega), if_neg (show ¬ n < 2048 by omega), if_neg (show ¬ n < 65536 by omega)]
    simp only [List.cons.injEq, and_true]; omega

def IsNext (s : ByteArray) (i : Nat) (w : World) (e : Ending) (w' : World) : Prop :=
  e = .returned (.tuple #[.int .i64 (nextP s i).1, .int .i64 (nextP s i).2]) ∧ Below w.heap.size w w'
theorem isNext_mk {s : ByteArray} {i : Nat} {w w' : World} {a b : Int} (h : nextP s i = (a, b)) (hb : Below w.heap.size w w') : IsNext s i w (.returned (.tuple #[.int .i64 a, .int .i64 b])) w' :=
  ⟨by rw [h], hb⟩
def LeadIs (s : ByteArray) (i : Nat) (w : World) (sn sc : Value) (wx : World) : Prop :=
  wx = w ∧ ∃ n c : Int, sn = .int .i64 n ∧ sc = .int .i64 c ∧ lead (bAt s i) = (n, c)
theorem next_any (s : ByteArray) (i : Nat) (w : World) (hs : s.size ≤ 9223372036854775807) (hi : i < s.size) :
    Calls Tryd.prog 89 #[.string s, .int .i64 i] w (IsNext s i w) := by
  have hb := bAt_range s i
  have he := bAt_eq s i hi
  go_enter Tryd.func89, Tryd.ntmps89
  go_upto_block 0 with fail
  go_cut [7, 8] (fun sn sc wx => LeadIs s i w sn sc wx)
  case first =>
    go_wp2_with (go_at_call 111; refine (betw_any _ _ _ _).mono ?_; rintro e w' ⟨rfl, rfl⟩)
    all_goals go_meet
    all_goals exact ⟨rfl, _, _, rfl, rfl, by (try simp only [betw, decide_eq_true_eq, decide_eq_false_iff_not] at *); unfold lead; repeat (first | rw [if_pos (by omega)] | rw [if_neg (by omega)])⟩
  case rest =>
    obtain ⟨rfl, n, c, rfl, rfl, hl⟩ := hcut
    obtain ⟨n0, n4, c0, c1⟩ := lead_bd hl hb.1
    have HL := Lib.hid hl
    clear hl he
    by_cases hn : n = 0 ∨ (s.size : Int) - i < n
    · have hN : nextP s i = (0, 0) := by simp only [nextP, HL.out]; rw [if_pos hn]
      have HN := Lib.hid hN
      clear hN
      by_cases hn0 : n = 0
      · subst hn0
        go_wp2
        go_ret2
        exact isNext_mk HN.out (Below.refl _ _)
      · have hs2 : (s.size : Int) - i < n := by omega
        clear hn
        go_wp2
        go_ret2
        exact isNext_mk HN.out (Below.refl _ _)
    have hn1 : 1 ≤ n := by omega
    have hnb : (n == 0) = false := by rw [beq_eq_false_iff_ne]; omega
    have hn2 : n ≤ (s.size : Int) - i := by omega
    clear hn
    go_wp2
    go_loop [8, 9] (fun sc sk => ∃ j : Nat, (j : Int) + 1 ≤ n ∧ sk = .int .i64 ((j : Int) + 1) ∧ sc = .int .i64 (cAt s i c j) ∧ ∀ m : Nat, 1 ≤ m → m ≤ j → 128 ≤ bAt s (i + m) ∧ bAt s (i + m) ≤ 191) (fun _ sk => (n - intOf sk).toNat)
    case atStart => exact ⟨0, by omega, by go_num, rfl, fun m a b => by omega⟩
    case round =>
      obtain ⟨j, hj, rfl, rfl, hc⟩ := hrel
      have hbd := cAt_bd3 s i c c0 c1 j (by omega) hc
      have HC := Lib.hid hc
      clear hc
      by_cases hlt : (j : Int) + 1 < n
      · have hin : i + (j + 1) < s.size := by omega
        have he := bAt_eq s (i + (j + 1)) hin
        have hr := bAt_range s (i + (j + 1))
        by_cases hx : 128 ≤ bAt s (i + (j + 1)) ∧ bAt s (i + (j + 1)) ≤ 191
        · go_wp2_with (go_at_call 111; refine (betw_yes _ _ _ _ hx).mono ?_; rintro e w' ⟨rfl, rfl⟩)
          go_round
          case rel => exact ⟨j + 1, by omega, by go_num, by simp only [cAt], upto_succ HC.out hx⟩
          case measure => simp [intOf]; omega
        · have HN := Lib.hid (nextP_stop HL.out (by omega) (j + 1) (by omega) (by omega) hx)
          go_wp2_with (go_at_call 111; refine (betw_no _ _ _ _ hx).mono ?_; rintro e w' ⟨rfl, rfl⟩)
          go_ret2
          exact isNext_mk HN.out (Below.refl _ _)
      · have HN := Lib.hid (nextP_end HL.out (by omega) j (by omega) HC.out)
        generalize cAt s i c j = C at *
        by_cases hp : point C = true
        · have hr := point_range hp
          by_cases hq : ((ptBytes C).length : Int) = n
          · have HM : Hid (nextP s i = (C, n)) := by rw [Hid, HN.out, if_pos ⟨hp, hq⟩]
            have HQ := Lib.hid hq
            have hqb : (((ptBytes C).length : Int) == n) = true := by rw [hq]; exact beq_self_eq_true _
            clear HN hq
            go_wp2_with (first | (go_at_call 112; refine (point_any _ _).mono ?_; rintro e w' ⟨rfl, rfl⟩) | (go_at_call 91; refine (bytes_any _ _ hr.1 hr.2).mono ?_; rintro e w' ⟨rfl, rfl⟩))
            go_ret2
            exact isNext_mk HM.out ((Below.refl _ _).alloc (Nat.le_refl _) _)
          · have HM : Hid (nextP s i = (0, 0)) := by rw [Hid, HN.out, if_neg (fun h => hq h.2)]
            have hqb : (((ptBytes C).length : Int) == n) = false := by rw [beq_eq_false_iff_ne]; exact hq
            clear HN hq
            go_wp2_with (first | (go_at_call 112; refine (point_any _ _).mono ?_; rintro e w' ⟨rfl, rfl⟩) | (go_at_call 91; refine (bytes_any _ _ hr.1 hr.2).mono ?_; rintro e w' ⟨rfl, rfl⟩))
            go_ret2
            exact isNext_mk HM.out ((Below.refl _ _).alloc (Nat.le_refl _) _)
        · have HM : Hid (nextP s i = (0, 0)) := by rw [Hid, HN.out, if_neg (fun h => hp h.1)]
          have hpf : point C = false := by simpa using hp
          clear HN hp
          go_wp2_with (go_at_call 112; refine (point_any _ _).mono ?_; rintro e w' ⟨rfl, rfl⟩)
          go_ret2
          exact isNext_mk HM.out (Below.refl _ _)
end Go.Proofs.YtlpgkpaogadolaaDoor
