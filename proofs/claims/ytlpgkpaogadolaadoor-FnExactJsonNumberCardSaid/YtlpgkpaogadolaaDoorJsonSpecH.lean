/- The reference's JSON reader: words, walked. -/
import Derived.Test.YtlpgkpaogadolaaDoorJsonSpecG
namespace Go.Proofs.YtlpgkpaogadolaaDoor
open Go.RowKit
set_option maxRecDepth 100000

set_option maxHeartbeats 2000000 in
theorem value_null (g : Nat) (r : RdS) (ns : List Nd) (L : List JN) (b : Nat) (w : World) (V : Option ValF) (hst : SpecSt w g r ns) (hL : Reps ns L) (hs : r.s.size ≤ 1000000) (_hi : r.i ≤ r.s.size) (hc : r.code = 0) (hb : r.begun = (b : Int)) (hb2 : b < 200) (hlb : L.length ≤ b) (hn : pk r.s r.i = 110) :
    Calls Tryd.prog 28 #[.pointer (some ⟨g, 0, none⟩)] w (IsGot g r ns (valB r.s V r.i b L) w) := by
  have HX : Hid (valB r.s V r.i b L = (wordR r.s [110, 117, 108, 108] r.i).bind fun j => .ok ⟨j, b + 1, L ++ [⟨1, ⟨#[]⟩, [], []⟩]⟩) := by
    unfold Hid valB
    simp only []
    rw [if_neg (by rw [hn]; decide), if_neg (by omega), if_pos (by rw [hn]; decide), hn]
    rfl
  have hlt : r.i < r.s.size := pk_lt (by omega)
  have hp : peekV r = 110 := by rw [peekV_in hlt]; exact hn
  obtain ⟨c0, c1, c2, -, -, c5, -⟩ := hst.rd.facts
  have hf := hst.rd.free
  rw [hb] at c5
  have hbn : ((b : Int) == 200) = false := beq_no (by omega)
  have hlen : ns.length ≤ 1000 := by rw [hL.length]; omega
  have HST := Lib.hid hst
  have HC := Lib.hid hc
  have HB := Lib.hid hb
  have HL := Lib.hid hL
  clear hn hst hc hb hL
  go_enter Tryd.func28, Tryd.ntmps28
  go_wp2_with (go_at_call 56; refine (peek_any g r _ HST.out.rd hs).mono ?_; rintro e w' ⟨rfl, m, rfl⟩)
  go_loopg [7] 7 (fun gk sk wr => ((sk = .int .i64 0 ∧ WordGo g { r with begun := ((b + 1 : Nat) : Int) } w [110, 117, 108, 108] 0 wr ∧ 5 < gk) ∨ (sk = .int .i64 1 ∧ WordGo g { r with begun := ((b + 1 : Nat) : Int) } w [110, 117, 108, 108] 1 wr ∧ 4 < gk) ∨ (sk = .int .i64 2 ∧ WordGo g { r with begun := ((b + 1 : Nat) : Int) } w [110, 117, 108, 108] 2 wr ∧ 3 < gk) ∨ (sk = .int .i64 3 ∧ WordGo g { r with begun := ((b + 1 : Nat) : Int) } w [110, 117, 108, 108] 3 wr ∧ 2 < gk) ∨ (sk = .int .i64 4 ∧ WordGo g { r with begun := ((b + 1 : Nat) : Int) } w [110, 117, 108, 108] 4 wr ∧ 1 < gk)) ∨ (∃ k : Nat, sk = .int .i64 k ∧ k ≤ 4 ∧ WordBad g { r with begun := ((b + 1 : Nat) : Int) } w [110, 117, 108, 108] wr ∧ 0 < gk))
  case atStart => exact .inl (.inl ⟨rfl, ⟨Blk.set (HST.out.rd.drewN _) 5 _, ((Only.refl g w).drewN _).set 5 _, rfl⟩, by omega⟩)
  case round =>
    clear c0 c1 c2 c5 hf hp hbn
    rcases hrel with hrel | ⟨k, rfl, hk, hbad, hgk⟩
    · rcases hrel with ⟨rfl, hgo, hgk⟩ | ⟨rfl, hgo, hgk⟩ | ⟨rfl, hgo, hgk⟩ | ⟨rfl, hgo, hgk⟩ | ⟨rfl, hgo, hgk⟩
      · obtain ⟨c0, c1, c2, -⟩ := hgo.1.facts
        have hf := hgo.1.free
        simp only [RdS.to] at c0 c1 c2
        rw [HC.out] at c2
        have HG := Lib.hid hgo
        have hlit : (((⟨#[110, 117, 108, 108]⟩ : ByteArray)[0]'(by decide)).toNat : Int) = 110 := rfl
        clear hgo
        by_cases hp : pk r.s (r.i + 0) = 110
        · have HW : Hid ((RdS.to { r with begun := ((b + 1 : Nat) : Int) } (r.i + 0)).wantS 110 = RdS.to { r with begun := ((b + 1 : Nat) : Int) } (r.i + 1)) := by unfold Hid; rw [RdS.wantS_yes ((peekV_eq (RdS.to { r with begun := ((b + 1 : Nat) : Int) } (r.i + 0)) 110 (by omega)).2 hp)]; rfl
          have HY := Lib.hid (HG.out.yes (c := 110) (m := [117, 108, 108]) rfl hp)
          clear hp
          go_wp2_with (go_at_call 58; refine (want_any g (RdS.to { r with begun := ((b + 1 : Nat) : Int) } (r.i + 0)) 110 _ HG.out.1 hs (show r.i + 0 ≤ 2000000 by omega)).mono ?_; rintro e w' ⟨rfl, hR, hO⟩)
          rw [HW.out] at hR
          clear hlit
          go_roundg 5
          case measure => omega
          case rel => exact .inl ((.inr (.inl ⟨rfl, ⟨hR, HG.out.2.1.trans hO, HY.out⟩, by omega⟩)))
        · have HW : Hid ((RdS.to { r with begun := ((b + 1 : Nat) : Int) } (r.i + 0)).wantS 110 = { r with begun := ((b + 1 : Nat) : Int), i := r.i + 0, code := 2, bad := ((r.i + 0 : Nat) : Int) }) := by unfold Hid; rw [RdS.wantS_no (fun e => hp ((peekV_eq (RdS.to { r with begun := ((b + 1 : Nat) : Int) } (r.i + 0)) 110 (by omega)).1 e)), RdS.failS_yes (r := RdS.to { r with begun := ((b + 1 : Nat) : Int) } (r.i + 0)) HC.out]; rfl
          have HY := Lib.hid (HG.out.no (c := 110) (m := [117, 108, 108]) rfl hp)
          clear hp
          go_wp2_with (go_at_call 58; refine (want_any g (RdS.to { r with begun := ((b + 1 : Nat) : Int) } (r.i + 0)) 110 _ HG.out.1 hs (show r.i + 0 ≤ 2000000 by omega)).mono ?_; rintro e w' ⟨rfl, hR, hO⟩)
          rw [HW.out] at hR
          clear hlit
          go_roundg 5
          case measure => omega
          case rel => exact .inr ⟨1, rfl, by omega, ⟨r.i + 0, hR, HG.out.2.1.trans hO, HY.out, by omega⟩, by omega⟩
      · obtain ⟨c0, c1, c2, -⟩ := hgo.1.facts
        have hf := hgo.1.free
        simp only [RdS.to] at c0 c1 c2
        rw [HC.out] at c2
        have HG := Lib.hid hgo
        have hlit : (((⟨#[110, 117, 108, 108]⟩ : ByteArray)[1]'(by decide)).toNat : Int) = 117 := rfl
        clear hgo
        by_cases hp : pk r.s (r.i + 1) = 117
        · have HW : Hid ((RdS.to { r with begun := ((b + 1 : Nat) : Int) } (r.i + 1)).wantS 117 = RdS.to { r with begun := ((b + 1 : Nat) : Int) } (r.i + 2)) := by unfold Hid; rw [RdS.wantS_yes ((peekV_eq (RdS.to { r with begun := ((b + 1 : Nat) : Int) } (r.i + 1)) 117 (by omega)).2 hp)]; rfl
          have HY := Lib.hid (HG.out.yes (c := 117) (m := [108, 108]) rfl hp)
          clear hp
          go_wp2_with (go_at_call 58; refine (want_any g (RdS.to { r with begun := ((b + 1 : Nat) : Int) } (r.i + 1)) 117 _ HG.out.1 hs (show r.i + 1 ≤ 2000000 by omega)).mono ?_; rintro e w' ⟨rfl, hR, hO⟩)
          rw [HW.out] at hR
          clear hlit
          go_roundg 4
          case measure => omega
          case rel => exact .inl ((.inr (.inr (.inl ⟨rfl, ⟨hR, HG.out.2.1.trans hO, HY.out⟩, by omega⟩))))
        · have HW : Hid ((RdS.to { r with begun := ((b + 1 : Nat) : Int) } (r.i + 1)).wantS 117 = { r with begun := ((b + 1 : Nat) : Int), i := r.i + 1, code := 2, bad := ((r.i + 1 : Nat) : Int) }) := by unfold Hid; rw [RdS.wantS_no (fun e => hp ((peekV_eq (RdS.to { r with begun := ((b + 1 : Nat) : Int) } (r.i + 1)) 117 (by omega)).1 e)), RdS.failS_yes (r := RdS.to { r with begun := ((b + 1 : Nat) : Int) } (r.i + 1)) HC.out]; rfl
          have HY := Lib.hid (HG.out.no (c := 117) (m := [108, 108]) rfl hp)
          clear hp
          go_wp2_with (go_at_call 58; refine (want_any g (RdS.to { r with begun := ((b + 1 : Nat) : Int) } (r.i + 1)) 117 _ HG.out.1 hs (show r.i + 1 ≤ 2000000 by omega)).mono ?_; rintro e w' ⟨rfl, hR, hO⟩)
          rw [HW.out] at hR
          clear hlit
          go_roundg 4
          case measure => omega
          case rel => exact .inr ⟨2, rfl, by omega, ⟨r.i + 1, hR, HG.out.2.1.trans hO, HY.out, by omega⟩, by omega⟩
      · obtain ⟨c0, c1, c2, -⟩ := hgo.1.facts
        have hf := hgo.1.free
        simp only [RdS.to] at c0 c1 c2
        rw [HC.out] at c2
        have HG := Lib.hid hgo
        have hlit : (((⟨#[110, 117, 108, 108]⟩ : ByteArray)[2]'(by decide)).toNat : Int) = 108 := rfl
        clear hgo
        by_cases hp : pk r.s (r.i + 2) = 108
        · have HW : Hid ((RdS.to { r with begun := ((b + 1 : Nat) : Int) } (r.i + 2)).wantS 108 = RdS.to { r with begun := ((b + 1 : Nat) : Int) } (r.i + 3)) := by unfold Hid; rw [RdS.wantS_yes ((peekV_eq (RdS.to { r with begun := ((b + 1 : Nat) : Int) } (r.i + 2)) 108 (by omega)).2 hp)]; rfl
          have HY := Lib.hid (HG.out.yes (c := 108) (m := [108]) rfl hp)
          clear hp
          go_wp2_with (go_at_call 58; refine (want_any g (RdS.to { r with begun := ((b + 1 : Nat) : Int) } (r.i + 2)) 108 _ HG.out.1 hs (show r.i + 2 ≤ 2000000 by omega)).mono ?_; rintro e w' ⟨rfl, hR, hO⟩)
          rw [HW.out] at hR
          clear hlit
          go_roundg 3
          case measure => omega
          case rel => exact .inl ((.inr (.inr (.inr (.inl ⟨rfl, ⟨hR, HG.out.2.1.trans hO, HY.out⟩, by omega⟩)))))
        · have HW : Hid ((RdS.to { r with begun := ((b + 1 : Nat) : Int) } (r.i + 2)).wantS 108 = { r with begun := ((b + 1 : Nat) : Int), i := r.i + 2, code := 2, bad := ((r.i + 2 : Nat) : Int) }) := by unfold Hid; rw [RdS.wantS_no (fun e => hp ((peekV_eq (RdS.to { r with begun := ((b + 1 : Nat) : Int) } (r.i + 2)) 108 (by omega)).1 e)), RdS.failS_yes (r := RdS.to { r with begun := ((b + 1 : Nat) : Int) } (r.i + 2)) HC.out]; rfl
          have HY := Lib.hid (HG.out.no (c := 108) (m := [108]) rfl hp)
          clear hp
          go_wp2_with (go_at_call 58; refine (want_any g (RdS.to { r with begun := ((b + 1 : Nat) : Int) } (r.i + 2)) 108 _ HG.out.1 hs (show r.i + 2 ≤ 2000000 by omega)).mono ?_; rintro e w' ⟨rfl, hR, hO⟩)
          rw [HW.out] at hR
          clear hlit
          go_roundg 3
          case measure => omega
          case rel => exact .inr ⟨3, rfl, by omega, ⟨r.i + 2, hR, HG.out.2.1.trans hO, HY.out, by omega⟩, by omega⟩
      · obtain ⟨c0, c1, c2, -⟩ := hgo.1.facts
        have hf := hgo.1.free
        simp only [RdS.to] at c0 c1 c2
        rw [HC.out] at c2
        have HG := Lib.hid hgo
        have hlit : (((⟨#[110, 117, 108, 108]⟩ : ByteArray)[3]'(by decide)).toNat : Int) = 108 := rfl
        clear hgo
        by_cases hp : pk r.s (r.i + 3) = 108
        · have HW : Hid ((RdS.to { r with begun := ((b + 1 : Nat) : Int) } (r.i + 3)).wantS 108 = RdS.to { r with begun := ((b + 1 : Nat) : Int) } (r.i + 4)) := by unfold Hid; rw [RdS.wantS_yes ((peekV_eq (RdS.to { r with begun := ((b + 1 : Nat) : Int) } (r.i + 3)) 108 (by omega)).2 hp)]; rfl
          have HY := Lib.hid (HG.out.yes (c := 108) (m := []) rfl hp)
          clear hp
          go_wp2_with (go_at_call 58; refine (want_any g (RdS.to { r with begun := ((b + 1 : Nat) : Int) } (r.i + 3)) 108 _ HG.out.1 hs (show r.i + 3 ≤ 2000000 by omega)).mono ?_; rintro e w' ⟨rfl, hR, hO⟩)
          rw [HW.out] at hR
          clear hlit
          go_roundg 2
          case measure => omega
          case rel => exact .inl ((.inr (.inr (.inr (.inr ( ⟨rfl, ⟨hR, HG.out.2.1.trans hO, HY.out⟩, by omega⟩))))))
        · have HW : Hid ((RdS.to { r with begun := ((b + 1 : Nat) : Int) } (r.i + 3)).wantS 108 = { r with begun := ((b + 1 : Nat) : Int), i := r.i + 3, code := 2, bad := ((r.i + 3 : Nat) : Int) }) := by unfold Hid; rw [RdS.wantS_no (fun e => hp ((peekV_eq (RdS.to { r with begun := ((b + 1 : Nat) : Int) } (r.i + 3)) 108 (by omega)).1 e)), RdS.failS_yes (r := RdS.to { r with begun := ((b + 1 : Nat) : Int) } (r.i + 3)) HC.out]; rfl
          have HY := Lib.hid (HG.out.no (c := 108) (m := []) rfl hp)
          clear hp
          go_wp2_with (go_at_call 58; refine (want_any g (RdS.to { r with begun := ((b + 1 : Nat) : Int) } (r.i + 3)) 108 _ HG.out.1 hs (show r.i + 3 ≤ 2000000 by omega)).mono ?_; rintro e w' ⟨rfl, hR, hO⟩)
          rw [HW.out] at hR
          clear hlit
          go_roundg 2
          case measure => omega
          case rel => exact .inr ⟨4, rfl, by omega, ⟨r.i + 3, hR, HG.out.2.1.trans hO, HY.out, by omega⟩, by omega⟩
      · obtain ⟨c0, c1, c2, -⟩ := hgo.1.facts
        simp only [RdS.to] at c0 c1 c2
        rw [HC.out] at c2
        have HY : Hid (valB r.s V r.i b L = .ok ⟨r.i + 4, b + 1, L ++ [⟨1, ⟨#[]⟩, [], []⟩]⟩) := by
          have := hgo.2.2
          simp only [] at this
          unfold Hid; rw [HX.out, ← this]; rfl
        have HS1 := Lib.hid (HST.out.step hgo.1 rfl hgo.2.1)
        have HG := Lib.hid hgo
        clear hgo
        go_wp2_with (go_at_call 59; refine (put_any g (RdS.to { r with begun := ((b + 1 : Nat) : Int) } (r.i + 4)) ns ⟨1, ⟨#[]⟩, [], []⟩ (.slice none 0 0) (.slice none 0 0) _ HS1.out (leaf_rows _ rfl rfl _) (leaf_lv HS1.out.lv) hlen).mono ?_; rintro e w' hP; have hPP := hP; obtain ⟨v1, rfl, -, -, -⟩ := hPP)
        go_ret
        exact got_leaf HY.out HG.out.2.1 rfl HL.out hP
    · obtain ⟨j, hR, hO, hx, hj⟩ := hbad
      obtain ⟨c0, c1, c2, -⟩ := hR.facts
      simp only [] at c0 c1 c2
      have HY : Hid (valB r.s V r.i b L = .error (2, j)) := by
        simp only [] at hx
        unfold Hid; rw [HX.out, hx]; rfl
      have HS1 := Lib.hid (HST.out.step hR rfl hO)
      have HO := Lib.hid hO
      clear hR hx hO
      go_wp2_with (go_at_call 59; refine (put_any g { r with begun := ((b + 1 : Nat) : Int), i := j, code := 2, bad := (j : Int) } ns ⟨1, ⟨#[]⟩, [], []⟩ (.slice none 0 0) (.slice none 0 0) _ HS1.out (leaf_rows _ rfl rfl _) (leaf_lv HS1.out.lv) hlen).mono ?_; rintro e w' hP; have hPP := hP; obtain ⟨v1, rfl, -, -, -⟩ := hPP)
      all_goals
        go_ret
        exact got_leaf_err (r1 := { r with begun := ((b + 1 : Nat) : Int), i := j, code := 2, bad := (j : Int) }) HY.out HO.out rfl rfl rfl rfl hj hP
set_option maxHeartbeats 2000000 in
theorem value_true (g : Nat) (r : RdS) (ns : List Nd) (L : List JN) (b : Nat) (w : World) (V : Option ValF) (hst : SpecSt w g r ns) (hL : Reps ns L) (hs : r.s.size ≤ 1000000) (_hi : r.i ≤ r.s.size) (hc : r.code = 0) (hb : r.begun = (b : Int)) (hb2 : b < 200) (hlb : L.length ≤ b) (hn : pk r.s r.i = 116) :
    Calls Tryd.prog 28 #[.pointer (some ⟨g, 0, none⟩)] w (IsGot g r ns (valB r.s V r.i b L) w) := by
  have HX : Hid (valB r.s V r.i b L = (wordR r.s [116, 114, 117, 101] r.i).bind fun j => .ok ⟨j, b + 1, L ++ [⟨2, ⟨#[]⟩, [], []⟩]⟩) := by
    unfold Hid valB
    simp only []
    rw [if_neg (by rw [hn]; decide), if_neg (by omega), if_pos (by rw [hn]; decide), hn]
    rfl
  have hlt : r.i < r.s.size := pk_lt (by omega)
  have hp : peekV r = 116 := by rw [peekV_in hlt]; exact hn
  obtain ⟨c0, c1, c2, -, -, c5, -⟩ := hst.rd.facts
  have hf := hst.rd.free
  rw [hb] at c5
  have hbn : ((b : Int) == 200) = false := beq_no (by omega)
  have hlen : ns.length ≤ 1000 := by rw [hL.length]; omega
  have HST := Lib.hid hst
  have HC := Lib.hid hc
  have HB := Lib.hid hb
  have HL := Lib.hid hL
  clear hn hst hc hb hL
  go_enter Tryd.func28, Tryd.ntmps28
  go_wp2_with (go_at_call 56; refine (peek_any g r _ HST.out.rd hs).mono ?_; rintro e w' ⟨rfl, m, rfl⟩)
  go_loopg [7] 7 (fun gk sk wr => ((sk = .int .i64 0 ∧ WordGo g { r with begun := ((b + 1 : Nat) : Int) } w [116, 114, 117, 101] 0 wr ∧ 5 < gk) ∨ (sk = .int .i64 1 ∧ WordGo g { r with begun := ((b + 1 : Nat) : Int) } w [116, 114, 117, 101] 1 wr ∧ 4 < gk) ∨ (sk = .int .i64 2 ∧ WordGo g { r with begun := ((b + 1 : Nat) : Int) } w [116, 114, 117, 101] 2 wr ∧ 3 < gk) ∨ (sk = .int .i64 3 ∧ WordGo g { r with begun := ((b + 1 : Nat) : Int) } w [116, 114, 117, 101] 3 wr ∧ 2 < gk) ∨ (sk = .int .i64 4 ∧ WordGo g { r with begun := ((b + 1 : Nat) : Int) } w [116, 114, 117, 101] 4 wr ∧ 1 < gk)) ∨ (∃ k : Nat, sk = .int .i64 k ∧ k ≤ 4 ∧ WordBad g { r with begun := ((b + 1 : Nat) : Int) } w [116, 114, 117, 101] wr ∧ 0 < gk))
  case atStart => exact .inl (.inl ⟨rfl, ⟨Blk.set (HST.out.rd.drewN _) 5 _, ((Only.refl g w).drewN _).set 5 _, rfl⟩, by omega⟩)
  case round =>
    clear c0 c1 c2 c5 hf hp hbn
    rcases hrel with hrel | ⟨k, rfl, hk, hbad, hgk⟩
    · rcases hrel with ⟨rfl, hgo, hgk⟩ | ⟨rfl, hgo, hgk⟩ | ⟨rfl, hgo, hgk⟩ | ⟨rfl, hgo, hgk⟩ | ⟨rfl, hgo, hgk⟩
      · obtain ⟨c0, c1, c2, -⟩ := hgo.1.facts
        have hf := hgo.1.free
        simp only [RdS.to] at c0 c1 c2
        rw [HC.out] at c2
        have HG := Lib.hid hgo
        have hlit : (((⟨#[116, 114, 117, 101]⟩ : ByteArray)[0]'(by decide)).toNat : Int) = 116 := rfl
        clear hgo
        by_cases hp : pk r.s (r.i + 0) = 116
        · have HW : Hid ((RdS.to { r with begun := ((b + 1 : Nat) : Int) } (r.i + 0)).wantS 116 = RdS.to { r with begun := ((b + 1 : Nat) : Int) } (r.i + 1)) := by unfold Hid; rw [RdS.wantS_yes ((peekV_eq (RdS.to { r with begun := ((b + 1 : Nat) : Int) } (r.i + 0)) 116 (by omega)).2 hp)]; rfl
          have HY := Lib.hid (HG.out.yes (c := 116) (m := [114, 117, 101]) rfl hp)
          clear hp
          go_wp2_with (go_at_call 58; refine (want_any g (RdS.to { r with begun := ((b + 1 : Nat) : Int) } (r.i + 0)) 116 _ HG.out.1 hs (show r.i + 0 ≤ 2000000 by omega)).mono ?_; rintro e w' ⟨rfl, hR, hO⟩)
          rw [HW.out] at hR
          clear hlit
          go_roundg 5
          case measure => omega
          case rel => exact .inl ((.inr (.inl ⟨rfl, ⟨hR, HG.out.2.1.trans hO, HY.out⟩, by omega⟩)))
        · have HW : Hid ((RdS.to { r with begun := ((b + 1 : Nat) : Int) } (r.i + 0)).wantS 116 = { r with begun := ((b + 1 : Nat) : Int), i := r.i + 0, code := 2, bad := ((r.i + 0 : Nat) : Int) }) := by unfold Hid; rw [RdS.wantS_no (fun e => hp ((peekV_eq (RdS.to { r with begun := ((b + 1 : Nat) : Int) } (r.i + 0)) 116 (by omega)).1 e)), RdS.failS_yes (r := RdS.to { r with begun := ((b + 1 : Nat) : Int) } (r.i + 0)) HC.out]; rfl
          have HY := Lib.hid (HG.out.no (c := 116) (m := [114, 117, 101]) rfl hp)
          clear hp
          go_wp2_with (go_at_call 58; refine (want_any g (RdS.to { r with begun := ((b + 1 : Nat) : Int) } (r.i + 0)) 116 _ HG.out.1 hs (show r.i + 0 ≤ 2000000 by omega)).mono ?_; rintro e w' ⟨rfl, hR, hO⟩)
          rw [HW.out] at hR
          clear hlit
          go_roundg 5
          case measure => omega
          case rel => exact .inr ⟨1, rfl, by omega, ⟨r.i + 0, hR, HG.out.2.1.trans hO, HY.out, by omega⟩, by omega⟩
      · obtain ⟨c0, c1, c2, -⟩ := hgo.1.facts
        have hf := hgo.1.free
        simp only [RdS.to] at c0 c1 c2
        rw [HC.out] at c2
        have HG := Lib.hid hgo
        have hlit : (((⟨#[116, 114, 117, 101]⟩ : ByteArray)[1]'(by decide)).toNat : Int) = 114 := rfl
        clear hgo
        by_cases hp : pk r.s (r.i + 1) = 114
        · have HW : Hid ((RdS.to { r with begun := ((b + 1 : Nat) : Int) } (r.i + 1)).wantS 114 = RdS.to { r with begun := ((b + 1 : Nat) : Int) } (r.i + 2)) := by unfold Hid; rw [RdS.wantS_yes ((peekV_eq (RdS.to { r with begun := ((b + 1 : Nat) : Int) } (r.i + 1)) 114 (by omega)).2 hp)]; rfl
          have HY := Lib.hid (HG.out.yes (c := 114) (m := [117, 101]) rfl hp)
          clear hp
          go_wp2_with (go_at_call 58; refine (want_any g (RdS.to { r with begun := ((b + 1 : Nat) : Int) } (r.i + 1)) 114 _ HG.out.1 hs (show r.i + 1 ≤ 2000000 by omega)).mono ?_; rintro e w' ⟨rfl, hR, hO⟩)
          rw [HW.out] at hR
          clear hlit
          go_roundg 4
          case measure => omega
          case rel => exact .inl ((.inr (.inr (.inl ⟨rfl, ⟨hR, HG.out.2.1.trans hO, HY.out⟩, by omega⟩))))
        · have HW : Hid ((RdS.to { r with begun := ((b + 1 : Nat) : Int) } (r.i + 1)).wantS 114 = { r with begun := ((b + 1 : Nat) : Int), i := r.i + 1, code := 2, bad := ((r.i + 1 : Nat) : Int) }) := by unfold Hid; rw [RdS.wantS_no (fun e => hp ((peekV_eq (RdS.to { r with begun := ((b + 1 : Nat) : Int) } (r.i + 1)) 114 (by omega)).1 e)), RdS.failS_yes (r := RdS.to { r with begun := ((b + 1 : Nat) : Int) } (r.i + 1)) HC.out]; rfl
          have HY := Lib.hid (HG.out.no (c := 114) (m := [117, 101]) rfl hp)
          clear hp
          go_wp2_with (go_at_call 58; refine (want_any g (RdS.to { r with begun := ((b + 1 : Nat) : Int) } (r.i + 1)) 114 _ HG.out.1 hs (show r.i + 1 ≤ 2000000 by omega)).mono ?_; rintro e w' ⟨rfl, hR, hO⟩)
          rw [HW.out] at hR
          clear hlit
          go_roundg 4
          case measure => omega
          case rel => exact .inr ⟨2, rfl, by omega, ⟨r.i + 1, hR, HG.out.2.1.trans hO, HY.out, by omega⟩, by omega⟩
      · obtain ⟨c0, c1, c2, -⟩ := hgo.1.facts
        have hf := hgo.1.free
        simp only [RdS.to] at c0 c1 c2
        rw [HC.out] at c2
        have HG := Lib.hid hgo
        have hlit : (((⟨#[116, 114, 117, 101]⟩ : ByteArray)[2]'(by decide)).toNat : Int) = 117 := rfl
        clear hgo
        by_cases hp : pk r.s (r.i + 2) = 117
        · have HW : Hid ((RdS.to { r with begun := ((b + 1 : Nat) : Int) } (r.i + 2)).wantS 117 = RdS.to { r with begun := ((b + 1 : Nat) : Int) } (r.i + 3)) := by unfold Hid; rw [RdS.wantS_yes ((peekV_eq (RdS.to { r with begun := ((b + 1 : Nat) : Int) } (r.i + 2)) 117 (by omega)).2 hp)]; rfl
          have HY := Lib.hid (HG.out.yes (c := 117) (m := [101]) rfl hp)
          clear hp
          go_wp2_with (go_at_call 58; refine (want_any g (RdS.to { r with begun := ((b + 1 : Nat) : Int) } (r.i + 2)) 117 _ HG.out.1 hs (show r.i + 2 ≤ 2000000 by omega)).mono ?_; rintro e w' ⟨rfl, hR, hO⟩)
          rw [HW.out] at hR
          clear hlit
          go_roundg 3
          case measure => omega
          case rel => exact .inl ((.inr (.inr (.inr (.inl ⟨rfl, ⟨hR, HG.out.2.1.trans hO, HY.out⟩, by omega⟩)))))
        · have HW : Hid ((RdS.to { r with begun := ((b + 1 : Nat) : Int) } (r.i + 2)).wantS 117 = { r with begun := ((b + 1 : Nat) : Int), i := r.i + 2, code := 2, bad := ((r.i + 2 : Nat) : Int) }) := by unfold Hid; rw [RdS.wantS_no (fun e => hp ((peekV_eq (RdS.to { r with begun := ((b + 1 : Nat) : Int) } (r.i + 2)) 117 (by omega)).1 e)), RdS.failS_yes (r := RdS.to { r with begun := ((b + 1 : Nat) : Int) } (r.i + 2)) HC.out]; rfl
          have HY := Lib.hid (HG.out.no (c := 117) (m := [101]) rfl hp)
          clear hp
          go_wp2_with (go_at_call 58; refine (want_any g (RdS.to { r with begun := ((b + 1 : Nat) : Int) } (r.i + 2)) 117 _ HG.out.1 hs (show r.i + 2 ≤ 2000000 by omega)).mono ?_; rintro e w' ⟨rfl, hR, hO⟩)
          rw [HW.out] at hR
          clear hlit
          go_roundg 3
          case measure => omega
          case rel => exact .inr ⟨3, rfl, by omega, ⟨r.i + 2, hR, HG.out.2.1.trans hO, HY.out, by omega⟩, by omega⟩
      · obtain ⟨c0, c1, c2, -⟩ := hgo.1.facts
        have hf := hgo.1.free
        simp only [RdS.to] at c0 c1 c2
        rw [HC.out] at c2
        have HG := Lib.hid hgo
        have hlit : (((⟨#[116, 114, 117, 101]⟩ : ByteArray)[3]'(by decide)).toNat : Int) = 101 := rfl
        clear hgo
        by_cases hp : pk r.s (r.i + 3) = 101
        · have HW : Hid ((RdS.to { r with begun := ((b + 1 : Nat) : Int) } (r.i + 3)).wantS 101 = RdS.to { r with begun := ((b + 1 : Nat) : Int) } (r.i + 4)) := by unfold Hid; rw [RdS.wantS_yes ((peekV_eq (RdS.to { r with begun := ((b + 1 : Nat) : Int) } (r.i + 3)) 101 (by omega)).2 hp)]; rfl
          have HY := Lib.hid (HG.out.yes (c := 101) (m := []) rfl hp)
          clear hp
          go_wp2_with (go_at_call 58; refine (want_any g (RdS.to { r with begun := ((b + 1 : Nat) : Int) } (r.i + 3)) 101 _ HG.out.1 hs (show r.i + 3 ≤ 2000000 by omega)).mono ?_; rintro e w' ⟨rfl, hR, hO⟩)
          rw [HW.out] at hR
          clear hlit
          go_roundg 2
          case measure => omega
          case rel => exact .inl ((.inr (.inr (.inr (.inr ( ⟨rfl, ⟨hR, HG.out.2.1.trans hO, HY.out⟩, by omega⟩))))))
        · have HW : Hid ((RdS.to { r with begun := ((b + 1 : Nat) : Int) } (r.i + 3)).wantS 101 = { r with begun := ((b + 1 : Nat) : Int), i := r.i + 3, code := 2, bad := ((r.i + 3 : Nat) : Int) }) := by unfold Hid; rw [RdS.wantS_no (fun e => hp ((peekV_eq (RdS.to { r with begun := ((b + 1 : Nat) : Int) } (r.i + 3)) 101 (by omega)).1 e)), RdS.failS_yes (r := RdS.to { r with begun := ((b + 1 : Nat) : Int) } (r.i + 3)) HC.out]; rfl
          have HY := Lib.hid (HG.out.no (c := 101) (m := []) rfl hp)
          clear hp
          go_wp2_with (go_at_call 58; refine (want_any g (RdS.to { r with begun := ((b + 1 : Nat) : Int) } (r.i + 3)) 101 _ HG.out.1 hs (show r.i + 3 ≤ 2000000 by omega)).mono ?_; rintro e w' ⟨rfl, hR, hO⟩)
          rw [HW.out] at hR
          clear hlit
          go_roundg 2
          case measure => omega
          case rel => exact .inr ⟨4, rfl, by omega, ⟨r.i + 3, hR, HG.out.2.1.trans hO, HY.out, by omega⟩, by omega⟩
      · obtain ⟨c0, c1, c2, -⟩ := hgo.1.facts
        simp only [RdS.to] at c0 c1 c2
        rw [HC.out] at c2
        have HY : Hid (valB r.s V r.i b L = .ok ⟨r.i + 4, b + 1, L ++ [⟨2, ⟨#[]⟩, [], []⟩]⟩) := by
          have := hgo.2.2
          simp only [] at this
          unfold Hid; rw [HX.out, ← this]; rfl
        have HS1 := Lib.hid (HST.out.step hgo.1 rfl hgo.2.1)
        have HG := Lib.hid hgo
        clear hgo
        go_wp2_with (go_at_call 59; refine (put_any g (RdS.to { r with begun := ((b + 1 : Nat) : Int) } (r.i + 4)) ns ⟨2, ⟨#[]⟩, [], []⟩ (.slice none 0 0) (.slice none 0 0) _ HS1.out (leaf_rows _ rfl rfl _) (leaf_lv HS1.out.lv) hlen).mono ?_; rintro e w' hP; have hPP := hP; obtain ⟨v1, rfl, -, -, -⟩ := hPP)
        go_ret
        exact got_leaf HY.out HG.out.2.1 rfl HL.out hP
    · obtain ⟨j, hR, hO, hx, hj⟩ := hbad
      obtain ⟨c0, c1, c2, -⟩ := hR.facts
      simp only [] at c0 c1 c2
      have HY : Hid (valB r.s V r.i b L = .error (2, j)) := by
        simp only [] at hx
        unfold Hid; rw [HX.out, hx]; rfl
      have HS1 := Lib.hid (HST.out.step hR rfl hO)
      have HO := Lib.hid hO
      clear hR hx hO
      go_wp2_with (go_at_call 59; refine (put_any g { r with begun := ((b + 1 : Nat) : Int), i := j, code := 2, bad := (j : Int) } ns ⟨2, ⟨#[]⟩, [], []⟩ (.slice none 0 0) (.slice none 0 0) _ HS1.out (leaf_rows _ rfl rfl _) (leaf_lv HS1.out.lv) hlen).mono ?_; rintro e w' hP; have hPP := hP; obtain ⟨v1, rfl, -, -, -⟩ := hPP)
      all_goals
        go_ret
        exact got_leaf_err (r1 := { r with begun := ((b + 1 : Nat) : Int), i := j, code := 2, bad := (j : Int) }) HY.out HO.out rfl rfl rfl rfl hj hP
set_option maxHeartbeats 2000000 in
theorem value_false (g : Nat) (r : RdS) (ns : List Nd) (L : List JN) (b : Nat) (w : World) (V : Option ValF) (hst : SpecSt w g r ns) (hL : Reps ns L) (hs : r.s.size ≤ 1000000) (_hi : r.i ≤ r.s.size) (hc : r.code = 0) (hb : r.begun = (b : Int)) (hb2 : b < 200) (hlb : L.length ≤ b) (hn : pk r.s r.i = 102) :
    Calls Tryd.prog 28 #[.pointer (some ⟨g, 0, none⟩)] w (IsGot g r ns (valB r.s V r.i b L) w) := by
  have HX : Hid (valB r.s V r.i b L = (wordR r.s [102, 97, 108, 115, 101] r.i).bind fun j => .ok ⟨j, b + 1, L ++ [⟨3, ⟨#[]⟩, [], []⟩]⟩) := by
    unfold Hid valB
    simp only []
    rw [if_neg (by rw [hn]; decide), if_neg (by omega), if_pos (by rw [hn]; decide), hn]
    rfl
  have hlt : r.i < r.s.size := pk_lt (by omega)
  have hp : peekV r = 102 := by rw [peekV_in hlt]; exact hn
  obtain ⟨c0, c1, c2, -, -, c5, -⟩ := hst.rd.facts
  have hf := hst.rd.free
  rw [hb] at c5
  have hbn : ((b : Int) == 200) = false := beq_no (by omega)
  have hlen : ns.length ≤ 1000 := by rw [hL.length]; omega
  have HST := Lib.hid hst
  have HC := Lib.hid hc
  have HB := Lib.hid hb
  have HL := Lib.hid hL
  clear hn hst hc hb hL
  go_enter Tryd.func28, Tryd.ntmps28
  go_wp2_with (go_at_call 56; refine (peek_any g r _ HST.out.rd hs).mono ?_; rintro e w' ⟨rfl, m, rfl⟩)
  go_loopg [7] 8 (fun gk sk wr => ((sk = .int .i64 0 ∧ WordGo g { r with begun := ((b + 1 : Nat) : Int) } w [102, 97, 108, 115, 101] 0 wr ∧ 6 < gk) ∨ (sk = .int .i64 1 ∧ WordGo g { r with begun := ((b + 1 : Nat) : Int) } w [102, 97, 108, 115, 101] 1 wr ∧ 5 < gk) ∨ (sk = .int .i64 2 ∧ WordGo g { r with begun := ((b + 1 : Nat) : Int) } w [102, 97, 108, 115, 101] 2 wr ∧ 4 < gk) ∨ (sk = .int .i64 3 ∧ WordGo g { r with begun := ((b + 1 : Nat) : Int) } w [102, 97, 108, 115, 101] 3 wr ∧ 3 < gk) ∨ (sk = .int .i64 4 ∧ WordGo g { r with begun := ((b + 1 : Nat) : Int) } w [102, 97, 108, 115, 101] 4 wr ∧ 2 < gk) ∨ (sk = .int .i64 5 ∧ WordGo g { r with begun := ((b + 1 : Nat) : Int) } w [102, 97, 108, 115, 101] 5 wr ∧ 1 < gk)) ∨ (∃ k : Nat, sk = .int .i64 k ∧ k ≤ 5 ∧ WordBad g { r with begun := ((b + 1 : Nat) : Int) } w [102, 97, 108, 115, 101] wr ∧ 0 < gk))
  case atStart => exact .inl (.inl ⟨rfl, ⟨Blk.set (HST.out.rd.drewN _) 5 _, ((Only.refl g w).drewN _).set 5 _, rfl⟩, by omega⟩)
  case round =>
    clear c0 c1 c2 c5 hf hp hbn
    rcases hrel with hrel | ⟨k, rfl, hk, hbad, hgk⟩
    · rcases hrel with ⟨rfl, hgo, hgk⟩ | ⟨rfl, hgo, hgk⟩ | ⟨rfl, hgo, hgk⟩ | ⟨rfl, hgo, hgk⟩ | ⟨rfl, hgo, hgk⟩ | ⟨rfl, hgo, hgk⟩
      · obtain ⟨c0, c1, c2, -⟩ := hgo.1.facts
        have hf := hgo.1.free
        simp only [RdS.to] at c0 c1 c2
        rw [HC.out] at c2
        have HG := Lib.hid hgo
        have hlit : (((⟨#[102, 97, 108, 115, 101]⟩ : ByteArray)[0]'(by decide)).toNat : Int) = 102 := rfl
        clear hgo
        by_cases hp : pk r.s (r.i + 0) = 102
        · have HW : Hid ((RdS.to { r with begun := ((b + 1 : Nat) : Int) } (r.i + 0)).wantS 102 = RdS.to { r with begun := ((b + 1 : Nat) : Int) } (r.i + 1)) := by unfold Hid; rw [RdS.wantS_yes ((peekV_eq (RdS.to { r with begun := ((b + 1 : Nat) : Int) } (r.i + 0)) 102 (by omega)).2 hp)]; rfl
          have HY := Lib.hid (HG.out.yes (c := 102) (m := [97, 108, 115, 101]) rfl hp)
          clear hp
          go_wp2_with (go_at_call 58; refine (want_any g (RdS.to { r with begun := ((b + 1 : Nat) : Int) } (r.i + 0)) 102 _ HG.out.1 hs (show r.i + 0 ≤ 2000000 by omega)).mono ?_; rintro e w' ⟨rfl, hR, hO⟩)
          rw [HW.out] at hR
          clear hlit
          go_roundg 6
          case measure => omega
          case rel => exact .inl ((.inr (.inl ⟨rfl, ⟨hR, HG.out.2.1.trans hO, HY.out⟩, by omega⟩)))
        · have HW : Hid ((RdS.to { r with begun := ((b + 1 : Nat) : Int) } (r.i + 0)).wantS 102 = { r with begun := ((b + 1 : Nat) : Int), i := r.i + 0, code := 2, bad := ((r.i + 0 : Nat) : Int) }) := by unfold Hid; rw [RdS.wantS_no (fun e => hp ((peekV_eq (RdS.to { r with begun := ((b + 1 : Nat) : Int) } (r.i + 0)) 102 (by omega)).1 e)), RdS.failS_yes (r := RdS.to { r with begun := ((b + 1 : Nat) : Int) } (r.i + 0)) HC.out]; rfl
          have HY := Lib.hid (HG.out.no (c := 102) (m := [97, 108, 115, 101]) rfl hp)
          clear hp
          go_wp2_with (go_at_call 58; refine (want_any g (RdS.to { r with begun := ((b + 1 : Nat) : Int) } (r.i + 0)) 102 _ HG.out.1 hs (show r.i + 0 ≤ 2000000 by omega)).mono ?_; rintro e w' ⟨rfl, hR, hO⟩)
          rw [HW.out] at hR
          clear hlit
          go_roundg 6
          case measure => omega
          case rel => exact .inr ⟨1, rfl, by omega, ⟨r.i + 0, hR, HG.out.2.1.trans hO, HY.out, by omega⟩, by omega⟩
      · obtain ⟨c0, c1, c2, -⟩ := hgo.1.facts
        have hf := hgo.1.free
        simp only [RdS.to] at c0 c1 c2
        rw [HC.out] at c2
        have HG := Lib.hid hgo
        have hlit : (((⟨#[102, 97, 108, 115, 101]⟩ : ByteArray)[1]'(by decide)).toNat : Int) = 97 := rfl
        clear hgo
        by_cases hp : pk r.s (r.i + 1) = 97
        · have HW : Hid ((RdS.to { r with begun := ((b + 1 : Nat) : Int) } (r.i + 1)).wantS 97 = RdS.to { r with begun := ((b + 1 : Nat) : Int) } (r.i + 2)) := by unfold Hid; rw [RdS.wantS_yes ((peekV_eq (RdS.to { r with begun := ((b + 1 : Nat) : Int) } (r.i + 1)) 97 (by omega)).2 hp)]; rfl
          have HY := Lib.hid (HG.out.yes (c := 97) (m := [108, 115, 101]) rfl hp)
          clear hp
          go_wp2_with (go_at_call 58; refine (want_any g (RdS.to { r with begun := ((b + 1 : Nat) : Int) } (r.i + 1)) 97 _ HG.out.1 hs (show r.i + 1 ≤ 2000000 by omega)).mono ?_; rintro e w' ⟨rfl, hR, hO⟩)
          rw [HW.out] at hR
          clear hlit
          go_roundg 5
          case measure => omega
          case rel => exact .inl ((.inr (.inr (.inl ⟨rfl, ⟨hR, HG.out.2.1.trans hO, HY.out⟩, by omega⟩))))
        · have HW : Hid ((RdS.to { r with begun := ((b + 1 : Nat) : Int) } (r.i + 1)).wantS 97 = { r with begun := ((b + 1 : Nat) : Int), i := r.i + 1, code := 2, bad := ((r.i + 1 : Nat) : Int) }) := by unfold Hid; rw [RdS.wantS_no (fun e => hp ((peekV_eq (RdS.to { r with begun := ((b + 1 : Nat) : Int) } (r.i + 1)) 97 (by omega)).1 e)), RdS.failS_yes (r := RdS.to { r with begun := ((b + 1 : Nat) : Int) } (r.i + 1)) HC.out]; rfl
          have HY := Lib.hid (HG.out.no (c := 97) (m := [108, 115, 101]) rfl hp)
          clear hp
          go_wp2_with (go_at_call 58; refine (want_any g (RdS.to { r with begun := ((b + 1 : Nat) : Int) } (r.i + 1)) 97 _ HG.out.1 hs (show r.i + 1 ≤ 2000000 by omega)).mono ?_; rintro e w' ⟨rfl, hR, hO⟩)
          rw [HW.out] at hR
          clear hlit
          go_roundg 5
          case measure => omega
          case rel => exact .inr ⟨2, rfl, by omega, ⟨r.i + 1, hR, HG.out.2.1.trans hO, HY.out, by omega⟩, by omega⟩
      · obtain ⟨c0, c1, c2, -⟩ := hgo.1.facts
        have hf := hgo.1.free
        simp only [RdS.to] at c0 c1 c2
        rw [HC.out] at c2
        have HG := Lib.hid hgo
        have hlit : (((⟨#[102, 97, 108, 115, 101]⟩ : ByteArray)[2]'(by decide)).toNat : Int) = 108 := rfl
        clear hgo
        by_cases hp : pk r.s (r.i + 2) = 108
        · have HW : Hid ((RdS.to { r with begun := ((b + 1 : Nat) : Int) } (r.i + 2)).wantS 108 = RdS.to { r with begun := ((b + 1 : Nat) : Int) } (r.i + 3)) := by unfold Hid; rw [RdS.wantS_yes ((peekV_eq (RdS.to { r with begun := ((b + 1 : Nat) : Int) } (r.i + 2)) 108 (by omega)).2 hp)]; rfl
          have HY := Lib.hid (HG.out.yes (c := 108) (m := [115, 101]) rfl hp)
          clear hp
          go_wp2_with (go_at_call 58; refine (want_any g (RdS.to { r with begun := ((b + 1 : Nat) : Int) } (r.i + 2)) 108 _ HG.out.1 hs (show r.i + 2 ≤ 2000000 by omega)).mono ?_; rintro e w' ⟨rfl, hR, hO⟩)
          rw [HW.out] at hR
          clear hlit
          go_roundg 4
          case measure => omega
          case rel => exact .inl ((.inr (.inr (.inr (.inl ⟨rfl, ⟨hR, HG.out.2.1.trans hO, HY.out⟩, by omega⟩)))))
        · have HW : Hid ((RdS.to { r with begun := ((b + 1 : Nat) : Int) } (r.i + 2)).wantS 108 = { r with begun := ((b + 1 : Nat) : Int), i := r.i + 2, code := 2, bad := ((r.i + 2 : Nat) : Int) }) := by unfold Hid; rw [RdS.wantS_no (fun e => hp ((peekV_eq (RdS.to { r with begun := ((b + 1 : Nat) : Int) } (r.i + 2)) 108 (by omega)).1 e)), RdS.failS_yes (r := RdS.to { r with begun := ((b + 1 : Nat) : Int) } (r.i + 2)) HC.out]; rfl
          have HY := Lib.hid (HG.out.no (c := 108) (m := [115, 101]) rfl hp)
          clear hp
          go_wp2_with (go_at_call 58; refine (want_any g (RdS.to { r with begun := ((b + 1 : Nat) : Int) } (r.i + 2)) 108 _ HG.out.1 hs (show r.i + 2 ≤ 2000000 by omega)).mono ?_; rintro e w' ⟨rfl, hR, hO⟩)
          rw [HW.out] at hR
          clear hlit
          go_roundg 4
          case measure => omega
          case rel => exact .inr ⟨3, rfl, by omega, ⟨r.i + 2, hR, HG.out.2.1.trans hO, HY.out, by omega⟩, by omega⟩
      · obtain ⟨c0, c1, c2, -⟩ := hgo.1.facts
        have hf := hgo.1.free
        simp only [RdS.to] at c0 c1 c2
        rw [HC.out] at c2
        have HG := Lib.hid hgo
        have hlit : (((⟨#[102, 97, 108, 115, 101]⟩ : ByteArray)[3]'(by decide)).toNat : Int) = 115 := rfl
        clear hgo
        by_cases hp : pk r.s (r.i + 3) = 115
        · have HW : Hid ((RdS.to { r with begun := ((b + 1 : Nat) : Int) } (r.i + 3)).wantS 115 = RdS.to { r with begun := ((b + 1 : Nat) : Int) } (r.i + 4)) := by unfold Hid; rw [RdS.wantS_yes ((peekV_eq (RdS.to { r with begun := ((b + 1 : Nat) : Int) } (r.i + 3)) 115 (by omega)).2 hp)]; rfl
          have HY := Lib.hid (HG.out.yes (c := 115) (m := [101]) rfl hp)
          clear hp
          go_wp2_with (go_at_call 58; refine (want_any g (RdS.to { r with begun := ((b + 1 : Nat) : Int) } (r.i + 3)) 115 _ HG.out.1 hs (show r.i + 3 ≤ 2000000 by omega)).mono ?_; rintro e w' ⟨rfl, hR, hO⟩)
          rw [HW.out] at hR
          clear hlit
          go_roundg 3
          case measure => omega
          case rel => exact .inl ((.inr (.inr (.inr (.inr (.inl ⟨rfl, ⟨hR, HG.out.2.1.trans hO, HY.out⟩, by omega⟩))))))
        · have HW : Hid ((RdS.to { r with begun := ((b + 1 : Nat) : Int) } (r.i + 3)).wantS 115 = { r with begun := ((b + 1 : Nat) : Int), i := r.i + 3, code := 2, bad := ((r.i + 3 : Nat) : Int) }) := by unfold Hid; rw [RdS.wantS_no (fun e => hp ((peekV_eq (RdS.to { r with begun := ((b + 1 : Nat) : Int) } (r.i + 3)) 115 (by omega)).1 e)), RdS.failS_yes (r := RdS.to { r with begun := ((b + 1 : Nat) : Int) } (r.i + 3)) HC.out]; rfl
          have HY := Lib.hid (HG.out.no (c := 115) (m := [101]) rfl hp)
          clear hp
          go_wp2_with (go_at_call 58; refine (want_any g (RdS.to { r with begun := ((b + 1 : Nat) : Int) } (r.i + 3)) 115 _ HG.out.1 hs (show r.i + 3 ≤ 2000000 by omega)).mono ?_; rintro e w' ⟨rfl, hR, hO⟩)
          rw [HW.out] at hR
          clear hlit
          go_roundg 3
          case measure => omega
          case rel => exact .inr ⟨4, rfl, by omega, ⟨r.i + 3, hR, HG.out.2.1.trans hO, HY.out, by omega⟩, by omega⟩
      · obtain ⟨c0, c1, c2, -⟩ := hgo.1.facts
        have hf := hgo.1.free
        simp only [RdS.to] at c0 c1 c2
        rw [HC.out] at c2
        have HG := Lib.hid hgo
        have hlit : (((⟨#[102, 97, 108, 115, 101]⟩ : ByteArray)[4]'(by decide)).toNat : Int) = 101 := rfl
        clear hgo
        by_cases hp : pk r.s (r.i + 4) = 101
        · have HW : Hid ((RdS.to { r with begun := ((b + 1 : Nat) : Int) } (r.i + 4)).wantS 101 = RdS.to { r with begun := ((b + 1 : Nat) : Int) } (r.i + 5)) := by unfold Hid; rw [RdS.wantS_yes ((peekV_eq (RdS.to { r with begun := ((b + 1 : Nat) : Int) } (r.i + 4)) 101 (by omega)).2 hp)]; rfl
          have HY := Lib.hid (HG.out.yes (c := 101) (m := []) rfl hp)
          clear hp
          go_wp2_with (go_at_call 58; refine (want_any g (RdS.to { r with begun := ((b + 1 : Nat) : Int) } (r.i + 4)) 101 _ HG.out.1 hs (show r.i + 4 ≤ 2000000 by omega)).mono ?_; rintro e w' ⟨rfl, hR, hO⟩)
          rw [HW.out] at hR
          clear hlit
          go_roundg 2
          case measure => omega
          case rel => exact .inl ((.inr (.inr (.inr (.inr (.inr ( ⟨rfl, ⟨hR, HG.out.2.1.trans hO, HY.out⟩, by omega⟩)))))))
        · have HW : Hid ((RdS.to { r with begun := ((b + 1 : Nat) : Int) } (r.i + 4)).wantS 101 = { r with begun := ((b + 1 : Nat) : Int), i := r.i + 4, code := 2, bad := ((r.i + 4 : Nat) : Int) }) := by unfold Hid; rw [RdS.wantS_no (fun e => hp ((peekV_eq (RdS.to { r with begun := ((b + 1 : Nat) : Int) } (r.i + 4)) 101 (by omega)).1 e)), RdS.failS_yes (r := RdS.to { r with begun := ((b + 1 : Nat) : Int) } (r.i + 4)) HC.out]; rfl
          have HY := Lib.hid (HG.out.no (c := 101) (m := []) rfl hp)
          clear hp
          go_wp2_with (go_at_call 58; refine (want_any g (RdS.to { r with begun := ((b + 1 : Nat) : Int) } (r.i + 4)) 101 _ HG.out.1 hs (show r.i + 4 ≤ 2000000 by omega)).mono ?_; rintro e w' ⟨rfl, hR, hO⟩)
          rw [HW.out] at hR
          clear hlit
          go_roundg 2
          case measure => omega
          case rel => exact .inr ⟨5, rfl, by omega, ⟨r.i + 4, hR, HG.out.2.1.trans hO, HY.out, by omega⟩, by omega⟩
      · obtain ⟨c0, c1, c2, -⟩ := hgo.1.facts
        simp only [RdS.to] at c0 c1 c2
        rw [HC.out] at c2
        have HY : Hid (valB r.s V r.i b L = .ok ⟨r.i + 5, b + 1, L ++ [⟨3, ⟨#[]⟩, [], []⟩]⟩) := by
          have := hgo.2.2
          simp only [] at this
          unfold Hid; rw [HX.out, ← this]; rfl
        have HS1 := Lib.hid (HST.out.step hgo.1 rfl hgo.2.1)
        have HG := Lib.hid hgo
        clear hgo
        go_wp2_with (go_at_call 59; refine (put_any g (RdS.to { r with begun := ((b + 1 : Nat) : Int) } (r.i + 5)) ns ⟨3, ⟨#[]⟩, [], []⟩ (.slice none 0 0) (.slice none 0 0) _ HS1.out (leaf_rows _ rfl rfl _) (leaf_lv HS1.out.lv) hlen).mono ?_; rintro e w' hP; have hPP := hP; obtain ⟨v1, rfl, -, -, -⟩ := hPP)
        go_ret
        exact got_leaf HY.out HG.out.2.1 rfl HL.out hP
    · obtain ⟨j, hR, hO, hx, hj⟩ := hbad
      obtain ⟨c0, c1, c2, -⟩ := hR.facts
      simp only [] at c0 c1 c2
      have HY : Hid (valB r.s V r.i b L = .error (2, j)) := by
        simp only [] at hx
        unfold Hid; rw [HX.out, hx]; rfl
      have HS1 := Lib.hid (HST.out.step hR rfl hO)
      have HO := Lib.hid hO
      clear hR hx hO
      go_wp2_with (go_at_call 59; refine (put_any g { r with begun := ((b + 1 : Nat) : Int), i := j, code := 2, bad := (j : Int) } ns ⟨3, ⟨#[]⟩, [], []⟩ (.slice none 0 0) (.slice none 0 0) _ HS1.out (leaf_rows _ rfl rfl _) (leaf_lv HS1.out.lv) hlen).mono ?_; rintro e w' hP; have hPP := hP; obtain ⟨v1, rfl, -, -, -⟩ := hPP)
      all_goals
        go_ret
        exact got_leaf_err (r1 := { r with begun := ((b + 1 : Nat) : Int), i := j, code := 2, bad := (j : Int) }) HY.out HO.out rfl rfl rfl rfl hj hP
end Go.Proofs.YtlpgkpaogadolaaDoor
