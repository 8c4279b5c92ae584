/- The reference's JSON reader: the other values, walked. -/
import Derived.Test.YtlpgkpaogadolaaDoorJsonSpecH
import Derived.StillTailTactics
namespace Go.Proofs.YtlpgkpaogadolaaDoor
open Go.RowKit
set_option maxRecDepth 100000

theorem SpecSt.drew1 {w : World} {g : Nat} {r : RdS} {ns : List Nd} (h : SpecSt w g r ns) : SpecSt w.drew g r ns := ⟨h.rd, ⟨h.out.own, h.out.nds⟩, ⟨h.lv.nd, h.lv.lt⟩⟩
theorem SpecSt.drewN {w : World} {g : Nat} {r : RdS} {ns : List Nd} (h : SpecSt w g r ns) (n : Nat) : SpecSt (w.drewN n) g r ns := ⟨h.rd, ⟨h.out.own, h.out.nds⟩, ⟨h.lv.nd, h.lv.lt⟩⟩
theorem IsStr.err {g : Nat} {r : RdS} {c : Int} {p : Nat} {w w' : World} {e : Ending} (h : IsStr g r (.error (c, p)) w e w') : e = .returned (.string ⟨#[]⟩) ∧ Only g w w' ∧ ∃ j, RdAt w' g { r with i := j, code := c, bad := p } ∧ j ≤ r.s.size + 1 := ⟨h.2.1, h.1, h.2.2⟩
theorem IsStr.ok {g : Nat} {r : RdS} {acc : List Int} {j : Nat} {w w' : World} {e : Ending} (h : IsStr g r (.ok (acc, j)) w e w') : e = .returned (.string (strOfNums acc)) ∧ Only g w w' ∧ RdAt w' g (r.to j) := ⟨h.2.1, h.1, h.2.2⟩
theorem str_at (g : Nat) (r : RdS) (x : Rd (List Int × Nat)) (w : World) (h : RdAt w g r) (hs : r.s.size ≤ 1000000) (hi : r.i < r.s.size) (hc : r.code = 0) (hx : strR r.s r.i = x) :
    Calls Tryd.prog 60 #[.pointer (some ⟨g, 0, none⟩)] w (IsStr g r x w) := by
  rw [← hx]; exact str_any (Lib.hid esc_said) g r w h hs hi hc
set_option maxHeartbeats 1000000 in
theorem value_str (g : Nat) (r : RdS) (ns : List Nd) (L : List JN) (b : Nat) (w : World) (V : Option ValF) (hst : SpecSt w g r ns) (hL : Reps ns L) (hs : r.s.size ≤ 1000000) (hc : r.code = 0) (hb : r.begun = (b : Int)) (hb2 : b < 200) (hlb : L.length ≤ b) (hn : pk r.s r.i = 34) :
    Calls Tryd.prog 28 #[.pointer (some ⟨g, 0, none⟩)] w (IsGot g r ns (valB r.s V r.i b L) w) := by
  have hX : valB r.s V r.i b L = (strR r.s r.i).bind fun (acc, j) => .ok ⟨j, b + 1, L ++ [⟨5, strOfNums acc, [], []⟩]⟩ := by
    unfold valB
    simp only []
    rw [if_neg (by rw [hn]; decide), if_neg (by omega), if_neg (by omega), if_pos hn]
  have hlt : r.i < r.s.size := pk_lt (by omega)
  have hp : peekV r = 34 := by rw [peekV_in hlt]; exact hn
  obtain ⟨c0, c1, c2, -, -, c5, -⟩ := hst.rd.facts
  have hf := hst.rd.free
  rw [hb] at c5
  have hbn : ((b : Int) == 200) = false := beq_no (by omega)
  have hlen : ns.length ≤ 1000 := by rw [hL.length]; omega
  have HST := Lib.hid hst
  have HC := Lib.hid hc
  have HL := Lib.hid hL
  clear hn hst hc hb hL
  rcases hx : strR r.s r.i with ⟨cc, p⟩ | ⟨acc, j⟩
  · have HX : Hid (valB r.s V r.i b L = .error (2, p)) := by unfold Hid; rw [hX, hx, strR_err hx]; rfl
    have HF : Hid (∀ W, RdAt W g { r with begun := ((b + 1 : Nat) : Int) } → Calls Tryd.prog 60 #[.pointer (some ⟨g, 0, none⟩)] W (IsStr g { r with begun := ((b + 1 : Nat) : Int) } (.error (2, p)) W)) := fun W hW => str_at g { r with begun := ((b + 1 : Nat) : Int) } _ W hW hs hlt HC.out (by rw [← strR_err hx]; exact hx)
    clear hx hX
    go_enter Tryd.func28, Tryd.ntmps28
    go_wp2_with (first
      | (go_at_call 56; refine (peek_any g r _ HST.out.rd hs).mono ?_; rintro e w' ⟨rfl, m, rfl⟩)
      | (go_at_call 60; refine (HF.out _ (Blk.set (HST.out.rd.drewN _) 5 _)).mono ?_; rintro e w' hS; obtain ⟨rfl, hO, j, hR, hj⟩ := hS.err; have HS1 := Lib.hid (HST.out.step hR rfl ((((Only.refl g w).drewN _).set 5 _).trans hO)))
      | (go_at_call 59; refine (put_any g { r with begun := ((b + 1 : Nat) : Int), i := j, code := 2, bad := (p : Int) } ns ⟨5, ⟨#[]⟩, [], []⟩ (.slice none 0 0) (.slice none 0 0) _ HS1.out (leaf_rows _ rfl rfl _) (leaf_lv HS1.out.lv) hlen).mono ?_; rintro e w' hP; have hPP := hP; obtain ⟨v1, rfl, -, -, -⟩ := hPP))
    go_ret
    exact got_leaf_err (r1 := { r with begun := ((b + 1 : Nat) : Int), i := j, code := 2, bad := (p : Int) }) HX.out ((((Only.refl g w).drewN _).set 5 _).trans hO) rfl rfl rfl rfl (by show j ≤ _; have : j ≤ r.s.size + 1 := hj; omega) hP
  · have HX : Hid (valB r.s V r.i b L = .ok ⟨j, b + 1, L ++ [⟨5, strOfNums acc, [], []⟩]⟩) := by unfold Hid; rw [hX, hx]; rfl
    have HF : Hid (∀ W, RdAt W g { r with begun := ((b + 1 : Nat) : Int) } → Calls Tryd.prog 60 #[.pointer (some ⟨g, 0, none⟩)] W (IsStr g { r with begun := ((b + 1 : Nat) : Int) } (.ok (acc, j)) W)) := fun W hW => str_at g { r with begun := ((b + 1 : Nat) : Int) } _ W hW hs hlt HC.out hx
    clear hx hX
    go_enter Tryd.func28, Tryd.ntmps28
    go_wp2_with (first
      | (go_at_call 56; refine (peek_any g r _ HST.out.rd hs).mono ?_; rintro e w' ⟨rfl, m, rfl⟩)
      | (go_at_call 60; refine (HF.out _ (Blk.set (HST.out.rd.drewN _) 5 _)).mono ?_; rintro e w' hS; obtain ⟨rfl, hO, hR⟩ := hS.ok; have HS1 := Lib.hid (HST.out.step hR rfl ((((Only.refl g w).drewN _).set 5 _).trans hO)))
      | (go_at_call 59; refine (put_any g (RdS.to { r with begun := ((b + 1 : Nat) : Int) } j) ns ⟨5, strOfNums acc, [], []⟩ (.slice none 0 0) (.slice none 0 0) _ HS1.out (leaf_rows _ rfl rfl _) (leaf_lv HS1.out.lv) hlen).mono ?_; rintro e w' hP; have hPP := hP; obtain ⟨v1, rfl, -, -, -⟩ := hPP))
    go_ret
    exact got_leaf HX.out ((((Only.refl g w).drewN _).set 5 _).trans hO) rfl HL.out hP
set_option maxHeartbeats 1000000 in
theorem value_num (g : Nat) (r : RdS) (ns : List Nd) (L : List JN) (b : Nat) (w : World) (V : Option ValF) (hst : SpecSt w g r ns) (hL : Reps ns L) (hs : r.s.size ≤ 1000000) (hc : r.code = 0) (hb : r.begun = (b : Int)) (hb2 : b < 200) (hlb : L.length ≤ b) (hn : pk r.s r.i = 45 ∨ isDigC (pk r.s r.i)) :
    Calls Tryd.prog 28 #[.pointer (some ⟨g, 0, none⟩)] w (IsGot g r ns (valB r.s V r.i b L) w) := by
  have hn' := hn
  unfold isDigC at hn'
  have hX : valB r.s V r.i b L = (numE r.s r.i).bind fun j => .ok ⟨j, b + 1, L ++ [⟨4, r.s.extract r.i j, [], []⟩]⟩ := by
    unfold valB
    simp only []
    rw [if_neg (by unfold startC; omega), if_neg (by omega), if_neg (by omega), if_neg (by omega), if_neg (by omega), if_neg (by omega)]
  have hlt : r.i < r.s.size := pk_lt (by omega)
  have hpe : peekV r = pk r.s r.i := peekV_in hlt
  have hw : peekV r = 45 ∨ ((peekV r == 110) = false ∧ (peekV r == 116) = false ∧ (peekV r == 102) = false ∧ (peekV r == 34) = false ∧ (peekV r == 45) = false ∧ (peekV r == 91) = false ∧ (peekV r == 123) = false ∧ isDigC (peekV r)) := by
    rw [hpe]
    unfold isDigC
    simp only [beq_eq_false_iff_ne]
    omega
  have hpv := peekV_range r
  obtain ⟨c0, c1, c2, -, -, c5, -⟩ := hst.rd.facts
  have hf := hst.rd.free
  rw [hb] at c5
  have hbn : ((b : Int) == 200) = false := beq_no (by omega)
  have hlen : ns.length ≤ 1000 := by rw [hL.length]; omega
  have HST := Lib.hid hst
  have HC := Lib.hid hc
  have HL := Lib.hid hL
  have HF0 : Hid (∀ W, RdAt W g { r with begun := ((b + 1 : Nat) : Int) } → _) := fun W hW => number_any g { r with begun := ((b + 1 : Nat) : Int) } W hW hs (show r.i ≤ r.s.size by omega) HC.out
  clear hn hn' hst hc hb hL hpe
  rcases hx : numE r.s r.i with ⟨cc, p⟩ | j
  · have HX : Hid (valB r.s V r.i b L = .error (2, p)) := by unfold Hid; rw [hX, hx, numE_err hx]; rfl
    have HX2 : Hid (numE r.s r.i = .error (2, p)) := by unfold Hid; rw [← numE_err hx]; exact hx
    clear hx hX
    rcases hw with hp | ⟨p1, p2, p3, p4, p5, p6, p7, hp⟩
    all_goals
      go_enter Tryd.func28, Tryd.ntmps28
      go_wp2_with (first
        | (go_at_call 56; refine (peek_any g r _ HST.out.rd hs).mono ?_; rintro e w' ⟨rfl, m, rfl⟩)
        | (go_at_call 57; refine (digit_yes _ _ hp).mono ?_; rintro e w' ⟨rfl, rfl⟩)
        | (go_at_call 62; refine (HF0.out _ (Blk.set (HST.out.rd.drewN _) 5 _)).mono ?_; rintro e w' ⟨rfl, ⟨r2, hE, hR⟩, hO⟩; rw [HX2.out] at hE; obtain ⟨j, rfl, hj⟩ := hE; rw [RdS.failS_yes (r := RdS.to { r with begun := ((b + 1 : Nat) : Int) } j) HC.out] at hR; obtain ⟨d0, d1, d2, -⟩ := hR.facts; simp only [RdS.to] at d0 d1 d2))
      go_ret
      exact isGot_err HX.out (((((Only.refl g w).drewN _).set 5 _).trans hO).fr _) hR rfl rfl rfl (by show j ≤ _; omega)
  · have HX : Hid (valB r.s V r.i b L = .ok ⟨j, b + 1, L ++ [⟨4, r.s.extract r.i j, [], []⟩]⟩) := by unfold Hid; rw [hX, hx]; rfl
    have HX2 := Lib.hid hx
    have hjb := numE_bd hx (by omega)
    clear hx hX
    rcases hw with hp | ⟨p1, p2, p3, p4, p5, p6, p7, hp⟩
    all_goals
      go_enter Tryd.func28, Tryd.ntmps28
      go_wp2_with (first
        | (go_at_call 56; refine (peek_any g r _ HST.out.rd hs).mono ?_; rintro e w' ⟨rfl, m, rfl⟩)
        | (go_at_call 57; refine (digit_yes _ _ hp).mono ?_; rintro e w' ⟨rfl, rfl⟩)
        | (go_at_call 62; refine (HF0.out _ (Blk.set (HST.out.rd.drewN _) 5 _)).mono ?_; rintro e w' ⟨rfl, ⟨r2, hE, hR⟩, hO⟩; rw [HX2.out] at hE; obtain rfl := RdS.ends_ok hE; obtain ⟨d0, d1, d2, -⟩ := hR.facts; simp only [RdS.to] at d0 d1 d2; rw [HC.out] at d2; have HS1 := Lib.hid (HST.out.step hR rfl ((((Only.refl g w).drewN _).set 5 _).trans hO))))
      have hji : (r.i : Int) ≤ (j : Int) := by omega
      have hjs : (j : Int) ≤ (r.s.size : Int) := by omega
      go_still_tail 12, (by kernel_rfl)
      change wpList _ _ _ _ _ (World.drew _)
      go_wp2_with (go_at_call 59; refine (put_any g (RdS.to { r with begun := ((b + 1 : Nat) : Int) } j) ns ⟨4, r.s.extract r.i j, [], []⟩ (.slice none 0 0) (.slice none 0 0) _ HS1.out.drew1 (leaf_rows _ rfl rfl _) (leaf_lv HS1.out.drew1.lv) hlen).mono ?_; rintro e w' hP; have hPP := hP; obtain ⟨v1, rfl, -, -, -⟩ := hPP)
      go_ret
      exact got_leaf HX.out (((((Only.refl g w).drewN _).set 5 _).trans hO).drew) rfl HL.out hP
theorem isGot_of {g : Nat} {r r1 : RdS} {ns : List Nd} {x : Rd Got} {b1 : Int} {w w1 w' : World} {e : Ending} (hO : Only g w w1) (h1 : r1 = { r with begun := b1 }) (h : IsGot g r1 ns x w1 e w') : IsGot g r ns x w e w' := by
  obtain ⟨hF, h⟩ := h
  have hv : r1.v = r.v := by rw [h1]
  have hs : r1.s = r.s := by rw [h1]
  refine ⟨(hO.fr _).trans hF fun i _ hk => by rw [hv] at hk; exact hk, ?_⟩
  cases x with
  | error x =>
    obtain ⟨c, p⟩ := x
    obtain ⟨he, r', a1, a2, a3⟩ := h
    exact ⟨he, r', a1, a2.trans hs, a3⟩
  | ok G =>
    obtain ⟨he, v, ms, a1, a2, a3, a4⟩ := h
    refine ⟨he, v, ms, ?_, a2, ?_, fun b hb => Nat.le_trans hO.size (a4 b hb)⟩
    · have : ({ r1 with i := G.i, begun := (G.b : Int), v := v } : RdS) = { r with i := G.i, begun := (G.b : Int), v := v } := by rw [h1]
      rw [← this]; exact a1
    · rw [hv] at a3
      rcases a3 with a3 | ⟨k, h2, h3⟩
      · exact .inl a3
      · exact .inr ⟨k, h2, Nat.le_trans hO.size h3⟩
def IsInt (e : Ending) : Prop := ∃ y, e = .returned (.int .i64 y)
theorem IsGot.int {g : Nat} {r : RdS} {ns : List Nd} {x : Rd Got} {w w' : World} {e : Ending} (h : IsGot g r ns x w e w') : IsInt e := by
  obtain ⟨_, h⟩ := h
  cases x with
  | error x => obtain ⟨c, p⟩ := x; exact h.1
  | ok G => exact ⟨_, h.1⟩
set_option maxHeartbeats 1000000 in
theorem value_group (V : ByteArray → Option ValF) (deep : Int) (HG : Hid (GroupSaid V deep)) (obj : Bool) (g : Nat) (r : RdS) (ns : List Nd) (L : List JN) (b : Nat) (w : World) (hst : SpecSt w g r ns) (hL : Reps ns L) (hs : r.s.size ≤ 1000000) (hc : r.code = 0) (hd : r.deep = deep) (hb : r.begun = (b : Int)) (hb2 : b < 200) (hlb : L.length ≤ b) (hn : pk r.s r.i = if obj then 123 else 91) :
    Calls Tryd.prog 28 #[.pointer (some ⟨g, 0, none⟩)] w (IsGot g r ns (valB r.s (V r.s) r.i b L) w) := by
  have hlt : r.i < r.s.size := pk_lt (by rw [hn]; cases obj <;> decide)
  have hp : peekV r = if obj then 123 else 91 := by rw [peekV_in hlt]; exact hn
  have HX : Hid (valB r.s (V r.s) r.i b L = groupR r.s (V r.s) obj r.i (b + 1) L) := by
    unfold Hid valB
    simp only []
    cases obj with
    | false =>
      simp only [Bool.false_eq_true, if_false] at hn
      rw [if_neg (by rw [hn]; decide), if_neg (by omega), if_neg (by rw [hn]; decide), if_neg (by rw [hn]; decide), if_pos hn]
    | true =>
      simp only [if_true] at hn
      rw [if_neg (by rw [hn]; decide), if_neg (by omega), if_neg (by rw [hn]; decide), if_neg (by rw [hn]; decide), if_neg (by rw [hn]; decide), if_pos hn]
  obtain ⟨c0, c1, c2, -, -, c5, -⟩ := hst.rd.facts
  have hf := hst.rd.free
  rw [hb] at c5
  have hbn : ((b : Int) == 200) = false := beq_no (by omega)
  have HST := Lib.hid hst
  have HF := Lib.hid fun W hW => HG.out g { r with begun := ((b + 1 : Nat) : Int) } ns L (b + 1) obj W hW hL hs hlt hc hd rfl (by omega) (by omega)
  clear hn hst hc hb hL hd HG
  have d1 : ¬ isDigC 91 := by decide
  have d2 : ¬ isDigC 123 := by decide
  cases obj
  all_goals
    simp only [Bool.false_eq_true, if_false, if_true] at hp
    go_enter Tryd.func28, Tryd.ntmps28
    go_wp2_with (first
      | (go_at_call 56; refine (peek_any g r _ HST.out.rd hs).mono ?_; rintro e w' ⟨rfl, m, rfl⟩)
      | (go_at_call 57; refine (digit_no _ _ (by first | exact d1 | exact d2) (by omega) (by omega)).mono ?_; rintro e w' ⟨rfl, rfl⟩)
      | (go_at_call 61; refine (HF.out _ (HST.out.step (r' := { r with begun := ((b + 1 : Nat) : Int) }) (Blk.set (HST.out.rd.drewN _) 5 _) rfl (((Only.refl g w).drewN _).set 5 _))).mono ?_; rintro e w' hG; obtain ⟨y, rfl⟩ := hG.int))
    go_ret
    rw [HX.out]
    exact isGot_of (((Only.refl g w).drewN _).set 5 _) rfl hG
theorem value_any (V : ByteArray → Option ValF) (deep : Int) (HG : Hid (GroupSaid V deep)) (g : Nat) (r : RdS) (ns : List Nd) (L : List JN) (b : Nat) (w : World) (hst : SpecSt w g r ns) (hL : Reps ns L) (hs : r.s.size ≤ 1000000) (hi : r.i ≤ r.s.size) (hc : r.code = 0) (hd : r.deep = deep) (hb : r.begun = (b : Int)) (hb2 : b ≤ 200) (hlb : L.length ≤ b) :
    Calls Tryd.prog 28 #[.pointer (some ⟨g, 0, none⟩)] w (IsGot g r ns (valB r.s (V r.s) r.i b L) w) := by
  by_cases hn : startC (pk r.s r.i)
  · by_cases hm : b = 200
    · subst hm
      exact value_many g r ns L w (V r.s) hst hs hi hc hb hn
    · have hb3 : b < 200 := by omega
      unfold startC at hn
      rcases hn with h | h | h | h | h | h | h | h
      · exact value_null g r ns L b w _ hst hL hs hi hc hb hb3 hlb h
      · exact value_true g r ns L b w _ hst hL hs hi hc hb hb3 hlb h
      · exact value_false g r ns L b w _ hst hL hs hi hc hb hb3 hlb h
      · exact value_str g r ns L b w _ hst hL hs hc hb hb3 hlb h
      · exact value_num g r ns L b w _ hst hL hs hc hb hb3 hlb (.inl h)
      · exact value_num g r ns L b w _ hst hL hs hc hb hb3 hlb (.inr h)
      · exact value_group V deep HG false g r ns L b w hst hL hs hc hd hb hb3 hlb h
      · exact value_group V deep HG true g r ns L b w hst hL hs hc hd hb hb3 hlb h
  · exact value_none g r ns L b w _ hst hs hi hc hn
end Go.Proofs.YtlpgkpaogadolaaDoor
