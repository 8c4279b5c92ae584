/- The reference's JSON reader: values, walked (over the contract of lists and objects). -/
import Derived.Test.YtlpgkpaogadolaaDoorJsonSpecF
import Derived.Test.YtlpgkpaogadolaaDoorJsonSpecD
namespace Go.Proofs.YtlpgkpaogadolaaDoor
open Go.RowKit
set_option maxRecDepth 100000

/-- What a value comes to. -/
def IsGot (g : Nat) (r : RdS) (ns : List Nd) (x : Rd Got) (w : World) (e : Ending) (w' : World) : Prop :=
  Fr (RdOk g r.v) w w' ∧ match x with
  | .ok G => e = .returned (.int .i64 ((G.L.length : Int) - 1)) ∧ ∃ v ms, SpecSt w' g { r with i := G.i, begun := (G.b : Int), v := v } (ns ++ ms) ∧ Reps (ns ++ ms) G.L ∧ Lies w r.v v ∧ ∀ b ∈ blksOf ms, w.heap.size ≤ b
  | .error (c, p) => (∃ y, e = .returned (.int .i64 y)) ∧ ∃ r', RdAt w' g r' ∧ r'.s = r.s ∧ r'.code = c ∧ r'.bad = p ∧ r'.i ≤ 1000010
theorem isGot_err {g : Nat} {r : RdS} {ns : List Nd} {x : Rd Got} {c : Int} {p : Nat} {w w' : World} {y : Int} {r' : RdS} (hx : x = .error (c, p)) (hF : Fr (RdOk g r.v) w w') (hR : RdAt w' g r') (h1 : r'.s = r.s) (h2 : r'.code = c) (h3 : r'.bad = p) (h4 : r'.i ≤ 1000010) :
    IsGot g r ns x w (.returned (.int .i64 y)) w' := by
  rw [hx]; exact ⟨hF, ⟨y, rfl⟩, r', hR, h1, h2, h3, h4⟩
theorem Only.fr {g : Nat} {w w' : World} (h : Only g w w') (v : Value) : Fr (RdOk g v) w w' := Fr.of_grown h fun k _ he => .inl (by injection he with he; exact he.symm)
theorem SpecSt.step {w w' : World} {g : Nat} {r r' : RdS} {ns : List Nd} (h : SpecSt w g r ns) (hR : RdAt w' g r') (hv : r'.v = r.v) (hO : Only g w w') : SpecSt w' g r' ns := by
  refine ⟨hR, ?_, ?_⟩
  · rw [hv]
    refine h.out.fr (ok := fun k => k = g) (Fr.of_grown hO fun k _ he => by injection he with he; exact he.symm) (fun b hb e => ?_) (fun b hb e => ?_)
    · exact h.lv.ne_v g (List.mem_cons_self ..) (e ▸ hb)
    · exact h.lv.tail_v.ne_head b hb e
  · rw [hv]; exact h.lv.le hO.size
theorem isGot_put {g : Nat} {r r1 : RdS} {ns : List Nd} {L : List JN} {n : JN} {kv sv : Value} {x : Rd Got} {b' : Nat} {w w1 w' : World} {e : Ending} (hx : x = .ok ⟨r1.i, b', L ++ [n]⟩) (hO : Fr (RdOk g r.v) w w1) (h1 : r1 = { r with i := r1.i, begun := (b' : Int) }) (hL : Reps ns L)
    (hn : ∀ b ∈ (jnd n kv sv).blks, w.heap.size ≤ b) (hp : IsPut g r1 ns (jnd n kv sv) w1 e w') : IsGot g r ns x w e w' := by
  obtain ⟨v1, rfl, hst, hl, hF⟩ := hp
  have hv : r1.v = r.v := by rw [h1]
  rw [hx]
  refine ⟨hO.trans hF fun i _ hk => by rw [hv] at hk; exact hk, ?_, v1, [jnd n kv sv], ?_, hL.snoc n kv sv, ?_, fun b hb => hn b (by rwa [blksOf_one] at hb)⟩
  · rw [hL.length]; simp
  · have : ({ r1 with v := v1 } : RdS) = { r with i := r1.i, begun := (b' : Int), v := v1 } := by rw [h1]
    rw [← this]; exact hst
  · rw [hv] at hl
    rcases hl with hl | ⟨k, h2, h3⟩
    · exact .inl hl
    · exact .inr ⟨k, h2, Nat.le_trans hO.size h3⟩
/-- What is said of values; so many lists and objects may still be opened. -/
def ValSaid (d : Nat) : Prop := ∀ (g : Nat) (r : RdS) (ns : List Nd) (L : List JN) (b : Nat) (w : World), SpecSt w g r ns → Reps ns L → r.s.size ≤ 1000000 → r.i ≤ r.s.size → r.code = 0 → r.deep = 8 - (d : Int) → r.begun = (b : Int) → b ≤ 200 → L.length ≤ b →
    Calls Tryd.prog 28 #[.pointer (some ⟨g, 0, none⟩)] w (IsGot g r ns (valR r.s d r.i b L) w)
/-- What is said of lists and objects. -/
def GroupSaid (V : ByteArray → Option ValF) (deep : Int) : Prop := ∀ (g : Nat) (r : RdS) (ns : List Nd) (L : List JN) (b : Nat) (obj : Bool) (w : World), SpecSt w g r ns → Reps ns L → r.s.size ≤ 1000000 → r.i < r.s.size → r.code = 0 → r.deep = deep → r.begun = (b : Int) → b ≤ 200 → L.length ≤ b →
    Calls Tryd.prog 61 #[.pointer (some ⟨g, 0, none⟩), .int .i64 (if obj then 123 else 91)] w (IsGot g r ns (groupR r.s (V r.s) obj r.i b L) w)
/-- What is known of the first sign. -/
theorem peek_cases {r : RdS} (h : ¬ startC (pk r.s r.i)) : (peekV r == 110) = false ∧ (peekV r == 116) = false ∧ (peekV r == 102) = false ∧ (peekV r == 34) = false ∧ (peekV r == 45) = false ∧ ¬ isDigC (peekV r) ∧ (peekV r == 91) = false ∧ (peekV r == 123) = false := by
  have : peekV r = pk r.s r.i ∨ peekV r = 0 := by unfold peekV pk; split <;> simp
  unfold startC at h
  unfold isDigC
  simp only [beq_eq_false_iff_ne]
  omega
set_option maxHeartbeats 1000000 in
theorem value_none (g : Nat) (r : RdS) (ns : List Nd) (L : List JN) (b : Nat) (w : World) (V : Option ValF) (hst : SpecSt w g r ns) (hs : r.s.size ≤ 1000000) (hi : r.i ≤ r.s.size) (hc : r.code = 0) (hn : ¬ startC (pk r.s r.i)) :
    Calls Tryd.prog 28 #[.pointer (some ⟨g, 0, none⟩)] w (IsGot g r ns (valB r.s V r.i b L) w) := by
  have HX : Hid (valB r.s V r.i b L = .error (2, r.i)) := by unfold Hid valB; simp only []; rw [if_pos hn]
  obtain ⟨n1, n2, n3, n4, n5, n6, n7, n8⟩ := peek_cases hn
  obtain ⟨c0, c1, c2, -⟩ := hst.rd.facts
  have hpv := peekV_range r
  have HST := Lib.hid hst
  have HC := Lib.hid hc
  clear hn hst hc
  go_enter Tryd.func28, Tryd.ntmps28
  go_wp2_with (first
    | (go_at_call 56; refine (peek_any g r _ HST.out.rd hs).mono ?_; rintro e w' ⟨rfl, m, rfl⟩)
    | (go_at_call 57; refine (digit_no _ _ n6 hpv.1 hpv.2).mono ?_; rintro e w' ⟨rfl, rfl⟩)
    | (go_at_call 29; refine (fail_any g r _ _ _ (HST.out.rd.drewN _)).mono ?_; rintro e w' ⟨rfl, hR, hO⟩))
  go_ret
  rw [RdS.failS_yes HC.out] at hR
  exact isGot_err HX.out ((((Only.refl g w).drewN _).trans hO).fr _) hR rfl rfl rfl (by show r.i ≤ _; omega)
/-- The ways in which a value may begin. -/
theorem start_ways {r : RdS} (h : startC (pk r.s r.i)) : r.i < r.s.size ∧ peekV r = pk r.s r.i ∧
    (peekV r = 110 ∨ peekV r = 116 ∨ peekV r = 102 ∨ peekV r = 34 ∨ peekV r = 45 ∨ ((peekV r == 110) = false ∧ (peekV r == 116) = false ∧ (peekV r == 102) = false ∧ (peekV r == 34) = false ∧ (peekV r == 45) = false ∧ (peekV r == 91) = false ∧ (peekV r == 123) = false ∧ isDigC (peekV r)) ∨ peekV r = 91 ∨ peekV r = 123) := by
  have hi : r.i < r.s.size := pk_lt (s := r.s) (i := r.i) (by unfold startC at h; omega)
  have hp := peekV_in hi
  refine ⟨hi, hp, ?_⟩
  rw [hp]
  unfold startC at h
  unfold isDigC
  simp only [beq_eq_false_iff_ne]
  omega
set_option maxHeartbeats 1000000 in
theorem value_many (g : Nat) (r : RdS) (ns : List Nd) (L : List JN) (w : World) (V : Option ValF) (hst : SpecSt w g r ns) (hs : r.s.size ≤ 1000000) (hi : r.i ≤ r.s.size) (hc : r.code = 0) (hb : r.begun = 200) (hn : startC (pk r.s r.i)) :
    Calls Tryd.prog 28 #[.pointer (some ⟨g, 0, none⟩)] w (IsGot g r ns (valB r.s V r.i 200 L) w) := by
  have HX : Hid (valB r.s V r.i 200 L = .error (5, r.i)) := by unfold Hid valB; simp only []; rw [if_neg (fun k => k hn)]; exact if_pos trivial
  obtain ⟨-, -, hw⟩ := start_ways hn
  obtain ⟨c0, c1, c2, -, -, c5, -⟩ := hst.rd.facts
  rw [hb] at c5
  have hpv := peekV_range r
  have HST := Lib.hid hst
  have HC := Lib.hid hc
  clear hn hst hc hb
  rcases hw with hp | hp | hp | hp | hp | ⟨p1, p2, p3, p4, p5, p6, p7, hp⟩ | hp | hp
  case inr.inr.inr.inr.inr.inl =>
    go_enter Tryd.func28, Tryd.ntmps28
    go_wp2_with (first
      | (go_at_call 56; refine (peek_any g r _ HST.out.rd hs).mono ?_; rintro e w' ⟨rfl, m, rfl⟩)
      | (go_at_call 57; refine (digit_yes _ _ hp).mono ?_; rintro e w' ⟨rfl, rfl⟩)
      | (go_at_call 29; refine (fail_any g r _ _ _ (HST.out.rd.drewN _)).mono ?_; rintro e w' ⟨rfl, hR, hO⟩))
    go_ret
    rw [RdS.failS_yes HC.out] at hR
    exact isGot_err HX.out ((((Only.refl g w).drewN _).trans hO).fr _) hR rfl rfl rfl (by show r.i ≤ _; omega)
  all_goals
    have d1 : ¬ isDigC 91 := by decide
    have d2 : ¬ isDigC 123 := by decide
    go_enter Tryd.func28, Tryd.ntmps28
    go_wp2_with (first
      | (go_at_call 56; refine (peek_any g r _ HST.out.rd hs).mono ?_; rintro e w' ⟨rfl, m, rfl⟩)
      | (go_at_call 57; refine (digit_no _ _ (by first | exact d1 | exact d2) (by omega) (by omega)).mono ?_; rintro e w' ⟨rfl, rfl⟩)
      | (go_at_call 29; refine (fail_any g r _ _ _ (HST.out.rd.drewN _)).mono ?_; rintro e w' ⟨rfl, hR, hO⟩))
    go_ret
    rw [RdS.failS_yes HC.out] at hR
    exact isGot_err HX.out ((((Only.refl g w).drewN _).trans hO).fr _) hR rfl rfl rfl (by show r.i ≤ _; omega)
/-- On the way through a word. -/
def WordGo (g : Nat) (r1 : RdS) (w : World) (l : List Int) (k : Nat) (wr : World) : Prop := RdAt wr g (r1.to (r1.i + k)) ∧ Only g w wr ∧ wordR r1.s (l.drop k) (r1.i + k) = wordR r1.s l r1.i
def WordBad (g : Nat) (r1 : RdS) (w : World) (l : List Int) (wr : World) : Prop := ∃ j : Nat, RdAt wr g { r1 with i := j, code := 2, bad := j } ∧ Only g w wr ∧ wordR r1.s l r1.i = .error (2, j) ∧ j ≤ 1000010
theorem WordGo.no {g : Nat} {r1 : RdS} {w wr : World} {l : List Int} {k : Nat} {c : Int} {m : List Int} (h : WordGo g r1 w l k wr) (hd : l.drop k = c :: m) (hc : ¬ pk r1.s (r1.i + k) = c) : wordR r1.s l r1.i = .error (2, r1.i + k) := by
  rw [← h.2.2, hd]; exact if_neg hc
theorem WordGo.yes {g : Nat} {r1 : RdS} {w wr : World} {l : List Int} {k : Nat} {c : Int} {m : List Int} (h : WordGo g r1 w l k wr) (hd : l.drop k = c :: m) (hc : pk r1.s (r1.i + k) = c) : wordR r1.s (l.drop (k + 1)) (r1.i + (k + 1)) = wordR r1.s l r1.i := by
  rw [← h.2.2, hd, show l.drop (k + 1) = m by rw [← List.drop_drop, hd]; rfl]; exact (if_pos hc).symm
theorem leaf_rows (n : JN) (hk : n.keys = []) (hs : n.kids = []) (w : World) : ∀ x ∈ (jnd n (.slice none 0 0) (.slice none 0 0)).rows, x.own w := by
  intro x hx
  simp only [jnd, List.mem_cons, List.mem_nil_iff, or_false] at hx
  rcases hx with rfl | rfl
  · rw [hk]; exact World.ownsRow_nil _ _ _ _
  · rw [hs]; exact World.ownsRow_nil _ _ _ _
theorem leaf_blks (n : JN) : (jnd n (.slice none 0 0) (.slice none 0 0)).blks = [] := rfl
theorem leaf_lv {w : World} {v : Value} {g : Nat} {ns : List Nd} {n : JN} (h : Lv w (v.ownBlock.toList ++ g :: blksOf ns)) : Lv w (v.ownBlock.toList ++ g :: blksOf (ns ++ [jnd n (.slice none 0 0) (.slice none 0 0)])) := by
  rw [blksOf_append, blksOf_one, leaf_blks, List.append_nil]; exact h
theorem got_leaf {g : Nat} {r r1 : RdS} {ns : List Nd} {L : List JN} {n : JN} {x : Rd Got} {b' : Nat} {w w1 w' : World} {e : Ending} (hx : x = .ok ⟨r1.i, b', L ++ [n]⟩) (hO : Only g w w1) (h1 : r1 = { r with i := r1.i, begun := (b' : Int) }) (hL : Reps ns L)
    (hp : IsPut g r1 ns (jnd n (.slice none 0 0) (.slice none 0 0)) w1 e w') : IsGot g r ns x w e w' :=
  isGot_put hx (hO.fr _) h1 hL (fun b hb => by rw [leaf_blks] at hb; cases hb) hp
theorem got_leaf_err {g : Nat} {r r1 : RdS} {ns : List Nd} {n : Nd} {x : Rd Got} {c : Int} {p : Nat} {w w1 w' : World} {e : Ending} (hx : x = .error (c, p)) (hO : Only g w w1) (h0 : r1.s = r.s) (hv : r1.v = r.v) (h1 : r1.code = c) (h2 : r1.bad = p) (h3 : r1.i ≤ 1000010)
    (hp : IsPut g r1 ns n w1 e w') : IsGot g r ns x w e w' := by
  obtain ⟨v1, rfl, hst, hl, hF⟩ := hp
  exact isGot_err hx ((hO.fr _).trans hF fun i _ hk => by rw [hv] at hk; exact hk) hst.rd h0 h1 h2 h3
end Go.Proofs.YtlpgkpaogadolaaDoor
