/- The reference's JsonNumber, walked. -/
import Derived.Test.YtlpgkpaogadolaaDoorJsonSpecN
namespace Go.Proofs.YtlpgkpaogadolaaDoor
open Go.RowKit
set_option maxRecDepth 100000

/-- A text that is one number. -/
def NumP (s : ByteArray) : Prop := (runesP s).isSome = true ∧ numE s 0 = .ok s.size
noncomputable instance (s : ByteArray) : Decidable (NumP s) := Classical.propDecidable _
noncomputable def numOk (s : ByteArray) : Bool := decide (NumP s)
theorem numOk_yes {s : ByteArray} (h : NumP s) : numOk s = true := decide_eq_true h
theorem numOk_no {s : ByteArray} (h : ¬ NumP s) : numOk s = false := decide_eq_false h
theorem lineR_err {s : ByteArray} {c : Int} {p : Nat} (h : lineR s = .error (c, p)) : c ≠ 0 := by
  unfold lineR at h
  split at h
  · exact readR_err h
  · cases h; decide
theorem lineR_ok {s : ByteArray} {L : List JN} (h : lineR s = .ok L) : (runesP s).isSome = true ∧ readR s = .ok L := by
  unfold lineR at h
  split at h
  · exact ⟨‹_›, h⟩
  · cases h
theorem readR_len {s : ByteArray} {L : List JN} (h : readR s = .ok L) : 0 < L.length ∧ L.length ≤ 200 := by
  unfold readR at h
  rcases hv : valR s 8 (skipB s 0) 0 [] with e | G
  · rw [hv] at h; cases h
  · rw [hv] at h
    obtain ⟨g1, g2, g3, g4, g5, g6, -⟩ := valR_bd s 8 _ _ _ _ hv (by omega)
    simp only [Except.bind] at h
    split at h
    · cases h
    · injection h with h
      rw [← h]
      simp at g5 g6
      omega
theorem num_iff {s : ByteArray} {L : List JN} (h : lineR s = .ok L) : NumP s ↔ ∃ n : JN, L = [n] ∧ n.kind = 4 ∧ n.text = s := by
  obtain ⟨h1, h2⟩ := lineR_ok h
  unfold NumP
  rw [← oneNum_iff]
  unfold oneNum
  rw [h2]
  constructor
  · rintro ⟨_, n, e, h3⟩
    injection e with e
    exact ⟨n, e, h3⟩
  · rintro ⟨n, e, h3⟩
    exact ⟨h1, n, by rw [e], h3⟩
theorem text_eq {a b : ByteArray} : (a.toList == b.toList) = true ↔ a = b := by
  rw [beq_iff_eq, ByteArray.toList_eq, ByteArray.toList_eq]
  constructor
  · intro h
    have : a.data = b.data := Array.toList_inj.1 h
    obtain ⟨x⟩ := a; obtain ⟨y⟩ := b
    simp only at this
    rw [this]
  · intro h; rw [h]
theorem row_shape {w : World} {e n : Nat} {v : Value} {xs : List Value} (h : w.ownsRow 0 e 4 v n xs) (hn : 0 < n) : ∃ gv cap, v = .slice (some ⟨gv, 0, none⟩) n cap ∧ gv < w.heap.size ∧ n ≤ cap ∧ cap ≤ 9223372036854775807 ∧ ∀ i u, xs[i]? = some u → w.cell? ⟨gv, i, none⟩ = some u := by
  rcases h.2 with ⟨_, h0⟩ | ⟨g, cap, cur, rfl, hb, hg, h1, h2, h3, h4⟩
  · omega
  · refine ⟨g, cap, rfl, (Array.getElem?_eq_some_iff.1 hg).1, h1, by unfold maxLen at h2; omega, fun i u hu => ?_⟩
    have := h.cells (g := g) rfl i u hu
    have ha : (⟨g, 0, none⟩ : Addr).add i = ⟨g, i, none⟩ := by unfold Addr.add; split <;> simp_all
    rwa [ha] at this
theorem one_out {w : World} {v : Value} {ns : List Nd} {n : JN} (h : OutIn w 44 4 v ns) (hR : Reps ns [n]) : ∃ gv cap kv sv, v = .slice (some ⟨gv, 0, none⟩) 1 cap ∧ ns = [jnd n kv sv] ∧ gv < w.heap.size ∧ 1 ≤ cap ∧ w.cell? ⟨gv, 0, none⟩ = some (.int .i64 n.kind) ∧ w.cell? ⟨gv, 1, none⟩ = some (.string n.text) := by
  cases hR with
  | cons _ kv sv h0 =>
    cases h0
    obtain ⟨gv, cap, hv, h1, h2, -, h3⟩ := row_shape h.own (by simp)
    exact ⟨gv, cap, kv, sv, hv, rfl, h1, h2, h3 0 _ rfl, h3 1 _ rfl⟩
theorem len_out {w : World} {v : Value} {ns : List Nd} {L : List JN} (h : OutIn w 44 4 v ns) (hR : Reps ns L) (hn : 0 < L.length) : ∃ gv cap, v = .slice (some ⟨gv, 0, none⟩) L.length cap ∧ gv < w.heap.size := by
  rw [← hR.length] at hn ⊢
  obtain ⟨gv, cap, hv, h1, -⟩ := row_shape h.own hn
  exact ⟨gv, cap, hv, h1⟩
set_option maxHeartbeats 1000000 in
theorem specNumber_any (s : ByteArray) (w : World) (hs : s.size ≤ 9223372036854775807) : Calls Tryd.prog 8 #[.string s] w fun e w' => e = .returned (.bool (numOk s)) ∧ Below w.heap.size w w' := by
  rcases hl : lineR s with ⟨c, p⟩ | L
  · have hq : (c == 0) = false := beq_no (lineR_err hl)
    have HN : Hid (numOk s = false) := numOk_no fun h => by
      unfold lineR at hl
      rw [if_pos h.1] at hl
      obtain ⟨n, h2, -⟩ := (oneNum_iff s).2 h.2
      rw [h2] at hl
      cases hl
    have HL := Lib.hid hl
    clear hl
    go_enter Tryd.func8, Tryd.ntmps8
    go_wp2_with (go_at_call 10; refine (specRead_any s _ hs).mono ?_; rintro e w1 hI; obtain ⟨hb1, hI⟩ := hI; rw [HL.out] at hI; have hI2 := hI; obtain rfl := hI2; clear hI)
    go_ret
    exact ⟨ret_bool HN.out.symm, hb1.alloc hb1.size _⟩
  · have hlen := readR_len (lineR_ok hl).2
    have HNI := Lib.hid (num_iff hl)
    have HL := Lib.hid hl
    clear hl
    by_cases h1 : L.length = 1
    · obtain ⟨n, rfl⟩ := List.length_eq_one_iff.1 h1
      by_cases hk : n.kind = 4
      · by_cases ht : (n.text.toList == s.toList) = true
        · have HN : Hid (numOk s = true) := numOk_yes (HNI.out.2 ⟨n, rfl, hk, text_eq.1 ht⟩)
          have hkb := beq_yes hk
          clear hk h1 hlen
          go_enter Tryd.func8, Tryd.ntmps8
          go_wp2_with (go_at_call 10; refine (specRead_any s _ hs).mono ?_; rintro e w1 hI; obtain ⟨hb1, hI⟩ := hI; rw [HL.out] at hI; obtain ⟨v, ns, rfl, hO, hR, hLv, hnw⟩ := hI; obtain ⟨gv, cap, kv, sv, rfl, rfl, hgv, hcp, q0, q1⟩ := one_out hO hR; clear hO hR hLv hnw)
          go_ret
          exact ⟨ret_bool HN.out.symm, hb1.alloc hb1.size _⟩
        · have htf : (n.text.toList == s.toList) = false := by simpa using ht
          have HN : Hid (numOk s = false) := numOk_no fun h => by
            obtain ⟨m, e, -, h3⟩ := HNI.out.1 h
            injection e with e
            exact ht (text_eq.2 (by rw [e]; exact h3))
          have hkb := beq_yes hk
          clear hk h1 hlen ht
          go_enter Tryd.func8, Tryd.ntmps8
          go_wp2_with (go_at_call 10; refine (specRead_any s _ hs).mono ?_; rintro e w1 hI; obtain ⟨hb1, hI⟩ := hI; rw [HL.out] at hI; obtain ⟨v, ns, rfl, hO, hR, hLv, hnw⟩ := hI; obtain ⟨gv, cap, kv, sv, rfl, rfl, hgv, hcp, q0, q1⟩ := one_out hO hR; clear hO hR hLv hnw)
          go_ret
          exact ⟨ret_bool HN.out.symm, hb1.alloc hb1.size _⟩
      · have HN : Hid (numOk s = false) := numOk_no fun h => by
          obtain ⟨m, e, h3, -⟩ := HNI.out.1 h
          injection e with e
          exact hk (by rw [e]; exact h3)
        have hkb := beq_no hk
        clear hk h1 hlen
        go_enter Tryd.func8, Tryd.ntmps8
        go_wp2_with (go_at_call 10; refine (specRead_any s _ hs).mono ?_; rintro e w1 hI; obtain ⟨hb1, hI⟩ := hI; rw [HL.out] at hI; obtain ⟨v, ns, rfl, hO, hR, hLv, hnw⟩ := hI; obtain ⟨gv, cap, kv, sv, rfl, rfl, hgv, hcp, q0, q1⟩ := one_out hO hR; clear hO hR hLv hnw)
        go_ret
        exact ⟨ret_bool HN.out.symm, hb1.alloc hb1.size _⟩
    · have HN : Hid (numOk s = false) := numOk_no fun h => by
        obtain ⟨m, e, -⟩ := HNI.out.1 h
        exact h1 (by rw [e]; rfl)
      have hlb : ((L.length : Int) == 1) = false := beq_no (by omega)
      clear h1
      go_enter Tryd.func8, Tryd.ntmps8
      go_wp2_with (go_at_call 10; refine (specRead_any s _ hs).mono ?_; rintro e w1 hI; obtain ⟨hb1, hI⟩ := hI; rw [HL.out] at hI; obtain ⟨v, ns, rfl, hO, hR, hLv, hnw⟩ := hI; obtain ⟨gv, cap, rfl, hgv⟩ := len_out hO hR hlen.1; clear hO hR hLv hnw)
      go_ret
      exact ⟨ret_bool HN.out.symm, hb1.alloc hb1.size _⟩
end Go.Proofs.YtlpgkpaogadolaaDoor
