/- The reference's JSON reader: every value; JsonRead. -/
import Derived.Test.YtlpgkpaogadolaaDoorJsonSpecM
import Derived.Test.YtlpgkpaogadolaaDoorJsonPlainD
namespace Go.Proofs.YtlpgkpaogadolaaDoor
open Go.RowKit
set_option maxRecDepth 100000

theorem group_said (d : Nat) (HV : ValSaid d) (hd : d < 8) : GroupSaid (fun s => some (valR s d)) (8 - ((d + 1 : Nat) : Int)) := by
  intro g r ns L b obj w hst hL hs hi hc hdp hb hb2 hlb
  cases obj with
  | false => exact group_list d (Lib.hid HV) hd g r ns L b w hst hL hs hi hc hdp hb hb2 hlb
  | true => exact group_obj d (Lib.hid HV) hd g r ns L b w hst hL hs hi hc hdp hb hb2 hlb
theorem val_said : ∀ d : Nat, d ≤ 8 → ValSaid d
  | 0, _ => fun g r ns L b w hst hL hs hi hc hd hb hb2 hlb => value_any (fun _ => none) 8 (Lib.hid group_deep) g r ns L b w hst hL hs hi hc (by rw [hd]; rfl) hb hb2 hlb
  | d + 1, h => fun g r ns L b w hst hL hs hi hc hd hb hb2 hlb => value_any (fun s => some (valR s d)) _ (Lib.hid (group_said d (val_said d (by omega)) (by omega))) g r ns L b w hst hL hs hi hc hd hb hb2 hlb
/-- What a line comes to. -/
noncomputable def lineR (s : ByteArray) : Rd (List JN) := if (runesP s).isSome = true then readR s else .error (1, 0)
def IsLine (s : ByteArray) (w : World) (e : Ending) (w' : World) : Prop :=
  Below w.heap.size w w' ∧ match lineR s with
  | .ok L => ∃ v ns, e = .returned (.tuple #[.agg #[v], .int .i64 0, .int .i64 0]) ∧ OutIn w' 44 4 v ns ∧ Reps ns L ∧ Lv w' (v.ownBlock.toList ++ blksOf ns) ∧ ∀ b ∈ v.ownBlock.toList ++ blksOf ns, w.heap.size ≤ b
  | .error (c, p) => e = .returned (.tuple #[.agg #[.slice none 0 0], .int .i64 p, .int .i64 c])
theorem isLine_err {s : ByteArray} {w w' : World} {c : Int} {p : Nat} (h : lineR s = .error (c, p)) (hb : Below w.heap.size w w') : IsLine s w (.returned (.tuple #[.agg #[.slice none 0 0], .int .i64 p, .int .i64 c])) w' := by
  refine ⟨hb, ?_⟩
  rw [h]
theorem textOk_yes (s : ByteArray) (w : World) (hs : s.size ≤ 9223372036854775807) (h : (runesP s).isSome = true) : Calls Tryd.prog 26 #[.string s] w fun e w' => e = .returned (.bool true) ∧ Below w.heap.size w w' := by rw [← h]; exact textOk_any s w hs
theorem textOk_no (s : ByteArray) (w : World) (hs : s.size ≤ 9223372036854775807) (h : (runesP s).isSome = false) : Calls Tryd.prog 26 #[.string s] w fun e w' => e = .returned (.bool false) ∧ Below w.heap.size w w' := by rw [← h]; exact textOk_any s w hs
theorem runesP_size {s : ByteArray} (h : (runesP s).isSome = true) : s.size ≤ 1000 := by
  rcases Nat.lt_or_ge 1000 s.size with k | k
  · rw [runesP_long k] at h; cases h
  · exact k
theorem own_shape {w : World} {B e size n : Nat} {v : Value} {xs : List Value} (h : w.ownsRow B e size v n xs) (hn : 0 < n) : ∃ gv cap nv, v = .slice (some ⟨gv, 0, none⟩) nv cap := by
  obtain ⟨g, cap, hv, -⟩ := h.form hn
  exact ⟨g, cap, n, hv⟩
theorem start_st {w1 w2 : World} {s : ByteArray} (hR : RdAt w2 w1.heap.size (RdS.to ⟨s, 0, 0, 0, 0, 0, .slice none 0 0⟩ (skipB s 0))) (_hO : Only w1.heap.size (w1.alloc (.cells (RdS.cells ⟨s, 0, 0, 0, 0, 0, .slice none 0 0⟩) 51)) w2) : SpecSt w2 w1.heap.size ⟨s, skipB s 0, 0, 0, 0, 0, .slice none 0 0⟩ [] :=
  ⟨hR, ⟨World.ownsRow_nil _ _ _ _, fun n hn => by cases hn⟩, ⟨by simp [blksOf, Value.ownBlock], fun b hb => by
    simp [blksOf, Value.ownBlock] at hb
    rw [hb]
    exact Blk.lt hR⟩⟩
theorem Only.frW {g : Nat} {w w2 w3 : World} (hO : Only g w w2) (hF : Fr (RdOk g (.slice none 0 0)) w2 w3) : Fr (fun k => k = g) w w3 :=
  (Fr.of_grown (ok := fun k => k = g) hO fun k _ he => by injection he with he; exact he.symm).trans hF fun i _ hk => by
    rcases hk with hk | hk
    · exact hk
    · simp [Value.ownBlock] at hk
/-- The result's own cell is as it was. -/
theorem frame_R {w w1 w3 : World} {o2 : Obj} {g : Nat} {T : TypeId} (hb : Below (w.alloc (.cells #[.slice none 0 0] T)).heap.size (w.alloc (.cells #[.slice none 0 0] T)) w1) (hF : Fr (fun k => k = g) (w1.alloc o2) w3) (hg : w.heap.size < g) : Blk w3 w.heap.size #[.slice none 0 0] T := by
  have hz := hb.size
  simp at hz
  have h1 : w3.heap[w.heap.size]? = (w.alloc (.cells #[.slice none 0 0] T)).heap[w.heap.size]? := by
    rw [hF.block w.heap.size (by simp; omega) (fun e => by omega), Below.heap_alloc _ _ _ (by omega), hb.block w.heap.size (by simp)]
  exact Blk.kept (Blk.new w _ _) h1
theorem below_line {w w1 w3 : World} {o o2 : Obj} {g : Nat} (hb : Below (w.alloc o).heap.size (w.alloc o) w1) (hF : Fr (fun k => k = g) (w1.alloc o2) w3) (hg : w.heap.size < g) : Below w.heap.size w w3 := by
  have hz := hb.size
  simp at hz
  exact ((below_box hb).alloc (by omega) _).trans (hF.below (fun k hk e => by omega) (by simp; omega))
theorem isLine_ok {s : ByteArray} {w w2 w4 : World} {g : Nat} {r : RdS} {ms : List Nd} {L : List JN} {x : Value} (hx : lineR s = .ok L) (hb : Below w.heap.size w w4) (hst : SpecSt w4 g r ([] ++ ms)) (hr : Reps ms L) (hl : Lies w2 (.slice none 0 0) r.v) (hn : ∀ b ∈ blksOf ms, w2.heap.size ≤ b) (h2 : w.heap.size < w2.heap.size) (_hg : w.heap.size < g) :
    IsLine s w (.returned (.tuple #[.agg #[r.v], .int .i64 0, .int .i64 0])) (w4.setCell ⟨w.heap.size, 0, none⟩ x) := by
  rw [List.nil_append] at hst
  have hnew : ∀ b ∈ r.v.ownBlock.toList ++ blksOf ms, w2.heap.size ≤ b := by
    intro b hbm
    rcases List.mem_append.1 hbm with k | k
    · rcases hl.mem k with k | k
      · simp [Value.ownBlock] at k
      · exact k
    · exact hn b k
  have hF : Fr (fun k => k = w.heap.size) w4 (w4.setCell ⟨w.heap.size, 0, none⟩ x) := Fr.set (ok := fun k => k = w.heap.size) (Fr.refl _ _) (fun _ => rfl) _ _
  refine ⟨hb.setCell (by simp) _, ?_⟩
  rw [hx]
  refine ⟨r.v, ms, rfl, hst.out.fr hF (fun b hb e => ?_) (fun b hb e => ?_), hr, ?_, fun b hb => Nat.le_of_lt (Nat.lt_of_lt_of_le h2 (hnew b hb))⟩
  · have := hnew b (List.mem_append_left _ (mem_own.2 hb)); omega
  · have := hnew b (List.mem_append_right _ hb); omega
  · exact (hst.lv.sub (List.Sublist.append (List.Sublist.refl _) (List.sublist_cons_self _ _))).le (by simp)
set_option maxHeartbeats 1000000 in
theorem specRead_any (s : ByteArray) (w : World) (hs : s.size ≤ 9223372036854775807) : Calls Tryd.prog 10 #[.string s] w (IsLine s w) := by
  cases hT : (runesP s).isSome with
  | false =>
    have HX : Hid (lineR s = .error (1, 0)) := by unfold Hid lineR; rw [hT]; rfl
    have HT := Lib.hid hT
    clear hT
    go_enter Tryd.func10, Tryd.ntmps10
    go_wp2_with (go_at_call 26; refine (textOk_no s _ hs HT.out).mono ?_; rintro e w1 ⟨rfl, hb1⟩; have hc1 := bcell hb1; have hf1 := bfroz hb1)
    exact bodyPost_ret (v := .tuple #[.agg #[.slice none 0 0], .int .i64 0, .int .i64 1]) (by simp [results, Tryd.results10, go_sem, hc1, hf1]) rfl (isLine_err HX.out ((below_box hb1).setCell (by simp) _))
  | true =>
    have hsz := runesP_size hT
    have HLR : Hid (lineR s = readR s) := by unfold Hid lineR; rw [if_pos hT]
    have HT := Lib.hid hT
    have hsk := skipB_bd s 0
    clear hT
    have hs6 : s.size ≤ 1000000 := by omega
    rcases hv : valR s 8 (skipB s 0) 0 [] with ⟨cc, p⟩ | G
    · have HX : Hid (lineR s = .error (cc, p)) := by unfold Hid; rw [HLR.out]; unfold readR; rw [hv]; rfl
      have hcc := valR_err s 8 _ _ _ _ _ hv
      have hq : (cc == 0) = false := beq_no hcc
      have hq2 : (cc != 0) = true := by rw [bne_iff_ne]; exact hcc
      have HV := Lib.hid fun (g : Nat) (W : World) hW => val_said 8 (Nat.le_refl _) g ⟨s, skipB s 0, 0, 0, 0, 0, .slice none 0 0⟩ [] [] 0 W hW .nil hs6 (show skipB s 0 ≤ s.size by omega) rfl rfl rfl (by omega) (by simp)
      have HV1 := Lib.hid hv
      clear hv hcc HLR
      go_enter Tryd.func10, Tryd.ntmps10
      go_wp2_with (first
        | (go_at_call 26; refine (textOk_yes s _ hs HT.out).mono ?_; rintro e w1 ⟨rfl, hb1⟩; have hc1 := bcell hb1; have hf1 := bfroz hb1; have hz1 : w.heap.size < w1.heap.size := by have := hb1.size; simp at this; omega)
        | (go_at_call 27; refine (blanks_any w1.heap.size ⟨s, 0, 0, 0, 0, 0, .slice none 0 0⟩ _ (Blk.new w1 _ _) hs6 (by show (0 : Nat) ≤ _; omega)).mono ?_; rintro e w2 ⟨rfl, hR, hO⟩; have hST2 := Lib.hid (start_st (w1 := w1) hR hO); have HO := Lib.hid hO)
        | (go_at_call 28; refine (HV.out _ _ hST2.out).mono ?_; rintro e w3 hG; rw [HV1.out] at hG; obtain ⟨hF, ⟨y, rfl⟩, r', hR', hs', rfl, hb', hi'⟩ := hG; obtain ⟨d0, d1, d2, d3, -⟩ := hR'.facts; rw [hb'] at d3; have hFF := Lib.hid (HO.out.frW hF); have hBR := frame_R hb1 hFF.out (show w.heap.size < w1.heap.size by omega); have hcR : w3.cell? ⟨w.heap.size, 0, none⟩ = some (.slice none 0 0) := hBR.cell 0; have hfR := hBR.froz 0; have HBR := Lib.hid hBR; clear hBR))
      go_region
      all_goals
        go_wp2_with fail
        exact bodyPost_ret (v := .tuple #[.agg #[.slice none 0 0], .int .i64 p, .int .i64 r'.code]) (by simp [results, Tryd.results10, go_sem, hcR, hfR]) rfl (isLine_err HX.out (((below_line hb1 hFF.out (show w.heap.size < w1.heap.size by omega)).setCell (by simp) _).drew))
    · obtain ⟨g1, g2, g3, g4, g5, g6, -⟩ := valR_bd s 8 _ _ _ _ hv (by omega)
      have HV := Lib.hid fun (g : Nat) (W : World) hW => val_said 8 (Nat.le_refl _) g ⟨s, skipB s 0, 0, 0, 0, 0, .slice none 0 0⟩ [] [] 0 W hW .nil hs6 (show skipB s 0 ≤ s.size by omega) rfl rfl rfl (by omega) (by simp)
      have HV1 := Lib.hid hv
      have hX : lineR s = if skipB s G.i < s.size then .error (2, skipB s G.i) else .ok G.L := by rw [HLR.out]; unfold readR; rw [hv]; rfl
      have hkk := skipB_bd s G.i
      clear hv HLR
      by_cases hend : skipB s G.i < s.size
      · have HX : Hid (lineR s = .error (2, skipB s G.i)) := by unfold Hid; rw [hX, if_pos hend]
        clear hX
        go_enter Tryd.func10, Tryd.ntmps10
        go_wp2_with (first
        | (go_at_call 26; refine (textOk_yes s _ hs HT.out).mono ?_; rintro e w1 ⟨rfl, hb1⟩; have hc1 := bcell hb1; have hf1 := bfroz hb1; have hz1 : w.heap.size < w1.heap.size := by have := hb1.size; simp at this; omega)
        | (go_at_call 27; refine (blanks_any w1.heap.size ⟨s, G.i, 0, 0, 0, G.b, .slice (some ⟨gv, 0, none⟩) nv cap⟩ _ hST3.out.rd hs6 (show G.i ≤ 2000000 by omega)).mono ?_; rintro e w4 ⟨rfl, hR4, hO4⟩; obtain ⟨d0, d1, d2, d3, -, -, d6⟩ := hR4.facts; simp only [RdS.to] at d0 d1 d2 d3 d6; have df := hR4.free; have hFF := Lib.hid ((HO.out.frW hF).trans (Fr.of_grown (ok := fun k => k = w1.heap.size) hO4 fun k _ he => by injection he with he; exact he.symm) fun i _ hk => hk); have hBR := frame_R hb1 hFF.out (show w.heap.size < w1.heap.size by omega); have hcR : w4.cell? ⟨w.heap.size, 0, none⟩ = some (.slice none 0 0) := hBR.cell 0; have hfR := hBR.froz 0; have HBR := Lib.hid hBR; clear hBR; have hST4 := Lib.hid (hST3.out.step hR4 rfl hO4))
        | (go_at_call 27; refine (blanks_any w1.heap.size ⟨s, 0, 0, 0, 0, 0, .slice none 0 0⟩ _ (Blk.new w1 _ _) hs6 (by show (0 : Nat) ≤ _; omega)).mono ?_; rintro e w2 ⟨rfl, hR, hO⟩; have hST2 := Lib.hid (start_st (w1 := w1) hR hO); have HO := Lib.hid hO)
        | (go_at_call 28; refine (HV.out _ _ hST2.out).mono ?_; rintro e w3 hG; rw [HV1.out] at hG; obtain ⟨hF, rfl, v, ms, hST, hRp, hLs, hnw⟩ := hG; obtain ⟨gv, cap, nv, rfl⟩ := own_shape hST.out.own (by rw [hRp.length]; simp at g6; exact g6); have hST3 := Lib.hid hST; obtain ⟨b0, b1, b2, -⟩ := hST.rd.facts; simp only [] at b0 b1 b2; clear hST)
        | (go_at_call 29; refine (fail_any w1.heap.size ⟨s, skipB s G.i, 0, 0, 0, G.b, .slice (some ⟨gv, 0, none⟩) nv cap⟩ _ _ _ hST4.out.rd).mono ?_; rintro e w5 ⟨rfl, hR5, hO5⟩; rw [RdS.failS_yes rfl] at hR5; obtain ⟨e0, e1, e2, e3, -⟩ := hR5.facts; have hFF5 := Lib.hid (hFF.out.trans (Fr.of_grown (ok := fun k => k = w1.heap.size) hO5 fun k _ he => by injection he with he; exact he.symm) fun i _ hk => hk); have hBR := frame_R hb1 hFF5.out (show w.heap.size < w1.heap.size by omega); have hcR5 : w5.cell? ⟨w.heap.size, 0, none⟩ = some (.slice none 0 0) := hBR.cell 0; have hfR5 := hBR.froz 0; clear hBR))
        go_region
        all_goals
          go_wp2_with fail
          exact bodyPost_ret (v := .tuple #[.agg #[.slice none 0 0], .int .i64 (skipB s G.i), .int .i64 2]) (by simp [results, Tryd.results10, go_sem, hcR5]) rfl (isLine_err HX.out (((below_line hb1 hFF5.out (show w.heap.size < w1.heap.size by omega)).setCell (by simp) _).drew))
      · have HX : Hid (lineR s = .ok G.L) := by unfold Hid; rw [hX, if_neg hend]
        clear hX
        go_enter Tryd.func10, Tryd.ntmps10
        go_wp2_with (first
        | (go_at_call 26; refine (textOk_yes s _ hs HT.out).mono ?_; rintro e w1 ⟨rfl, hb1⟩; have hc1 := bcell hb1; have hf1 := bfroz hb1; have hz1 : w.heap.size < w1.heap.size := by have := hb1.size; simp at this; omega)
        | (go_at_call 27; refine (blanks_any w1.heap.size ⟨s, G.i, 0, 0, 0, G.b, .slice (some ⟨gv, 0, none⟩) nv cap⟩ _ hST3.out.rd hs6 (show G.i ≤ 2000000 by omega)).mono ?_; rintro e w4 ⟨rfl, hR4, hO4⟩; obtain ⟨d0, d1, d2, d3, -, -, d6⟩ := hR4.facts; simp only [RdS.to] at d0 d1 d2 d3 d6; have df := hR4.free; have hFF := Lib.hid ((HO.out.frW hF).trans (Fr.of_grown (ok := fun k => k = w1.heap.size) hO4 fun k _ he => by injection he with he; exact he.symm) fun i _ hk => hk); have hBR := frame_R hb1 hFF.out (show w.heap.size < w1.heap.size by omega); have hcR : w4.cell? ⟨w.heap.size, 0, none⟩ = some (.slice none 0 0) := hBR.cell 0; have hfR := hBR.froz 0; have HBR := Lib.hid hBR; clear hBR; have hST4 := Lib.hid (hST3.out.step hR4 rfl hO4))
        | (go_at_call 27; refine (blanks_any w1.heap.size ⟨s, 0, 0, 0, 0, 0, .slice none 0 0⟩ _ (Blk.new w1 _ _) hs6 (by show (0 : Nat) ≤ _; omega)).mono ?_; rintro e w2 ⟨rfl, hR, hO⟩; have hST2 := Lib.hid (start_st (w1 := w1) hR hO); have HO := Lib.hid hO)
        | (go_at_call 28; refine (HV.out _ _ hST2.out).mono ?_; rintro e w3 hG; rw [HV1.out] at hG; obtain ⟨hF, rfl, v, ms, hST, hRp, hLs, hnw⟩ := hG; obtain ⟨gv, cap, nv, rfl⟩ := own_shape hST.out.own (by rw [hRp.length]; simp at g6; exact g6); have hST3 := Lib.hid hST; obtain ⟨b0, b1, b2, -⟩ := hST.rd.facts; simp only [] at b0 b1 b2; clear hST)
        | fail)
        exact bodyPost_ret (v := .tuple #[.agg #[.slice (some ⟨gv, 0, none⟩) nv cap], .int .i64 0, .int .i64 0]) (by simp [results, Tryd.results10, go_sem, hcR]) rfl (isLine_ok HX.out (below_line hb1 hFF.out (show w.heap.size < w1.heap.size by omega)) hST4.out (by simpa using hRp) hLs hnw (by have := HO.out.size; simp at this; omega) (show w.heap.size < w1.heap.size by omega))
end Go.Proofs.YtlpgkpaogadolaaDoor
