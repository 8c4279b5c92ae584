/- The reference's JSON reader: lists, walked. -/
import Derived.Test.YtlpgkpaogadolaaDoorJsonSpecK
namespace Go.Proofs.YtlpgkpaogadolaaDoor
open Go.RowKit
set_option maxRecDepth 100000

/-- A list's loop: on the way. -/
def ListGo (w0 : World) (g : Nat) (r0 : RdS) (ns : List Nd) (V : ValF) (X : Rd Got) (gk : Nat) (sk : Value) (wr : World) : Prop :=
  ∃ (k j b : Nat) (v : Value) (ms : List Nd) (kids : List Int) (sv : Value) (f : Nat) (L : List JN), sk = .int .i64 k ∧ k ≤ j ∧ GS w0 g r0 ns false wr j b v ms [] kids (.slice none 0 0) sv ∧ Reps (ns ++ ms) L ∧ j ≤ r0.s.size ∧ b ≤ 200 ∧ L.length ≤ b ∧ kids.length ≤ L.length ∧ r0.s.size + 1 - j ≤ f ∧ r0.s.size + 2 - j < gk ∧
    ((k = 0 ∧ kids = [] ∧ X = if pk r0.s j = 93 then .ok ⟨j + 1, b, L ++ [⟨6, ⟨#[]⟩, [], []⟩]⟩ else itemsR r0.s false V f j b L [] []) ∨ (1 ≤ k ∧ X = itemsR r0.s false V f j b L [] kids))
def GrpBad (w0 : World) (g : Nat) (r0 : RdS) (X : Rd Got) (gk : Nat) (sk : Value) (wr : World) : Prop :=
  ∃ (k : Nat) (c : Int) (p : Nat) (r' : RdS), sk = .int .i64 k ∧ k ≤ 2000000 ∧ RdAt wr g r' ∧ r'.s = r0.s ∧ r'.code = c ∧ r'.bad = p ∧ r'.i ≤ 1000010 ∧ c ≠ 0 ∧ X = .error (c, p) ∧ Fr (RdOk g r0.v) w0 wr ∧ 0 < gk
theorem info_str : (Tryd.prog.info? 9).map (fun i => (i.zero, i.size, i.bytes)) = some (some (.string ⟨#[]⟩), 1, 16) := by kernel_rfl
theorem Blk.new' (w : World) (cs : Array Value) (t : TypeId) {n : Nat} (h : n = w.heap.size) : Blk (w.alloc (.cells cs t)) n cs t := by subst h; exact heap_alloc_new w _
theorem one1 {a : Value} (ha : a.oneCell' = true) : ∀ u ∈ [a], u.oneCell' = true := fun u hu => by rw [List.mem_singleton.1 hu]; exact ha
theorem skipB_le (s : ByteArray) (i : Nat) : skipB s i ≤ i + (s.size - i) := (skipN_bd s (s.size - i) i).2
theorem RdAt.setFar {w : World} {g : Nat} {r : RdS} (h : RdAt w g r) {k : Nat} (hk : g ≠ k) (i : Nat) (x : Value) : RdAt (w.setCell ⟨k, i, none⟩ x) g r := Blk.kept h (Below.heap_setCell _ _ _ _ hk)
theorem GS.fr_bad {w0 wr w1 w3 : World} {g : Nat} {r0 : RdS} {ns ms : List Nd} {obj : Bool} {j b : Nat} {v kv sv : Value} {keys : List ByteArray} {kids : List Int} {o : Obj} (h : GS w0 g r0 ns obj wr j b v ms keys kids kv sv) (hF : Fr (RdOk g v) wr w1) (hg : (w1.alloc o).grownBy w3 sv.ownBlock) (i : Nat) (x : Value) : Fr (RdOk g r0.v) w0 (w3.setCell ⟨w0.heap.size, i, none⟩ x) := by
  refine Fr.set (?_ : Fr (RdOk g r0.v) w0 w3) (fun h => by omega) _ _
  have h1 : Fr (RdOk g r0.v) w0 w1 := h.fr.trans hF fun i hi hk => by
    rcases hk with hk | hk
    · exact .inl hk
    · rcases h.lies with k | ⟨c, k1, k2⟩
      · exact .inr (k ▸ hk)
      · rw [hk] at k1; injection k1 with k1; omega
  refine (h1.alloc o).trans (Fr.of_grown (ok := fun k => sv.ownBlock = some k) hg fun k _ he => he) fun i hi hk => ?_
  have := h.new i (List.mem_append_right _ (List.mem_append_right _ (mem_own.2 hk)))
  omega
theorem GS.fr_only {w0 wr w1 : World} {g : Nat} {r0 : RdS} {ns ms : List Nd} {obj : Bool} {j b : Nat} {v kv sv : Value} {keys : List ByteArray} {kids : List Int} (h : GS w0 g r0 ns obj wr j b v ms keys kids kv sv) (hO : Only g wr w1) : Fr (RdOk g r0.v) w0 w1 :=
  h.fr.trans (Fr.of_grown (ok := fun k => k = g) hO fun k _ he => by injection he with he; exact he.symm) fun i _ hk => .inl hk
attribute [local go_sem ↓] Go.wp_at_zero Go.wp_at_succ
set_option maxHeartbeats 4000000 in
theorem group_list (d : Nat) (HV : Hid (ValSaid d)) (hd8 : d < 8) (g : Nat) (r : RdS) (ns : List Nd) (L : List JN) (b : Nat) (w : World) (hst : SpecSt w g r ns) (hL : Reps ns L) (hs : r.s.size ≤ 1000000) (hi : r.i < r.s.size) (hc : r.code = 0) (hd : r.deep = 8 - ((d + 1 : Nat) : Int)) (hb : r.begun = (b : Int)) (hb2 : b ≤ 200) (hlb : L.length ≤ b) :
    Calls Tryd.prog 61 #[.pointer (some ⟨g, 0, none⟩), .int .i64 91] w (IsGot g r ns (groupR r.s (some (valR r.s d)) false r.i b L) w) := by
  obtain ⟨c0, c1, c2, c3, c4, -⟩ := hst.rd.facts
  have hf := hst.rd.free
  have hg := Blk.lt hst.rd
  have hd2 : (r.deep == 8) = false := beq_no (by omega)
  have hdb : 0 ≤ r.deep ∧ r.deep ≤ 8 := by omega
  have hsk := skipB_bd r.s (r.i + 1)
  have HST := Lib.hid hst
  have HC := Lib.hid hc
  have HD := Lib.hid hd
  have HB := Lib.hid hb
  have HL := Lib.hid hL
  clear hst hc hd hb hL
  go_enter Tryd.func61, Tryd.ntmps61
  go_wp2_with (go_at_call 27; refine (blanks_any g { r with i := r.i + 1, deep := r.deep + 1 } _ (Blk.alloc (Blk.set (Blk.set HST.out.rd 4 _) 1 _) _) hs (show r.i + 1 ≤ 2000000 by omega)).mono ?_; rintro e w' ⟨rfl, hR, hO⟩)
  have HX0 := Lib.hid (Eq.refl (groupR r.s (some (valR r.s d)) false r.i b L))
  have HG0 : Hid (GS w g r ns false w' (skipB r.s (r.i + 1)) b r.v [] [] [] (.slice none 0 0) (.slice none 0 0)) := by
    have hF : Fr (fun k => k = g) w (((w.setCell ⟨g, 4, none⟩ (.int .i64 (r.deep + 1))).setCell ⟨g, 1, none⟩ (.int .i64 ((r.i : Int) + 1))).alloc (.cells #[.int .i64 6, .string ⟨#[]⟩, .slice none 0 0, .slice none 0 0] 44)) :=
      (Fr.set (ok := fun k => k = g) (Fr.set (ok := fun k => k = g) (Fr.refl _ _) (fun _ => rfl) _ _) (fun _ => rfl) _ _).alloc _
    refine GS.start HST.out (hF.trans (ok' := fun k => k = g) (Fr.of_grown hO fun k _ he => by injection he with he; exact he.symm) fun i _ hk => hk) ?_ ?_
    · have e : ({ r with i := r.i + 1, deep := r.deep + 1 } : RdS).to (skipB r.s (r.i + 1)) = { r with i := skipB r.s (r.i + 1), deep := r.deep + 1, begun := (b : Int) } := by unfold RdS.to; rw [← HB.out]
      rw [← e]; exact hR
    · refine Blk.kept (Blk.new' _ _ _ (by simp)) (hO.block _ (by simp) (fun e => by injection e with e; omega))
  have hX0 : groupR r.s (some (valR r.s d)) false r.i b L = if pk r.s (skipB r.s (r.i + 1)) = 93 then .ok ⟨skipB r.s (r.i + 1) + 1, b, L ++ [⟨6, ⟨#[]⟩, [], []⟩]⟩ else itemsR r.s false (valR r.s d) (r.s.size + 1 - skipB r.s (r.i + 1)) (skipB r.s (r.i + 1)) b L [] [] := rfl
  generalize groupR r.s (some (valR r.s d)) false r.i b L = X at *
  clear HX0
  have HX := Lib.hid hX0
  clear hX0 c0 c1 c2 c3 c4 hf hR hO
  go_loopg [7] (r.s.size + 3) (fun gk sk wr => ListGo w g r ns (valR r.s d) X gk sk wr ∨ GrpBad w g r X gk sk wr)
  case atStart => exact .inl ⟨0, _, b, r.v, [], [], .slice none 0 0, r.s.size + 1 - skipB r.s (r.i + 1), L, rfl, by omega, HG0.out, by rw [List.append_nil]; exact HL.out, by omega, hb2, hlb, by simp, by omega, by omega, .inl ⟨rfl, rfl, HX.out⟩⟩
  case round =>
    clear HX HG0
    rcases hrel with hrel | hrel
    · obtain ⟨k, j, b1, v, ms, kids, sv, f, L1, rfl, hkj, hgs, hrep, hj, hb1, hlb1, hkl, hfj, hgk, hx⟩ := hrel
      obtain ⟨c0, c1, c2, c3, c4, c5, c6⟩ := hgs.rd.facts
      simp only [] at c0 c1 c2 c3 c4 c5 c6
      rw [HC.out] at c2
      have hf := hgs.rd.free
      have n0 : wr.cell? ⟨w.heap.size, 0, none⟩ = some (.int .i64 6) := hgs.blk.cell 0
      have n1 : wr.cell? ⟨w.heap.size, 1, none⟩ = some (.string ⟨#[]⟩) := hgs.blk.cell 1
      have n2 : wr.cell? ⟨w.heap.size, 2, none⟩ = some (.slice none 0 0) := hgs.blk.cell 2
      have n3 : wr.cell? ⟨w.heap.size, 3, none⟩ = some sv := hgs.blk.cell 3
      have HGS := Lib.hid hgs
      have HREP := Lib.hid hrep
      clear hgs hrep
      have hpk := peekV_range { r with i := j, deep := r.deep + 1, begun := (b1 : Int), v := v }
      by_cases hend : k = 0 ∧ pk r.s j = 93
      · obtain ⟨rfl, hpe⟩ := hend
        have hp : peekV { r with i := j, deep := r.deep + 1, begun := (b1 : Int), v := v } = 93 := (peekV_eq _ 93 (by omega)).2 hpe
        have HX : Hid (kids = [] ∧ X = .ok ⟨j + 1, b1, L1 ++ [⟨6, ⟨#[]⟩, [], []⟩]⟩) := by
          rcases hx with ⟨_, h1, h2⟩ | ⟨h1, _⟩
          · exact ⟨h1, by rw [h2, if_pos hpe]⟩
          · omega
        have HXK : Hid (X = .ok ⟨j + 1, b1, L1 ++ [⟨kindG false, ⟨#[]⟩, [], kids⟩]⟩) := by unfold Hid; rw [HX.out.2, HX.out.1]; rfl
        clear hx hpe
        go_wp2_with (first
          | (go_at_call 56; refine (peek_any g _ _ HGS.out.rd hs).mono ?_; rintro e w' ⟨rfl, m, rfl⟩)
          | (go_at_call 59; have hO : Only g wr (((wr.drewN m).setCell ⟨g, 1, none⟩ (.int .i64 ((j : Int) + 1))).setCell ⟨g, 4, none⟩ (.int .i64 r.deep)) := ((((Only.refl g wr).drewN _).set 1 _).set 4 _); refine (put_any g { r with i := j + 1, begun := (b1 : Int), v := v } (ns ++ ms) ⟨kindG false, ⟨#[]⟩, [], kids⟩ (.slice none 0 0) sv _ (HGS.out.spec.step (r' := { r with i := j + 1, begun := (b1 : Int), v := v }) (Blk.set (Blk.set (HGS.out.rd.drewN _) 1 _) 4 _) rfl hO) (HGS.out.rows_at hO) (HGS.out.put_lv.le hO.size) (by rw [HREP.out.length]; omega)).mono ?_; rintro e w' hP; have hG := HGS.out.fin HREP.out (HXK.out) hO hP; obtain ⟨y, rfl⟩ := hG.int; clear hP))
        go_ret
        exact hG
      · obtain ⟨f, rfl⟩ : ∃ f', f = f' + 1 := ⟨f - 1, by omega⟩
        have hX1 : X = itemsR r.s false (valR r.s d) (f + 1) j b1 L1 [] kids := by
          rcases hx with ⟨h0, h1, h2⟩ | ⟨_, h2⟩
          · rw [h2, if_neg (fun e => hend ⟨h0, e⟩), h1]
          · exact h2
        have hX2 : X = (valR r.s d j b1 L1).bind fun G => if pk r.s (skipB r.s G.i) = 93 then .ok ⟨skipB r.s G.i + 1, G.b, G.L ++ [⟨6, ⟨#[]⟩, [], kids ++ [(G.L.length : Int) - 1]⟩]⟩ else if pk r.s (skipB r.s G.i) ≠ 44 then .error (2, skipB r.s G.i) else itemsR r.s false (valR r.s d) f (skipB r.s (skipB r.s G.i + 1)) G.b G.L [] (kids ++ [(G.L.length : Int) - 1]) := hX1
        have hcond : (k = 0 ∧ (peekV { r with i := j, deep := r.deep + 1, begun := (b1 : Int), v := v } != 93) = true) ∨ 1 ≤ k := by
          rcases Nat.eq_zero_or_pos k with h0 | h0
          · refine .inl ⟨h0, ?_⟩
            rw [bne_iff_ne]
            exact fun e => hend ⟨h0, (peekV_eq _ 93 (by omega)).1 e⟩
          · exact .inr h0
        clear hx hend hX1
        have HVV := Lib.hid fun W hW => HV.out g { r with i := j, deep := r.deep + 1, begun := (b1 : Int), v := v } (ns ++ ms) L1 b1 W hW HREP.out hs hj HC.out (by have := HD.out; simp only []; omega) rfl hb1 hlb1
        have HX2 := Lib.hid hX2
        clear hX2
        go_upto_region 12 with fail
        go_cut [56] (fun sc wx => sc = .bool true ∧ GS w g r ns false wx j b1 v ms [] kids (.slice none 0 0) sv)
        case first =>
          rcases hcond with ⟨rfl, hcond⟩ | hcond
          all_goals
            go_wp2_with (go_at_call 56; refine (peek_any g _ _ HGS.out.rd hs).mono ?_; rintro e w' ⟨rfl, m, rfl⟩)
            go_meet
            exact ⟨rfl, by first | exact HGS.out | exact HGS.out.drewN _⟩
        case rest =>
          clear c0 c1 c2 c3 c4 c5 c6 hf n0 n1 n2 n3 hcond HGS
          obtain ⟨rfl, hgx⟩ := hcut
          obtain ⟨c0, c1, c2, c3, c4, c5, c6⟩ := hgx.rd.facts
          simp only [] at c0 c1 c2 c3 c4 c5 c6
          rw [HC.out] at c2
          have n0 := hgx.blk.cell 0
          have HGX := Lib.hid hgx
          clear hgx
          have hN := Blk.lt HGX.out.blk
          go_upto_region 31 with fail
          rcases hv : valR r.s d j b1 L1 with ⟨cc, p⟩ | G
          · have HX : Hid (X = .error (cc, p)) := by unfold Hid; rw [HX2.out, hv]; rfl
            have hcc := valR_err r.s d _ _ _ _ _ hv
            have HV1 := Lib.hid hv
            clear HX2 hv
            go_cut [] (fun wx => ∃ r', RdAt wx g r' ∧ r'.s = r.s ∧ r'.code = cc ∧ r'.bad = p ∧ r'.i ≤ 1000010 ∧ Fr (RdOk g r.v) w wx)
            case first =>
              obtain ⟨i0, hi0, hzz⟩ := Option.map_eq_some_iff.1 info_int
              simp only [Prod.mk.injEq] at hzz
              obtain ⟨hz0, hz1, hz2⟩ := hzz
              have HI := Lib.hid hi0
              clear hi0
              have n3 : wc.cell? ⟨w.heap.size, 3, none⟩ = some sv := HGX.out.blk.cell 3
              have nf : ∀ i, wc.frozen? ⟨w.heap.size, i, none⟩ = false := HGX.out.blk.froz
              have HNE := Lib.hid HGX.out.ne_s
              go_region_law (first
                | (go_simp; go_at_call 28; refine (HVV.out _ HGX.out.drew1.spec).mono ?_; rintro e w1 hG; rw [HV1.out] at hG; obtain ⟨hF1, ⟨y, rfl⟩, r', hR', hs', hc', hb', hi'⟩ := hG; have hs1 : w1.ownsRow 0 3 1 sv kids.length (ints kids) := own_fr HGX.out.drew1.kids hF1 (fun a ha => HGX.out.far_s ha); have hB1 : Blk w1 w.heap.size #[.int .i64 (kindG false), .string ⟨#[]⟩, .slice none 0 0, sv] 44 := Blk.kept HGX.out.drew1.blk (hF1.block _ hN HGX.out.far_N); have m3 : w1.cell? ⟨w.heap.size, 3, none⟩ = some sv := hB1.cell 3; have hN1 := Blk.lt hB1)
                | (refine step_append_lies _ (by rfl) _ _ _ (by rfl) 0 3 i0 _ 1 8 Tryd.underlying42 HI.out hz0 hz1 hz2 rfl (by omega) sv kids.length (ints kids) (by rfl) (hs1.alloc _) ⟨w1.heap.size, 0, none⟩ 1 1 [.int .i64 y] (by rfl) rfl (World.news_of_block (cs := #[.int .i64 y]) (t := 3) (fr := (0, 0)) (heap_alloc_new w1 _)) (one1 rfl) (by omega) (by simp only [maxLen]; omega) (by omega) (by omega) (w1.heap.size + 1) (by simp) ?_; intro gb cap w3 hown3 hgrow hat hlt; have hB3 : Blk w3 w.heap.size #[.int .i64 (kindG false), .string ⟨#[]⟩, .slice none 0 0, sv] 44 := (Blk.kept (Blk.alloc hB1 _) (hgrow.block _ (by simp; omega) HNE.out)); have q3 : w3.cell? ⟨w.heap.size, 3, none⟩ = some sv := hB3.cell 3; have qf : ∀ i, w3.frozen? ⟨w.heap.size, i, none⟩ = false := hB3.froz))
              all_goals
                go_wp2_with fail
                go_meet
                exact ⟨r', RdAt.setFar (RdAt.grown (Blk.alloc hR' _) hgrow HGX.out.ne_gs) (by omega) _ _, hs', hc', hb', hi', HGX.out.drew1.fr_bad hF1 hgrow _ _⟩
            case rest =>
              clear c0 c1 c2 c3 c4 c5 c6 n0 HGX
              obtain ⟨r', hR, hs', rfl, hb', hi', hF⟩ := hcut
              have hq : (r'.code == 0) = false := beq_no hcc
              have hq2 : (r'.code != 0) = true := by rw [bne_iff_ne]; exact hcc
              have hs2 : r'.s.size ≤ 1000000 := by rw [hs']; exact hs
              have hsk2 := skipB_le r'.s r'.i
              have HRW := Lib.hid hR
              have HFW := Lib.hid hF
              have HBD := Lib.hid hb'
              have HSS := Lib.hid hs'
              clear hR hF hcc hb' hs'
              go_wp2_with (go_at_call 27; refine (blanks_any g r' _ HRW.out hs2 (by omega)).mono ?_; rintro e w' ⟨rfl, hR, hO⟩; obtain ⟨e0, e1, e2, -⟩ := hR.facts; simp only [RdS.to] at e0 e1 e2)
              go_ret
              exact isGot_err HX.out (HFW.out.trans (hO.fr r.v) fun i _ hk => hk) hR HSS.out rfl HBD.out (by show skipB _ _ ≤ _; omega)
          · have HX3 : Hid (X = if pk r.s (skipB r.s G.i) = 93 then .ok ⟨skipB r.s G.i + 1, G.b, G.L ++ [⟨6, ⟨#[]⟩, [], kids ++ [(G.L.length : Int) - 1]⟩]⟩ else if pk r.s (skipB r.s G.i) ≠ 44 then .error (2, skipB r.s G.i) else itemsR r.s false (valR r.s d) f (skipB r.s (skipB r.s G.i + 1)) G.b G.L [] (kids ++ [(G.L.length : Int) - 1])) := by unfold Hid; rw [HX2.out, hv]; rfl
            obtain ⟨g1, g2, g3, g4, g5, g6, -⟩ := valR_bd r.s d _ _ _ _ hv hb1
            have hk2 := skipB_bd r.s G.i
            have hk3 := skipB_bd r.s (skipB r.s G.i + 1)
            have HV1 := Lib.hid hv
            clear HX2 hv
            go_cut [] (fun wx => ∃ v2 ms2 sv2, GS w g r ns false wx G.i G.b v2 ms2 [] (kids ++ [(G.L.length : Int) - 1]) (.slice none 0 0) sv2 ∧ Reps (ns ++ ms2) G.L)
            case first =>
              obtain ⟨i0, hi0, hzz⟩ := Option.map_eq_some_iff.1 info_int
              simp only [Prod.mk.injEq] at hzz
              obtain ⟨hz0, hz1, hz2⟩ := hzz
              have HI := Lib.hid hi0
              clear hi0
              have n3 : wc.cell? ⟨w.heap.size, 3, none⟩ = some sv := HGX.out.blk.cell 3
              have nf : ∀ i, wc.frozen? ⟨w.heap.size, i, none⟩ = false := HGX.out.blk.froz
              have HNE := Lib.hid HGX.out.ne_s
              go_region_law (first
                | (go_simp; go_at_call 28; refine (HVV.out _ HGX.out.drew1.spec).mono ?_; rintro e w1 hG; rw [HV1.out] at hG; obtain ⟨rfl, v2, ms2, hgs1, hrep1⟩ := HGX.out.drew1.got hG; have hB1 := hgs1.blk; have m3 : w1.cell? ⟨w.heap.size, 3, none⟩ = some sv := hB1.cell 3; have hN1 := Blk.lt hB1)
                | (refine step_append_lies _ (by rfl) _ _ _ (by rfl) 0 3 i0 _ 1 8 Tryd.underlying42 HI.out hz0 hz1 hz2 rfl (by omega) sv kids.length (ints kids) (by rfl) (hgs1.kids.alloc _) ⟨w1.heap.size, 0, none⟩ 1 1 [.int .i64 ((G.L.length : Int) - 1)] (by rfl) rfl (World.news_of_block (cs := #[.int .i64 ((G.L.length : Int) - 1)]) (t := 3) (fr := (0, 0)) (heap_alloc_new w1 _)) (one1 rfl) (by omega) (by simp only [maxLen]; omega) (by omega) (by omega) (w1.heap.size + 1) (by simp) ?_; intro gb cap w3 hown3 hgrow hat hlt; have hB3 : Blk w3 w.heap.size #[.int .i64 (kindG false), .string ⟨#[]⟩, .slice none 0 0, sv] 44 := (Blk.kept (Blk.alloc hB1 _) (hgrow.block _ (by simp; omega) HNE.out)); have q3 : w3.cell? ⟨w.heap.size, 3, none⟩ = some sv := hB3.cell 3; have qf : ∀ i, w3.frozen? ⟨w.heap.size, i, none⟩ = false := hB3.froz))
              all_goals
                go_wp2_with fail
                go_meet
                exact ⟨v2, ms2, _, hgs1.kid (World.grownBy.trans (World.grownBy_alloc w1 _ _) hgrow) hown3 (Lies.of (hat.imp id fun h => by omega) rfl), hrep1⟩
            case rest =>
              clear c0 c1 c2 c3 c4 c5 c6 n0 HGX
              obtain ⟨v2, ms2, sv2, hg4, hrep1⟩ := hcut
              have HG4 := Lib.hid hg4
              have HREP1 := Lib.hid hrep1
              clear hg4 hrep1
              have hgo : ∀ (W : World), RdAt W g (RdS.to { r with i := G.i, deep := r.deep + 1, begun := (G.b : Int), v := v2 } (skipB r.s G.i)) → RdAt W g { r with i := skipB r.s G.i, deep := r.deep + 1, begun := (G.b : Int), v := v2 } := fun W h => h
              have HGO := Lib.hid hgo
              clear hgo
              by_cases h93 : pk r.s (skipB r.s G.i) = 93
              · have HX : Hid (X = .ok ⟨skipB r.s G.i + 1, G.b, G.L ++ [⟨kindG false, ⟨#[]⟩, [], kids ++ [(G.L.length : Int) - 1]⟩]⟩) := by unfold Hid; rw [HX3.out, if_pos h93]; rfl
                have hp : peekV { r with i := skipB r.s G.i, deep := r.deep + 1, begun := (G.b : Int), v := v2 } = 93 := (peekV_eq _ 93 (by omega)).2 h93
                clear h93
                have hlk : (kids ++ [(G.L.length : Int) - 1]).length ≤ 1000 := by simp; omega
                go_wp2_with (first
                  | (go_at_call 27; refine (blanks_any g { r with i := G.i, deep := r.deep + 1, begun := (G.b : Int), v := v2 } _ HG4.out.rd hs (show G.i ≤ 2000000 by omega)).mono ?_; rintro e w5 ⟨rfl, hR5, hO5⟩; have HG5 := Lib.hid (HG4.out.only (HGO.out _ hR5) hO5); obtain ⟨e0, e1, e2, e3, e4, -⟩ := HG5.out.rd.facts; simp only [] at e0 e1 e2 e3 e4; rw [HC.out] at e2; have ef := HG5.out.rd.free; have m0 : w5.cell? ⟨w.heap.size, 0, none⟩ = some (.int .i64 6) := HG5.out.blk.cell 0; have m1 : w5.cell? ⟨w.heap.size, 1, none⟩ = some (.string ⟨#[]⟩) := HG5.out.blk.cell 1; have m2 : w5.cell? ⟨w.heap.size, 2, none⟩ = some (.slice none 0 0) := HG5.out.blk.cell 2; have m3 : w5.cell? ⟨w.heap.size, 3, none⟩ = some sv2 := HG5.out.blk.cell 3)
                  | (go_at_call 56; refine (peek_any g _ _ HG5.out.rd hs).mono ?_; rintro e w' ⟨rfl, m, rfl⟩)
                  | (go_at_call 59; have hO : Only g w5 (((w5.drewN m).setCell ⟨g, 1, none⟩ (.int .i64 ((skipB r.s G.i : Nat) + 1))).setCell ⟨g, 4, none⟩ (.int .i64 r.deep)) := ((((Only.refl g w5).drewN _).set 1 _).set 4 _); refine (put_any g { r with i := skipB r.s G.i + 1, begun := (G.b : Int), v := v2 } (ns ++ ms2) ⟨kindG false, ⟨#[]⟩, [], kids ++ [(G.L.length : Int) - 1]⟩ (.slice none 0 0) sv2 _ (HG5.out.spec.step (r' := { r with i := skipB r.s G.i + 1, begun := (G.b : Int), v := v2 }) (Blk.set (Blk.set (HG5.out.rd.drewN _) 1 _) 4 _) rfl hO) (HG5.out.rows_at hO) (HG5.out.put_lv.le hO.size) (by rw [HREP1.out.length]; omega)).mono ?_; rintro e w' hP; have hG := HG5.out.fin HREP1.out HX.out hO hP; obtain ⟨y, rfl⟩ := hG.int; clear hP))
                go_ret
                exact hG
              · have hp : (peekV { r with i := skipB r.s G.i, deep := r.deep + 1, begun := (G.b : Int), v := v2 } == 93) = false := beq_no (fun e => h93 ((peekV_eq _ 93 (by omega)).1 e))
                by_cases h44 : pk r.s (skipB r.s G.i) = 44
                · have hlt := pk_lt (s := r.s) (i := skipB r.s G.i) (by omega)
                  have HX : Hid (X = itemsR r.s false (valR r.s d) f (skipB r.s (skipB r.s G.i + 1)) G.b G.L [] (kids ++ [(G.L.length : Int) - 1])) := by unfold Hid; rw [HX3.out, if_neg h93, if_neg (fun e => e h44)]
                  have HW : Hid (RdS.wantS { r with i := skipB r.s G.i, deep := r.deep + 1, begun := (G.b : Int), v := v2 } 44 = { r with i := skipB r.s G.i + 1, deep := r.deep + 1, begun := (G.b : Int), v := v2 }) := by unfold Hid; rw [RdS.wantS_yes ((peekV_eq _ 44 (by omega)).2 h44)]; rfl
                  clear h93 h44
                  go_wp2_with (first
                    | (go_at_call 27; refine (blanks_any g { r with i := G.i, deep := r.deep + 1, begun := (G.b : Int), v := v2 } _ HG4.out.rd hs (show G.i ≤ 2000000 by omega)).mono ?_; rintro e w5 ⟨rfl, hR5, hO5⟩; have HG5 := Lib.hid (HG4.out.only (HGO.out _ hR5) hO5); obtain ⟨e0, e1, e2, e3, e4, -⟩ := HG5.out.rd.facts; simp only [] at e0 e1 e2 e3 e4; rw [HC.out] at e2; have ef := HG5.out.rd.free; have m0 : w5.cell? ⟨w.heap.size, 0, none⟩ = some (.int .i64 6) := HG5.out.blk.cell 0; have m1 : w5.cell? ⟨w.heap.size, 1, none⟩ = some (.string ⟨#[]⟩) := HG5.out.blk.cell 1; have m2 : w5.cell? ⟨w.heap.size, 2, none⟩ = some (.slice none 0 0) := HG5.out.blk.cell 2; have m3 : w5.cell? ⟨w.heap.size, 3, none⟩ = some sv2 := HG5.out.blk.cell 3)
                    | (go_at_call 56; refine (peek_any g _ _ HG5.out.rd hs).mono ?_; rintro e w' ⟨rfl, m, rfl⟩)
                    | (go_at_call 58; refine (want_any g { r with i := skipB r.s G.i, deep := r.deep + 1, begun := (G.b : Int), v := v2 } 44 _ (HG5.out.rd.drewN _) hs (show skipB r.s G.i ≤ 2000000 by omega)).mono ?_; rintro e w6 ⟨rfl, hR6, hO6⟩; rw [HW.out] at hR6; have HG6 := Lib.hid (HG5.out.only hR6 (((Only.refl g w5).drewN m).trans hO6)))
                    | (go_at_call 27; refine (blanks_any g { r with i := skipB r.s G.i + 1, deep := r.deep + 1, begun := (G.b : Int), v := v2 } _ HG6.out.rd hs (show skipB r.s G.i + 1 ≤ 2000000 by omega)).mono ?_; rintro e w7 ⟨rfl, hR7, hO7⟩; have HG7 := Lib.hid (HG6.out.only (j' := skipB r.s (skipB r.s G.i + 1)) hR7 hO7)))
                  go_roundg (r.s.size + 2 - skipB r.s (skipB r.s G.i + 1) + 1)
                  case measure => omega
                  case rel => exact .inl ⟨k + 1, skipB r.s (skipB r.s G.i + 1), G.b, v2, ms2, kids ++ [(G.L.length : Int) - 1], sv2, f, G.L, by go_num, by omega, HG7.out, HREP1.out, by omega, by omega, by omega, by simp; omega, by omega, by omega, .inr ⟨by omega, HX.out⟩⟩
                · have HX : Hid (X = .error (2, skipB r.s G.i)) := by unfold Hid; rw [HX3.out, if_neg h93, if_pos h44]
                  have HW : Hid (RdS.wantS { r with i := skipB r.s G.i, deep := r.deep + 1, begun := (G.b : Int), v := v2 } 44 = { r with i := skipB r.s G.i, deep := r.deep + 1, begun := (G.b : Int), v := v2, code := 2, bad := (skipB r.s G.i : Nat) }) := by unfold Hid; rw [RdS.wantS_no (fun e => h44 ((peekV_eq _ 44 (by omega)).1 e)), RdS.failS_yes (r := { r with i := skipB r.s G.i, deep := r.deep + 1, begun := (G.b : Int), v := v2 }) HC.out]
                  clear h93 h44
                  go_wp2_with (first
                    | (go_at_call 27; refine (blanks_any g { r with i := G.i, deep := r.deep + 1, begun := (G.b : Int), v := v2 } _ HG4.out.rd hs (show G.i ≤ 2000000 by omega)).mono ?_; rintro e w5 ⟨rfl, hR5, hO5⟩; have HG5 := Lib.hid (HG4.out.only (HGO.out _ hR5) hO5); obtain ⟨e0, e1, e2, e3, e4, -⟩ := HG5.out.rd.facts; simp only [] at e0 e1 e2 e3 e4; rw [HC.out] at e2; have ef := HG5.out.rd.free; have m0 : w5.cell? ⟨w.heap.size, 0, none⟩ = some (.int .i64 6) := HG5.out.blk.cell 0; have m1 : w5.cell? ⟨w.heap.size, 1, none⟩ = some (.string ⟨#[]⟩) := HG5.out.blk.cell 1; have m2 : w5.cell? ⟨w.heap.size, 2, none⟩ = some (.slice none 0 0) := HG5.out.blk.cell 2; have m3 : w5.cell? ⟨w.heap.size, 3, none⟩ = some sv2 := HG5.out.blk.cell 3)
                    | (go_at_call 56; refine (peek_any g _ _ HG5.out.rd hs).mono ?_; rintro e w' ⟨rfl, m, rfl⟩)
                    | (go_at_call 58; refine (want_any g { r with i := skipB r.s G.i, deep := r.deep + 1, begun := (G.b : Int), v := v2 } 44 _ (HG5.out.rd.drewN _) hs (show skipB r.s G.i ≤ 2000000 by omega)).mono ?_; rintro e w6 ⟨rfl, hR6, hO6⟩; rw [HW.out] at hR6)
                    | (go_at_call 27; refine (blanks_any g { r with i := skipB r.s G.i, deep := r.deep + 1, begun := (G.b : Int), v := v2, code := 2, bad := (skipB r.s G.i : Nat) } _ hR6 hs (show skipB r.s G.i ≤ 2000000 by omega)).mono ?_; rintro e w7 ⟨rfl, hR7, hO7⟩))
                  go_roundg 1
                  case measure => omega
                  case rel => exact .inr ⟨k + 1, 2, skipB r.s G.i, _, by go_num, by omega, hR7, rfl, rfl, rfl, by have := skipB_le r.s (skipB r.s G.i); show skipB _ _ ≤ _; omega, by decide, HX.out, HG5.out.fr_only (((Only.refl g w5).drewN m).trans (hO6.trans hO7)), by omega⟩
    · obtain ⟨k, c, p, r', rfl, hk, hR, hs', rfl, hb', hi', hcc, hX, hF, hgk⟩ := hrel
      obtain ⟨c0, c1, c2, -⟩ := hR.facts
      have hq : (r'.code == 0) = false := beq_no hcc
      have hq2 : (r'.code != 0) = true := by rw [bne_iff_ne]; exact hcc
      have HX := Lib.hid hX
      have HR := Lib.hid hR
      have HF := Lib.hid hF
      have HS := Lib.hid hs'
      have HB' := Lib.hid hb'
      clear hX hR hF hs' hb' hcc
      go_wp2_with fail
      go_ret
      exact isGot_err HX.out HF.out HR.out HS.out rfl HB'.out hi'
end Go.Proofs.YtlpgkpaogadolaaDoor
