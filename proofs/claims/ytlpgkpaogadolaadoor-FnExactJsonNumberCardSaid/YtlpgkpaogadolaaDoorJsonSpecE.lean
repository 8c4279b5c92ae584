/- The reference's JSON reader: strings, walked (over the contract of escapes). -/
import Derived.Test.YtlpgkpaogadolaaDoorJsonSpecC
import Derived.Test.YtlpgkpaogadolaaDoorJsonPlainB
import Derived.Test.YtlpgkpaogadolaaDoorMemB
import Derived.Deep.RegionHeld3
namespace Go.Proofs.YtlpgkpaogadolaaDoor
open Go.RowKit
set_option maxRecDepth 100000

def nums8 (l : List Int) : List Value := l.map (Value.int .u8)
theorem nums8_length (l : List Int) : (nums8 l).length = l.length := by simp [nums8]
theorem nums8_snoc (l : List Int) (x : Int) : nums8 (l ++ [x]) = nums8 l ++ [Value.int .u8 x] := by simp [nums8]
theorem nums8_append (l m : List Int) : nums8 (l ++ m) = nums8 l ++ nums8 m := by simp [nums8]
theorem info_u8 : (Tryd.prog.info? 5).map (fun i => (i.zero, i.size, i.bytes)) = some (some (.int .u8 0), 1, 1) := by kernel_rfl
theorem own_str {w : World} {B : Nat} {e' src dst e : TypeId} {v : Value} {xs : List Int} (hs : Tryd.prog.underlying src = some (.slice e)) (he : Tryd.prog.underlying e = some (.int .u8)) (hd : Tryd.prog.underlying dst = some .string)
    (h : w.ownsRow B e' 1 v xs.length (nums8 xs)) : (convert src dst v).run Tryd.prog w = .ok (.string (strOfNums xs)) w := by
  rcases h.2 with ⟨rfl, hn⟩ | ⟨g, cap, cur, rfl, _⟩
  · obtain rfl : xs = [] := List.eq_nil_of_length_eq_zero hn
    exact run_convert_bytes_nil w src e hs he 0 0 dst hd
  · refine run_convert_bytes_arg w src e hs he g 0 xs.length cap xs rfl (fun i hi => ?_) dst hd
    have hc := h.cells (g := g) rfl i (.int .u8 (xs.getD i 0)) (by simp [nums8, List.getElem?_eq_getElem hi, List.getD_eq_getElem?_getD])
    have ha : (⟨g, 0, none⟩ : Addr).add i = ⟨g, 0 + i, none⟩ := by unfold Addr.add; split <;> simp_all
    rwa [ha] at hc
theorem own_setCell_far {w : World} {B e n : Nat} {v : Value} {xs : List Value} (h : w.ownsRow B e 1 v n xs) {g : Nat} (hg : g < B) (x : Value) (m : Nat) : ((w.drewN m).setCell ⟨g, 1, none⟩ x).ownsRow B e 1 v n xs :=
  ownsRow_setCell_below (w := w.drewN m) h (a := ⟨g, 1, none⟩) hg x
theorem own_far {w : World} {B e n : Nat} {v : Value} {xs : List Value} (h : w.ownsRow B e 1 v n xs) {g : Nat} (hg : g < B) : v.ownBlock = none ∨ v.ownBlock ≠ some g := by
  refine .inr fun k => ?_
  have := own_base h g k
  omega
theorem RdAt.grown {W W1 : World} {g : Nat} {r : RdS} (h : RdAt W g r) {row : Option Nat} (k : W.grownBy W1 row) (hne : some g ≠ row) : RdAt W1 g r := Blk.kept h (k.block g (Blk.lt h) hne)
theorem Only.past {g : Nat} {a b c : World} (h : Only g a b) (k : Below a.heap.size b c) : Only g a c :=
  ⟨k.os.trans h.os, k.tape.trans h.tape, k.output.trans h.output, Nat.le_trans h.size k.size, fun i hi hne => (k.block i hi).trans (h.block i hi hne)⟩
theorem ne_far {w : World} {B e n : Nat} {v : Value} {xs : List Value} (h : w.ownsRow B e 1 v n xs) {g : Nat} (hg : g < B) : some g ≠ v.ownBlock := fun k => by
  have := own_base h g k.symm
  omega
theorem own_drewN {w : World} {B e n : Nat} {v : Value} {xs : List Value} (h : w.ownsRow B e 1 v n xs) (m : Nat) : (w.drewN m).ownsRow B e 1 v n xs := h
theorem cell_keep {w : World} {g i : Nat} {v : Value} (h : w.cell? ⟨g, i, none⟩ = some v) (hg : g < w.heap.size) (m : Nat) (o : Obj) : ((w.drewN m).alloc o).cell? ⟨g, i, none⟩ = some v :=
  (World.cell?_of_block (w := w) (a := ⟨g, i, none⟩) (Below.heap_alloc (w.drewN m) o g hg)).trans h
theorem below_past {w : World} {m : Nat} {o : Obj} {w3 : World} {row : Option Nat} {B : Nat} (h : ((w.drewN m).alloc o).grownBy w3 row) (hr : ∀ k, row = some k → B ≤ k) (hB : B ≤ w.heap.size) : Below B w w3 :=
  ⟨h.os, h.tape, h.output, Nat.le_trans (by simp) h.size, fun k hk => by
    have hk2 : k < w.heap.size := by omega
    rw [h.block k (by simp; omega) (fun e => by have := hr k e.symm; omega)]
    exact Below.heap_alloc (w.drewN m) o k hk2⟩
/-- What a string comes to. -/
def IsStr (g : Nat) (r : RdS) (x : Rd (List Int × Nat)) (w : World) (e : Ending) (w' : World) : Prop :=
  Only g w w' ∧ match x with
  | .ok (acc, j) => e = .returned (.string (strOfNums acc)) ∧ RdAt w' g (r.to j)
  | .error (c, p) => e = .returned (.string ⟨#[]⟩) ∧ ∃ j, RdAt w' g { r with i := j, code := c, bad := p } ∧ j ≤ r.s.size + 1
theorem isStr_ok {g : Nat} {r : RdS} {x : Rd (List Int × Nat)} {acc : List Int} {j : Nat} {w w' : World} (h : x = .ok (acc, j)) (hO : Only g w w') (hR : RdAt w' g (r.to j)) : IsStr g r x w (.returned (.string (strOfNums acc))) w' := by
  rw [h]; exact ⟨hO, rfl, hR⟩
theorem isStr_err {g : Nat} {r : RdS} {x : Rd (List Int × Nat)} {c : Int} {p j : Nat} {w w' : World} (h : x = .error (c, p)) (hO : Only g w w') (hR : RdAt w' g { r with i := j, code := c, bad := p }) (hj : j ≤ r.s.size + 1) : IsStr g r x w (.returned (.string ⟨#[]⟩)) w' := by
  rw [h]; exact ⟨hO, rfl, j, hR, hj⟩
/-- The loop's relation: on the way, or failed. -/
def StrGo (g : Nat) (r : RdS) (w0 : World) (gk : Nat) (v : Value) (wr : World) : Prop :=
  ∃ (j : Nat) (acc : List Int), RdAt wr g (r.to j) ∧ wr.ownsRow w0.heap.size 5 1 v (nums8 acc).length (nums8 acc) ∧ Only g w0 wr ∧ j ≤ r.s.size ∧ acc.length ≤ 4 * j ∧ r.s.size - j + 1 < gk ∧ strN r.s (r.s.size + 1 - j) j acc = strR r.s r.i
def StrBad (g : Nat) (r : RdS) (w0 : World) (wr : World) : Prop :=
  ∃ (c : Int) (p j : Nat), c ≠ 0 ∧ strR r.s r.i = .error (c, p) ∧ RdAt wr g { r with i := j, code := c, bad := p } ∧ Only g w0 wr ∧ j ≤ r.s.size + 1
set_option maxHeartbeats 2000000 in
theorem str_any (HEsc : Hid EscSaid) (g : Nat) (r : RdS) (w : World) (h : RdAt w g r) (hs : r.s.size ≤ 1000000) (hi : r.i < r.s.size) (hc : r.code = 0) :
    Calls Tryd.prog 60 #[.pointer (some ⟨g, 0, none⟩)] w (IsStr g r (strR r.s r.i) w) := by
  have H := Lib.hid h
  obtain ⟨c0, c1, c2, -⟩ := h.facts
  have hf := h.free
  have hg := Blk.lt h
  have HC := Lib.hid hc
  clear h hc
  go_enter Tryd.func60, Tryd.ntmps60
  go_wp2_with fail
  go_loopg [3] (r.s.size + 2) (fun gk v wr => StrGo g r w gk v wr ∨ StrBad g r w wr)
  case atStart =>
    refine .inl ⟨r.i + 1, [], Blk.alloc (RdAt.stepTo H.out _ _ (by go_num)) _, (by have := World.ownsRow_made (base := w.heap.size) (e := 5) (size := 1) (w.setCell ⟨g, 1, none⟩ (.int .i64 ((r.i : Int) + 1))) #[] 0 (by simp) (by simp [maxLen]) rfl; simpa [nums8] using this), ((Only.refl g w).set 1 _).alloc _, by omega, by simp, by omega, ?_⟩
    unfold strR
    rw [show r.s.size + 1 - (r.i + 1) = r.s.size - r.i by omega]
  case round =>
    clear c0 c1 c2 hf
    rcases hrel with hrel | hrel
    · obtain ⟨j, acc, hR, hown, hO, hj, hal, hgk, hx⟩ := hrel
      obtain ⟨c0, c1, c2, -⟩ := hR.facts
      have hf := hR.free
      simp only [RdS.to] at c0 c1 c2
      rw [HC.out] at c2
      have HR := Lib.hid hR
      have hz := hO.size
      have hpv := peekV_range (r.to j)
      have HX := Lib.hid hx
      clear hR hx
      have peek2 := fun W (hW : RdAt W g (r.to j)) => peek_any g (r.to j) W hW hs
      have HP := Lib.hid peek2
      clear peek2
      by_cases h32 : pk r.s j < 32
      · have HE : Hid (strR r.s r.i = .error (2, j)) := by
          unfold Hid
          rw [← HX.out, show r.s.size + 1 - j = (r.s.size - j) + 1 by omega]
          simp only [strN]
          rw [if_pos h32]
        have hd : decide (r.s.size ≤ j) = true ∨ (decide (r.s.size ≤ j) = false ∧ decide (peekV (r.to j) < 32) = true) := by
          by_cases hlt : j < r.s.size
          · refine .inr ⟨by simp; omega, ?_⟩
            rw [peekV_in (r := r.to j) hlt]
            exact decide_eq_true h32
          · exact .inl (by simp; omega)
        clear h32
        rcases hd with hd | ⟨hd, hd2⟩
        all_goals
          go_upto_region 8 with (go_at_call 56; refine (HP.out _ HR.out).mono ?_; rintro e w' ⟨rfl, n, rfl⟩)
          go_quiet (fail)
          go_wp2_with (go_at_call 29; refine (fail_any g (r.to j) _ _ _ (HR.out.drewN _)).mono ?_; rintro e w' ⟨rfl, hR2, hO2⟩)
          go_roundg 0
          case measure => omega
          case rel =>
            rw [RdS.failS_yes (r := r.to j) HC.out] at hR2
            exact .inr ⟨2, j, j, by omega, HE.out, hR2, ((hO.drewN _).trans hO2), by omega⟩
      · have hlt : j < r.s.size := by
          rcases Nat.lt_or_ge j r.s.size with z | z
          · exact z
          · exact absurd (by rw [pk_out (by omega)]; omega) h32
        have hd : decide (r.s.size ≤ j) = false := by simp; omega
        have hpe : peekV (r.to j) = pk r.s j := peekV_in (r := r.to j) hlt
        have hd2 : decide (peekV (r.to j) < 32) = false := by rw [hpe]; exact decide_eq_false h32
        have hX2 : strR r.s r.i = if pk r.s j = 34 then .ok (acc, j + 1) else if pk r.s j = 92 then (escR r.s j).bind fun (x, k) => strN r.s (r.s.size - j) k (acc ++ ptBytes x) else strN r.s (r.s.size - j) (j + 1) (acc ++ [pk r.s j]) := by
          rw [← HX.out, show r.s.size + 1 - j = (r.s.size - j) + 1 by omega]
          simp only [strN]
          rw [if_neg h32]
        clear h32
        by_cases h34 : pk r.s j = 34
        · have HE : Hid (strR r.s r.i = .ok (acc, j + 1)) := by unfold Hid; rw [hX2, if_pos h34]
          have hb := beq_yes (hpe.trans h34)
          have how : wr.ownsRow w.heap.size 5 1 u3 acc.length (nums8 acc) := by rw [← nums8_length]; exact hown
          have hcv := fun (x : Value) (n : Nat) => own_str (w := (wr.drewN n).setCell ⟨g, 1, none⟩ x) (src := 37) (dst := 9) Tryd.underlying37 Tryd.underlying5 Tryd.underlying9 (own_setCell_far how hg x n)
          clear hX2 hpe h34
          go_upto_region 8 with (go_at_call 56; refine (HP.out _ HR.out).mono ?_; rintro e w' ⟨rfl, n, rfl⟩)
          go_quiet (fail)
          go_wp2_with fail
          go_ret
          exact isStr_ok HE.out ((hO.drewN _).set 1 _) (RdAt.stepTo (r := r.to j) (HR.out.drewN _) _ _ (by go_num))
        have hb34 := beq_no (fun e => h34 (hpe.symm.trans e))
        by_cases h92 : pk r.s j = 92
        · have hb := beq_yes (hpe.trans h92)
          have hX3 : strR r.s r.i = (escR r.s j).bind fun (x, k) => strN r.s (r.s.size - j) k (acc ++ ptBytes x) := by rw [hX2, if_neg h34, if_pos h92]
          clear hX2 hpe h34 h92
          rcases hx : escR r.s j with ⟨c, p⟩ | ⟨x, k⟩
          · have HE : Hid (strR r.s r.i = .error (c, p)) := by unfold Hid; rw [hX3, hx]; rfl
            have hc2 := escR_err hx
            have HF : Hid (∀ W, RdAt W g (r.to (j + 1)) → Calls Tryd.prog 90 #[.pointer (some ⟨g, 0, none⟩), .int .i64 j] W (IsHex g (r.to (j + 1)) (.error (c, p)) W)) := fun W hW => by
              have := HEsc.out g (r.to (j + 1)) j W hW hs rfl HC.out hlt
              rwa [show escR (r.to (j + 1)).s j = .error (c, p) from hx] at this
            have HC2 : Hid (c ≠ 0) := by unfold Hid; omega
            clear hX3 hx hc2
            go_upto_region 8 with (go_at_call 56; refine (HP.out _ HR.out).mono ?_; rintro e w' ⟨rfl, n, rfl⟩)
            go_quiet (fail)
            go_wp2_with fail
            refine (HF.out _ (RdAt.stepTo (r := r.to j) (HR.out.drewN _) _ _ (by go_num))).mono ?_
            rintro e w' hH
            obtain ⟨rfl, hO2, k, hR2, hk⟩ := hH.err
            obtain ⟨d0, d1, d2, -⟩ := hR2.facts
            simp only [] at d0 d1 d2
            have hcb := beq_no HC2.out
            go_wp2_with fail
            go_roundg 0
            case measure => omega
            case rel => exact .inr ⟨c, p, k, HC2.out, HE.out, hR2, ((hO.drewN _).set 1 _).trans hO2, hk⟩
          · have hk := escR_bd hx
            have hxp := escR_point hx
            have HE : Hid (strN r.s (r.s.size - j) k (acc ++ ptBytes x) = strR r.s r.i) := by unfold Hid; rw [hX3, hx]; rfl
            have HF : Hid (∀ W, RdAt W g (r.to (j + 1)) → Calls Tryd.prog 90 #[.pointer (some ⟨g, 0, none⟩), .int .i64 j] W (IsHex g (r.to (j + 1)) (.ok (x, k)) W)) := fun W hW => by
              have := HEsc.out g (r.to (j + 1)) j W hW hs rfl HC.out hlt
              rwa [show escR (r.to (j + 1)).s j = .ok (x, k) from hx] at this
            clear hX3 hx
            go_upto_region 8 with (go_at_call 56; refine (HP.out _ HR.out).mono ?_; rintro e w' ⟨rfl, n, rfl⟩)
            go_quiet (fail)
            go_wp2_with fail
            refine (HF.out _ (RdAt.stepTo (r := r.to j) (HR.out.drewN _) _ _ (by go_num))).mono ?_
            rintro e w' hH
            obtain ⟨rfl, hO2, hR2⟩ := hH.ok
            obtain ⟨d0, d1, d2, -⟩ := hR2.facts
            simp only [RdS.to] at d0 d1 d2
            rw [HC.out] at d2
            have how := (own_setCell_far (m := n + nq) hown hg (.int .i64 ((j : Int) + 1))).kept hO2 (own_far hown hg)
            have hz2 := hO2.size
            simp only [World.size_setCell] at hz2
            have hzz : w.heap.size ≤ w'.heap.size := Nat.le_trans hz hz2
            have hpb := ptBytes_bd x
            have hO3 := ((hO.drewN (n + nq)).set 1 (.int .i64 ((j : Int) + 1))).trans hO2
            clear hown
            go_wp2_with fail
            refine (bytes_any _ _ hxp.1 hxp.2).mono ?_
            rintro e w2 ⟨rfl, rfl⟩
            go_wp2_with (at_builtin; go_must (refine append_blk (how.alloc _) (Below.refl w.heap.size _) (Nat.le_refl _) w'.heap.size (nums8 (ptBytes x)) 5 (0, 0) _ (heap_alloc_new w' _) 37 (.int .u8 0) 1 Tryd.underlying37 info_u8 rfl (by omega) ?h1 ?hB ?hl _ _ rfl rfl rfl (by rw [nums8_length]; rfl) ?_))
            case h1 => intro y hy; simp only [nums8, List.mem_map] at hy; obtain ⟨q, _, rfl⟩ := hy; rfl
            case hB => simp; omega
            case hl => simp only [nums8_length]; omega
            intro v1 w3 hown3 hb3 hg3
            go_wp2_with fail
            go_roundg (r.s.size - k + 2)
            case measure => omega
            case rel =>
              refine .inl ⟨k, acc ++ ptBytes x, ?_, ?_, ?_, by omega, by simp; omega, by omega, ?_⟩
              · exact RdAt.grown (r := r.to k) (Blk.alloc hR2 _) hg3 (ne_far how hg)
              · rw [nums8_append, List.length_append]; exact hown3
              · exact Only.past (hO3.alloc _) hb3
              · rw [← HE.out, strN_fuel (r.s.size - j) k _ (by omega) hk.2]
        · have hb := beq_no (fun e => h92 (hpe.symm.trans e))
          have hE0 : strN r.s (r.s.size - j) (j + 1) (acc ++ [pk r.s j]) = strR r.s r.i := by rw [hX2, if_neg h34, if_neg h92]
          rw [pk_in hlt] at hE0
          have HE := Lib.hid hE0
          have he := bAt_eq r.s j hlt
          have hbr := bAt_range r.s j
          clear hX2 hpe h34 h92 hE0
          go_upto_region 8 with (go_at_call 56; refine (HP.out _ HR.out).mono ?_; rintro e w' ⟨rfl, n, rfl⟩)
          go_quiet (fail)
          have hgr : g < wr.heap.size := by omega
          go_upto_region 6 with fail
          go_region_held3 (fun w' => w'.cell? ⟨g, 0, none⟩ = some (.string r.s) ∧ w'.cell? ⟨g, 1, none⟩ = some (.int .i64 j)) (first | go_keep | (go_split_ands; refine ⟨?_, ?_⟩; exact hg3.cell (cell_keep c0 hgr _ _) (ne_far hown hg); exact hg3.cell (cell_keep c1 hgr _ _) (ne_far hown hg)))
            ((refine step_append1 ((own_drewN hown _).alloc _) wr.heap.size (.int .u8 (bAt r.s j)) 5 (0, 0) 1 (heap_alloc_new (wr.drewN _) _) 37 (.int .u8 0) 1 Tryd.underlying37 info_u8 rfl (by omega) rfl (by simp; omega) (by rw [nums8_length]; omega) _ _ (by rfl) (by rfl) (by rfl) (by rfl) ?_; intro v1 w3 hown3 hg3))
          have hR3 := RdAt.grown (r := r.to j) (Blk.alloc (HR.out.drewN _) _) hg3 (ne_far hown hg)
          have hf3 := hR3.free
          have HR3 := Lib.hid hR3
          have HW := Lib.hid (Only.past (g := g) (a := w) (b := wr) hO (below_past hg3 (own_base hown) hz))
          have HOW := Lib.hid hown3
          clear hR3 hg3 hown3
          go_wp2_with fail
          go_roundg (r.s.size - j + 1)
          case measure => omega
          case rel =>
            refine .inl ⟨j + 1, acc ++ [bAt r.s j], RdAt.stepTo (r := r.to j) HR3.out _ _ (by go_num), ?_, HW.out.set 1 _, by omega, by simp; omega, by omega, ?_⟩
            · rw [nums8_snoc, List.length_append]
              exact own_setCell_far (m := 0) HOW.out hg _
            · rw [← HE.out, strN_fuel (r.s.size - j) (j + 1) _ (by omega) (by omega)]
    · obtain ⟨c, p, j, hc, hx, hR, hO, hj⟩ := hrel
      obtain ⟨c0, c1, c2, -⟩ := hR.facts
      simp only [] at c0 c1 c2
      have hcb := beq_no hc
      have HX := Lib.hid hx
      have HR := Lib.hid hR
      clear hx hR hc
      go_wp2_with fail
      go_ret
      exact isStr_err HX.out hO HR.out hj
end Go.Proofs.YtlpgkpaogadolaaDoor
