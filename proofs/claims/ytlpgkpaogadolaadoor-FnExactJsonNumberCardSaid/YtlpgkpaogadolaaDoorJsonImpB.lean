/- The program's JSON reader: number and JsonNumber, walked. -/
import Derived.Test.YtlpgkpaogadolaaDoorJsonImpA
namespace Go.Proofs.YtlpgkpaogadolaaDoor
open Go.RowKit
set_option maxRecDepth 100000

theorem minusE_bd' (s : ByteArray) (i : Nat) : i ≤ minusE s i ∧ (i ≤ s.size → minusE s i ≤ s.size) := by
  unfold minusE
  split
  · rename_i h
    have := pk_lt (s := s) (i := i) (by omega)
    omega
  · omega
theorem signE_bd' (s : ByteArray) (i : Nat) : i ≤ signE s i ∧ (i ≤ s.size → signE s i ≤ s.size) := by
  unfold signE
  split
  · rename_i h
    have := pk_lt (s := s) (i := i) (by omega)
    omega
  · omega
theorem digits1_cases {s : ByteArray} {i : Nat} {x : Rd Nat} (h : digits1 s i = x) : (isDigC (pk s i) ∧ x = .ok (digE s i) ∧ i < s.size) ∨ (¬ isDigC (pk s i) ∧ x = .error (2, i)) := by
  unfold digits1 at h
  split at h
  · rename_i k; exact .inl ⟨k, h.symm, dig_lt k⟩
  · rename_i k; exact .inr ⟨k, h.symm⟩
/-- What reading a number comes to. -/
def IsNum (g : Nat) (r : ImS) (x : Rd Nat) (w : World) (e : Ending) (w' : World) : Prop :=
  Only g w w' ∧ match x with
  | .ok j => e = .returned (.int .i64 0) ∧ ImAt w' g (r.to j)
  | .error (c, p) => e = .returned (.int .i64 c) ∧ ImAt w' g (r.to p)
theorem isNum_ok {g : Nat} {r : ImS} {x : Rd Nat} {j : Nat} {w w' : World} (h : x = .ok j) (hO : Only g w w') (hR : ImAt w' g (r.to j)) : IsNum g r x w (.returned (.int .i64 0)) w' := by
  rw [h]; exact ⟨hO, rfl, hR⟩
theorem isNum_err {g : Nat} {r : ImS} {x : Rd Nat} {c : Int} {p : Nat} {w w' : World} (h : x = .error (c, p)) (hO : Only g w w') (hR : ImAt w' g (r.to p)) : IsNum g r x w (.returned (.int .i64 c)) w' := by
  rw [h]; exact ⟨hO, rfl, hR⟩
theorem Only.same {g : Nat} {w w1 w2 : World} (h : Only g w w1) (k : ∃ n, w1.drewN n = w2) : Only g w w2 := by obtain ⟨n, rfl⟩ := k; exact h.drewN n
theorem ImAt.same {w1 w2 : World} {g : Nat} {r : ImS} (h : ImAt w1 g r) (k : ∃ n, w1.drewN n = w2) : ImAt w2 g r := by obtain ⟨n, rfl⟩ := k; exact h.drewN n
set_option maxHeartbeats 2000000 in
theorem number_i (g : Nat) (r : ImS) (w : World) (h : ImAt w g r) (hs : r.s.size ≤ 1048576) (hi : r.i ≤ r.s.size) :
    Calls Tryd.prog 25 #[.pointer (some ⟨g, 0, none⟩)] w (IsNum g r (numE r.s r.i) w) := by
  have H := Lib.hid h
  have hm := minusE_bd' r.s r.i
  clear h
  go_enter Tryd.func25, Tryd.ntmps25
  go_upto_region 1 with fail
  go_cut [] (fun wx => ImAt wx g (r.to (minusE r.s r.i)) ∧ Only g w wx)
  case first =>
    by_cases hp : pk r.s r.i = 45
    · have HM : Hid (minusE r.s r.i = r.i + 1) := if_pos hp
      go_wp2_with (go_at_call 52; refine (take_yes g r 45 _ H.out hs hi hp).mono ?_; rintro e w' ⟨rfl, hR, hO⟩)
      go_meet
      rw [HM.out]; exact ⟨hR, hO⟩
    · have HM : Hid (minusE r.s r.i = r.i) := if_neg hp
      go_wp2_with (go_at_call 52; refine (take_no g r 45 _ H.out hs hi hp).mono ?_; rintro e w' ⟨rfl, m, rfl⟩)
      go_meet
      rw [HM.out]; exact ⟨H.out.drewN _, (Only.refl g w).drewN _⟩
  case rest =>
    obtain ⟨hR0, hO0⟩ := hcut
    have hN0 : numE r.s r.i = (intE r.s (minusE r.s r.i)).bind fun j => (fracE r.s j).bind fun k => expE r.s k := rfl
    have HN := Lib.hid hN0
    clear hN0
    generalize minusE r.s r.i = m at *
    have HR0 := Lib.hid hR0
    have HO0 := Lib.hid hO0
    clear hR0 hO0
    rcases hx : intE r.s m with ⟨c, p⟩ | j
    · have hd : ¬ pk r.s m = 48 ∧ ¬ isDigC (pk r.s m) ∧ c = 2 ∧ p = m := by
        unfold intE at hx
        split at hx
        · cases hx
        · rename_i h48
          rcases digits1_cases hx with ⟨_, h2, _⟩ | ⟨h1, h2⟩
          · cases h2
          · injection h2 with h2; injection h2 with a b; exact ⟨h48, h1, a, b⟩
      obtain ⟨h48, hnd, rfl, rfl⟩ := hd
      have HX : Hid (numE r.s r.i = .error (2, p)) := by unfold Hid; rw [HN.out, hx]; rfl
      clear hx
      go_wp2_with (first
        | (go_at_call 52; refine (take_no g (r.to p) 48 _ HR0.out hs (show p ≤ r.s.size by omega) h48).mono ?_; rintro e w' ⟨rfl, m1, rfl⟩)
        | (go_at_call 53; refine (digits_i_no g (r.to p) _ (HR0.out.drewN _) hs (show p ≤ r.s.size by omega) hnd).mono ?_; rintro e w' ⟨rfl, hR, hO⟩))
      go_ret
      exact isNum_err HX.out ((HO0.out.drewN _).trans hO) hR
    · have hd : (pk r.s m = 48 ∧ j = m + 1 ∧ m < r.s.size) ∨ (¬ pk r.s m = 48 ∧ isDigC (pk r.s m) ∧ j = digE r.s m) := by
        unfold intE at hx
        split at hx
        · rename_i h48; injection hx with hx; exact .inl ⟨h48, hx.symm, pk_lt (by omega)⟩
        · rename_i h48
          rcases digits1_cases hx with ⟨h1, h2, _⟩ | ⟨h1, h2⟩
          · injection h2 with h2; exact .inr ⟨h48, h1, h2⟩
          · cases h2
      have hj : j ≤ r.s.size := by
        have := digE_bd r.s m
        omega
      have HN1 : Hid (numE r.s r.i = (fracE r.s j).bind fun k => expE r.s k) := by unfold Hid; rw [HN.out, hx]; rfl
      clear hx HN
      go_upto_region 2 with fail
      go_cut [12] (fun sc wx => sc = .bool false ∧ ImAt wx g (r.to j) ∧ Only g w wx)
      case first =>
        rcases hd with ⟨h48, rfl, hlt⟩ | ⟨h48, hdg, rfl⟩
        · go_wp2_with (go_at_call 52; refine (take_yes g (r.to m) 48 _ HR0.out hs (show m ≤ r.s.size by omega) h48).mono ?_; rintro e w' ⟨rfl, hR, hO⟩)
          go_meet
          exact ⟨rfl, hR, HO0.out.trans hO⟩
        · go_wp2_with (first
            | (go_at_call 52; refine (take_no g (r.to m) 48 _ HR0.out hs (show m ≤ r.s.size by omega) h48).mono ?_; rintro e w' ⟨rfl, m1, rfl⟩)
            | (go_at_call 53; refine (digits_i_yes g (r.to m) _ (HR0.out.drewN _) hs (show m ≤ r.s.size by omega) hdg).mono ?_; rintro e w' ⟨rfl, hR, hO⟩))
          go_meet
          exact ⟨rfl, hR, (HO0.out.drewN _).trans hO⟩
      case rest =>
        clear HR0 HO0 hd
        obtain ⟨rfl, hR0, hO0⟩ := hcut
        have HR0 := Lib.hid hR0
        have HO0 := Lib.hid hO0
        clear hR0 hO0
        rcases hx : fracE r.s j with ⟨c, p⟩ | k
        · have hd : pk r.s j = 46 ∧ ¬ isDigC (pk r.s (j + 1)) ∧ c = 2 ∧ p = j + 1 := by
            unfold fracE at hx
            split at hx
            · rename_i h46
              rcases digits1_cases hx with ⟨_, h2, _⟩ | ⟨h1, h2⟩
              · cases h2
              · injection h2 with h2; injection h2 with a b; exact ⟨h46, h1, a, b⟩
            · cases hx
          obtain ⟨h46, hnd, rfl, rfl⟩ := hd
          have hlt := pk_lt (s := r.s) (i := j) (by omega)
          have HX : Hid (numE r.s r.i = .error (2, j + 1)) := by unfold Hid; rw [HN1.out, hx]; rfl
          clear hx
          go_wp2_with (first
            | (go_at_call 52; refine (take_yes g (r.to j) 46 _ HR0.out hs (show j ≤ r.s.size by omega) h46).mono ?_; rintro e w' ⟨rfl, hR, hO⟩)
            | (go_at_call 53; refine (digits_i_no g (r.to (j + 1)) _ hR hs (show j + 1 ≤ r.s.size by omega) hnd).mono ?_; rintro e w' ⟨rfl, hR2, hO2⟩))
          go_ret
          exact isNum_err HX.out ((HO0.out.trans hO).trans hO2) hR2
        · have hd : (pk r.s j = 46 ∧ isDigC (pk r.s (j + 1)) ∧ k = digE r.s (j + 1) ∧ j + 1 < r.s.size) ∨ (¬ pk r.s j = 46 ∧ k = j) := by
            unfold fracE at hx
            split at hx
            · rename_i h46
              rcases digits1_cases hx with ⟨h1, h2, h3⟩ | ⟨h1, h2⟩
              · injection h2 with h2; exact .inl ⟨h46, h1, h2, h3⟩
              · cases h2
            · rename_i h46; injection hx with hx; exact .inr ⟨h46, hx.symm⟩
          have hk : k ≤ r.s.size := by
            have := digE_bd r.s (j + 1)
            omega
          have HN2 : Hid (numE r.s r.i = expE r.s k) := by unfold Hid; rw [HN1.out, hx]; rfl
          clear hx HN1
          go_upto_region 4 with fail
          go_cut [19] (fun sc wx => sc = .bool false ∧ ImAt wx g (r.to k) ∧ Only g w wx)
          case first =>
            rcases hd with ⟨h46, hdg, rfl, hlt⟩ | ⟨h46, rfl⟩
            · go_wp2_with (first
                | (go_at_call 52; refine (take_yes g (r.to j) 46 _ HR0.out hs (show j ≤ r.s.size by omega) h46).mono ?_; rintro e w' ⟨rfl, hR, hO⟩)
                | (go_at_call 53; refine (digits_i_yes g (r.to (j + 1)) _ hR hs (show j + 1 ≤ r.s.size by omega) hdg).mono ?_; rintro e w' ⟨rfl, hR2, hO2⟩))
              go_meet
              exact ⟨rfl, hR2, (HO0.out.trans hO).trans hO2⟩
            · go_wp2_with (go_at_call 52; refine (take_no g (r.to k) 46 _ HR0.out hs (show k ≤ r.s.size by omega) h46).mono ?_; rintro e w' ⟨rfl, m1, rfl⟩)
              go_meet
              exact ⟨rfl, HR0.out.drewN _, HO0.out.drewN _⟩
          case rest =>
            clear HR0 HO0 hd
            obtain ⟨rfl, hR0, hO0⟩ := hcut
            have HR0 := Lib.hid hR0
            have HO0 := Lib.hid hO0
            clear hR0 hO0
            by_cases he : pk r.s k = 101 ∨ pk r.s k = 69
            · have hlt := pk_lt (s := r.s) (i := k) (by omega)
              have hsg := signE_bd' r.s (k + 1)
              have HE : Hid (numE r.s r.i = digits1 r.s (signE r.s (k + 1))) := by unfold Hid; rw [HN2.out]; exact if_pos he
              go_upto_region 6 with fail
              go_cut [25] (fun sc wx => sc = .bool true ∧ ImAt wx g (r.to (k + 1)) ∧ Only g w wx)
              case first =>
                by_cases h1 : pk r.s k = 101
                · go_wp2_with (go_at_call 52; refine (take_yes g (r.to k) 101 _ HR0.out hs (show k ≤ r.s.size by omega) h1).mono ?_; rintro e w' ⟨rfl, hR, hO⟩)
                  go_meet
                  exact ⟨rfl, hR, HO0.out.trans hO⟩
                · have h2 : pk r.s k = 69 := by omega
                  clear he
                  go_wp2_with (first
                    | (go_at_call 52; refine (take_yes g (r.to k) 69 _ (HR0.out.drewN m1) hs (show k ≤ r.s.size by omega) h2).mono ?_; rintro e w' ⟨rfl, hR, hO⟩)
                    | (go_at_call 52; refine (take_no g (r.to k) 101 _ HR0.out hs (show k ≤ r.s.size by omega) h1).mono ?_; rintro e w' ⟨rfl, m1, rfl⟩))
                  go_meet
                  exact ⟨rfl, hR, (HO0.out.drewN _).trans hO⟩
              case rest =>
                clear HR0 HO0 he
                obtain ⟨rfl, hR0, hO0⟩ := hcut
                have HR0 := Lib.hid hR0
                have HO0 := Lib.hid hO0
                clear hR0 hO0
                rcases (show (pk r.s (k + 1) = 43 ∧ Hid (signE r.s (k + 1) = k + 1 + 1)) ∨ (¬ pk r.s (k + 1) = 43 ∧ pk r.s (k + 1) = 45 ∧ Hid (signE r.s (k + 1) = k + 1 + 1)) ∨ (¬ pk r.s (k + 1) = 43 ∧ ¬ pk r.s (k + 1) = 45 ∧ Hid (signE r.s (k + 1) = k + 1)) from by
                  by_cases h1 : pk r.s (k + 1) = 43
                  · exact .inl ⟨h1, if_pos (.inl h1)⟩
                  · by_cases h2 : pk r.s (k + 1) = 45
                    · exact .inr (.inl ⟨h1, h2, if_pos (.inr h2)⟩)
                    · exact .inr (.inr ⟨h1, h2, if_neg (by omega)⟩)) with ⟨h1, HS⟩ | ⟨h1, h2, HS⟩ | ⟨h1, h2, HS⟩
                · have hlt2 := pk_lt (s := r.s) (i := k + 1) (by omega)
                  rcases digits1_cases (s := r.s) (i := k + 1 + 1) rfl with ⟨hd, hx, hlt3⟩ | ⟨hd, hx⟩
                  · have HX : Hid (numE r.s r.i = .ok (digE r.s (k + 1 + 1))) := by unfold Hid; rw [HE.out, HS.out, hx]
                    clear hx
                    go_wp2_with (first
                      | (go_at_call 52; refine (take_yes g (r.to (k + 1)) 43 _ HR0.out hs (show k + 1 ≤ r.s.size by omega) h1).mono ?_; rintro e w' ⟨rfl, hR, hO⟩)
                      | (go_at_call 53; refine (digits_i_yes g (r.to (k + 1 + 1)) _ hR hs (show k + 1 + 1 ≤ r.s.size by omega) hd).mono ?_; rintro e w' ⟨rfl, hR2, hO2⟩))
                    go_ret
                    exact isNum_ok HX.out ((HO0.out.trans hO).trans hO2) hR2
                  · have HX : Hid (numE r.s r.i = .error (2, k + 1 + 1)) := by unfold Hid; rw [HE.out, HS.out, hx]
                    clear hx
                    go_wp2_with (first
                      | (go_at_call 52; refine (take_yes g (r.to (k + 1)) 43 _ HR0.out hs (show k + 1 ≤ r.s.size by omega) h1).mono ?_; rintro e w' ⟨rfl, hR, hO⟩)
                      | (go_at_call 53; refine (digits_i_no g (r.to (k + 1 + 1)) _ hR hs (show k + 1 + 1 ≤ r.s.size by omega) hd).mono ?_; rintro e w' ⟨rfl, hR2, hO2⟩))
                    go_ret
                    exact isNum_err HX.out ((HO0.out.trans hO).trans hO2) hR2
                · have hlt2 := pk_lt (s := r.s) (i := k + 1) (by omega)
                  rcases digits1_cases (s := r.s) (i := k + 1 + 1) rfl with ⟨hd, hx, hlt3⟩ | ⟨hd, hx⟩
                  · have HX : Hid (numE r.s r.i = .ok (digE r.s (k + 1 + 1))) := by unfold Hid; rw [HE.out, HS.out, hx]
                    clear hx
                    go_wp2_with (first
                      | (go_at_call 52; refine (take_yes g (r.to (k + 1)) 45 _ (HR0.out.drewN m1) hs (show k + 1 ≤ r.s.size by omega) h2).mono ?_; rintro e w' ⟨rfl, hR, hO⟩)
                      | (go_at_call 52; refine (take_no g (r.to (k + 1)) 43 _ HR0.out hs (show k + 1 ≤ r.s.size by omega) h1).mono ?_; rintro e w' ⟨rfl, m1, rfl⟩)
                      | (go_at_call 53; refine (digits_i_yes g (r.to (k + 1 + 1)) _ hR hs (show k + 1 + 1 ≤ r.s.size by omega) hd).mono ?_; rintro e w' ⟨rfl, hR2, hO2⟩))
                    go_ret
                    exact isNum_ok HX.out (((HO0.out.drewN _).trans hO).trans hO2) hR2
                  · have HX : Hid (numE r.s r.i = .error (2, k + 1 + 1)) := by unfold Hid; rw [HE.out, HS.out, hx]
                    clear hx
                    go_wp2_with (first
                      | (go_at_call 52; refine (take_yes g (r.to (k + 1)) 45 _ (HR0.out.drewN m1) hs (show k + 1 ≤ r.s.size by omega) h2).mono ?_; rintro e w' ⟨rfl, hR, hO⟩)
                      | (go_at_call 52; refine (take_no g (r.to (k + 1)) 43 _ HR0.out hs (show k + 1 ≤ r.s.size by omega) h1).mono ?_; rintro e w' ⟨rfl, m1, rfl⟩)
                      | (go_at_call 53; refine (digits_i_no g (r.to (k + 1 + 1)) _ hR hs (show k + 1 + 1 ≤ r.s.size by omega) hd).mono ?_; rintro e w' ⟨rfl, hR2, hO2⟩))
                    go_ret
                    exact isNum_err HX.out (((HO0.out.drewN _).trans hO).trans hO2) hR2
                · rcases digits1_cases (s := r.s) (i := k + 1) rfl with ⟨hd, hx, hlt3⟩ | ⟨hd, hx⟩
                  · have HX : Hid (numE r.s r.i = .ok (digE r.s (k + 1))) := by unfold Hid; rw [HE.out, HS.out, hx]
                    clear hx
                    go_wp2_with (first
                      | (go_at_call 52; refine (take_no g (r.to (k + 1)) 45 _ (HR0.out.drewN m1) hs (show k + 1 ≤ r.s.size by omega) h2).mono ?_; rintro e w' ⟨rfl, m2, rfl⟩)
                      | (go_at_call 52; refine (take_no g (r.to (k + 1)) 43 _ HR0.out hs (show k + 1 ≤ r.s.size by omega) h1).mono ?_; rintro e w' ⟨rfl, m1, rfl⟩)
                      | (go_at_call 53; refine (digits_i_yes g (r.to (k + 1)) _ (HR0.out.drewN _) hs (show k + 1 ≤ r.s.size by omega) hd).mono ?_; rintro e w' ⟨rfl, hR2, hO2⟩))
                    go_ret
                    exact isNum_ok HX.out ((HO0.out.drewN _).trans hO2) hR2
                  · have HX : Hid (numE r.s r.i = .error (2, k + 1)) := by unfold Hid; rw [HE.out, HS.out, hx]
                    clear hx
                    go_wp2_with (first
                      | (go_at_call 52; refine (take_no g (r.to (k + 1)) 45 _ (HR0.out.drewN m1) hs (show k + 1 ≤ r.s.size by omega) h2).mono ?_; rintro e w' ⟨rfl, m2, rfl⟩)
                      | (go_at_call 52; refine (take_no g (r.to (k + 1)) 43 _ HR0.out hs (show k + 1 ≤ r.s.size by omega) h1).mono ?_; rintro e w' ⟨rfl, m1, rfl⟩)
                      | (go_at_call 53; refine (digits_i_no g (r.to (k + 1)) _ (HR0.out.drewN _) hs (show k + 1 ≤ r.s.size by omega) hd).mono ?_; rintro e w' ⟨rfl, hR2, hO2⟩))
                    go_ret
                    exact isNum_err HX.out ((HO0.out.drewN _).trans hO2) hR2
            · have HE : Hid (numE r.s r.i = .ok k) := by unfold Hid; rw [HN2.out]; exact if_neg he
              have h1 : ¬ pk r.s k = 101 := fun e => he (.inl e)
              have h2 : ¬ pk r.s k = 69 := fun e => he (.inr e)
              clear he
              go_wp2_with (first
                | (go_at_call 52; refine (take_no g (r.to k) 69 _ (HR0.out.drewN m1) hs (show k ≤ r.s.size by omega) h2).mono ?_; rintro e w' ⟨rfl, m2, rfl⟩)
                | (go_at_call 52; refine (take_no g (r.to k) 101 _ HR0.out hs (show k ≤ r.s.size by omega) h1).mono ?_; rintro e w' ⟨rfl, m1, rfl⟩))
              go_ret
              exact isNum_ok HE.out (HO0.out.drewN _) (HR0.out.drewN _)
end Go.Proofs.YtlpgkpaogadolaaDoor
