/- The reference's JSON reader: lists and objects, walked: the beginning and the end. -/
import Derived.Test.YtlpgkpaogadolaaDoorJsonSpecJ
namespace Go.Proofs.YtlpgkpaogadolaaDoor
open Go.RowKit
set_option maxRecDepth 100000

set_option maxHeartbeats 1000000 in
theorem group_deep : GroupSaid (fun _ => none) 8 := by
  intro g r ns L b obj w hst hL hs hi hc hd hb hb2 hlb
  obtain ⟨c0, c1, c2, c3, c4, -⟩ := hst.rd.facts
  rw [hd] at c4
  have HST := Lib.hid hst
  have HC := Lib.hid hc
  clear hst hc hd hb hL
  cases obj
  all_goals
    go_enter Tryd.func61, Tryd.ntmps61
    go_wp2_with (go_at_call 29; refine (fail_any g r _ _ _ HST.out.rd).mono ?_; rintro e w' ⟨rfl, hR, hO⟩)
    go_ret
    rw [RdS.failS_yes HC.out] at hR
    exact isGot_err (c := 3) (p := r.i) rfl (hO.fr _) hR rfl rfl rfl (by show r.i ≤ _; omega)
/-- What a list or an object begins with. -/
theorem GS.start {w wr : World} {g : Nat} {r : RdS} {ns : List Nd} {obj : Bool} {j b : Nat} (hst : SpecSt w g r ns) (hF : Fr (fun k => k = g) w wr) (hR : RdAt wr g { r with i := j, deep := r.deep + 1, begun := (b : Int) })
    (hB : Blk wr w.heap.size #[.int .i64 (kindG obj), .string ⟨#[]⟩, .slice none 0 0, .slice none 0 0] 44) : GS w g r ns obj wr j b r.v [] [] [] (.slice none 0 0) (.slice none 0 0) := by
  have hlt := Blk.lt hB
  refine ⟨hR, ?_, hB, World.ownsRow_nil _ _ _ _, World.ownsRow_nil _ _ _ _, ?_, hF.mono fun i _ hk => .inl hk, Lies.refl _ _, ?_⟩
  · rw [List.append_nil]
    exact hst.out.fr hF (fun c hc e => hst.lv.ne_v g (List.mem_cons_self ..) (e ▸ hc)) (fun c hc e => hst.lv.tail_v.ne_head c hc e)
  · rw [List.append_nil]
    exact hst.lv.fresh (Nat.le_refl _) hlt hF.size
  · intro c hc; simp [blksOf, Value.ownBlock] at hc
theorem GS.drew1 {w0 wr : World} {g : Nat} {r0 : RdS} {ns ms : List Nd} {obj : Bool} {j b : Nat} {v kv sv : Value} {keys : List ByteArray} {kids : List Int} (h : GS w0 g r0 ns obj wr j b v ms keys kids kv sv) : GS w0 g r0 ns obj wr.drew j b v ms keys kids kv sv :=
  ⟨h.rd, ⟨h.out.own, h.out.nds⟩, h.blk, h.keys, h.kids, ⟨h.lv.nd, h.lv.lt⟩, ⟨h.fr.os, h.fr.tape, h.fr.output, h.fr.size, h.fr.block⟩, h.lies, h.new⟩
theorem GS.drewN {w0 wr : World} {g : Nat} {r0 : RdS} {ns ms : List Nd} {obj : Bool} {j b : Nat} {v kv sv : Value} {keys : List ByteArray} {kids : List Int} (h : GS w0 g r0 ns obj wr j b v ms keys kids kv sv) (n : Nat) : GS w0 g r0 ns obj (wr.drewN n) j b v ms keys kids kv sv :=
  ⟨h.rd, ⟨h.out.own, h.out.nds⟩, h.blk, h.keys, h.kids, ⟨h.lv.nd, h.lv.lt⟩, ⟨h.fr.os, h.fr.tape, h.fr.output, h.fr.size, h.fr.block⟩, h.lies, h.new⟩
theorem GS.ne_s {w0 wr : World} {g : Nat} {r0 : RdS} {ns ms : List Nd} {obj : Bool} {j b : Nat} {v kv sv : Value} {keys : List ByteArray} {kids : List Int} (h : GS w0 g r0 ns obj wr j b v ms keys kids kv sv) : some w0.heap.size ≠ sv.ownBlock := fun e => by
  have := h.lv.left
  exact this.apart w0.heap.size (mem_own.2 e.symm) w0.heap.size (List.mem_append_right _ (List.mem_singleton.2 rfl)) rfl
theorem GS.ne_k {w0 wr : World} {g : Nat} {r0 : RdS} {ns ms : List Nd} {obj : Bool} {j b : Nat} {v kv sv : Value} {keys : List ByteArray} {kids : List Int} (h : GS w0 g r0 ns obj wr j b v ms keys kids kv sv) : some w0.heap.size ≠ kv.ownBlock := fun e => by
  have := h.lv.left.right
  exact this.apart w0.heap.size (mem_own.2 e.symm) w0.heap.size (List.mem_singleton.2 rfl) rfl
theorem GS.ne_gs {w0 wr : World} {g : Nat} {r0 : RdS} {ns ms : List Nd} {obj : Bool} {j b : Nat} {v kv sv : Value} {keys : List ByteArray} {kids : List Int} (h : GS w0 g r0 ns obj wr j b v ms keys kids kv sv) : some g ≠ sv.ownBlock := fun e => h.far_s e.symm (.inl rfl)
theorem GS.ne_gk {w0 wr : World} {g : Nat} {r0 : RdS} {ns ms : List Nd} {obj : Bool} {j b : Nat} {v kv sv : Value} {keys : List ByteArray} {kids : List Int} (h : GS w0 g r0 ns obj wr j b v ms keys kids kv sv) : some g ≠ kv.ownBlock := fun e => h.far_k e.symm (.inl rfl)
/-- The node is put, behind the end. -/
theorem GS.rows {w0 wr : World} {g : Nat} {r0 : RdS} {ns ms : List Nd} {obj : Bool} {j b : Nat} {v kv sv : Value} {keys : List ByteArray} {kids : List Int} (h : GS w0 g r0 ns obj wr j b v ms keys kids kv sv) : ∀ x ∈ (jnd ⟨kindG obj, ⟨#[]⟩, keys, kids⟩ kv sv).rows, x.own wr := by
  intro x hx
  simp only [jnd, List.mem_cons, List.mem_nil_iff, or_false] at hx
  rcases hx with rfl | rfl
  · have := h.keys; simpa [Row.own, strsV] using this
  · have := h.kids; simpa [Row.own, ints] using this
theorem GS.rows_at {w0 wr w1 : World} {g : Nat} {r0 : RdS} {ns ms : List Nd} {obj : Bool} {j b : Nat} {v kv sv : Value} {keys : List ByteArray} {kids : List Int} (h : GS w0 g r0 ns obj wr j b v ms keys kids kv sv) (hO : Only g wr w1) : ∀ x ∈ (jnd ⟨kindG obj, ⟨#[]⟩, keys, kids⟩ kv sv).rows, x.own w1 := by
  have hF : Fr (fun k => k = g) wr w1 := Fr.of_grown hO fun k _ he => by injection he with he; exact he.symm
  intro x hx
  have h0 := h.rows x hx
  simp only [jnd, List.mem_cons, List.mem_nil_iff, or_false] at hx
  rcases hx with rfl | rfl
  · exact own_fr h0 hF fun a ha e => h.far_k ha (.inl e)
  · exact own_fr h0 hF fun a ha e => h.far_s ha (.inl e)
theorem GS.put_lv {w0 wr : World} {g : Nat} {r0 : RdS} {ns ms : List Nd} {obj : Bool} {j b : Nat} {v kv sv : Value} {keys : List ByteArray} {kids : List Int} (h : GS w0 g r0 ns obj wr j b v ms keys kids kv sv) : Lv wr (v.ownBlock.toList ++ g :: blksOf ((ns ++ ms) ++ [jnd ⟨kindG obj, ⟨#[]⟩, keys, kids⟩ kv sv])) := by
  have h1 := h.lv
  rw [List.append_assoc, List.append_assoc] at h1
  have h2 : Lv wr (sv.ownBlock.toList ++ (kv.ownBlock.toList ++ (v.ownBlock.toList ++ g :: blksOf (ns ++ ms)))) := h1.sub (List.Sublist.append (List.Sublist.refl _) (List.Sublist.append (List.Sublist.refl _) (List.sublist_append_right _ _)))
  have e : (jnd ⟨kindG obj, ⟨#[]⟩, keys, kids⟩ kv sv).blks = kv.ownBlock.toList ++ sv.ownBlock.toList := by simp [Nd.blks, jnd, Row.blk]
  rw [blksOf_append (ns ++ ms), blksOf_one, e]
  refine h2.perm ?_
  have p1 : (sv.ownBlock.toList ++ (kv.ownBlock.toList ++ (v.ownBlock.toList ++ g :: blksOf (ns ++ ms)))).Perm (kv.ownBlock.toList ++ sv.ownBlock.toList ++ (v.ownBlock.toList ++ g :: blksOf (ns ++ ms))) := by
    rw [List.append_assoc]; exact List.perm_append_comm_assoc _ _ _
  refine p1.trans (List.perm_append_comm.trans ?_)
  rw [List.append_assoc, List.cons_append]
theorem GS.fin {w0 wr w1 w' : World} {g : Nat} {r0 : RdS} {ns ms : List Nd} {obj : Bool} {j b : Nat} {v kv sv : Value} {keys : List ByteArray} {kids : List Int} {L : List JN} {x : Rd Got} {e : Ending} (h : GS w0 g r0 ns obj wr j b v ms keys kids kv sv) (hL : Reps (ns ++ ms) L) 
    (hx : x = .ok ⟨j + 1, b, L ++ [⟨kindG obj, ⟨#[]⟩, keys, kids⟩]⟩) (hO : Only g wr w1)
    (hp : IsPut g { r0 with i := j + 1, begun := (b : Int), v := v } (ns ++ ms) (jnd ⟨kindG obj, ⟨#[]⟩, keys, kids⟩ kv sv) w1 e w') : IsGot g r0 ns x w0 e w' := by
  obtain ⟨v1, rfl, hst, hl, hF⟩ := hp
  have hs01 : w0.heap.size ≤ w1.heap.size := Nat.le_trans h.fr.size hO.size
  rw [hx]
  refine ⟨?_, ?_, v1, ms ++ [jnd ⟨kindG obj, ⟨#[]⟩, keys, kids⟩ kv sv], ?_, ?_, ?_, ?_⟩
  · refine (h.fr.trans (hO.fr v) fun i hi hk => ?_).trans hF fun i hi hk => ?_
    all_goals
      rcases hk with hk | hk
      · exact .inl hk
      · rcases h.lies with k | ⟨c, k1, k2⟩
        · exact .inr (k ▸ hk)
        · have hk' : v.ownBlock = some i := hk
          rw [hk'] at k1; injection k1 with k1; omega
  · rw [hL.length]; simp
  · rw [← List.append_assoc]
    exact hst
  · rw [← List.append_assoc]; exact hL.snoc _ _ _
  · have hl' : Lies w1 v v1 := hl
    exact h.lies.trans hl' hs01
  · intro c hc
    rw [blksOf_append, blksOf_one] at hc
    rcases List.mem_append.1 hc with hc | hc
    · exact h.new c (List.mem_append_left _ hc)
    · have e : (jnd ⟨kindG obj, ⟨#[]⟩, keys, kids⟩ kv sv).blks = kv.ownBlock.toList ++ sv.ownBlock.toList := by simp [Nd.blks, jnd, Row.blk]
      rw [e] at hc
      exact h.new c (List.mem_append_right _ hc)
end Go.Proofs.YtlpgkpaogadolaaDoor
