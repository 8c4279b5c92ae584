/- The reference's JSON reader: what a list or an object has in hand. -/
import Derived.Test.YtlpgkpaogadolaaDoorJsonSpecI
namespace Go.Proofs.YtlpgkpaogadolaaDoor
open Go.RowKit

theorem Lv.apart {w : World} {A C : List Nat} (h : Lv w (A ++ C)) : ∀ a ∈ A, ∀ c ∈ C, a ≠ c := (List.nodup_append.1 h.nd).2.2
theorem Lv.left {w : World} {A C : List Nat} (h : Lv w (A ++ C)) : Lv w A := h.sub (List.sublist_append_left _ _)
theorem Lv.right {w : World} {A C : List Nat} (h : Lv w (A ++ C)) : Lv w C := h.sub (List.sublist_append_right _ _)
theorem Lv.tail_to {w w' : World} {A C C' : List Nat} (h : Lv w (A ++ C)) (h' : Lv w' C') (hc : ∀ b ∈ C', b ∈ C ∨ w.heap.size ≤ b) (hs : w.heap.size ≤ w'.heap.size) : Lv w' (A ++ C') :=
  ⟨List.nodup_append.2 ⟨h.left.nd, h'.nd, fun a ha c hc' => by
    rcases hc c hc' with k | k
    · exact h.apart a ha c k
    · have := h.left.lt a ha; omega⟩, fun b hb => by
    rcases List.mem_append.1 hb with hb | hb
    · have := h.left.lt b hb; omega
    · exact h'.lt b hb⟩
theorem mem_own {v : Value} {k : Nat} : k ∈ v.ownBlock.toList ↔ v.ownBlock = some k := by cases v.ownBlock <;> simp; exact eq_comm
theorem Lies.mem {w : World} {v v' : Value} (h : Lies w v v') {k : Nat} (hk : k ∈ v'.ownBlock.toList) : k ∈ v.ownBlock.toList ∨ w.heap.size ≤ k := by
  rcases h with h | ⟨b, h1, h2⟩
  · rw [h] at hk; exact .inl hk
  · have := mem_own.1 hk
    rw [h1] at this
    injection this with this
    exact .inr (by omega)
/-- What a list or an object has in hand: the reader, its own node, the keys and the kids so far. -/
structure GS (w0 : World) (g : Nat) (r0 : RdS) (ns : List Nd) (obj : Bool) (wr : World) (j b : Nat) (v : Value) (ms : List Nd) (keys : List ByteArray) (kids : List Int) (kv sv : Value) : Prop where
  rd : RdAt wr g { r0 with i := j, deep := r0.deep + 1, begun := (b : Int), v := v }
  out : OutIn wr 44 4 v (ns ++ ms)
  blk : Blk wr w0.heap.size #[.int .i64 (kindG obj), .string ⟨#[]⟩, kv, sv] 44
  keys : wr.ownsRow 0 9 1 kv keys.length (strsV keys)
  kids : wr.ownsRow 0 3 1 sv kids.length (ints kids)
  lv : Lv wr ((sv.ownBlock.toList ++ (kv.ownBlock.toList ++ [w0.heap.size])) ++ (v.ownBlock.toList ++ g :: blksOf (ns ++ ms)))
  fr : Fr (RdOk g r0.v) w0 wr
  lies : Lies w0 r0.v v
  new : ∀ b ∈ blksOf ms ++ (kv.ownBlock.toList ++ sv.ownBlock.toList), w0.heap.size ≤ b
section
variable {w0 wr w1 w3 : World} {g : Nat} {r0 : RdS} {ns ms : List Nd} {obj : Bool} {j b : Nat} {v kv sv : Value} {keys : List ByteArray} {kids : List Int}
theorem GS.spec (h : GS w0 g r0 ns obj wr j b v ms keys kids kv sv) : SpecSt wr g { r0 with i := j, deep := r0.deep + 1, begun := (b : Int), v := v } (ns ++ ms) := ⟨h.rd, h.out, h.lv.right⟩
/-- No block of its own is the reader's, or the row's. -/
theorem GS.far (h : GS w0 g r0 ns obj wr j b v ms keys kids kv sv) {a : Nat} (ha : a ∈ sv.ownBlock.toList ++ (kv.ownBlock.toList ++ [w0.heap.size])) : ¬ RdOk g v a := by
  rintro (rfl | hk)
  · exact h.lv.apart a ha a (List.mem_append_right _ (List.mem_cons_self ..)) rfl
  · exact h.lv.apart a ha a (List.mem_append_left _ (mem_own.2 hk)) rfl
theorem GS.far_N (h : GS w0 g r0 ns obj wr j b v ms keys kids kv sv) : ¬ RdOk g v w0.heap.size := h.far (List.mem_append_right _ (List.mem_append_right _ (List.mem_singleton.2 rfl)))
theorem GS.far_k (h : GS w0 g r0 ns obj wr j b v ms keys kids kv sv) {a : Nat} (ha : kv.ownBlock = some a) : ¬ RdOk g v a := h.far (List.mem_append_right _ (List.mem_append_left _ (mem_own.2 ha)))
theorem GS.far_s (h : GS w0 g r0 ns obj wr j b v ms keys kids kv sv) {a : Nat} (ha : sv.ownBlock = some a) : ¬ RdOk g v a := h.far (List.mem_append_left _ (mem_own.2 ha))
/-- Only the reader's block has changed, and its place. -/
theorem GS.only (h : GS w0 g r0 ns obj wr j b v ms keys kids kv sv) {j' : Nat} (hR : RdAt w1 g { r0 with i := j', deep := r0.deep + 1, begun := (b : Int), v := v }) (hO : Only g wr w1) : GS w0 g r0 ns obj w1 j' b v ms keys kids kv sv := by
  have hF : Fr (fun k => k = g) wr w1 := Fr.of_grown hO fun k _ he => by injection he with he; exact he.symm
  have hst := h.spec.step (r' := { r0 with i := j', deep := r0.deep + 1, begun := (b : Int), v := v }) hR rfl hO
  refine ⟨hR, hst.out, Blk.kept h.blk (hF.block _ (Blk.lt h.blk) fun e => h.far_N (.inl e)), own_fr h.keys hF (fun a ha e => h.far_k ha (.inl e)), own_fr h.kids hF (fun a ha e => h.far_s ha (.inl e)), h.lv.le hO.size, h.fr.trans hF fun i _ hk => .inl hk, h.lies, h.new⟩
/-- Behind a value. -/
theorem GS.got (h : GS w0 g r0 ns obj wr j b v ms keys kids kv sv) {G : Got} {e : Ending} (hG : IsGot g { r0 with i := j, deep := r0.deep + 1, begun := (b : Int), v := v } (ns ++ ms) (.ok G) wr e w1) :
    e = .returned (.int .i64 ((G.L.length : Int) - 1)) ∧ ∃ v' ms', GS w0 g r0 ns obj w1 G.i G.b v' ms' keys kids kv sv ∧ Reps (ns ++ ms') G.L := by
  obtain ⟨hF, he, v', m2, hst, hL, hl, hn⟩ := hG
  refine ⟨he, v', ms ++ m2, ⟨hst.rd, by rw [← List.append_assoc]; exact hst.out, Blk.kept h.blk (hF.block _ (Blk.lt h.blk) h.far_N), own_fr h.keys hF (fun a ha => h.far_k ha), own_fr h.kids hF (fun a ha => h.far_s ha), ?_, ?_, ?_, ?_⟩, by rw [← List.append_assoc]; exact hL⟩
  · rw [show ns ++ (ms ++ m2) = ns ++ ms ++ m2 from (List.append_assoc ..).symm]
    refine h.lv.tail_to hst.lv (fun c hc => ?_) hF.size
    rcases List.mem_append.1 hc with hc | hc
    · exact (hl.mem hc).imp (fun k => List.mem_append_left _ k) id
    rcases List.mem_cons.1 hc with rfl | hc
    · exact .inl (List.mem_append_right _ (List.mem_cons_self ..))
    rw [blksOf_append] at hc
    rcases List.mem_append.1 hc with hc | hc
    · exact .inl (List.mem_append_right _ (List.mem_cons_of_mem _ hc))
    · exact .inr (hn c hc)
  · refine h.fr.trans hF fun i hi hk => ?_
    rcases hk with hk | hk
    · exact .inl hk
    · rcases h.lies with k | ⟨c, k1, k2⟩
      · exact .inr (k ▸ hk)
      · rw [hk] at k1; injection k1 with k1; omega
  · exact h.lies.trans hl h.fr.size
  · intro c hc
    rw [blksOf_append, List.append_assoc] at hc
    rcases List.mem_append.1 hc with hc | hc
    · exact h.new c (List.mem_append_left _ hc)
    rcases List.mem_append.1 hc with hc | hc
    · exact Nat.le_trans h.fr.size (hn c hc)
    · exact h.new c (List.mem_append_right _ hc)
/-- A kid is appended, and the kids are stored in the node. -/
theorem GS.kid (h : GS w0 g r0 ns obj wr j b v ms keys kids kv sv) {sv' : Value} {y : Int} (hg : wr.grownBy w3 sv.ownBlock) (ho : w3.ownsRow 0 3 1 sv' (kids.length + 1) (ints kids ++ [.int .i64 y])) (hl : Lies wr sv sv') :
    GS w0 g r0 ns obj (w3.setCell ⟨w0.heap.size, 3, none⟩ sv') j b v ms keys (kids ++ [y]) kv sv' := by
  have hF : Fr (fun k => sv.ownBlock = some k) wr w3 := Fr.of_grown hg fun k _ he => he
  have hsv : ∀ a, a ∈ kv.ownBlock.toList ++ [w0.heap.size] ++ (v.ownBlock.toList ++ g :: blksOf (ns ++ ms)) → ¬ sv.ownBlock = some a := by
    have := h.lv
    rw [List.append_assoc] at this
    exact fun a ha => this.ne_v a ha
  have hN : ∀ c ∈ (v.ownBlock.toList ++ g :: blksOf (ns ++ ms)), c ≠ w0.heap.size := fun c hc e => h.lv.apart w0.heap.size (List.mem_append_right _ (List.mem_append_right _ (List.mem_singleton.2 rfl))) c hc e.symm
  have hNk : ¬ kv.ownBlock = some w0.heap.size := fun e => by
    have := h.lv.left.right
    exact this.apart w0.heap.size (mem_own.2 e) w0.heap.size (List.mem_singleton.2 rfl) rfl
  have hF2 : Fr (fun k => sv.ownBlock = some k ∨ k = w0.heap.size) wr (w3.setCell ⟨w0.heap.size, 3, none⟩ sv') := (hF.mono fun i _ hk => .inl hk).set (fun _ => .inr rfl) _ _
  have hlt' : ∀ k, sv'.ownBlock = some k → k < w3.heap.size := fun k hk => (ho.lt k hk).2
  have hlv3 : Lv w3 ((sv'.ownBlock.toList ++ (kv.ownBlock.toList ++ [w0.heap.size])) ++ (v.ownBlock.toList ++ g :: blksOf (ns ++ ms))) := by
    have := h.lv
    rw [List.append_assoc] at this ⊢
    exact hl.lv this hF.size hlt'
  refine ⟨Blk.kept h.rd (hF2.block _ (Blk.lt h.rd) ?_), h.out.fr hF2 ?_ ?_, ?_, own_fr h.keys hF2 ?_, ?_, ?_, ?_, h.lies, ?_⟩
  · rintro (k | k)
    · exact hsv g (List.mem_append_right _ (List.mem_append_right _ (List.mem_cons_self ..))) k
    · exact hN g (List.mem_append_right _ (List.mem_cons_self ..)) k
  · rintro c hc (k | k)
    · exact hsv c (List.mem_append_right _ (List.mem_append_left _ (mem_own.2 hc))) k
    · exact hN c (List.mem_append_left _ (mem_own.2 hc)) k
  · rintro c hc (k | k)
    · exact hsv c (List.mem_append_right _ (List.mem_append_right _ (List.mem_cons_of_mem _ hc))) k
    · exact hN c (List.mem_append_right _ (List.mem_cons_of_mem _ hc)) k
  · exact Blk.set (Blk.kept h.blk (hF.block _ (Blk.lt h.blk) (hsv _ (List.mem_append_left _ (List.mem_append_right _ (List.mem_singleton.2 rfl)))))) 3 sv'
  · rintro c hc (k | k)
    · exact hsv c (List.mem_append_left _ (List.mem_append_left _ (mem_own.2 hc))) k
    · exact hNk (k ▸ hc)
  · have hne : ∀ k, sv'.ownBlock = some k → k ≠ w0.heap.size := fun k hk e => by
      have := hlv3.left
      exact this.apart k (mem_own.2 hk) w0.heap.size (List.mem_append_right _ (List.mem_singleton.2 rfl)) e
    have : w3.ownsRow 0 3 1 sv' (kids ++ [y]).length (ints (kids ++ [y])) := by rw [ints_snoc, List.length_append]; exact ho
    exact own_fr this (Fr.set (ok := fun k => k = w0.heap.size) (Fr.refl _ _) (fun _ => rfl) _ _) hne
  · exact hlv3.le (by simp)
  · refine h.fr.trans hF2 fun i hi hk => ?_
    rcases hk with k | k
    · have := h.new i (List.mem_append_right _ (List.mem_append_right _ (mem_own.2 k))); omega
    · omega
  · intro c hc
    rcases List.mem_append.1 hc with hc | hc
    · exact h.new c (List.mem_append_left _ hc)
    rcases List.mem_append.1 hc with hc | hc
    · exact h.new c (List.mem_append_right _ (List.mem_append_left _ hc))
    · rcases hl.mem hc with k | k
      · exact h.new c (List.mem_append_right _ (List.mem_append_right _ k))
      · exact Nat.le_trans h.fr.size k
/-- A key is appended, and the keys are stored in the node. -/
theorem GS.key (h : GS w0 g r0 ns obj wr j b v ms keys kids kv sv) {kv' : Value} {y : ByteArray} (hg : wr.grownBy w3 kv.ownBlock) (ho : w3.ownsRow 0 9 1 kv' (keys.length + 1) (strsV keys ++ [.string y])) (hl : Lies wr kv kv') :
    GS w0 g r0 ns obj (w3.setCell ⟨w0.heap.size, 2, none⟩ kv') j b v ms (keys ++ [y]) kids kv' sv := by
  have hF : Fr (fun k => kv.ownBlock = some k) wr w3 := Fr.of_grown hg fun k _ he => he
  have hsw : Lv wr (kv.ownBlock.toList ++ (sv.ownBlock.toList ++ ([w0.heap.size] ++ (v.ownBlock.toList ++ g :: blksOf (ns ++ ms))))) := by
    have := h.lv
    rw [List.append_assoc, List.append_assoc] at this
    exact this.perm (List.perm_append_comm_assoc _ _ _)
  have hkv : ∀ a, a ∈ sv.ownBlock.toList ++ ([w0.heap.size] ++ (v.ownBlock.toList ++ g :: blksOf (ns ++ ms))) → ¬ kv.ownBlock = some a := fun a ha => hsw.ne_v a ha
  have hN : ∀ c ∈ (v.ownBlock.toList ++ g :: blksOf (ns ++ ms)), c ≠ w0.heap.size := fun c hc e => h.lv.apart w0.heap.size (List.mem_append_right _ (List.mem_append_right _ (List.mem_singleton.2 rfl))) c hc e.symm
  have hNs : ¬ sv.ownBlock = some w0.heap.size := fun e => by
    have := h.lv.left
    exact this.apart w0.heap.size (mem_own.2 e) w0.heap.size (List.mem_append_right _ (List.mem_singleton.2 rfl)) rfl
  have hF2 : Fr (fun k => kv.ownBlock = some k ∨ k = w0.heap.size) wr (w3.setCell ⟨w0.heap.size, 2, none⟩ kv') := (hF.mono fun i _ hk => .inl hk).set (fun _ => .inr rfl) _ _
  have hlt' : ∀ k, kv'.ownBlock = some k → k < w3.heap.size := fun k hk => (ho.lt k hk).2
  have hsw3 : Lv w3 (kv'.ownBlock.toList ++ (sv.ownBlock.toList ++ ([w0.heap.size] ++ (v.ownBlock.toList ++ g :: blksOf (ns ++ ms))))) := hl.lv hsw hF.size hlt'
  have hlv3 : Lv w3 ((sv.ownBlock.toList ++ (kv'.ownBlock.toList ++ [w0.heap.size])) ++ (v.ownBlock.toList ++ g :: blksOf (ns ++ ms))) := by
    rw [List.append_assoc, List.append_assoc]
    exact hsw3.perm (List.perm_append_comm_assoc _ _ _)
  have mtail : ∀ c, c ∈ v.ownBlock.toList ++ g :: blksOf (ns ++ ms) → c ∈ sv.ownBlock.toList ++ ([w0.heap.size] ++ (v.ownBlock.toList ++ g :: blksOf (ns ++ ms))) := fun c hc => List.mem_append_right _ (List.mem_append_right _ hc)
  refine ⟨Blk.kept h.rd (hF2.block _ (Blk.lt h.rd) ?_), h.out.fr hF2 ?_ ?_, ?_, ?_, own_fr h.kids hF2 ?_, ?_, ?_, h.lies, ?_⟩
  · rintro (k | k)
    · exact hkv g (mtail g (List.mem_append_right _ (List.mem_cons_self ..))) k
    · exact hN g (List.mem_append_right _ (List.mem_cons_self ..)) k
  · rintro c hc (k | k)
    · exact hkv c (mtail c (List.mem_append_left _ (mem_own.2 hc))) k
    · exact hN c (List.mem_append_left _ (mem_own.2 hc)) k
  · rintro c hc (k | k)
    · exact hkv c (mtail c (List.mem_append_right _ (List.mem_cons_of_mem _ hc))) k
    · exact hN c (List.mem_append_right _ (List.mem_cons_of_mem _ hc)) k
  · exact Blk.set (Blk.kept h.blk (hF.block _ (Blk.lt h.blk) (hkv _ (List.mem_append_right _ (List.mem_append_left _ (List.mem_singleton.2 rfl)))))) 2 kv'
  · have hne : ∀ k, kv'.ownBlock = some k → k ≠ w0.heap.size := fun k hk e =>
      hsw3.apart k (mem_own.2 hk) w0.heap.size (List.mem_append_right _ (List.mem_append_left _ (List.mem_singleton.2 rfl))) e
    have : w3.ownsRow 0 9 1 kv' (keys ++ [y]).length (strsV (keys ++ [y])) := by
      rw [show strsV (keys ++ [y]) = strsV keys ++ [Value.string y] by simp [strsV], List.length_append]; exact ho
    exact own_fr this (Fr.set (ok := fun k => k = w0.heap.size) (Fr.refl _ _) (fun _ => rfl) _ _) hne
  · rintro c hc (k | k)
    · exact hkv c (List.mem_append_left _ (mem_own.2 hc)) k
    · exact hNs (k ▸ hc)
  · exact hlv3.le (by simp)
  · refine h.fr.trans hF2 fun i hi hk => ?_
    rcases hk with k | k
    · have := h.new i (List.mem_append_right _ (List.mem_append_left _ (mem_own.2 k))); omega
    · omega
  · intro c hc
    rcases List.mem_append.1 hc with hc | hc
    · exact h.new c (List.mem_append_left _ hc)
    rcases List.mem_append.1 hc with hc | hc
    · rcases hl.mem hc with k | k
      · exact h.new c (List.mem_append_right _ (List.mem_append_left _ k))
      · exact Nat.le_trans h.fr.size k
    · exact h.new c (List.mem_append_right _ (List.mem_append_right _ hc))
end
end Go.Proofs.YtlpgkpaogadolaaDoor
