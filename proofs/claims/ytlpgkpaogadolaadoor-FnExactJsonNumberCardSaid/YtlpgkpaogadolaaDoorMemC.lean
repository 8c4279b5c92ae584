/- Memory: frames by a set of blocks; nodes that own rows; rows of nodes. No program in sight. -/
import Derived.Test.YtlpgkpaogadolaaDoorMem
namespace Go.Proofs.YtlpgkpaogadolaaDoor
open Go.RowKit

/-- Of what was there, only blocks of 'ok' have changed. -/
structure Fr (ok : Nat → Prop) (w w' : World) : Prop where
  os : w'.os = w.os
  tape : w'.tape = w.tape
  output : w'.output = w.output
  size : w.heap.size ≤ w'.heap.size
  block : ∀ k, k < w.heap.size → ¬ ok k → w'.heap[k]? = w.heap[k]?
theorem Fr.refl (ok : Nat → Prop) (w : World) : Fr ok w w := ⟨rfl, rfl, rfl, Nat.le_refl _, fun _ _ _ => rfl⟩
theorem Fr.trans {ok ok' : Nat → Prop} {a b c : World} (h : Fr ok a b) (k : Fr ok' b c) (hk : ∀ i, i < a.heap.size → ok' i → ok i) : Fr ok a c :=
  ⟨k.os.trans h.os, k.tape.trans h.tape, k.output.trans h.output, Nat.le_trans h.size k.size, fun i hi hn => (k.block i (Nat.lt_of_lt_of_le hi h.size) (fun o => hn (hk i hi o))).trans (h.block i hi hn)⟩
theorem Fr.mono {ok ok' : Nat → Prop} {a b : World} (h : Fr ok a b) (hk : ∀ i, i < a.heap.size → ok i → ok' i) : Fr ok' a b :=
  ⟨h.os, h.tape, h.output, h.size, fun i hi hn => h.block i hi (fun o => hn (hk i hi o))⟩
theorem Fr.drewN {ok : Nat → Prop} {a b : World} (h : Fr ok a b) (n : Nat) : Fr ok a (b.drewN n) := ⟨h.os, h.tape, h.output, h.size, h.block⟩
theorem Fr.alloc {ok : Nat → Prop} {a b : World} (h : Fr ok a b) (o : Obj) : Fr ok a (b.alloc o) :=
  ⟨h.os, h.tape, h.output, Nat.le_trans h.size (by simp), fun i hi hn => (Below.heap_alloc b o i (Nat.lt_of_lt_of_le hi h.size)).trans (h.block i hi hn)⟩
theorem Fr.set {ok : Nat → Prop} {a b : World} (h : Fr ok a b) {g : Nat} (hg : g < a.heap.size → ok g) (i : Nat) (x : Value) : Fr ok a (b.setCell ⟨g, i, none⟩ x) :=
  ⟨h.os, h.tape, h.output, by simpa using h.size, fun k hk hn => (Below.heap_setCell _ _ _ _ (fun (e : k = g) => hn (by subst e; exact hg hk))).trans (h.block k hk hn)⟩
theorem Fr.of_grown {ok : Nat → Prop} {a b : World} {row : Option Nat} (h : a.grownBy b row) (hr : ∀ k, k < a.heap.size → row = some k → ok k) : Fr ok a b :=
  ⟨h.os, h.tape, h.output, h.size, fun k hk hn => h.block k hk (fun e => hn (hr k hk e.symm))⟩
theorem Fr.of_below {ok : Nat → Prop} {a b : World} {B : Nat} (h : Below B a b) (hr : ∀ k, k < a.heap.size → B ≤ k → ok k) : Fr ok a b :=
  ⟨h.os, h.tape, h.output, h.size, fun k hk hn => h.block k (Nat.lt_of_not_le fun o => hn (hr k hk o))⟩
theorem Fr.below {ok : Nat → Prop} {a b : World} (h : Fr ok a b) {B : Nat} (hB : ∀ k, k < B → ¬ ok k) (hs : B ≤ a.heap.size) : Below B a b :=
  ⟨h.os, h.tape, h.output, h.size, fun k hk => h.block k (Nat.lt_of_lt_of_le hk hs) (hB k hk)⟩
theorem Fr.keeps {ok : Nat → Prop} {a b : World} (h : Fr ok a b) {k : Nat} {o : Obj} (hk : a.heap[k]? = some o) (hn : ¬ ok k) : b.heap[k]? = some o :=
  (h.block k (Array.getElem?_eq_some_iff.1 hk).1 hn).trans hk
theorem Fr.cell {ok : Nat → Prop} {a b : World} (h : Fr ok a b) {p : Addr} (hp : p.block < a.heap.size) (hn : ¬ ok p.block) : b.cell? p = a.cell? p := World.cell?_of_block (h.block _ hp hn)
theorem Fr.frozen {ok : Nat → Prop} {a b : World} (h : Fr ok a b) {p : Addr} (hp : p.block < a.heap.size) (hn : ¬ ok p.block) : b.frozen? p = a.frozen? p := World.frozen?_of_block (h.block _ hp hn)

theorem own_fr {ok : Nat → Prop} {w w' : World} {B e size n : Nat} {v : Value} {xs : List Value} (h : w.ownsRow B e size v n xs) (k : Fr ok w w') (hn : ∀ b, v.ownBlock = some b → ¬ ok b) : w'.ownsRow B e size v n xs := by
  refine ⟨h.1, ?_⟩
  rcases h.2 with hx | ⟨g, cap, cur, rfl, hb, hgg, rest⟩
  · exact .inl hx
  · exact .inr ⟨g, cap, cur, rfl, hb, k.keeps hgg (hn g rfl), rest⟩
/-- A row of one-cell elements. -/
structure Row where
  e : TypeId
  v : Value
  xs : List Value
def Row.own (r : Row) (w : World) : Prop := w.ownsRow 0 r.e 1 r.v r.xs.length r.xs
def Row.blk (r : Row) : List Nat := r.v.ownBlock.toList
/-- A node: its cells, and the rows that it owns. -/
structure Nd where
  cells : List Value
  rows : List Row
def Nd.blks (n : Nd) : List Nat := n.rows.flatMap Row.blk
def blksOf (ns : List Nd) : List Nat := ns.flatMap Nd.blks
def NdsIn (w : World) (ns : List Nd) : Prop := ∀ n ∈ ns, ∀ r ∈ n.rows, r.own w
theorem blksOf_append (a b : List Nd) : blksOf (a ++ b) = blksOf a ++ blksOf b := by unfold blksOf; exact List.flatMap_append
theorem blksOf_one (n : Nd) : blksOf [n] = n.blks := by simp [blksOf]
theorem mem_blk {r : Row} {b : Nat} : b ∈ r.blk ↔ r.v.ownBlock = some b := by unfold Row.blk; cases r.v.ownBlock <;> simp; exact eq_comm
theorem mem_blks {n : Nd} {b : Nat} : b ∈ n.blks ↔ ∃ r ∈ n.rows, r.v.ownBlock = some b := by unfold Nd.blks; rw [List.mem_flatMap]; exact ⟨fun ⟨r, h1, h2⟩ => ⟨r, h1, mem_blk.1 h2⟩, fun ⟨r, h1, h2⟩ => ⟨r, h1, mem_blk.2 h2⟩⟩
theorem mem_blksOf {ns : List Nd} {b : Nat} : b ∈ blksOf ns ↔ ∃ n ∈ ns, ∃ r ∈ n.rows, r.v.ownBlock = some b := by
  unfold blksOf; rw [List.mem_flatMap]; exact ⟨fun ⟨n, h1, h2⟩ => ⟨n, h1, mem_blks.1 h2⟩, fun ⟨n, h1, h2⟩ => ⟨n, h1, mem_blks.2 h2⟩⟩
theorem NdsIn.fr {ok : Nat → Prop} {w w' : World} {ns : List Nd} (h : NdsIn w ns) (k : Fr ok w w') (hn : ∀ b ∈ blksOf ns, ¬ ok b) : NdsIn w' ns := fun n hm r hr =>
  own_fr (h n hm r hr) k fun b hb => hn b (mem_blksOf.2 ⟨n, hm, r, hr, hb⟩)
theorem NdsIn.lt {w : World} {ns : List Nd} (h : NdsIn w ns) : ∀ b ∈ blksOf ns, b < w.heap.size := fun b hb => by
  obtain ⟨n, hm, r, hr, he⟩ := mem_blksOf.1 hb
  exact ((h n hm r hr).lt b he).2
theorem NdsIn.append {w : World} {ns ms : List Nd} (h : NdsIn w ns) (k : NdsIn w ms) : NdsIn w (ns ++ ms) := fun n hm => by
  rcases List.mem_append.1 hm with hm | hm
  · exact h n hm
  · exact k n hm
theorem NdsIn.one {w : World} {n : Nd} (h : ∀ r ∈ n.rows, r.own w) : NdsIn w [n] := fun m hm => by
  rw [List.mem_singleton.1 hm]; exact h
/-- A row of nodes. -/
structure OutIn (w : World) (e size : Nat) (v : Value) (ns : List Nd) : Prop where
  own : w.ownsRow 0 e size v ns.length (ns.flatMap Nd.cells)
  nds : NdsIn w ns
theorem OutIn.fr {ok : Nat → Prop} {w w' : World} {e size : Nat} {v : Value} {ns : List Nd} (h : OutIn w e size v ns) (k : Fr ok w w') (hv : ∀ b, v.ownBlock = some b → ¬ ok b) (hn : ∀ b ∈ blksOf ns, ¬ ok b) : OutIn w' e size v ns :=
  ⟨own_fr h.own k hv, h.nds.fr k hn⟩
/-- These blocks are all there, and all different. -/
structure Lv (w : World) (X : List Nat) : Prop where
  nd : X.Nodup
  lt : ∀ b ∈ X, b < w.heap.size
theorem Lv.fr {ok : Nat → Prop} {w w' : World} {X : List Nat} (h : Lv w X) (k : Fr ok w w') : Lv w' X := ⟨h.nd, fun b hb => Nat.lt_of_lt_of_le (h.lt b hb) k.size⟩
theorem Lv.le {w w' : World} {X : List Nat} (h : Lv w X) (k : w.heap.size ≤ w'.heap.size) : Lv w' X := ⟨h.nd, fun b hb => Nat.lt_of_lt_of_le (h.lt b hb) k⟩
theorem Lv.fresh {w w' : World} {X : List Nat} (h : Lv w X) {b : Nat} (hb : w.heap.size ≤ b) (hb' : b < w'.heap.size) (k : w.heap.size ≤ w'.heap.size) : Lv w' (b :: X) :=
  ⟨List.nodup_cons.2 ⟨fun hm => by have := h.lt b hm; omega, h.nd⟩, fun c hc => by
    rcases List.mem_cons.1 hc with rfl | hc
    · exact hb'
    · exact Nat.lt_of_lt_of_le (h.lt c hc) k⟩
theorem Lv.sub {w : World} {X Y : List Nat} (h : Lv w X) (hs : Y.Sublist X) : Lv w Y := ⟨h.nd.sublist hs, fun b hb => h.lt b (hs.subset hb)⟩
theorem Lv.perm {w : World} {X Y : List Nat} (h : Lv w X) (hp : X.Perm Y) : Lv w Y := ⟨hp.nodup_iff.1 h.nd, fun b hb => h.lt b (hp.mem_iff.2 hb)⟩
/-- Where a row lies after an append: where it lay, or in a new block. -/
def Lies (w : World) (v v' : Value) : Prop := v'.ownBlock = v.ownBlock ∨ ∃ k, v'.ownBlock = some k ∧ w.heap.size ≤ k
theorem Lies.refl (w : World) (v : Value) : Lies w v v := .inl rfl
theorem Lies.trans {w w1 : World} {v v1 v2 : Value} (h : Lies w v v1) (k : Lies w1 v1 v2) (hs : w.heap.size ≤ w1.heap.size) : Lies w v v2 := by
  rcases k with k | ⟨b, k1, k2⟩
  · rcases h with h | ⟨b, h1, h2⟩
    · exact .inl (k.trans h)
    · exact .inr ⟨b, k.trans h1, h2⟩
  · exact .inr ⟨b, k1, Nat.le_trans hs k2⟩
theorem Lies.lv {w w' : World} {v v' : Value} {X : List Nat} (h : Lies w v v') (hl : Lv w (v.ownBlock.toList ++ X)) (hs : w.heap.size ≤ w'.heap.size) (hv : ∀ k, v'.ownBlock = some k → k < w'.heap.size) : Lv w' (v'.ownBlock.toList ++ X) := by
  rcases h with h | ⟨k, h1, h2⟩
  · rw [h]; exact hl.le hs
  · rw [h1]
    exact Lv.fresh (hl.sub (List.sublist_append_right _ _)) h2 (hv k h1) hs
/-- A node is put to the row. -/
theorem OutIn.put {w w1 : World} {e size : Nat} {v v1 : Value} {ns : List Nd} {n : Nd} (h : OutIn w e size v ns) (hn : ∀ r ∈ n.rows, r.own w) (hg : w.grownBy w1 v.ownBlock) (ho : w1.ownsRow 0 e size v1 (ns.length + 1) (ns.flatMap Nd.cells ++ n.cells))
    (hd : ∀ b ∈ blksOf ns ++ n.blks, v.ownBlock ≠ some b) : OutIn w1 e size v1 (ns ++ [n]) := by
  have hf : Fr (fun k => v.ownBlock = some k) w w1 := Fr.of_grown hg fun k _ he => he
  refine ⟨?_, ?_⟩
  · rw [List.length_append, List.flatMap_append]; simpa using ho
  · refine (h.nds.append (NdsIn.one hn)).fr hf fun b hb he => ?_
    rw [blksOf_append, blksOf_one] at hb
    exact hd b hb he
theorem Lv.ne_v {w : World} {v : Value} {X : List Nat} (h : Lv w (v.ownBlock.toList ++ X)) : ∀ b ∈ X, v.ownBlock ≠ some b := fun b hb he => by
  have := h.nd
  rw [he] at this
  exact (List.nodup_cons.1 this).1 hb
theorem Lv.tail_v {w : World} {v : Value} {X : List Nat} (h : Lv w (v.ownBlock.toList ++ X)) : Lv w X := h.sub (List.sublist_append_right _ _)
theorem Lv.ne_head {w : World} {g : Nat} {X : List Nat} (h : Lv w (g :: X)) : ∀ b ∈ X, b ≠ g := fun b hb he => (List.nodup_cons.1 h.nd).1 (he ▸ hb)
theorem Lv.tail {w : World} {g : Nat} {X : List Nat} (h : Lv w (g :: X)) : Lv w X := h.sub (List.sublist_cons_self _ _)
theorem Lv.head {w : World} {g : Nat} {X : List Nat} (h : Lv w (g :: X)) : g < w.heap.size := h.lt g (List.mem_cons_self ..)
theorem own_oneCell {w : World} {B e size n : Nat} {v : Value} {xs : List Value} (h : w.ownsRow B e size v n xs) : v.oneCell' = true := by
  rcases h.2 with ⟨rfl, _⟩ | ⟨g, cap, cur, rfl, _⟩ <;> rfl
theorem Lies.of {w : World} {v v' : Value} {g : Nat} (h : v.ownBlock = some g ∨ w.heap.size ≤ g) (hv : v'.ownBlock = some g) : Lies w v v' := by
  rcases h with h | h
  · exact .inl (hv.trans h.symm)
  · exact .inr ⟨g, hv, h⟩
end Go.Proofs.YtlpgkpaogadolaaDoor
