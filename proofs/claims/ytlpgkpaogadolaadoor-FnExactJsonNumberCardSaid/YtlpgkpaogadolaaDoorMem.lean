/- Memory: what a call owns, appends in one step, frames. No program in sight. -/
import Derived.WalkKit
import Derived.WalkSpells
import Derived.WalkLawsBesides
import Derived.Lib.Hide
import Derived.Laws.OwnMore
import Derived.Deep.AppendLies
import Derived.Lib.OthersKept
namespace Go.Proofs.YtlpgkpaogadolaaDoor
open Go.RowKit

theorem ret_bool {a b : Bool} (h : a = b) : Ending.returned (.bool a) = .returned (.bool b) := by rw [h]
theorem ret_int {k : IntKind} {a b : Int} (h : a = b) : Ending.returned (.int k a) = .returned (.int k b) := by rw [h]
theorem ret_str {a b : ByteArray} (h : a = b) : Ending.returned (.string a) = .returned (.string b) := by rw [h]

theorem below_after {B : Nat} {w W w1 : World} (h : Below B w W) (hB : B ≤ W.heap.size) (k : Below W.heap.size W w1) : Below B w w1 := h.trans (k.mono hB)
theorem below_grow {w w1 : World} (h : Below w.heap.size w w1) (row : Option Nat) : w.grownBy w1 row := ⟨h.os, h.tape, h.output, h.size, fun k hk _ => h.block k hk⟩
theorem own_below {w w1 : World} {B e size n : Nat} {v : Value} {xs : List Value} (h : w.ownsRow B e size v n xs) (k : Below w.heap.size w w1) : w1.ownsRow B e size v n xs :=
  h.kept (below_grow k none) (by cases v.ownBlock <;> simp)
theorem own_base {w : World} {B e size n : Nat} {v : Value} {xs : List Value} (h : w.ownsRow B e size v n xs) : ∀ k, v.ownBlock = some k → B ≤ k := fun k hk => (h.lt k hk).1

theorem own_mono {w : World} {B B' e size n : Nat} {v : Value} {xs : List Value} (h : w.ownsRow B e size v n xs) (hB : B' ≤ B) : w.ownsRow B' e size v n xs := by
  refine ⟨h.1, ?_⟩
  rcases h.2 with k | ⟨g, cap, cur, a, b, c⟩
  · exact .inl k
  · exact .inr ⟨g, cap, cur, a, Nat.le_trans hB b, c⟩
theorem own_iterAt {w : World} {B e size n : Nat} {v : Value} {xs : List Value} (h : w.ownsRow B e size v n xs) {K : Nat} (hK : K < B) (s : ByteArray) (p : Nat) : (w.iterAt K s p).ownsRow B e size v n xs := by
  refine ⟨h.1, ?_⟩
  rcases h.2 with k | ⟨g, cap, cur, a, b, c, d⟩
  · exact .inl k
  · refine .inr ⟨g, cap, cur, a, b, ?_, d⟩
    rw [show (w.iterAt K s p).heap[g]? = w.heap[g]? by unfold World.iterAt; rw [Array.getElem?_setIfInBounds, if_neg (by omega)]]
    exact c
theorem below_iterAt {B : Nat} {w0 w : World} (h : Below B w0 w) {K : Nat} (hK : B ≤ K) (s : ByteArray) (p : Nat) : Below B w0 (w.iterAt K s p) :=
  h.trans ⟨rfl, rfl, rfl, by unfold World.iterAt; simp, fun k hk => by unfold World.iterAt; rw [Array.getElem?_setIfInBounds, if_neg (by omega)]⟩
theorem iterAt_size (w : World) (K : Nat) (s : ByteArray) (p : Nat) : (w.iterAt K s p).heap.size = w.heap.size := by unfold World.iterAt; simp
theorem bcell {W w1 : World} (hb : Below W.heap.size W w1) : ∀ b o, b < W.heap.size → w1.cell? ⟨b, o, none⟩ = W.cell? ⟨b, o, none⟩ := fun b o h => hb.cell (p := ⟨b, o, none⟩) h
theorem bfroz {W w1 : World} (hb : Below W.heap.size W w1) : ∀ b o, b < W.heap.size → w1.frozen? ⟨b, o, none⟩ = W.frozen? ⟨b, o, none⟩ := fun b o h => hb.frozen (p := ⟨b, o, none⟩) h
theorem below_one (w : World) (o : Obj) : Below w.heap.size w (w.alloc o) := (Below.refl _ _).alloc (Nat.le_refl _) _
theorem below_box {w w1 : World} {o : Obj} (h : Below (w.alloc o).heap.size (w.alloc o) w1) : Below w.heap.size w w1 := below_after (below_one w o) (by simp) h
section
variable {P : Program} {ops : Array Oper} {rest : List Oper} {o : Oper} {a : Act} {Q : Exit → Act → World → Prop}
/-- 'append(s, y)' onto a row of the call's own, one cell an element. -/
theorem append_one {w0 W : World} {B0 B : Nat} {e : TypeId} {v : Value} {xs : List Value} (HO : W.ownsRow B e 1 v xs.length xs) (HB : Below B0 w0 W) (hBB : B0 ≤ B) (y : Value) (t : TypeId) (z : Value) (bytes : Nat)
    (ht : P.underlying t = some (.slice e)) (hinfo : (P.info? e).map (fun i => (i.zero, i.size, i.bytes)) = some (some z, 1, bytes)) (hz : z.cells.size = 1) (hb0 : 0 < bytes)
    (h1 : y.oneCell' = true) (hB : B ≤ W.heap.size) (hl : (xs.length + 1) * bytes ≤ 140737488355328)
    (s x : Operand) (hgd : o.guard = none) (ho : o.op = .call { callee := .builtin .append, args := #[s, x], argTypes := #[t, t] })
    (hs : a.eval s = v) (hx : a.eval x = .slice (some ⟨W.heap.size, 0, none⟩) 1 1)
    (h : ∀ v1 w1, w1.ownsRow B e 1 v1 (xs.length + 1) (xs ++ [y]) → Below B0 w0 w1 → W.grownBy w1 v.ownBlock → wpList P ops Q rest (a.put o.dst v1) w1) :
    wpList P ops Q (o :: rest) a (W.alloc (.cells #[y] e)) := by
  obtain ⟨i0, hi, hzz⟩ := Option.map_eq_some_iff.1 hinfo
  simp only [Prod.mk.injEq] at hzz
  obtain ⟨hz0, hz1, hz2⟩ := hzz
  have hlen : xs.length + 1 ≤ 140737488355328 := Nat.le_trans (Nat.le_mul_of_pos_right _ hb0) hl
  refine wpList_append_own (W.alloc (.cells #[y] e)) hgd s x t ho B e i0 z 1 bytes ht hi hz0 hz1 hz2 hz (by omega) v xs.length xs hs (HO.alloc _) ⟨W.heap.size, 0, none⟩ 1 1 [y] hx rfl
    (World.news_of_block (cs := #[y]) (t := e) (fr := (0, 0)) (heap_alloc_new W _)) (by simpa using h1) (by simp only [maxLen]; omega) hl (by simp; omega) ?_
  intro v1 w1 hown hg _
  exact h v1 w1 (by simpa using hown) ((HB.alloc (Nat.le_trans hBB hB) _).grown hg (by simp; omega) (fun k hk => Nat.le_trans hBB (own_base HO k hk))) (World.grownBy.trans (World.grownBy_alloc W _ _) hg)
end
end Go.Proofs.YtlpgkpaogadolaaDoor
