/- Memory, more: appends of whole blocks; appends in a region that draws its order. -/
import Derived.Test.YtlpgkpaogadolaaDoorMem
import Derived.Deep.AppendLies
namespace Go.Proofs.YtlpgkpaogadolaaDoor
open Go.RowKit
section
variable {P : Program} {ops : Array Oper} {rest : List Oper} {o : Oper} {a : Act} {Q : Exit → Act → World → Prop}
/-- 'append(s, xs...)' onto a row of the call's own, one cell an element; the source is a block that is known whole. -/
theorem append_blk {w0 W : World} {B0 B : Nat} {e : TypeId} {v : Value} {xs : List Value} (HO : W.ownsRow B e 1 v xs.length xs) (HB : Below B0 w0 W) (hBB : B0 ≤ B) (b : Nat) (ys : List Value) (te : TypeId) (fr : Nat × Nat) (c : Nat) (hb : W.heap[b]? = some (.cells ⟨ys⟩ te fr))
    (t : TypeId) (z : Value) (bytes : Nat)
    (ht : P.underlying t = some (.slice e)) (hinfo : (P.info? e).map (fun i => (i.zero, i.size, i.bytes)) = some (some z, 1, bytes)) (hz : z.cells.size = 1) (hb0 : 0 < bytes)
    (h1 : ∀ y ∈ ys, y.oneCell' = true) (hB : B ≤ W.heap.size) (hl : (xs.length + ys.length) * bytes ≤ 140737488355328)
    (s x : Operand) (hgd : o.guard = none) (ho : o.op = .call { callee := .builtin .append, args := #[s, x], argTypes := #[t, t] })
    (hs : a.eval s = v) (hx : a.eval x = .slice (some ⟨b, 0, none⟩) ys.length c)
    (h : ∀ v1 w1, w1.ownsRow B e 1 v1 (xs.length + ys.length) (xs ++ ys) → Below B0 w0 w1 → W.grownBy w1 v.ownBlock → wpList P ops Q rest (a.put o.dst v1) w1) :
    wpList P ops Q (o :: rest) a W := by
  obtain ⟨i0, hi, hzz⟩ := Option.map_eq_some_iff.1 hinfo
  simp only [Prod.mk.injEq] at hzz
  obtain ⟨hz0, hz1, hz2⟩ := hzz
  have hlen : xs.length + ys.length ≤ 140737488355328 := Nat.le_trans (Nat.le_mul_of_pos_right _ hb0) hl
  refine wpList_append_own W hgd s x t ho B e i0 z 1 bytes ht hi hz0 hz1 hz2 hz (by omega) v xs.length xs hs HO ⟨b, 0, none⟩ ys.length c ys hx (by omega)
    (World.news_of_block hb) h1 (by simp only [maxLen]; omega) hl hB ?_
  intro v1 w1 hown hg _
  exact h v1 w1 hown (HB.grown hg (Nat.le_trans hBB hB) (fun k hk => Nat.le_trans hBB (own_base HO k hk))) hg
/-- The same as a step of a region that draws its order. -/
theorem step_append1 {W : World} {B : Nat} {e : TypeId} {v : Value} {xs : List Value} (HO : W.ownsRow B e 1 v xs.length xs) (b : Nat) (y : Value) (te : TypeId) (fr : Nat × Nat) (c : Nat) (hb : W.heap[b]? = some (.cells #[y] te fr))
    (t : TypeId) (z : Value) (bytes : Nat)
    (ht : P.underlying t = some (.slice e)) (hinfo : (P.info? e).map (fun i => (i.zero, i.size, i.bytes)) = some (some z, 1, bytes)) (hz : z.cells.size = 1) (hb0 : 0 < bytes)
    (h1 : y.oneCell' = true) (hB : B ≤ W.heap.size) (hl : (xs.length + 1) * bytes ≤ 140737488355328) {K : Act → World → Prop} {E : Prop}
    (s x : Operand) (hgd : o.guard = none) (ho : o.op = .call { callee := .builtin .append, args := #[s, x], argTypes := #[t, t] })
    (hs : a.eval s = v) (hx : a.eval x = .slice (some ⟨b, 0, none⟩) 1 c)
    (h : ∀ v1 w1, w1.ownsRow B e 1 v1 (xs.length + 1) (xs ++ [y]) → W.grownBy w1 v.ownBlock → K (a.put o.dst v1) w1) :
    if Region.wanted o (yielded ops a.tmps) = true then Oper.wp P o a W K Q else E := by
  obtain ⟨i0, hi, hzz⟩ := Option.map_eq_some_iff.1 hinfo
  simp only [Prod.mk.injEq] at hzz
  obtain ⟨hz0, hz1, hz2⟩ := hzz
  have hlen : xs.length + 1 ≤ 140737488355328 := Nat.le_trans (Nat.le_mul_of_pos_right _ hb0) hl
  refine step_append_lies W hgd s x t ho B e i0 z 1 bytes ht hi hz0 hz1 hz2 hz (by omega) v xs.length xs hs HO ⟨b, 0, none⟩ 1 c [y] hx rfl
    (World.news_of_block hb) (by simpa using h1) (by omega) (by simp only [maxLen]; omega) hl hB W.heap.size rfl ?_
  intro g cap w1 hown hg _ _
  exact h _ w1 hown hg
end
end Go.Proofs.YtlpgkpaogadolaaDoor
