/- The reference's JSON reader: putting a node, walked. -/
import Derived.Test.YtlpgkpaogadolaaDoorJsonSpecE
import Derived.Test.YtlpgkpaogadolaaDoorJsonPlainC
import Derived.Test.YtlpgkpaogadolaaDoorMemC
import Derived.Deep.AppendLies
import Derived.Deep.DrawnRows
import Derived.Deep.RegionLaw
namespace Go.Proofs.YtlpgkpaogadolaaDoor
open Go.RowKit
set_option maxRecDepth 100000

def strsV (l : List ByteArray) : List Value := l.map Value.string
/-- A node in memory. -/
def jnd (n : JN) (kv sv : Value) : Nd := ⟨[.int .i64 n.kind, .string n.text, kv, sv], [⟨9, kv, strsV n.keys⟩, ⟨3, sv, ints n.kids⟩]⟩
inductive Reps : List Nd → List JN → Prop
  | nil : Reps [] []
  | cons (n : JN) (kv sv : Value) {ns : List Nd} {L : List JN} : Reps ns L → Reps (jnd n kv sv :: ns) (n :: L)
theorem Reps.snoc {ns : List Nd} {L : List JN} (h : Reps ns L) (n : JN) (kv sv : Value) : Reps (ns ++ [jnd n kv sv]) (L ++ [n]) := by
  induction h with
  | nil => exact .cons n kv sv .nil
  | cons m a b _ ih => exact .cons m a b ih
theorem Reps.length {ns : List Nd} {L : List JN} (h : Reps ns L) : ns.length = L.length := by
  induction h with
  | nil => rfl
  | cons m a b _ ih => simp [ih]
structure SpecSt (w : World) (g : Nat) (r : RdS) (ns : List Nd) : Prop where
  rd : RdAt w g r
  out : OutIn w 44 4 r.v ns
  lv : Lv w (r.v.ownBlock.toList ++ g :: blksOf ns)
/-- What a reading may change. -/
def RdOk (g : Nat) (v : Value) (k : Nat) : Prop := k = g ∨ v.ownBlock = some k
def IsPut (g : Nat) (r : RdS) (ns : List Nd) (n : Nd) (w : World) (e : Ending) (w' : World) : Prop :=
  ∃ v1, e = .returned (.int .i64 ns.length) ∧ SpecSt w' g { r with v := v1 } (ns ++ [n]) ∧ Lies w r.v v1 ∧ Fr (RdOk g r.v) w w'
theorem info_jn : (Tryd.prog.info? 44).map (fun i => (i.zero, i.size, i.bytes)) = some (some (.agg #[.int .i64 0, .string ⟨#[]⟩, .slice none 0 0, .slice none 0 0]), 4, 72) := by kernel_rfl
theorem own_drew1 {w : World} {B e size n : Nat} {v : Value} {xs : List Value} (h : w.ownsRow B e size v n xs) : w.drew.ownsRow B e size v n xs := h
theorem RdAt.drew1 {w : World} {g : Nat} {r : RdS} (h : RdAt w g r) : RdAt w.drew g r := h
theorem Blk.drew1 {w : World} {g : Nat} {cs : Array Value} {t : TypeId} (h : Blk w g cs t) : Blk w.drew g cs t := h
theorem one4 {a b c d : Value} (ha : a.oneCell' = true) (hb : b.oneCell' = true) (hc : c.oneCell' = true) (hd : d.oneCell' = true) : ∀ u ∈ [a, b, c, d], u.oneCell' = true := by
  intro u hu
  simp only [List.mem_cons, List.mem_nil_iff, or_false] at hu
  rcases hu with rfl | rfl | rfl | rfl <;> assumption
theorem new_at2 (w : World) (o p : Obj) : ((w.alloc o).alloc p).drew.heap[w.heap.size + 1]? = some p := by
  have := heap_alloc_new (w.alloc o) p
  rw [show (w.alloc o).heap.size = w.heap.size + 1 by simp] at this
  exact this
theorem put_end {g : Nat} {r : RdS} {ns : List Nd} {n : JN} {kv sv : Value} {w w3 : World} {o1 o2 : Obj} {gb cap : Nat} (hst : SpecSt w g r ns) (hn : ∀ x ∈ (jnd n kv sv).rows, x.own w) (hl : Lv w (r.v.ownBlock.toList ++ g :: blksOf (ns ++ [jnd n kv sv])))
    (hg : (((w.alloc o1).alloc o2).drew).grownBy w3 r.v.ownBlock) (ho : w3.ownsRow 0 44 4 (.slice (some ⟨gb, 0, none⟩) (ns.length + 1) cap) (ns.length + 1) (ns.flatMap Nd.cells ++ [.int .i64 n.kind, .string n.text, kv, sv]))
    (hat : r.v.ownBlock = some gb ∨ gb = w.heap.size + 2) (hlt : gb < w3.heap.size) (hR : RdAt w3 g r) :
    IsPut g r ns (jnd n kv sv) w (.returned (.int .i64 ns.length)) (w3.setCell ⟨g, 6, none⟩ (.slice (some ⟨gb, 0, none⟩) (ns.length + 1) cap)) := by
  have hg2 : w.grownBy w3 r.v.ownBlock := ⟨hg.os, hg.tape, hg.output, Nat.le_trans (by simp; omega) hg.size, fun k hk hne => by
    rw [hg.block k (by simp; omega) hne]
    show ((w.alloc o1).alloc o2).heap[k]? = _
    rw [Below.heap_alloc _ _ _ (by simp; omega), Below.heap_alloc _ _ _ hk]⟩
  have hf0 : Fr (RdOk g r.v) w w3 := Fr.of_grown hg2 fun k _ he => .inr he
  have hf1 : Fr (RdOk g r.v) w (w3.setCell ⟨g, 6, none⟩ (.slice (some ⟨gb, 0, none⟩) (ns.length + 1) cap)) := hf0.set (fun _ => .inl rfl) _ _
  have hlv : Lies w r.v (.slice (some ⟨gb, 0, none⟩) (ns.length + 1) cap) := Lies.of (g := gb) (hat.imp id fun h => by omega) rfl
  have hX := hl
  have hL3 := hlv.lv hl hf0.size (fun k hk => by
    have : gb = k := by simpa [Value.ownBlock] using hk
    omega)
  have hput := hst.out.put hn hg2 ho fun b hb => hl.ne_v b (by
    rw [blksOf_append, blksOf_one]
    exact List.mem_cons_of_mem _ hb)
  refine ⟨_, rfl, ⟨?_, ?_, ?_⟩, hlv, hf1⟩
  · exact Blk.set hR 6 _
  · refine hput.fr (ok := fun k => k = g) (Fr.set (ok := fun k => k = g) (Fr.refl _ _) (fun _ => rfl) _ _) (fun b hb e => ?_) fun b hb e => ?_
    · exact hL3.ne_v g (List.mem_cons_self ..) (e ▸ hb)
    · exact hL3.tail_v.ne_head b hb e
  · exact hL3.le (by simp)
attribute [local go_sem ↓] Go.wp_at_zero Go.wp_at_succ
set_option maxHeartbeats 1000000 in
theorem put_any (g : Nat) (r : RdS) (ns : List Nd) (n : JN) (kv sv : Value) (w : World) (hst : SpecSt w g r ns) (hn : ∀ x ∈ (jnd n kv sv).rows, x.own w) (hl : Lv w (r.v.ownBlock.toList ++ g :: blksOf (ns ++ [jnd n kv sv]))) (hlen : ns.length ≤ 1000) :
    Calls Tryd.prog 59 #[.pointer (some ⟨g, 0, none⟩), .agg #[.int .i64 n.kind, .string n.text, kv, sv]] w (IsPut g r ns (jnd n kv sv) w) := by
  obtain ⟨-, -, -, -, -, -, c6⟩ := hst.rd.facts
  have hf := hst.rd.free
  have hg := hl.tail_v.head
  have hown := hst.out.own
  obtain ⟨i0, hi, hzz⟩ := Option.map_eq_some_iff.1 info_jn
  simp only [Prod.mk.injEq] at hzz
  obtain ⟨hz0, hz1, hz2⟩ := hzz
  have k1 := own_oneCell (hn ⟨9, kv, strsV n.keys⟩ (List.mem_cons_self ..))
  have k2 := own_oneCell (hn ⟨3, sv, ints n.kids⟩ (List.mem_cons_of_mem _ (List.mem_cons_self ..)))
  have HST := Lib.hid hst
  have HN := Lib.hid hn
  have HL := Lib.hid hl
  have HI := Lib.hid hi
  clear hst hn hl hi
  go_enter Tryd.func59, Tryd.ntmps59
  go_upto_region 1 with fail
  have hne : some w.heap.size ≠ r.v.ownBlock := fun e => by
    have := (HST.out.out.own.lt _ e.symm).2
    omega
  have hneg : some g ≠ r.v.ownBlock := fun e => (HL.out.ne_v g (List.mem_cons_self ..)) e.symm
  have HNE := Lib.hid hne
  have HNG := Lib.hid hneg
  clear hne hneg
  go_region_law
    ((refine step_append_lies _ (by rfl) _ _ _ (by rfl) 0 44 i0 _ 4 72 Tryd.underlying23 HI.out hz0 hz1 hz2 rfl (by omega) r.v ns.length (ns.flatMap Nd.cells) (by rfl) (own_drew1 ((hown.alloc _).alloc _)) ⟨w.heap.size + 1, 0, none⟩ 1 1 [.int .i64 n.kind, .string n.text, kv, sv] (by rfl) rfl (World.news_of_block (cs := #[.int .i64 n.kind, .string n.text, kv, sv]) (t := 44) (fr := (0, 0)) (new_at2 w _ _)) (one4 rfl rfl k1 k2) (by omega) (by simp only [maxLen]; omega) (by omega) (by omega) (w.heap.size + 2) (by simp) ?_; intro gb cap w3 hown3 hgrow hat hlt; have hR3 : RdAt w3 g r := (RdAt.grown (RdAt.drew1 (Blk.alloc (Blk.alloc HST.out.rd _) _)) hgrow HNG.out); have c63 := hR3.facts.2.2.2.2.2.2; have hf3 := hR3.free; have hB3 : Blk w3 w.heap.size #[.int .i64 n.kind, .string n.text, kv, sv] 44 := (Blk.kept (Blk.drew1 (Blk.alloc (Blk.new w _ _) _)) (hgrow.block _ (by simp; omega) HNE.out)); have b0 : w3.cell? ⟨w.heap.size, 0, none⟩ = some (.int .i64 n.kind) := hB3.cell 0; have b1 : w3.cell? ⟨w.heap.size, 1, none⟩ = some (.string n.text) := hB3.cell 1; have b2 : w3.cell? ⟨w.heap.size, 2, none⟩ = some kv := hB3.cell 2; have b3 : w3.cell? ⟨w.heap.size, 3, none⟩ = some sv := hB3.cell 3))
  all_goals
    have hz3 := hgrow.size
    clear hown hf hg
    go_wp2_with fail
    go_ret
    exact put_end HST.out HN.out HL.out hgrow hown3 hat hlt hR3
end Go.Proofs.YtlpgkpaogadolaaDoor
