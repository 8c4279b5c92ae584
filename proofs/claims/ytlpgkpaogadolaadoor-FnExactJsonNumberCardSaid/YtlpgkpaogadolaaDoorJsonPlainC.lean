/- The JSON reader, plainly: values, lists, objects. -/
import Derived.Test.YtlpgkpaogadolaaDoorJsonPlainB
namespace Go.Proofs.YtlpgkpaogadolaaDoor
open Go.RowKit

/-- A node as data. -/
structure JN where
  kind : Int
  text : ByteArray
  keys : List ByteArray
  kids : List Int
/-- Bytes that are given as numbers. -/
def startC (c : Int) : Prop := c = 110 ∨ c = 116 ∨ c = 102 ∨ c = 34 ∨ c = 45 ∨ (48 ≤ c ∧ c ≤ 57) ∨ c = 91 ∨ c = 123
instance (c : Int) : Decidable (startC c) := by unfold startC; infer_instance
/-- The letters of a word from a place on. -/
def wordR (s : ByteArray) : List Int → Nat → Rd Nat
  | [], i => .ok i
  | c :: l, i => if pk s i = c then wordR s l (i + 1) else .error (2, i)
def wordOf (c : Int) : List Int := if c = 110 then [110, 117, 108, 108] else if c = 116 then [116, 114, 117, 101] else [102, 97, 108, 115, 101]
def kindOf (c : Int) : Int := if c = 110 then 1 else if c = 116 then 2 else 3
/-- What is read, and how much has been begun, and the nodes. -/
structure Got where
  i : Nat
  b : Nat
  L : List JN
abbrev ValF := Nat → Nat → List JN → Rd Got
/-- A key is among others. -/
def keyIn (k : ByteArray) (keys : List ByteArray) : Bool := keys.any fun x => x.toList == k.toList
/-- The part of a member ahead of its value: the key, and the place of the value. -/
def keyR (s : ByteArray) (keys : List ByteArray) (i : Nat) : Rd (ByteArray × Nat) :=
  if pk s i ≠ 34 then .error (2, i) else (strR s i).bind fun (acc, j) =>
    if keyIn (strOfNums acc) keys = true then .error (4, i)
    else if pk s (skipB s j) ≠ 58 then .error (2, skipB s j) else .ok (strOfNums acc, skipB s (skipB s j + 1))
/-- The sign that ends an object, a list; the kind of its node. -/
def endC (obj : Bool) : Int := if obj then 125 else 93
def kindG (obj : Bool) : Int := if obj then 7 else 6
theorem endC_pos (obj : Bool) : 0 ≤ endC obj := by cases obj <;> decide
/-- The members of an object, the values of a list, from a place on where one must begin. -/
def itemsR (s : ByteArray) (obj : Bool) (V : ValF) : Nat → Nat → Nat → List JN → List ByteArray → List Int → Rd Got
  | 0, i, _, _, _, _ => .error (2, i)
  | f + 1, i, b, L, keys, kids =>
    (if obj then (keyR s keys i).bind fun (k, j) => .ok (keys ++ [k], j) else .ok (keys, i)).bind fun (keys, j) =>
    (V j b L).bind fun G =>
    let k := skipB s G.i
    let kids := kids ++ [(G.L.length : Int) - 1]
    if pk s k = endC obj then .ok ⟨k + 1, G.b, G.L ++ [⟨kindG obj, ⟨#[]⟩, keys, kids⟩]⟩
    else if pk s k ≠ 44 then .error (2, k)
    else itemsR s obj V f (skipB s (k + 1)) G.b G.L keys kids
/-- A list or an object that begins at a place. -/
def groupR (s : ByteArray) (V : Option ValF) (obj : Bool) (i b : Nat) (L : List JN) : Rd Got :=
  match V with
  | none => .error (3, i)
  | some V =>
    let j := skipB s (i + 1)
    if pk s j = endC obj then .ok ⟨j + 1, b, L ++ [⟨kindG obj, ⟨#[]⟩, [], []⟩]⟩
    else itemsR s obj V (s.size + 1 - j) j b L [] []
/-- A value that begins at a place; so many lists and objects may still be opened. -/
def valB (s : ByteArray) (V : Option ValF) : ValF := fun i b L =>
  let c := pk s i
  if ¬ startC c then .error (2, i)
  else if b = 200 then .error (5, i)
  else if c = 110 ∨ c = 116 ∨ c = 102 then (wordR s (wordOf c) i).bind fun j => .ok ⟨j, b + 1, L ++ [⟨kindOf c, ⟨#[]⟩, [], []⟩]⟩
  else if c = 34 then (strR s i).bind fun (acc, j) => .ok ⟨j, b + 1, L ++ [⟨5, strOfNums acc, [], []⟩]⟩
  else if c = 91 then groupR s V false i (b + 1) L
  else if c = 123 then groupR s V true i (b + 1) L
  else (numE s i).bind fun j => .ok ⟨j, b + 1, L ++ [⟨4, s.extract i j, [], []⟩]⟩
def valR (s : ByteArray) : Nat → ValF
  | 0 => valB s none
  | d + 1 => valB s (some (valR s d))

/-- What a reading comes to is behind its place, within the text; the nodes are those of before and some more; each has been begun. -/
def GotOk (s : ByteArray) (i b : Nat) (L : List JN) (G : Got) : Prop := i < G.i ∧ G.i ≤ s.size ∧ b < G.b ∧ G.b ≤ 200 ∧ G.L.length + b ≤ L.length + G.b ∧ L.length < G.L.length ∧ L <+: G.L
def VOk (s : ByteArray) (V : ValF) : Prop := ∀ i b L G, V i b L = .ok G → b ≤ 200 → GotOk s i b L G
def VErr (V : ValF) : Prop := ∀ i b L c p, V i b L = .error (c, p) → c ≠ 0
theorem wordR_bd {s : ByteArray} : ∀ {l : List Int} {i j : Nat}, wordR s l i = .ok j → (∀ c ∈ l, 0 ≤ c) → i ≤ s.size → j = i + l.length ∧ j ≤ s.size
  | [], i, j, h, _, hi => by cases h; exact ⟨rfl, hi⟩
  | c :: l, i, j, h, hc, hi => by
    simp only [wordR] at h
    split at h
    · rename_i hp
      have h0 := hc c (List.mem_cons_self ..)
      have := pk_lt (s := s) (i := i) (by omega)
      have ih := wordR_bd h (fun x hx => hc x (List.mem_cons_of_mem _ hx)) (by omega)
      rw [List.length_cons]
      omega
    · cases h
theorem wordR_err {s : ByteArray} : ∀ {l : List Int} {i p : Nat} {c : Int}, wordR s l i = .error (c, p) → c = 2
  | [], i, p, c, h => by cases h
  | x :: l, i, p, c, h => by
    simp only [wordR] at h
    split at h
    · exact wordR_err h
    · cases h; rfl
theorem strN_bd {s : ByteArray} : ∀ {f j k : Nat} {acc l : List Int}, strN s f j acc = .ok (l, k) → j < k ∧ k ≤ s.size
  | 0, j, k, acc, l, h => by cases h
  | f + 1, j, k, acc, l, h => by
    simp only [strN] at h
    split at h
    · cases h
    rename_i h32
    have hlt : j < s.size := pk_lt (by omega)
    split at h
    · injection h with h; injection h with _ h; omega
    split at h
    · rcases hx : escR s j with e | ⟨x, m⟩
      · rw [hx] at h; cases h
      · rw [hx] at h
        have hb := escR_bd hx
        have := strN_bd h
        omega
    · have := strN_bd h
      omega
theorem strN_err {s : ByteArray} : ∀ {f j p : Nat} {acc : List Int} {c : Int}, strN s f j acc = .error (c, p) → c = 2
  | 0, j, p, acc, c, h => by cases h; rfl
  | f + 1, j, p, acc, c, h => by
    simp only [strN] at h
    split at h
    · cases h; rfl
    split at h
    · cases h
    split at h
    · rcases hx : escR s j with ⟨e, q⟩ | ⟨x, m⟩
      · rw [hx] at h; cases h; exact escR_err hx
      · rw [hx] at h; exact strN_err h
    · exact strN_err h
theorem strR_bd {s : ByteArray} {i k : Nat} {l : List Int} (h : strR s i = .ok (l, k)) : i + 1 < k ∧ k ≤ s.size := strN_bd h
theorem strR_err {s : ByteArray} {i p : Nat} {c : Int} (h : strR s i = .error (c, p)) : c = 2 := strN_err h
theorem numE_bd {s : ByteArray} {i j : Nat} (h : numE s i = .ok j) (hi : i ≤ s.size) : i < j ∧ j ≤ s.size := by
  unfold numE at h
  have hm : i ≤ minusE s i ∧ minusE s i ≤ s.size := by
    unfold minusE
    split
    · rename_i k
      have := pk_lt (s := s) (i := i) (by omega)
      omega
    · omega
  have hd : ∀ {a b : Nat}, digits1 s a = .ok b → a < b ∧ b ≤ s.size := by
    intro a b h
    unfold digits1 at h
    split at h
    · rename_i k
      cases h
      have := digE_bd s (a + 1)
      have := dig_lt k
      rw [digE_yes k]
      omega
    · cases h
  rcases hx : intE s (minusE s i) with e | a
  · rw [hx] at h; cases h
  rw [hx] at h
  have ha : minusE s i < a ∧ a ≤ s.size := by
    unfold intE at hx
    split at hx
    · rename_i k
      have := pk_lt (s := s) (i := minusE s i) (by omega)
      cases hx; omega
    · exact hd hx
  rcases hy : fracE s a with e | b
  · simp only [Except.bind, hy] at h; cases h
  simp only [Except.bind, hy] at h
  have hb : a ≤ b ∧ b ≤ s.size := by
    unfold fracE at hy
    split at hy
    · have := hd hy; omega
    · cases hy; omega
  have hj : b ≤ j ∧ j ≤ s.size := by
    unfold expE at h
    split at h
    · have := hd h
      have : b + 1 ≤ signE s (b + 1) := by unfold signE; split <;> omega
      omega
    · cases h; omega
  omega
theorem numE_err {s : ByteArray} {i p : Nat} {c : Int} (h : numE s i = .error (c, p)) : c = 2 := by
  have hd : ∀ {a : Nat} {c : Int} {p : Nat}, digits1 s a = .error (c, p) → c = 2 := by
    intro a c p h
    unfold digits1 at h
    split at h
    · cases h
    · cases h; rfl
  unfold numE at h
  rcases hx : intE s (minusE s i) with ⟨c1, p1⟩ | a
  · rw [hx] at h
    cases h
    unfold intE at hx
    split at hx
    · cases hx
    · exact hd hx
  rw [hx] at h
  rcases hy : fracE s a with ⟨c1, p1⟩ | b
  · simp only [Except.bind, hy] at h
    cases h
    unfold fracE at hy
    split at hy
    · exact hd hy
    · cases hy
  simp only [Except.bind, hy] at h
  unfold expE at h
  split at h
  · exact hd h
  · cases h
theorem keyR_bd {s : ByteArray} {keys : List ByteArray} {i j : Nat} {k : ByteArray} (h : keyR s keys i = .ok (k, j)) : i < j ∧ j ≤ s.size := by
  unfold keyR at h
  split at h
  · cases h
  rcases hx : strR s i with e | ⟨acc, m⟩
  · rw [hx] at h; cases h
  rw [hx] at h
  have hb := strR_bd hx
  simp only [Except.bind] at h
  split at h
  · cases h
  split at h
  · cases h
  rename_i h58
  have hl := pk_lt (s := s) (i := skipB s m) (by omega)
  have h1 := skipB_bd s m
  have h2 := skipB_bd s (skipB s m + 1)
  injection h with h; injection h with _ h
  omega
theorem keyR_err {s : ByteArray} {keys : List ByteArray} {i p : Nat} {c : Int} (h : keyR s keys i = .error (c, p)) : c = 2 ∨ c = 4 := by
  unfold keyR at h
  split at h
  · cases h; exact .inl rfl
  rcases hx : strR s i with ⟨e, q⟩ | ⟨acc, m⟩
  · rw [hx] at h; cases h; exact .inl (strR_err hx)
  rw [hx] at h
  simp only [Except.bind] at h
  split at h
  · cases h; exact .inr rfl
  split at h
  · cases h; exact .inl rfl
  · cases h
theorem itemsR_bd {s : ByteArray} {obj : Bool} {V : ValF} (hV : VOk s V) : ∀ {f i b : Nat} {L : List JN} {keys : List ByteArray} {kids : List Int} {G : Got}, itemsR s obj V f i b L keys kids = .ok G → b ≤ 200 → i ≤ s.size →
    i < G.i ∧ G.i ≤ s.size ∧ b < G.b ∧ G.b ≤ 200 ∧ G.L.length + b ≤ L.length + G.b + 1 ∧ L.length < G.L.length ∧ L <+: G.L
  | 0, i, b, L, keys, kids, G, h, _, _ => by cases h
  | f + 1, i, b, L, keys, kids, G, h, hb, hi => by
    simp only [itemsR] at h
    obtain ⟨K, j, hk, hij, hj⟩ : ∃ K j, (if obj then (keyR s keys i).bind fun (k, j) => .ok (keys ++ [k], j) else .ok (keys, i) : Rd (List ByteArray × Nat)) = .ok (K, j) ∧ i ≤ j ∧ j ≤ s.size := by
      cases obj with
      | false => exact ⟨keys, i, rfl, Nat.le_refl _, hi⟩
      | true =>
        rcases hx : keyR s keys i with e | ⟨k, j⟩
        · simp only [hx, if_true] at h; cases h
        · have := keyR_bd hx
          refine ⟨keys ++ [k], j, ?_, by omega, by omega⟩
          simp only [if_true]; rfl
    rw [hk] at h
    simp only [Except.bind] at h
    rcases hv : V j b L with e | G1
    · rw [hv] at h; cases h
    rw [hv] at h
    obtain ⟨g1, g2, g3, g4, g5, g6, g7⟩ := hV _ _ _ _ hv hb
    have hs := skipB_bd s G1.i
    have hl : ∀ c : Int, 0 ≤ c → pk s (skipB s G1.i) = c → skipB s G1.i < s.size := fun c hc e => pk_lt (by omega)
    simp only [] at h
    split at h
    · rename_i he
      have := hl _ (endC_pos obj) he
      cases h
      refine ⟨by simp only []; omega, by simp only []; omega, by simp only []; omega, by simp only []; omega, by simp only [List.length_append, List.length_singleton]; omega, by simp only [List.length_append, List.length_singleton]; omega, ?_⟩
      exact g7.trans (List.prefix_append _ _)
    split at h
    · cases h
    · rename_i h44
      have := hl 44 (by omega) (by omega)
      have hs2 := skipB_bd s (skipB s G1.i + 1)
      have ih := itemsR_bd hV h g4 (by omega)
      refine ⟨by omega, by omega, by omega, by omega, by omega, by omega, g7.trans ih.2.2.2.2.2.2⟩
theorem groupR_bd {s : ByteArray} {V : Option ValF} (hV : ∀ W, V = some W → VOk s W) {obj : Bool} {i b : Nat} {L : List JN} {G : Got} (h : groupR s V obj i b L = .ok G) (hb : b ≤ 200) (hi : i < s.size) :
    i < G.i ∧ G.i ≤ s.size ∧ b ≤ G.b ∧ G.b ≤ 200 ∧ G.L.length + b ≤ L.length + G.b + 1 ∧ L.length < G.L.length ∧ L <+: G.L := by
  unfold groupR at h
  cases V with
  | none => cases h
  | some V =>
    simp only [] at h
    have hs := skipB_bd s (i + 1)
    split at h
    · rename_i he
      have := pk_lt (s := s) (i := skipB s (i + 1)) (by rw [he]; exact endC_pos obj)
      cases h
      refine ⟨by simp only []; omega, by simp only []; omega, by simp only []; omega, by simp only []; omega, by simp only [List.length_append, List.length_singleton]; omega, by simp only [List.length_append, List.length_singleton]; omega, List.prefix_append _ _⟩
    · obtain ⟨a1, a2, a3, a4, a5, a6, a7⟩ := itemsR_bd (hV V rfl) h hb (by omega)
      exact ⟨by omega, by omega, by omega, by omega, by omega, by omega, a7⟩
theorem valB_bd {s : ByteArray} {V : Option ValF} (hV : ∀ W, V = some W → VOk s W) : VOk s (valB s V) := by
  intro i b L G h hb
  unfold valB at h
  simp only [] at h
  split at h
  · cases h
  rename_i hst
  have hi : i < s.size := pk_lt (s := s) (i := i) (by have := pk_range s i; rw [Decidable.not_not] at hst; unfold startC at hst; omega)
  split at h
  · cases h
  split at h
  · rcases hx : wordR s (wordOf (pk s i)) i with e | j
    · rw [hx] at h; cases h
    rw [hx] at h
    have hw : (∀ c ∈ wordOf (pk s i), (0 : Int) ≤ c) ∧ 4 ≤ (wordOf (pk s i)).length := by
      unfold wordOf; split
      · exact ⟨by decide, by decide⟩
      split
      · exact ⟨by decide, by decide⟩
      · exact ⟨by decide, by decide⟩
    have := wordR_bd hx hw.1 (by omega)
    cases h
    exact ⟨by simp only []; omega, by simp only []; omega, by simp only []; omega, by simp only []; omega, by simp only [List.length_append, List.length_singleton]; omega, by simp, List.prefix_append _ _⟩
  split at h
  · rcases hx : strR s i with e | ⟨acc, j⟩
    · rw [hx] at h; cases h
    rw [hx] at h
    have := strR_bd hx
    cases h
    exact ⟨by simp only []; omega, by simp only []; omega, by simp only []; omega, by simp only []; omega, by simp only [List.length_append, List.length_singleton]; omega, by simp, List.prefix_append _ _⟩
  split at h
  · obtain ⟨a1, a2, a3, a4, a5, a6, a7⟩ := groupR_bd hV h (by omega) hi
    exact ⟨a1, a2, by omega, a4, by omega, a6, a7⟩
  split at h
  · obtain ⟨a1, a2, a3, a4, a5, a6, a7⟩ := groupR_bd hV h (by omega) hi
    exact ⟨a1, a2, by omega, a4, by omega, a6, a7⟩
  · rcases hx : numE s i with e | j
    · rw [hx] at h; cases h
    rw [hx] at h
    have := numE_bd hx (by omega)
    cases h
    exact ⟨by simp only []; omega, by simp only []; omega, by simp only []; omega, by simp only []; omega, by simp only [List.length_append, List.length_singleton]; omega, by simp, List.prefix_append _ _⟩
theorem valR_bd (s : ByteArray) : ∀ d, VOk s (valR s d)
  | 0 => valB_bd (fun _ h => by cases h)
  | d + 1 => valB_bd (fun W h => by cases h; exact valR_bd s d)
theorem itemsR_err {s : ByteArray} {obj : Bool} {V : ValF} (hV : VErr V) : ∀ {f i b : Nat} {L : List JN} {keys : List ByteArray} {kids : List Int} {c : Int} {p : Nat}, itemsR s obj V f i b L keys kids = .error (c, p) → c ≠ 0
  | 0, i, b, L, keys, kids, c, p, h => by cases h; decide
  | f + 1, i, b, L, keys, kids, c, p, h => by
    simp only [itemsR] at h
    rcases hk : (if obj then (keyR s keys i).bind fun (k, j) => .ok (keys ++ [k], j) else .ok (keys, i) : Rd (List ByteArray × Nat)) with ⟨c1, p1⟩ | ⟨K, j⟩
    · rw [hk] at h
      cases h
      cases obj with
      | false => cases hk
      | true =>
        simp only [if_true] at hk
        rcases hx : keyR s keys i with ⟨c2, p2⟩ | ⟨k, j⟩
        · rw [hx] at hk; cases hk; have := keyR_err hx; omega
        · rw [hx] at hk; cases hk
    rw [hk] at h
    simp only [Except.bind] at h
    rcases hv : V j b L with ⟨c1, p1⟩ | G1
    · rw [hv] at h; cases h; exact hV _ _ _ _ _ hv
    rw [hv] at h
    simp only [] at h
    split at h
    · cases h
    split at h
    · cases h; decide
    · exact itemsR_err hV h
theorem valB_err {s : ByteArray} {V : Option ValF} (hV : ∀ W, V = some W → VErr W) : VErr (valB s V) := by
  have hg : ∀ {obj : Bool} {i b : Nat} {L : List JN} {c : Int} {p : Nat}, groupR s V obj i b L = .error (c, p) → c ≠ 0 := by
    intro obj i b L c p h
    unfold groupR at h
    cases V with
    | none => cases h; decide
    | some V =>
      simp only [] at h
      split at h
      · cases h
      · exact itemsR_err (hV V rfl) h
  intro i b L c p h
  unfold valB at h
  simp only [] at h
  split at h
  · cases h; decide
  split at h
  · cases h; decide
  split at h
  · rcases hx : wordR s (wordOf (pk s i)) i with ⟨c1, p1⟩ | j
    · rw [hx] at h; cases h; have := wordR_err hx; omega
    · rw [hx] at h; cases h
  split at h
  · rcases hx : strR s i with ⟨c1, p1⟩ | ⟨acc, j⟩
    · rw [hx] at h; cases h; have := strR_err hx; omega
    · rw [hx] at h; cases h
  split at h
  · exact hg h
  split at h
  · exact hg h
  · rcases hx : numE s i with ⟨c1, p1⟩ | j
    · rw [hx] at h; cases h; have := numE_err hx; omega
    · rw [hx] at h; cases h
theorem valR_err (s : ByteArray) : ∀ d, VErr (valR s d)
  | 0 => valB_err (fun _ h => by cases h)
  | d + 1 => valB_err (fun W h => by cases h; exact valR_err s d)
/-- What a line comes to: its nodes. -/
def readR (s : ByteArray) : Rd (List JN) :=
  (valR s 8 (skipB s 0) 0 []).bind fun G => if skipB s G.i < s.size then .error (2, skipB s G.i) else .ok G.L
theorem readR_err {s : ByteArray} {c : Int} {p : Nat} (h : readR s = .error (c, p)) : c ≠ 0 := by
  unfold readR at h
  rcases hv : valR s 8 (skipB s 0) 0 [] with ⟨c1, p1⟩ | G
  · rw [hv] at h; cases h; exact valR_err s 8 _ _ _ _ _ hv
  · rw [hv] at h
    simp only [Except.bind] at h
    split at h
    · cases h; decide
    · cases h
end Go.Proofs.YtlpgkpaogadolaaDoor
