/- Slices of whole numbers: how they read, and what keeps them; append; sorted lists without repeats. No program's function in sight. Plain law: rising lists, and how a pattern is written out as spots. No program in sight. -/
import Derived.Test.YtmcoaopcmjociaaDoorRows
import Derived.Test.YtmcoaopcmjociaaDoorZo0
import Derived.Laws.AppendOwnNone
import Derived.Sort.Row
import Derived.Sort.Grow
import Derived.Lib.SlicesCompact
namespace Go.Proofs.YtmcoaopcmjociaaDoor
open Go Go.RowKit Go.Sort

/-- Block k holds elements of type t. -/
def Ty (w : World) (t : TypeId) (k : Nat) : Prop := ∃ cs m, w.heap[k]? = some (.cells cs t m)
theorem Ty.lt {w : World} {t : TypeId} {k : Nat} (h : Ty w t k) : k < w.heap.size := by
  obtain ⟨cs, m, h⟩ := h
  exact (Array.getElem?_eq_some_iff.1 h).1
theorem Ty.same {w w' : World} {t : TypeId} {k : Nat} (h : Ty w t k) (he : w'.heap[k]? = w.heap[k]?) : Ty w' t k := by
  obtain ⟨cs, m, h⟩ := h
  exact ⟨cs, m, he.trans h⟩
theorem Ty.ne {w : World} {t t' : TypeId} {k k' : Nat} (h : Ty w t k) (h' : Ty w t' k') (hne : t ≠ t') : k ≠ k' := by
  rintro rfl
  obtain ⟨cs, m, h⟩ := h
  obtain ⟨cs', m', h'⟩ := h'
  rw [h] at h'
  injection h' with h'
  injection h' with _ h'
  exact hne h'

theorem addr_add (b off j : Nat) : (⟨b, off, none⟩ : Addr).add j = ⟨b, off + j, none⟩ := by unfold Addr.add; split <;> simp_all
/-- A slice of whole numbers that is read; its cells lie in a block of S. -/
def IR (S : Nat → Prop) (w : World) (v : Value) (xs : List Int) : Prop :=
  ∃ A c, v = .slice A xs.length c ∧ xs.length ≤ c ∧ xs.length ≤ 17592186044416 ∧
    (xs ≠ [] → ∃ b off, A = some ⟨b, off, none⟩ ∧ S b ∧ ∀ j, j < xs.length → w.cell? ⟨b, off + j, none⟩ = some (.int .i64 (xs.getD j 0)))
theorem IR.keep {S : Nat → Prop} {w w' : World} {v : Value} {xs : List Int} (h : IR S w v xs) (hk : ∀ k, S k → k < w.heap.size → w'.heap[k]? = w.heap[k]?) : IR S w' v xs := by
  obtain ⟨A, c, rfl, h1, h2, h3⟩ := h
  refine ⟨A, c, rfl, h1, h2, fun hne => ?_⟩
  obtain ⟨b, off, hA, hS, hc⟩ := h3 hne
  refine ⟨b, off, hA, hS, fun j hj => ?_⟩
  have := hc j hj
  exact (World.cell?_of_block (hk b hS (World.block_lt_of_cell? w _ this))).trans this
theorem IR.mono {S S' : Nat → Prop} {w : World} {v : Value} {xs : List Int} (h : IR S w v xs) (hS : ∀ k, S k → k < w.heap.size → S' k) : IR S' w v xs := by
  obtain ⟨A, c, rfl, h1, h2, h3⟩ := h
  refine ⟨A, c, rfl, h1, h2, fun hne => ?_⟩
  obtain ⟨b, off, hA, hS0, hc⟩ := h3 hne
  refine ⟨b, off, hA, hS b hS0 ?_, hc⟩
  have : 0 < xs.length := List.length_pos_iff.2 hne
  exact World.block_lt_of_cell? w _ (hc 0 this)
theorem IR.below {S : Nat → Prop} {w w' : World} {v : Value} {xs : List Int} (h : IR S w v xs) (hb : Below w.heap.size w w') : IR S w' v xs := h.keep fun k _ hk => hb.block k hk
theorem IR.old {S : Nat → Prop} {w : World} {v : Value} {xs : List Int} (h : IR S w v xs) : IR (· < w.heap.size) w v xs := h.mono fun _ _ h => h
theorem IR.nil (S : Nat → Prop) (w : World) : IR S w (.slice none 0 0) [] := ⟨none, 0, rfl, by simp, by simp, fun h => absurd rfl h⟩
theorem IR.len {S : Nat → Prop} {w : World} {v : Value} {xs : List Int} (h : IR S w v xs) : xs.length ≤ 17592186044416 := by
  obtain ⟨A, c, rfl, h1, h2, h3⟩ := h
  exact h2
/-- The shape, and the cells: what a walk wants. -/
theorem IR.form {S : Nat → Prop} {w : World} {v : Value} {xs : List Int} (h : IR S w v xs) : ∃ A c, v = .slice A xs.length c ∧ xs.length ≤ c ∧ (0 < xs.length → ∃ b off, A = some ⟨b, off, none⟩ ∧ S b ∧ ∀ j, j < xs.length → w.cell? ⟨b, off + j, none⟩ = some (.int .i64 (xs.getD j 0))) := by
  obtain ⟨A, c, rfl, h1, h2, h3⟩ := h
  exact ⟨A, c, rfl, h1, fun h => h3 (List.length_pos_iff.1 h)⟩

/-- The cells of a slice that is known by its parts. -/
theorem IR.cells {S : Nat → Prop} {w : World} {A : Option Addr} {c : Nat} {xs : List Int} (h : IR S w (.slice A xs.length c) xs) (h0 : 0 < xs.length) : ∃ b off, A = some ⟨b, off, none⟩ ∧ S b ∧ ∀ j (hj : j < xs.length), w.cell? ⟨b, off + j, none⟩ = some (.int .i64 xs[j]) := by
  obtain ⟨A', c', he, _, _, h3⟩ := h
  obtain ⟨b, off, hA, hS, hc⟩ := h3 (List.length_pos_iff.1 h0)
  have hA' : A = A' := by injection he
  refine ⟨b, off, hA'.trans hA, hS, fun j hj => ?_⟩
  rw [hc j hj, List.getD_eq_getElem?_getD, List.getElem?_eq_getElem hj]; rfl
/-- A slice of whole numbers in a block of whole numbers. -/
abbrev IRT (w : World) (v : Value) (xs : List Int) : Prop := IR (Ty w 3) w v xs
/-- The blocks of whole numbers are as they were. -/
def Keep3 (w w' : World) : Prop := w.heap.size ≤ w'.heap.size ∧ ∀ k, Ty w 3 k → w'.heap[k]? = w.heap[k]?
theorem Keep3.refl (w : World) : Keep3 w w := ⟨Nat.le_refl _, fun _ _ => rfl⟩
theorem Keep3.trans {a b c : World} (h : Keep3 a b) (k : Keep3 b c) : Keep3 a c := ⟨Nat.le_trans h.1 k.1, fun i hi => (k.2 i (hi.same (h.2 i hi))).trans (h.2 i hi)⟩
theorem Keep3.below {w w' : World} (h : Below w.heap.size w w') : Keep3 w w' := ⟨h.size, fun _ hk => h.block _ hk.lt⟩
theorem IRT.keep {w w' : World} {v : Value} {xs : List Int} (h : IRT w v xs) (hk : Keep3 w w') : IRT w' v xs := by
  have h' : IR (Ty w 3) w' v xs := IR.keep h fun k hS _ => hk.2 k hS
  obtain ⟨A, c, rfl, h1, h2, h3⟩ := h'
  refine ⟨A, c, rfl, h1, h2, fun hne => ?_⟩
  obtain ⟨b, off, hA, hS0, hc⟩ := h3 hne
  exact ⟨b, off, hA, hS0.same (hk.2 b hS0), hc⟩
theorem IRT.below {w w' : World} {v : Value} {xs : List Int} (h : IRT w v xs) (hb : Below w.heap.size w w') : IRT w' v xs := IRT.keep h (Keep3.below hb)

abbrev ints (xs : List Int) : List Value := xs.map (Value.int .i64)
/-- What the call itself has made reads so. -/
theorem IRT.own {w : World} {base n : Nat} {v : Value} {xs : List Int} (h : w.ownsRow base 3 1 v n (ints xs)) (hn : n ≤ 17592186044416) : IRT w v xs := by
  obtain ⟨h1, h2⟩ := h
  have hl : xs.length = n := by simpa using h1
  subst hl
  rcases h2 with ⟨rfl, h0⟩ | ⟨g, cap, cur, rfl, hg, hh, hc, hm, hs, ht⟩
  · have : xs = [] := List.length_eq_zero_iff.1 h0
    subst this
    exact IR.nil _ _
  · refine ⟨_, cap, rfl, hc, hn, fun _ => ⟨g, 0, rfl, ⟨cur, _, hh⟩, fun j hj => ?_⟩⟩
    have hj' : (cur.toList.take (xs.length * 1))[j]? = some (.int .i64 (xs.getD j 0)) := by rw [ht]; simp [List.getElem?_eq_getElem hj, List.getD_eq_getElem?_getD]
    rw [List.getElem?_take, if_pos (by omega)] at hj'
    simp only [World.cell?, hh, Nat.zero_add, Option.isSome_none, Bool.false_eq_true, if_false]
    simpa using hj'
theorem own_block_ge {w : World} {base n : Nat} {e : TypeId} {size : Nat} {v : Value} {xs : List Value} (h : w.ownsRow base e size v n xs) : ∀ k, v.ownBlock = some k → base ≤ k := fun k hk => (h.lt k hk).1

theorem intInfo : (Tryd.prog.info? 3).map (fun i => (i.zero, i.size, i.bytes)) = some (some (Value.int .i64 0), 1, 8) := by kernel_rfl

/-- append(out, xs...): out a row of the call's own, xs read. -/
theorem wpList_append_ints {w : World} {ops : Array Oper} {rest : List Oper} {o : Oper} {a : Act} {Q : Exit → Act → World → Prop} (hgd : o.guard = none) (s x : Operand)
    (ho : o.op = .call { callee := .builtin .append, args := #[s, x], argTypes := #[32, 32] })
    (base : Nat) (v : Value) (xs : List Int) (hs : a.eval s = v) (hown : w.ownsRow base 3 1 v xs.length (ints xs)) {S : Nat → Prop} (u : Value) (ys : List Int) (hx : a.eval x = u) (hr : IR S w u ys)
    (hlen : xs.length + ys.length ≤ 17592186044416) (hbase : base ≤ w.heap.size)
    (h : ∀ v' w', w'.ownsRow base 3 1 v' (xs ++ ys).length (ints (xs ++ ys)) → w.grownBy w' v.ownBlock → wpList Tryd.prog ops Q rest (a.put o.dst v') w') : wpList Tryd.prog ops Q (o :: rest) a w := by
  obtain ⟨i0, hi, hz0, hz1, hz2⟩ := info_parts intInfo
  obtain ⟨A, c, rfl, h1, h2, h3⟩ := hr
  cases A with
  | none =>
    have hy : ys = [] := by
      by_cases hy : ys = []
      · exact hy
      · obtain ⟨b, off, hA, _⟩ := h3 hy; cases hA
    subst hy
    by_cases hc0 : c = 0
    · subst hc0
      refine wpList_append_own_none hgd s x 32 ho base 3 i0 1 Tryd.underlying32 hi v xs.length (ints xs) hs hown hx (h _ _ (by simpa using hown) ?_)
      exact ⟨rfl, rfl, rfl, Nat.le_refl _, fun _ _ _ => rfl⟩
    · refine wpList_plain hgd fun K hK => ?_
      have hrun : (Builtin.append_ #[32, 32] o.type #[v, .slice none 0 c]).run Tryd.prog w = (Builtin.append_ #[32, 32] o.type #[v, .slice none 0 0]).run Tryd.prog w := by
        rcases hown.2 with ⟨rfl, _⟩ | ⟨g, cap, cur, rfl, _⟩ <;> rfl
      have hrun2 := run_append_owned_none (P := Tryd.prog) (w := w) base 32 o.type 3 i0 1 Tryd.underlying32 hi v xs.length (ints xs) hown
      unfold Oper.wp
      simp only [List.length_nil] at hx
      simp [execOp, ho, resolve, invoke, builtin, hs, hx, hrun, hrun2, Result.andThen]
      exact hK _ _ (h _ _ (by simpa using hown) ⟨rfl, rfl, rfl, Nat.le_refl _, fun _ _ _ => rfl⟩)
  | some ad =>
    refine wpList_append_own w hgd s x 32 ho base 3 i0 (.int .i64 0) 1 8 Tryd.underlying32 hi hz0 hz1 hz2 rfl (by decide) v xs.length (ints xs) hs hown ad ys.length c (ints ys) hx (by simp) ?_ (ints_oneCell _ _) (by unfold maxLen; omega) (by omega) hbase fun v' w' ho' hg _ => h v' w' (by simpa using ho') hg
    intro j u hj
    have hjl : j < ys.length := by have := (List.getElem?_eq_some_iff.1 hj).1; simpa using this
    obtain ⟨b, off, hA, _, hc⟩ := h3 (by intro h0; subst h0; simp at hjl)
    obtain rfl := Option.some.inj hA
    have e : (⟨b, off, none⟩ : Addr).add j = ⟨b, off + j, none⟩ := addr_add b off j
    have hu : some (Value.int .i64 (ys.getD j 0)) = some u := by
      rw [← hj, List.getElem?_map, List.getElem?_eq_getElem hjl, List.getD_eq_getElem?_getD, List.getElem?_eq_getElem hjl]; rfl
    rw [e, hc j hjl, hu]

/-! ### What a sort in place leaves -/
theorem heap_putRow_same {enc : Int → Value} {w : World} {g off : Nat} {d : Array Int} {c : Array Value} {e : TypeId} {fr : Nat × Nat} (h : w.heap[g]? = some (.cells c e fr)) : (putRow enc w g off d).heap[g]? = some (.cells (putCells enc off d c) e fr) := by
  simp [putRow, mapBlock, Array.getElem?_modify, h, onCells]
theorem heap_putRow_other {enc : Int → Value} {w : World} {g off : Nat} {d : Array Int} {k : Nat} (h : k ≠ g) : (putRow enc w g off d).heap[k]? = w.heap[k]? := by
  simp [putRow, mapBlock, Array.getElem?_modify, Ne.symm h]
theorem heap_grow_old {w : World} {os : Array Obj} {k : Nat} (h : k < w.heap.size) : (grow w os).heap[k]? = w.heap[k]? := by
  simp [grow, Array.getElem?_append_left h]

/-! ### Sorted lists without repeats -/
/-- The numbers of both, rising, each once. -/
def mergeL (a b : List Int) : List Int := Lib.compact ((a ++ b).mergeSort fun x y => decide (x ≤ y))

end Go.Proofs.YtmcoaopcmjociaaDoor

namespace Go.Proofs.YtmcoaopcmjociaaDoor
open Go Go.RowKit Go.Sort

/-! ### Sorted lists -/
theorem getElem!_sorted {zs : List Int} (h : zs.Pairwise (· ≤ ·)) : ∀ i j, i ≤ j → j < zs.length → zs.toArray[i]! ≤ zs.toArray[j]! := by
  intro i j hij hj
  rw [getElem!_pos _ _ (by simpa using (by omega : i < zs.length)), getElem!_pos _ _ (by simpa using hj)]
  rcases Nat.lt_or_ge i j with h1 | h1
  · simpa using List.pairwise_iff_getElem.1 h i j (by omega) hj h1
  · obtain rfl : i = j := by omega
    exact Int.le_refl _
theorem compactUpTo_sorted {zs : List Int} (h : zs.Pairwise (· ≤ ·)) : ∀ m, m ≤ zs.length →
    (Lib.compactUpTo zs.toArray m).Pairwise (· < ·) ∧ ∀ x, x ∈ Lib.compactUpTo zs.toArray m ↔ ∃ j, j < m ∧ zs.toArray[j]! = x
  | 0, _ => by simp [Lib.compactUpTo]
  | m + 1, hm => by
    obtain ⟨h1, h2⟩ := compactUpTo_sorted h m (by omega)
    rw [Lib.compactUpTo_succ]
    by_cases hk : Lib.keeps zs.toArray m = true
    · rw [if_pos hk]
      have hlt : ∀ j, j < m → zs.toArray[j]! < zs.toArray[m]! := by
        intro j hj
        have hne : zs.toArray[m]! ≠ zs.toArray[m - 1]! := by
          have : m = 0 ∨ zs.toArray[m]! ≠ zs.toArray[m - 1]! := of_decide_eq_true hk
          rcases this with h0 | h0
          · omega
          · exact h0
        have a := getElem!_sorted h j (m - 1) (by omega) (by omega)
        have b := getElem!_sorted h (m - 1) m (by omega) (by omega)
        omega
      refine ⟨List.pairwise_append.2 ⟨h1, by simp, fun a ha b hb => ?_⟩, fun x => ?_⟩
      · obtain ⟨j, hj, rfl⟩ := (h2 a).1 ha
        rw [List.mem_singleton.1 hb]
        exact hlt j hj
      · rw [List.mem_append, h2 x, List.mem_singleton]
        constructor
        · rintro (⟨j, hj, rfl⟩ | rfl)
          · exact ⟨j, by omega, rfl⟩
          · exact ⟨m, by omega, rfl⟩
        · rintro ⟨j, hj, rfl⟩
          rcases Nat.lt_or_ge j m with h3 | h3
          · exact .inl ⟨j, h3, rfl⟩
          · obtain rfl : j = m := by omega
            exact .inr rfl
    · rw [if_neg hk, List.append_nil]
      refine ⟨h1, fun x => ?_⟩
      rw [h2 x]
      have hk' : ¬ (m = 0 ∨ zs.toArray[m]! ≠ zs.toArray[m - 1]!) := fun h0 => hk (decide_eq_true h0)
      have h0 : m ≠ 0 := fun h0 => hk' (.inl h0)
      have he : zs.toArray[m]! = zs.toArray[m - 1]! := Classical.byContradiction fun h0 => hk' (.inr h0)
      constructor
      · rintro ⟨j, hj, rfl⟩
        exact ⟨j, by omega, rfl⟩
      · rintro ⟨j, hj, rfl⟩
        rcases Nat.lt_or_ge j m with h3 | h3
        · exact ⟨j, h3, rfl⟩
        · obtain rfl : j = m := by omega
          exact ⟨j - 1, by omega, he.symm⟩
theorem mergeL_sorted (a b : List Int) : (mergeL a b).Pairwise (· < ·) := by
  unfold mergeL Lib.compact
  refine (compactUpTo_sorted ?_ _ (Nat.le_refl _)).1
  have := List.pairwise_mergeSort (le := fun x y : Int => decide (x ≤ y)) (by intro x y z; simp; omega) (by intro x y; simp; omega) (a ++ b)
  simpa using this
theorem mem_mergeL (a b : List Int) (x : Int) : x ∈ mergeL a b ↔ x ∈ a ∨ x ∈ b := by
  unfold mergeL Lib.compact
  have hs := List.pairwise_mergeSort (le := fun x y : Int => decide (x ≤ y)) (by intro x y z; simp; omega) (by intro x y; simp; omega) (a ++ b)
  rw [(compactUpTo_sorted (by simpa using hs) _ (Nat.le_refl _)).2 x]
  rw [← List.mem_append, ← List.mem_mergeSort (le := fun x y : Int => decide (x ≤ y)) (l := a ++ b), List.mem_iff_getElem]
  constructor
  · rintro ⟨j, hj, rfl⟩
    exact ⟨j, hj, by rw [getElem!_pos _ _ (by simpa using hj)]; simp⟩
  · rintro ⟨j, hj, rfl⟩
    exact ⟨j, hj, by rw [getElem!_pos _ _ (by simpa using hj)]; simp⟩
/-- Rising lists with the same members are the same. -/
theorem rising_ext : ∀ {a b : List Int}, a.Pairwise (· < ·) → b.Pairwise (· < ·) → (∀ x, x ∈ a ↔ x ∈ b) → a = b
  | [], [], _, _, _ => rfl
  | [], y :: b, _, _, h => absurd ((h y).2 (by simp)) (by simp)
  | x :: a, [], _, _, h => absurd ((h x).1 (by simp)) (by simp)
  | x :: a, y :: b, ha, hb, h => by
    obtain ⟨ha1, ha2⟩ := List.pairwise_cons.1 ha
    obtain ⟨hb1, hb2⟩ := List.pairwise_cons.1 hb
    have hxy : x = y := by
      rcases List.mem_cons.1 ((h x).1 (by simp)) with h1 | h1
      · exact h1
      · rcases List.mem_cons.1 ((h y).2 (by simp)) with h2 | h2
        · exact h2.symm
        · have := hb1 x h1
          have := ha1 y h2
          omega
    subst hxy
    refine congrArg (x :: ·) (rising_ext ha2 hb2 fun z => ?_)
    constructor
    · intro hz
      rcases List.mem_cons.1 ((h z).1 (by simp [hz])) with h1 | h1
      · have := ha1 z hz; omega
      · exact h1
    · intro hz
      rcases List.mem_cons.1 ((h z).2 (by simp [hz])) with h1 | h1
      · have := hb1 z hz; omega
      · exact h1

/-- Rising numbers of spots, m in all. -/
def Good (m : Nat) (l : List Int) : Prop := l.Pairwise (· < ·) ∧ ∀ x ∈ l, 0 ≤ x ∧ x < m
theorem rising_len (m : Nat) : ∀ (l : List Int) (a : Int), l.Pairwise (· < ·) → (∀ x ∈ l, a ≤ x ∧ x < m) → a ≤ m → (l.length : Int) ≤ m - a
  | [], a, _, _, h => by simp; omega
  | x :: l, a, hp, hx, h => by
    obtain ⟨h1, h2⟩ := List.pairwise_cons.1 hp
    have hx0 := hx x (by simp)
    have := rising_len m l (x + 1) h2 (fun y hy => ⟨by have := h1 y hy; omega, (hx y (by simp [hy])).2⟩) (by omega)
    simp; omega
theorem Good.len {m : Nat} {l : List Int} (h : Good m l) : l.length ≤ m := by
  have := rising_len m l 0 h.1 h.2 (by omega)
  omega
theorem Good.mono {m m' : Nat} {l : List Int} (h : Good m l) (hm : m ≤ m') : Good m' l := ⟨h.1, fun x hx => ⟨(h.2 x hx).1, by have := (h.2 x hx).2; omega⟩⟩
theorem Good.nil (m : Nat) : Good m [] := ⟨List.Pairwise.nil, fun x hx => by simp at hx⟩
theorem Good.one {m : Nat} {i : Nat} (h : i < m) : Good m [(i : Int)] := ⟨by simp, fun x hx => by rw [List.mem_singleton.1 hx]; omega⟩
theorem Good.merge {m : Nat} {a b : List Int} (ha : Good m a) (hb : Good m b) : Good m (mergeL a b) := ⟨mergeL_sorted a b, fun x hx => by
  rcases (mem_mergeL a b x).1 hx with h | h
  · exact ha.2 x h
  · exact hb.2 x h⟩

/-! ### Writing a pattern out -/
abbrev S4 := Int × Int × Int × Int
structure Part where
  first : List Int
  last : List Int
  none : Bool
structure St where
  sets : List S4
  next : List (List Int)

def nextL (nx : List (List Int)) (of sp : List Int) : List (List Int) := of.foldl (fun nx i => nx.set i.toNat (mergeL (nx.getD i.toNat []) sp)) nx
def behindS (s : St) (a b : Part) : St := { s with next := nextL s.next a.last b.first }
def behindP (a b : Part) : Part := ⟨if a.none then mergeL a.first b.first else a.first, if b.none then mergeL a.last b.last else b.last, a.none && b.none⟩
def emptyP : Part := ⟨[], [], true⟩
def manyF (f : St → Part × St) : Nat → Part → St → Part × St
  | 0, p, s => (p, s)
  | n + 1, p, s => manyF f n (behindP p (f s).1) (behindS (f s).2 p (f s).1)
def restF (f : St → Part × St) : Nat → St → Part × St
  | 0, s => (emptyP, s)
  | n + 1, s => ({ behindP (f s).1 (restF f n (f s).2).1 with none := true }, behindS (restF f n (f s).2).2 (f s).1 (restF f n (f s).2).1)
def loopS (s : St) (q : Part) : St := { s with next := nextL s.next q.last q.first }
def oftenF (c : Int) (f : St → Part × St) (mn mx : Int) (s : St) : Part × St :=
  if c = 0 then (emptyP, s) else
  let r := manyF f mn.toNat emptyP s
  if mx = -1 then
    (behindP r.1 { (f r.2).1 with none := true }, behindS (loopS (f r.2).2 (f r.2).1) r.1 { (f r.2).1 with none := true })
  else
    (behindP r.1 (restF f (mx - mn).toNat r.2).1, behindS (restF f (mx - mn).toNat r.2).2 r.1 (restF f (mx - mn).toNat r.2).1)
mutual
def writeT : Tree → St → Part × St
  | .node k s0 s1 s2 s3 l mn mx, s =>
    if k = 1 then (⟨[(s.sets.length : Int)], [(s.sets.length : Int)], false⟩, ⟨s.sets ++ [(s0, s1, s2, s3)], s.next ++ [[]]⟩)
    else if k = 3 then writeAlt l ⟨[], [], false⟩ s
    else if k = 4 then writeRep l mn mx s
    else writeCat l emptyP s
def writeRep : List Tree → Int → Int → St → Part × St
  | [], _, _, s => (emptyP, s)
  | t :: _, mn, mx, s => oftenF t.cnt (writeT t) mn mx s
def writeCat : List Tree → Part → St → Part × St
  | [], p, s => (p, s)
  | t :: l, p, s => writeCat l (behindP p (writeT t s).1) (behindS (writeT t s).2 p (writeT t s).1)
def writeAlt : List Tree → Part → St → Part × St
  | [], p, s => (p, s)
  | t :: l, p, s => writeAlt l ⟨mergeL p.first (writeT t s).1.first, mergeL p.last (writeT t s).1.last, p.none || (writeT t s).1.none⟩ (writeT t s).2
end
mutual
/-- How many spots are written. -/
def spotsN : Tree → Nat
  | .node k _ _ _ _ l mn mx => if k = 1 then 1 else if k ≠ 4 then spotsNs l else if mx = -1 then spotsNs l * (mn.toNat + 1) else spotsNs l * mx.toNat
def spotsNs : List Tree → Nat
  | [] => 0
  | t :: l => spotsN t + spotsNs l
end

structure GoodSt (s : St) : Prop where
  len : s.next.length = s.sets.length
  good : ∀ l ∈ s.next, Good s.sets.length l
structure GoodPart (m : Nat) (p : Part) : Prop where
  first : Good m p.first
  last : Good m p.last
theorem GoodPart.mono {m m' : Nat} {p : Part} (h : GoodPart m p) (hm : m ≤ m') : GoodPart m' p := ⟨h.first.mono hm, h.last.mono hm⟩
theorem GoodPart.empty (m : Nat) (b : Bool) : GoodPart m ⟨[], [], b⟩ := ⟨Good.nil m, Good.nil m⟩
theorem nextL_good {m : Nat} (sp : List Int) (hs : Good m sp) : ∀ (of : List Int) (nx : List (List Int)), (∀ l ∈ nx, Good m l) → ∀ l ∈ nextL nx of sp, Good m l
  | [], nx, h => h
  | i :: of, nx, h => by
    refine nextL_good sp hs of _ fun l hl => ?_
    rcases List.mem_or_eq_of_mem_set hl with h1 | h1
    · exact h l h1
    · subst h1
      refine Good.merge ?_ hs
      rw [List.getD_eq_getElem?_getD]
      cases hi : nx[i.toNat]? with
      | none => exact Good.nil m
      | some x => exact h x (List.mem_of_getElem? hi)
theorem nextL_len (sp : List Int) : ∀ (of : List Int) (nx : List (List Int)), (nextL nx of sp).length = nx.length
  | [], nx => rfl
  | i :: of, nx => by
    show (nextL _ of sp).length = _
    rw [nextL_len sp of]; simp
theorem GoodSt.nextS {s : St} (h : GoodSt s) {of sp : List Int} (hs : Good s.sets.length sp) : GoodSt { s with next := nextL s.next of sp } :=
  ⟨by simp [nextL_len, h.len], nextL_good sp hs of s.next h.good⟩
theorem GoodSt.behind {s : St} (h : GoodSt s) {a b : Part} (hb : GoodPart s.sets.length b) : GoodSt (behindS s a b) := h.nextS hb.first
theorem GoodPart.behind {m : Nat} {a b : Part} (ha : GoodPart m a) (hb : GoodPart m b) : GoodPart m (behindP a b) := by
  refine ⟨?_, ?_⟩
  · unfold behindP; simp only; split
    · exact ha.first.merge hb.first
    · exact ha.first
  · unfold behindP; simp only; split
    · exact ha.last.merge hb.last
    · exact hb.last

/-- What writing a part keeps: rightness, and n spots are new. -/
def Adds (n : Nat) (f : St → Part × St) : Prop := ∀ s, GoodSt s → GoodSt (f s).2 ∧ GoodPart (f s).2.sets.length (f s).1 ∧ (f s).2.sets.length = s.sets.length + n
theorem manyF_adds {n : Nat} {f : St → Part × St} (hf : Adds n f) : ∀ (k : Nat) (p : Part) (s : St), GoodSt s → GoodPart s.sets.length p →
    GoodSt (manyF f k p s).2 ∧ GoodPart (manyF f k p s).2.sets.length (manyF f k p s).1 ∧ (manyF f k p s).2.sets.length = s.sets.length + n * k
  | 0, p, s, h, hp => ⟨h, hp, rfl⟩
  | k + 1, p, s, h, hp => by
    obtain ⟨h1, h2, h3⟩ := hf s h
    have h4 : (behindS (f s).2 p (f s).1).sets.length = (f s).2.sets.length := rfl
    obtain ⟨a, b, c⟩ := manyF_adds hf k (behindP p (f s).1) (behindS (f s).2 p (f s).1) (h1.behind h2) ((hp.mono (by omega)).behind h2)
    refine ⟨a, b, ?_⟩
    show (manyF f k _ _).2.sets.length = _
    rw [c, h4, h3, Nat.mul_succ]; omega
theorem restF_adds {n : Nat} {f : St → Part × St} (hf : Adds n f) : ∀ (k : Nat) (s : St), GoodSt s →
    GoodSt (restF f k s).2 ∧ GoodPart (restF f k s).2.sets.length (restF f k s).1 ∧ (restF f k s).2.sets.length = s.sets.length + n * k
  | 0, s, h => ⟨h, GoodPart.empty _ _, rfl⟩
  | k + 1, s, h => by
    obtain ⟨h1, h2, h3⟩ := hf s h
    obtain ⟨a, b, c⟩ := restF_adds hf k (f s).2 h1
    have hb := (h2.mono (by omega : (f s).2.sets.length ≤ (restF f k (f s).2).2.sets.length)).behind b
    refine ⟨a.behind b, ⟨hb.first, hb.last⟩, ?_⟩
    show (restF f k (f s).2).2.sets.length = _
    rw [c, h3, Nat.mul_succ]; omega
theorem oftenF_adds {n : Nat} {f : St → Part × St} (hf : Adds n f) {c mn mx : Int} (hc : c = 0 → n = 0) (h0 : 0 ≤ mn) (hx : mx = -1 ∨ (1 ≤ mx ∧ mn ≤ mx)) :
    Adds (if mx = -1 then n * (mn.toNat + 1) else n * mx.toNat) (oftenF c f mn mx) := by
  intro s h
  unfold oftenF
  by_cases h1 : c = 0
  · rw [if_pos h1, hc h1]
    exact ⟨h, GoodPart.empty _ _, by simp⟩
  · rw [if_neg h1]
    obtain ⟨a, b, d⟩ := manyF_adds hf mn.toNat emptyP s h (GoodPart.empty _ _)
    by_cases h2 : mx = -1
    · simp only [if_pos h2]
      obtain ⟨a1, b1, d1⟩ := hf (manyF f mn.toNat emptyP s).2 a
      have hl : (loopS (f (manyF f mn.toNat emptyP s).2).2 (f (manyF f mn.toNat emptyP s).2).1).sets.length = (f (manyF f mn.toNat emptyP s).2).2.sets.length := rfl
      have b1' : GoodPart (loopS (f (manyF f mn.toNat emptyP s).2).2 (f (manyF f mn.toNat emptyP s).2).1).sets.length { (f (manyF f mn.toNat emptyP s).2).1 with none := true } := ⟨b1.first, b1.last⟩
      refine ⟨GoodSt.behind (a1.nextS b1.first) b1', (b.mono (show (manyF f mn.toNat emptyP s).2.sets.length ≤ (f (manyF f mn.toNat emptyP s).2).2.sets.length by omega)).behind b1', ?_⟩
      show (f (manyF f mn.toNat emptyP s).2).2.sets.length = _
      rw [d1, d, Nat.mul_succ]; omega
    · simp only [if_neg h2]
      obtain ⟨a1, b1, d1⟩ := restF_adds hf (mx - mn).toNat (manyF f mn.toNat emptyP s).2 a
      refine ⟨a1.behind b1, (b.mono (show (manyF f mn.toNat emptyP s).2.sets.length ≤ (restF f (mx - mn).toNat (manyF f mn.toNat emptyP s).2).2.sets.length by omega)).behind b1, ?_⟩
      show (restF f (mx - mn).toNat (manyF f mn.toNat emptyP s).2).2.sets.length = _
      rw [d1, d, Nat.add_assoc, ← Nat.mul_add]
      congr 2
      omega

mutual
theorem cnt_spots : ∀ T : Tree, T.right = true → T.cnt = min (spotsN T : Int) 513
  | .node k s0 s1 s2 s3 l mn mx, h => by
    have hl := cnts_spots l 0 (Tree.right_kids h)
    have hl' : Tree.cnts l 0 = min (spotsNs l : Int) 513 := by rw [Nat.zero_add] at hl; exact hl
    unfold Tree.cnt spotsN
    by_cases h1 : k = 1
    · rw [if_pos h1, if_pos h1]; decide
    · rw [if_neg h1, if_neg h1]
      by_cases h4 : k = 4
      · rw [if_neg (show ¬ (k ≠ 4) by omega), if_neg (show ¬ (k ≠ 4) by omega)]
        obtain ⟨_, hm0, hm1, hm2⟩ := Tree.right_rep h h4
        have key : ∀ (N m : Nat), 1 ≤ m → min (min (N : Int) 513 * (m : Int)) 513 = min ((N * m : Nat) : Int) 513 := by
          intro N m hm
          rcases Nat.lt_or_ge N 513 with hN | hN
          · rw [Int.min_eq_left (show (N : Int) ≤ 513 by omega), Int.natCast_mul]
          · rw [Int.min_eq_right (show (513 : Int) ≤ (N : Int) by omega)]
            have e1 : 513 * 1 ≤ 513 * m := Nat.mul_le_mul_left _ hm
            have e2 : 513 * 1 ≤ N * m := Nat.mul_le_mul hN hm
            omega
        by_cases hx : mx = -1
        · rw [if_pos hx, if_pos hx, hl', ← key _ _ (by omega)]
          congr 2; omega
        · rw [if_neg hx, if_neg hx, hl', ← key _ _ (by omega)]
          congr 2; omega
      · rw [if_pos h4, if_pos h4, hl']
theorem cnts_spots : ∀ (l : List Tree) (a : Nat), (∀ t ∈ l, t.right = true) → Tree.cnts l (min (a : Int) 513) = min ((a + spotsNs l : Nat) : Int) 513
  | [], a, _ => by simp [Tree.cnts, spotsNs]
  | t :: l, a, h => by
    have h1 := cnt_spots t (h t (by simp))
    have h2 := cnts_spots l (a + spotsN t) (fun x hx => h x (by simp [hx]))
    show Tree.cnts l (min (min (a : Int) 513 + t.cnt) 513) = _
    rw [show min (min (a : Int) 513 + t.cnt) 513 = min ((a + spotsN t : Nat) : Int) 513 by rw [h1]; omega, h2]
    show _ = min ((a + (spotsN t + spotsNs l) : Nat) : Int) 513
    rw [Nat.add_assoc]
end
theorem spots_zero {T : Tree} (h : T.right = true) (h0 : T.cnt = 0) : spotsN T = 0 := by
  have := cnt_spots T h
  omega
mutual
theorem writeT_adds : ∀ T : Tree, T.right = true → Adds (spotsN T) (writeT T)
  | .node k s0 s1 s2 s3 l mn mx, h => by
    have hk := Tree.right_kids h
    by_cases h1 : k = 1
    · intro s hs
      unfold writeT spotsN
      rw [if_pos h1, if_pos h1]
      refine ⟨⟨by simp [hs.len], fun l hl => ?_⟩, ⟨Good.one (by simp), Good.one (by simp)⟩, by simp⟩
      rcases List.mem_append.1 hl with h2 | h2
      · exact (hs.good l h2).mono (by simp)
      · rw [List.mem_singleton.1 h2]; exact Good.nil _
    · by_cases h3 : k = 3
      · intro s hs
        unfold writeT spotsN
        rw [if_neg h1, if_pos h3, if_neg h1, if_pos (by omega)]
        exact writeAlt_adds l hk _ s hs (GoodPart.empty _ _)
      · by_cases h4 : k = 4
        · obtain ⟨hl, hm0, hm1, hm2⟩ := Tree.right_rep h h4
          have := writeRep_adds l hk hl mn mx hm0 (by omega)
          intro s hs
          unfold writeT spotsN
          rw [if_neg h1, if_neg h3, if_pos h4, if_neg h1, if_neg (by omega)]
          exact this s hs
        · intro s hs
          unfold writeT spotsN
          rw [if_neg h1, if_neg h3, if_neg h4, if_neg h1, if_pos h4]
          exact writeCat_adds l hk _ s hs (GoodPart.empty _ _)
theorem writeRep_adds : ∀ l : List Tree, (∀ t ∈ l, t.right = true) → l.length = 1 → ∀ mn mx : Int, 0 ≤ mn → (mx = -1 ∨ (1 ≤ mx ∧ mn ≤ mx)) →
    Adds (if mx = -1 then spotsNs l * (mn.toNat + 1) else spotsNs l * mx.toNat) (writeRep l mn mx)
  | [], _, h, _, _, _, _ => by simp at h
  | t :: l, hr, h, mn, mx, h0, hx => by
    have hl : l = [] := List.length_eq_zero_iff.1 (by simpa using h)
    subst hl
    have ht := hr t (by simp)
    have := oftenF_adds (writeT_adds t ht) (c := t.cnt) (spots_zero ht) h0 hx
    simpa [spotsNs, writeRep] using this
theorem writeCat_adds : ∀ l : List Tree, (∀ t ∈ l, t.right = true) → ∀ (p : Part) (s : St), GoodSt s → GoodPart s.sets.length p →
    GoodSt (writeCat l p s).2 ∧ GoodPart (writeCat l p s).2.sets.length (writeCat l p s).1 ∧ (writeCat l p s).2.sets.length = s.sets.length + spotsNs l
  | [], _, p, s, h, hp => ⟨h, hp, rfl⟩
  | t :: l, hr, p, s, h, hp => by
    obtain ⟨h1, h2, h3⟩ := writeT_adds t (hr t (by simp)) s h
    have h4 : (behindS (writeT t s).2 p (writeT t s).1).sets.length = (writeT t s).2.sets.length := rfl
    obtain ⟨a, b, c⟩ := writeCat_adds l (fun x hx => hr x (by simp [hx])) (behindP p (writeT t s).1) (behindS (writeT t s).2 p (writeT t s).1) (h1.behind h2) ((hp.mono (by omega)).behind h2)
    refine ⟨a, b, ?_⟩
    show (writeCat l _ _).2.sets.length = _
    rw [c, h4, h3]; simp [spotsNs]; omega
theorem writeAlt_adds : ∀ l : List Tree, (∀ t ∈ l, t.right = true) → ∀ (p : Part) (s : St), GoodSt s → GoodPart s.sets.length p →
    GoodSt (writeAlt l p s).2 ∧ GoodPart (writeAlt l p s).2.sets.length (writeAlt l p s).1 ∧ (writeAlt l p s).2.sets.length = s.sets.length + spotsNs l
  | [], _, p, s, h, hp => ⟨h, hp, rfl⟩
  | t :: l, hr, p, s, h, hp => by
    obtain ⟨h1, h2, h3⟩ := writeT_adds t (hr t (by simp)) s h
    have hp' := hp.mono (by omega : s.sets.length ≤ (writeT t s).2.sets.length)
    obtain ⟨a, b, c⟩ := writeAlt_adds l (fun x hx => hr x (by simp [hx])) ⟨mergeL p.first (writeT t s).1.first, mergeL p.last (writeT t s).1.last, p.none || (writeT t s).1.none⟩ (writeT t s).2 h1 ⟨hp'.first.merge h2.first, hp'.last.merge h2.last⟩
    refine ⟨a, b, ?_⟩
    show (writeAlt l _ _).2.sets.length = _
    rw [c, h3]; simp [spotsNs]; omega
end

end Go.Proofs.YtmcoaopcmjociaaDoor
