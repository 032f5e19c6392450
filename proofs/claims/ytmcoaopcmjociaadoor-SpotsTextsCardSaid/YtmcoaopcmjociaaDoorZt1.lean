/- Slices of whole numbers: how they read, and what keeps them; append; sorted lists without repeats. No program's function in sight. Plain law: rising lists, and how a pattern is written out as spots. No program in sight. Plain law: the texts of a pattern, and how a part that is written out as spots is read along. No program in sight. Plain law: parts behind one another, beside one another, and again and again. No program in sight. Plain law: the spots of a pattern are read along just its texts. No program in sight. -/
import Derived.Test.YtmcoaopcmjociaaDoorRows
import Derived.Test.YtmcoaopcmjociaaDoorZt0
import Derived.Laws.AppendOwnNone
import Derived.Sort.Row
import Derived.Sort.Grow
import Derived.Lib.SlicesCompact
namespace Go.Proofs.YtmcoaopcmjociaaDoor
open Go Go.RowKit Go.Sort

/-- Block k holds elements of type t. -/
def Ty (w : World) (t : TypeId) (k : Nat) : Prop := ∃ cs m, w.heap[k]? = some (.cells cs t m)
theorem Ty.lt {w : World} {t : TypeId} {k : Nat} (h : Ty w t k) : k < w.heap.size := by
  obtain ⟨cs, m, h⟩ := h
  exact (Array.getElem?_eq_some_iff.1 h).1
theorem Ty.same {w w' : World} {t : TypeId} {k : Nat} (h : Ty w t k) (he : w'.heap[k]? = w.heap[k]?) : Ty w' t k := by
  obtain ⟨cs, m, h⟩ := h
  exact ⟨cs, m, he.trans h⟩
theorem Ty.ne {w : World} {t t' : TypeId} {k k' : Nat} (h : Ty w t k) (h' : Ty w t' k') (hne : t ≠ t') : k ≠ k' := by
  rintro rfl
  obtain ⟨cs, m, h⟩ := h
  obtain ⟨cs', m', h'⟩ := h'
  rw [h] at h'
  injection h' with h'
  injection h' with _ h'
  exact hne h'

theorem addr_add (b off j : Nat) : (⟨b, off, none⟩ : Addr).add j = ⟨b, off + j, none⟩ := by unfold Addr.add; split <;> simp_all
/-- A slice of whole numbers that is read; its cells lie in a block of S. -/
def IR (S : Nat → Prop) (w : World) (v : Value) (xs : List Int) : Prop :=
  ∃ A c, v = .slice A xs.length c ∧ xs.length ≤ c ∧ xs.length ≤ 17592186044416 ∧
    (xs ≠ [] → ∃ b off, A = some ⟨b, off, none⟩ ∧ S b ∧ ∀ j, j < xs.length → w.cell? ⟨b, off + j, none⟩ = some (.int .i64 (xs.getD j 0)))
theorem IR.keep {S : Nat → Prop} {w w' : World} {v : Value} {xs : List Int} (h : IR S w v xs) (hk : ∀ k, S k → k < w.heap.size → w'.heap[k]? = w.heap[k]?) : IR S w' v xs := by
  obtain ⟨A, c, rfl, h1, h2, h3⟩ := h
  refine ⟨A, c, rfl, h1, h2, fun hne => ?_⟩
  obtain ⟨b, off, hA, hS, hc⟩ := h3 hne
  refine ⟨b, off, hA, hS, fun j hj => ?_⟩
  have := hc j hj
  exact (World.cell?_of_block (hk b hS (World.block_lt_of_cell? w _ this))).trans this
theorem IR.mono {S S' : Nat → Prop} {w : World} {v : Value} {xs : List Int} (h : IR S w v xs) (hS : ∀ k, S k → k < w.heap.size → S' k) : IR S' w v xs := by
  obtain ⟨A, c, rfl, h1, h2, h3⟩ := h
  refine ⟨A, c, rfl, h1, h2, fun hne => ?_⟩
  obtain ⟨b, off, hA, hS0, hc⟩ := h3 hne
  refine ⟨b, off, hA, hS b hS0 ?_, hc⟩
  have : 0 < xs.length := List.length_pos_iff.2 hne
  exact World.block_lt_of_cell? w _ (hc 0 this)
theorem IR.below {S : Nat → Prop} {w w' : World} {v : Value} {xs : List Int} (h : IR S w v xs) (hb : Below w.heap.size w w') : IR S w' v xs := h.keep fun k _ hk => hb.block k hk
theorem IR.old {S : Nat → Prop} {w : World} {v : Value} {xs : List Int} (h : IR S w v xs) : IR (· < w.heap.size) w v xs := h.mono fun _ _ h => h
theorem IR.nil (S : Nat → Prop) (w : World) : IR S w (.slice none 0 0) [] := ⟨none, 0, rfl, by simp, by simp, fun h => absurd rfl h⟩
theorem IR.len {S : Nat → Prop} {w : World} {v : Value} {xs : List Int} (h : IR S w v xs) : xs.length ≤ 17592186044416 := by
  obtain ⟨A, c, rfl, h1, h2, h3⟩ := h
  exact h2
/-- The shape, and the cells: what a walk wants. -/
theorem IR.form {S : Nat → Prop} {w : World} {v : Value} {xs : List Int} (h : IR S w v xs) : ∃ A c, v = .slice A xs.length c ∧ xs.length ≤ c ∧ (0 < xs.length → ∃ b off, A = some ⟨b, off, none⟩ ∧ S b ∧ ∀ j, j < xs.length → w.cell? ⟨b, off + j, none⟩ = some (.int .i64 (xs.getD j 0))) := by
  obtain ⟨A, c, rfl, h1, h2, h3⟩ := h
  exact ⟨A, c, rfl, h1, fun h => h3 (List.length_pos_iff.1 h)⟩

/-- The cells of a slice that is known by its parts. -/
theorem IR.cells {S : Nat → Prop} {w : World} {A : Option Addr} {c : Nat} {xs : List Int} (h : IR S w (.slice A xs.length c) xs) (h0 : 0 < xs.length) : ∃ b off, A = some ⟨b, off, none⟩ ∧ S b ∧ ∀ j (hj : j < xs.length), w.cell? ⟨b, off + j, none⟩ = some (.int .i64 xs[j]) := by
  obtain ⟨A', c', he, _, _, h3⟩ := h
  obtain ⟨b, off, hA, hS, hc⟩ := h3 (List.length_pos_iff.1 h0)
  have hA' : A = A' := by injection he
  refine ⟨b, off, hA'.trans hA, hS, fun j hj => ?_⟩
  rw [hc j hj, List.getD_eq_getElem?_getD, List.getElem?_eq_getElem hj]; rfl
/-- A slice of whole numbers in a block of whole numbers. -/
abbrev IRT (w : World) (v : Value) (xs : List Int) : Prop := IR (Ty w 3) w v xs
/-- The blocks of whole numbers are as they were. -/
def Keep3 (w w' : World) : Prop := w.heap.size ≤ w'.heap.size ∧ ∀ k, Ty w 3 k → w'.heap[k]? = w.heap[k]?
theorem Keep3.refl (w : World) : Keep3 w w := ⟨Nat.le_refl _, fun _ _ => rfl⟩
theorem Keep3.trans {a b c : World} (h : Keep3 a b) (k : Keep3 b c) : Keep3 a c := ⟨Nat.le_trans h.1 k.1, fun i hi => (k.2 i (hi.same (h.2 i hi))).trans (h.2 i hi)⟩
theorem Keep3.below {w w' : World} (h : Below w.heap.size w w') : Keep3 w w' := ⟨h.size, fun _ hk => h.block _ hk.lt⟩
theorem IRT.keep {w w' : World} {v : Value} {xs : List Int} (h : IRT w v xs) (hk : Keep3 w w') : IRT w' v xs := by
  have h' : IR (Ty w 3) w' v xs := IR.keep h fun k hS _ => hk.2 k hS
  obtain ⟨A, c, rfl, h1, h2, h3⟩ := h'
  refine ⟨A, c, rfl, h1, h2, fun hne => ?_⟩
  obtain ⟨b, off, hA, hS0, hc⟩ := h3 hne
  exact ⟨b, off, hA, hS0.same (hk.2 b hS0), hc⟩
theorem IRT.below {w w' : World} {v : Value} {xs : List Int} (h : IRT w v xs) (hb : Below w.heap.size w w') : IRT w' v xs := IRT.keep h (Keep3.below hb)

abbrev ints (xs : List Int) : List Value := xs.map (Value.int .i64)
/-- What the call itself has made reads so. -/
theorem IRT.own {w : World} {base n : Nat} {v : Value} {xs : List Int} (h : w.ownsRow base 3 1 v n (ints xs)) (hn : n ≤ 17592186044416) : IRT w v xs := by
  obtain ⟨h1, h2⟩ := h
  have hl : xs.length = n := by simpa using h1
  subst hl
  rcases h2 with ⟨rfl, h0⟩ | ⟨g, cap, cur, rfl, hg, hh, hc, hm, hs, ht⟩
  · have : xs = [] := List.length_eq_zero_iff.1 h0
    subst this
    exact IR.nil _ _
  · refine ⟨_, cap, rfl, hc, hn, fun _ => ⟨g, 0, rfl, ⟨cur, _, hh⟩, fun j hj => ?_⟩⟩
    have hj' : (cur.toList.take (xs.length * 1))[j]? = some (.int .i64 (xs.getD j 0)) := by rw [ht]; simp [List.getElem?_eq_getElem hj, List.getD_eq_getElem?_getD]
    rw [List.getElem?_take, if_pos (by omega)] at hj'
    simp only [World.cell?, hh, Nat.zero_add, Option.isSome_none, Bool.false_eq_true, if_false]
    simpa using hj'
theorem own_block_ge {w : World} {base n : Nat} {e : TypeId} {size : Nat} {v : Value} {xs : List Value} (h : w.ownsRow base e size v n xs) : ∀ k, v.ownBlock = some k → base ≤ k := fun k hk => (h.lt k hk).1

theorem intInfo : (Tryd.prog.info? 3).map (fun i => (i.zero, i.size, i.bytes)) = some (some (Value.int .i64 0), 1, 8) := by kernel_rfl

/-- append(out, xs...): out a row of the call's own, xs read. -/
theorem wpList_append_ints {w : World} {ops : Array Oper} {rest : List Oper} {o : Oper} {a : Act} {Q : Exit → Act → World → Prop} (hgd : o.guard = none) (s x : Operand)
    (ho : o.op = .call { callee := .builtin .append, args := #[s, x], argTypes := #[32, 32] })
    (base : Nat) (v : Value) (xs : List Int) (hs : a.eval s = v) (hown : w.ownsRow base 3 1 v xs.length (ints xs)) {S : Nat → Prop} (u : Value) (ys : List Int) (hx : a.eval x = u) (hr : IR S w u ys)
    (hlen : xs.length + ys.length ≤ 17592186044416) (hbase : base ≤ w.heap.size)
    (h : ∀ v' w', w'.ownsRow base 3 1 v' (xs ++ ys).length (ints (xs ++ ys)) → w.grownBy w' v.ownBlock → wpList Tryd.prog ops Q rest (a.put o.dst v') w') : wpList Tryd.prog ops Q (o :: rest) a w := by
  obtain ⟨i0, hi, hz0, hz1, hz2⟩ := info_parts intInfo
  obtain ⟨A, c, rfl, h1, h2, h3⟩ := hr
  cases A with
  | none =>
    have hy : ys = [] := by
      by_cases hy : ys = []
      · exact hy
      · obtain ⟨b, off, hA, _⟩ := h3 hy; cases hA
    subst hy
    by_cases hc0 : c = 0
    · subst hc0
      refine wpList_append_own_none hgd s x 32 ho base 3 i0 1 Tryd.underlying32 hi v xs.length (ints xs) hs hown hx (h _ _ (by simpa using hown) ?_)
      exact ⟨rfl, rfl, rfl, Nat.le_refl _, fun _ _ _ => rfl⟩
    · refine wpList_plain hgd fun K hK => ?_
      have hrun : (Builtin.append_ #[32, 32] o.type #[v, .slice none 0 c]).run Tryd.prog w = (Builtin.append_ #[32, 32] o.type #[v, .slice none 0 0]).run Tryd.prog w := by
        rcases hown.2 with ⟨rfl, _⟩ | ⟨g, cap, cur, rfl, _⟩ <;> rfl
      have hrun2 := run_append_owned_none (P := Tryd.prog) (w := w) base 32 o.type 3 i0 1 Tryd.underlying32 hi v xs.length (ints xs) hown
      unfold Oper.wp
      simp only [List.length_nil] at hx
      simp [execOp, ho, resolve, invoke, builtin, hs, hx, hrun, hrun2, Result.andThen]
      exact hK _ _ (h _ _ (by simpa using hown) ⟨rfl, rfl, rfl, Nat.le_refl _, fun _ _ _ => rfl⟩)
  | some ad =>
    refine wpList_append_own w hgd s x 32 ho base 3 i0 (.int .i64 0) 1 8 Tryd.underlying32 hi hz0 hz1 hz2 rfl (by decide) v xs.length (ints xs) hs hown ad ys.length c (ints ys) hx (by simp) ?_ (ints_oneCell _ _) (by unfold maxLen; omega) (by omega) hbase fun v' w' ho' hg _ => h v' w' (by simpa using ho') hg
    intro j u hj
    have hjl : j < ys.length := by have := (List.getElem?_eq_some_iff.1 hj).1; simpa using this
    obtain ⟨b, off, hA, _, hc⟩ := h3 (by intro h0; subst h0; simp at hjl)
    obtain rfl := Option.some.inj hA
    have e : (⟨b, off, none⟩ : Addr).add j = ⟨b, off + j, none⟩ := addr_add b off j
    have hu : some (Value.int .i64 (ys.getD j 0)) = some u := by
      rw [← hj, List.getElem?_map, List.getElem?_eq_getElem hjl, List.getD_eq_getElem?_getD, List.getElem?_eq_getElem hjl]; rfl
    rw [e, hc j hjl, hu]

/-! ### What a sort in place leaves -/
theorem heap_putRow_same {enc : Int → Value} {w : World} {g off : Nat} {d : Array Int} {c : Array Value} {e : TypeId} {fr : Nat × Nat} (h : w.heap[g]? = some (.cells c e fr)) : (putRow enc w g off d).heap[g]? = some (.cells (putCells enc off d c) e fr) := by
  simp [putRow, mapBlock, Array.getElem?_modify, h, onCells]
theorem heap_putRow_other {enc : Int → Value} {w : World} {g off : Nat} {d : Array Int} {k : Nat} (h : k ≠ g) : (putRow enc w g off d).heap[k]? = w.heap[k]? := by
  simp [putRow, mapBlock, Array.getElem?_modify, Ne.symm h]
theorem heap_grow_old {w : World} {os : Array Obj} {k : Nat} (h : k < w.heap.size) : (grow w os).heap[k]? = w.heap[k]? := by
  simp [grow, Array.getElem?_append_left h]

/-! ### Sorted lists without repeats -/
/-- The numbers of both, rising, each once. -/
def mergeL (a b : List Int) : List Int := Lib.compact ((a ++ b).mergeSort fun x y => decide (x ≤ y))

end Go.Proofs.YtmcoaopcmjociaaDoor

namespace Go.Proofs.YtmcoaopcmjociaaDoor
open Go Go.RowKit Go.Sort

/-! ### Sorted lists -/
theorem getElem!_sorted {zs : List Int} (h : zs.Pairwise (· ≤ ·)) : ∀ i j, i ≤ j → j < zs.length → zs.toArray[i]! ≤ zs.toArray[j]! := by
  intro i j hij hj
  rw [getElem!_pos _ _ (by simpa using (by omega : i < zs.length)), getElem!_pos _ _ (by simpa using hj)]
  rcases Nat.lt_or_ge i j with h1 | h1
  · simpa using List.pairwise_iff_getElem.1 h i j (by omega) hj h1
  · obtain rfl : i = j := by omega
    exact Int.le_refl _
theorem compactUpTo_sorted {zs : List Int} (h : zs.Pairwise (· ≤ ·)) : ∀ m, m ≤ zs.length →
    (Lib.compactUpTo zs.toArray m).Pairwise (· < ·) ∧ ∀ x, x ∈ Lib.compactUpTo zs.toArray m ↔ ∃ j, j < m ∧ zs.toArray[j]! = x
  | 0, _ => by simp [Lib.compactUpTo]
  | m + 1, hm => by
    obtain ⟨h1, h2⟩ := compactUpTo_sorted h m (by omega)
    rw [Lib.compactUpTo_succ]
    by_cases hk : Lib.keeps zs.toArray m = true
    · rw [if_pos hk]
      have hlt : ∀ j, j < m → zs.toArray[j]! < zs.toArray[m]! := by
        intro j hj
        have hne : zs.toArray[m]! ≠ zs.toArray[m - 1]! := by
          have : m = 0 ∨ zs.toArray[m]! ≠ zs.toArray[m - 1]! := of_decide_eq_true hk
          rcases this with h0 | h0
          · omega
          · exact h0
        have a := getElem!_sorted h j (m - 1) (by omega) (by omega)
        have b := getElem!_sorted h (m - 1) m (by omega) (by omega)
        omega
      refine ⟨List.pairwise_append.2 ⟨h1, by simp, fun a ha b hb => ?_⟩, fun x => ?_⟩
      · obtain ⟨j, hj, rfl⟩ := (h2 a).1 ha
        rw [List.mem_singleton.1 hb]
        exact hlt j hj
      · rw [List.mem_append, h2 x, List.mem_singleton]
        constructor
        · rintro (⟨j, hj, rfl⟩ | rfl)
          · exact ⟨j, by omega, rfl⟩
          · exact ⟨m, by omega, rfl⟩
        · rintro ⟨j, hj, rfl⟩
          rcases Nat.lt_or_ge j m with h3 | h3
          · exact .inl ⟨j, h3, rfl⟩
          · obtain rfl : j = m := by omega
            exact .inr rfl
    · rw [if_neg hk, List.append_nil]
      refine ⟨h1, fun x => ?_⟩
      rw [h2 x]
      have hk' : ¬ (m = 0 ∨ zs.toArray[m]! ≠ zs.toArray[m - 1]!) := fun h0 => hk (decide_eq_true h0)
      have h0 : m ≠ 0 := fun h0 => hk' (.inl h0)
      have he : zs.toArray[m]! = zs.toArray[m - 1]! := Classical.byContradiction fun h0 => hk' (.inr h0)
      constructor
      · rintro ⟨j, hj, rfl⟩
        exact ⟨j, by omega, rfl⟩
      · rintro ⟨j, hj, rfl⟩
        rcases Nat.lt_or_ge j m with h3 | h3
        · exact ⟨j, h3, rfl⟩
        · obtain rfl : j = m := by omega
          exact ⟨j - 1, by omega, he.symm⟩
theorem mergeL_sorted (a b : List Int) : (mergeL a b).Pairwise (· < ·) := by
  unfold mergeL Lib.compact
  refine (compactUpTo_sorted ?_ _ (Nat.le_refl _)).1
  have := List.pairwise_mergeSort (le := fun x y : Int => decide (x ≤ y)) (by intro x y z; simp; omega) (by intro x y; simp; omega) (a ++ b)
  simpa using this
theorem mem_mergeL (a b : List Int) (x : Int) : x ∈ mergeL a b ↔ x ∈ a ∨ x ∈ b := by
  unfold mergeL Lib.compact
  have hs := List.pairwise_mergeSort (le := fun x y : Int => decide (x ≤ y)) (by intro x y z; simp; omega) (by intro x y; simp; omega) (a ++ b)
  rw [(compactUpTo_sorted (by simpa using hs) _ (Nat.le_refl _)).2 x]
  rw [← List.mem_append, ← List.mem_mergeSort (le := fun x y : Int => decide (x ≤ y)) (l := a ++ b), List.mem_iff_getElem]
  constructor
  · rintro ⟨j, hj, rfl⟩
    exact ⟨j, hj, by rw [getElem!_pos _ _ (by simpa using hj)]; simp⟩
  · rintro ⟨j, hj, rfl⟩
    exact ⟨j, hj, by rw [getElem!_pos _ _ (by simpa using hj)]; simp⟩
/-- Rising lists with the same members are the same. -/
theorem rising_ext : ∀ {a b : List Int}, a.Pairwise (· < ·) → b.Pairwise (· < ·) → (∀ x, x ∈ a ↔ x ∈ b) → a = b
  | [], [], _, _, _ => rfl
  | [], y :: b, _, _, h => absurd ((h y).2 (by simp)) (by simp)
  | x :: a, [], _, _, h => absurd ((h x).1 (by simp)) (by simp)
  | x :: a, y :: b, ha, hb, h => by
    obtain ⟨ha1, ha2⟩ := List.pairwise_cons.1 ha
    obtain ⟨hb1, hb2⟩ := List.pairwise_cons.1 hb
    have hxy : x = y := by
      rcases List.mem_cons.1 ((h x).1 (by simp)) with h1 | h1
      · exact h1
      · rcases List.mem_cons.1 ((h y).2 (by simp)) with h2 | h2
        · exact h2.symm
        · have := hb1 x h1
          have := ha1 y h2
          omega
    subst hxy
    refine congrArg (x :: ·) (rising_ext ha2 hb2 fun z => ?_)
    constructor
    · intro hz
      rcases List.mem_cons.1 ((h z).1 (by simp [hz])) with h1 | h1
      · have := ha1 z hz; omega
      · exact h1
    · intro hz
      rcases List.mem_cons.1 ((h z).2 (by simp [hz])) with h1 | h1
      · have := hb1 z hz; omega
      · exact h1

/-- Rising numbers of spots, m in all. -/
def Good (m : Nat) (l : List Int) : Prop := l.Pairwise (· < ·) ∧ ∀ x ∈ l, 0 ≤ x ∧ x < m
theorem rising_len (m : Nat) : ∀ (l : List Int) (a : Int), l.Pairwise (· < ·) → (∀ x ∈ l, a ≤ x ∧ x < m) → a ≤ m → (l.length : Int) ≤ m - a
  | [], a, _, _, h => by simp; omega
  | x :: l, a, hp, hx, h => by
    obtain ⟨h1, h2⟩ := List.pairwise_cons.1 hp
    have hx0 := hx x (by simp)
    have := rising_len m l (x + 1) h2 (fun y hy => ⟨by have := h1 y hy; omega, (hx y (by simp [hy])).2⟩) (by omega)
    simp; omega
theorem Good.len {m : Nat} {l : List Int} (h : Good m l) : l.length ≤ m := by
  have := rising_len m l 0 h.1 h.2 (by omega)
  omega
theorem Good.mono {m m' : Nat} {l : List Int} (h : Good m l) (hm : m ≤ m') : Good m' l := ⟨h.1, fun x hx => ⟨(h.2 x hx).1, by have := (h.2 x hx).2; omega⟩⟩
theorem Good.nil (m : Nat) : Good m [] := ⟨List.Pairwise.nil, fun x hx => by simp at hx⟩
theorem Good.one {m : Nat} {i : Nat} (h : i < m) : Good m [(i : Int)] := ⟨by simp, fun x hx => by rw [List.mem_singleton.1 hx]; omega⟩
theorem Good.merge {m : Nat} {a b : List Int} (ha : Good m a) (hb : Good m b) : Good m (mergeL a b) := ⟨mergeL_sorted a b, fun x hx => by
  rcases (mem_mergeL a b x).1 hx with h | h
  · exact ha.2 x h
  · exact hb.2 x h⟩

/-! ### Writing a pattern out -/
abbrev S4 := Int × Int × Int × Int
structure Part where
  first : List Int
  last : List Int
  none : Bool
structure St where
  sets : List S4
  next : List (List Int)

def nextL (nx : List (List Int)) (of sp : List Int) : List (List Int) := of.foldl (fun nx i => nx.set i.toNat (mergeL (nx.getD i.toNat []) sp)) nx
def behindS (s : St) (a b : Part) : St := { s with next := nextL s.next a.last b.first }
def behindP (a b : Part) : Part := ⟨if a.none then mergeL a.first b.first else a.first, if b.none then mergeL a.last b.last else b.last, a.none && b.none⟩
def emptyP : Part := ⟨[], [], true⟩
def manyF (f : St → Part × St) : Nat → Part → St → Part × St
  | 0, p, s => (p, s)
  | n + 1, p, s => manyF f n (behindP p (f s).1) (behindS (f s).2 p (f s).1)
def restF (f : St → Part × St) : Nat → St → Part × St
  | 0, s => (emptyP, s)
  | n + 1, s => ({ behindP (f s).1 (restF f n (f s).2).1 with none := true }, behindS (restF f n (f s).2).2 (f s).1 (restF f n (f s).2).1)
def loopS (s : St) (q : Part) : St := { s with next := nextL s.next q.last q.first }
def oftenF (c : Int) (f : St → Part × St) (mn mx : Int) (s : St) : Part × St :=
  if c = 0 then (emptyP, s) else
  let r := manyF f mn.toNat emptyP s
  if mx = -1 then
    (behindP r.1 { (f r.2).1 with none := true }, behindS (loopS (f r.2).2 (f r.2).1) r.1 { (f r.2).1 with none := true })
  else
    (behindP r.1 (restF f (mx - mn).toNat r.2).1, behindS (restF f (mx - mn).toNat r.2).2 r.1 (restF f (mx - mn).toNat r.2).1)
mutual
def writeT : Tree → St → Part × St
  | .node k s0 s1 s2 s3 l mn mx, s =>
    if k = 1 then (⟨[(s.sets.length : Int)], [(s.sets.length : Int)], false⟩, ⟨s.sets ++ [(s0, s1, s2, s3)], s.next ++ [[]]⟩)
    else if k = 3 then writeAlt l ⟨[], [], false⟩ s
    else if k = 4 then writeRep l mn mx s
    else writeCat l emptyP s
def writeRep : List Tree → Int → Int → St → Part × St
  | [], _, _, s => (emptyP, s)
  | t :: _, mn, mx, s => oftenF t.cnt (writeT t) mn mx s
def writeCat : List Tree → Part → St → Part × St
  | [], p, s => (p, s)
  | t :: l, p, s => writeCat l (behindP p (writeT t s).1) (behindS (writeT t s).2 p (writeT t s).1)
def writeAlt : List Tree → Part → St → Part × St
  | [], p, s => (p, s)
  | t :: l, p, s => writeAlt l ⟨mergeL p.first (writeT t s).1.first, mergeL p.last (writeT t s).1.last, p.none || (writeT t s).1.none⟩ (writeT t s).2
end
mutual
/-- How many spots are written. -/
def spotsN : Tree → Nat
  | .node k _ _ _ _ l mn mx => if k = 1 then 1 else if k ≠ 4 then spotsNs l else if mx = -1 then spotsNs l * (mn.toNat + 1) else spotsNs l * mx.toNat
def spotsNs : List Tree → Nat
  | [] => 0
  | t :: l => spotsN t + spotsNs l
end

structure GoodSt (s : St) : Prop where
  len : s.next.length = s.sets.length
  good : ∀ l ∈ s.next, Good s.sets.length l
structure GoodPart (m : Nat) (p : Part) : Prop where
  first : Good m p.first
  last : Good m p.last
theorem GoodPart.mono {m m' : Nat} {p : Part} (h : GoodPart m p) (hm : m ≤ m') : GoodPart m' p := ⟨h.first.mono hm, h.last.mono hm⟩
theorem GoodPart.empty (m : Nat) (b : Bool) : GoodPart m ⟨[], [], b⟩ := ⟨Good.nil m, Good.nil m⟩
theorem nextL_good {m : Nat} (sp : List Int) (hs : Good m sp) : ∀ (of : List Int) (nx : List (List Int)), (∀ l ∈ nx, Good m l) → ∀ l ∈ nextL nx of sp, Good m l
  | [], nx, h => h
  | i :: of, nx, h => by
    refine nextL_good sp hs of _ fun l hl => ?_
    rcases List.mem_or_eq_of_mem_set hl with h1 | h1
    · exact h l h1
    · subst h1
      refine Good.merge ?_ hs
      rw [List.getD_eq_getElem?_getD]
      cases hi : nx[i.toNat]? with
      | none => exact Good.nil m
      | some x => exact h x (List.mem_of_getElem? hi)
theorem nextL_len (sp : List Int) : ∀ (of : List Int) (nx : List (List Int)), (nextL nx of sp).length = nx.length
  | [], nx => rfl
  | i :: of, nx => by
    show (nextL _ of sp).length = _
    rw [nextL_len sp of]; simp
theorem GoodSt.nextS {s : St} (h : GoodSt s) {of sp : List Int} (hs : Good s.sets.length sp) : GoodSt { s with next := nextL s.next of sp } :=
  ⟨by simp [nextL_len, h.len], nextL_good sp hs of s.next h.good⟩
theorem GoodSt.behind {s : St} (h : GoodSt s) {a b : Part} (hb : GoodPart s.sets.length b) : GoodSt (behindS s a b) := h.nextS hb.first
theorem GoodPart.behind {m : Nat} {a b : Part} (ha : GoodPart m a) (hb : GoodPart m b) : GoodPart m (behindP a b) := by
  refine ⟨?_, ?_⟩
  · unfold behindP; simp only; split
    · exact ha.first.merge hb.first
    · exact ha.first
  · unfold behindP; simp only; split
    · exact ha.last.merge hb.last
    · exact hb.last

/-- What writing a part keeps: rightness, and n spots are new. -/
def Adds (n : Nat) (f : St → Part × St) : Prop := ∀ s, GoodSt s → GoodSt (f s).2 ∧ GoodPart (f s).2.sets.length (f s).1 ∧ (f s).2.sets.length = s.sets.length + n
theorem manyF_adds {n : Nat} {f : St → Part × St} (hf : Adds n f) : ∀ (k : Nat) (p : Part) (s : St), GoodSt s → GoodPart s.sets.length p →
    GoodSt (manyF f k p s).2 ∧ GoodPart (manyF f k p s).2.sets.length (manyF f k p s).1 ∧ (manyF f k p s).2.sets.length = s.sets.length + n * k
  | 0, p, s, h, hp => ⟨h, hp, rfl⟩
  | k + 1, p, s, h, hp => by
    obtain ⟨h1, h2, h3⟩ := hf s h
    have h4 : (behindS (f s).2 p (f s).1).sets.length = (f s).2.sets.length := rfl
    obtain ⟨a, b, c⟩ := manyF_adds hf k (behindP p (f s).1) (behindS (f s).2 p (f s).1) (h1.behind h2) ((hp.mono (by omega)).behind h2)
    refine ⟨a, b, ?_⟩
    show (manyF f k _ _).2.sets.length = _
    rw [c, h4, h3, Nat.mul_succ]; omega
theorem restF_adds {n : Nat} {f : St → Part × St} (hf : Adds n f) : ∀ (k : Nat) (s : St), GoodSt s →
    GoodSt (restF f k s).2 ∧ GoodPart (restF f k s).2.sets.length (restF f k s).1 ∧ (restF f k s).2.sets.length = s.sets.length + n * k
  | 0, s, h => ⟨h, GoodPart.empty _ _, rfl⟩
  | k + 1, s, h => by
    obtain ⟨h1, h2, h3⟩ := hf s h
    obtain ⟨a, b, c⟩ := restF_adds hf k (f s).2 h1
    have hb := (h2.mono (by omega : (f s).2.sets.length ≤ (restF f k (f s).2).2.sets.length)).behind b
    refine ⟨a.behind b, ⟨hb.first, hb.last⟩, ?_⟩
    show (restF f k (f s).2).2.sets.length = _
    rw [c, h3, Nat.mul_succ]; omega
theorem oftenF_adds {n : Nat} {f : St → Part × St} (hf : Adds n f) {c mn mx : Int} (hc : c = 0 → n = 0) (h0 : 0 ≤ mn) (hx : mx = -1 ∨ (1 ≤ mx ∧ mn ≤ mx)) :
    Adds (if mx = -1 then n * (mn.toNat + 1) else n * mx.toNat) (oftenF c f mn mx) := by
  intro s h
  unfold oftenF
  by_cases h1 : c = 0
  · rw [if_pos h1, hc h1]
    exact ⟨h, GoodPart.empty _ _, by simp⟩
  · rw [if_neg h1]
    obtain ⟨a, b, d⟩ := manyF_adds hf mn.toNat emptyP s h (GoodPart.empty _ _)
    by_cases h2 : mx = -1
    · simp only [if_pos h2]
      obtain ⟨a1, b1, d1⟩ := hf (manyF f mn.toNat emptyP s).2 a
      have hl : (loopS (f (manyF f mn.toNat emptyP s).2).2 (f (manyF f mn.toNat emptyP s).2).1).sets.length = (f (manyF f mn.toNat emptyP s).2).2.sets.length := rfl
      have b1' : GoodPart (loopS (f (manyF f mn.toNat emptyP s).2).2 (f (manyF f mn.toNat emptyP s).2).1).sets.length { (f (manyF f mn.toNat emptyP s).2).1 with none := true } := ⟨b1.first, b1.last⟩
      refine ⟨GoodSt.behind (a1.nextS b1.first) b1', (b.mono (show (manyF f mn.toNat emptyP s).2.sets.length ≤ (f (manyF f mn.toNat emptyP s).2).2.sets.length by omega)).behind b1', ?_⟩
      show (f (manyF f mn.toNat emptyP s).2).2.sets.length = _
      rw [d1, d, Nat.mul_succ]; omega
    · simp only [if_neg h2]
      obtain ⟨a1, b1, d1⟩ := restF_adds hf (mx - mn).toNat (manyF f mn.toNat emptyP s).2 a
      refine ⟨a1.behind b1, (b.mono (show (manyF f mn.toNat emptyP s).2.sets.length ≤ (restF f (mx - mn).toNat (manyF f mn.toNat emptyP s).2).2.sets.length by omega)).behind b1, ?_⟩
      show (restF f (mx - mn).toNat (manyF f mn.toNat emptyP s).2).2.sets.length = _
      rw [d1, d, Nat.add_assoc, ← Nat.mul_add]
      congr 2
      omega

mutual
theorem cnt_spots : ∀ T : Tree, T.right = true → T.cnt = min (spotsN T : Int) 513
  | .node k s0 s1 s2 s3 l mn mx, h => by
    have hl := cnts_spots l 0 (Tree.right_kids h)
    have hl' : Tree.cnts l 0 = min (spotsNs l : Int) 513 := by rw [Nat.zero_add] at hl; exact hl
    unfold Tree.cnt spotsN
    by_cases h1 : k = 1
    · rw [if_pos h1, if_pos h1]; decide
    · rw [if_neg h1, if_neg h1]
      by_cases h4 : k = 4
      · rw [if_neg (show ¬ (k ≠ 4) by omega), if_neg (show ¬ (k ≠ 4) by omega)]
        obtain ⟨_, hm0, hm1, hm2⟩ := Tree.right_rep h h4
        have key : ∀ (N m : Nat), 1 ≤ m → min (min (N : Int) 513 * (m : Int)) 513 = min ((N * m : Nat) : Int) 513 := by
          intro N m hm
          rcases Nat.lt_or_ge N 513 with hN | hN
          · rw [Int.min_eq_left (show (N : Int) ≤ 513 by omega), Int.natCast_mul]
          · rw [Int.min_eq_right (show (513 : Int) ≤ (N : Int) by omega)]
            have e1 : 513 * 1 ≤ 513 * m := Nat.mul_le_mul_left _ hm
            have e2 : 513 * 1 ≤ N * m := Nat.mul_le_mul hN hm
            omega
        by_cases hx : mx = -1
        · rw [if_pos hx, if_pos hx, hl', ← key _ _ (by omega)]
          congr 2; omega
        · rw [if_neg hx, if_neg hx, hl', ← key _ _ (by omega)]
          congr 2; omega
      · rw [if_pos h4, if_pos h4, hl']
theorem cnts_spots : ∀ (l : List Tree) (a : Nat), (∀ t ∈ l, t.right = true) → Tree.cnts l (min (a : Int) 513) = min ((a + spotsNs l : Nat) : Int) 513
  | [], a, _ => by simp [Tree.cnts, spotsNs]
  | t :: l, a, h => by
    have h1 := cnt_spots t (h t (by simp))
    have h2 := cnts_spots l (a + spotsN t) (fun x hx => h x (by simp [hx]))
    show Tree.cnts l (min (min (a : Int) 513 + t.cnt) 513) = _
    rw [show min (min (a : Int) 513 + t.cnt) 513 = min ((a + spotsN t : Nat) : Int) 513 by rw [h1]; omega, h2]
    show _ = min ((a + (spotsN t + spotsNs l) : Nat) : Int) 513
    rw [Nat.add_assoc]
end
theorem spots_zero {T : Tree} (h : T.right = true) (h0 : T.cnt = 0) : spotsN T = 0 := by
  have := cnt_spots T h
  omega
mutual
theorem writeT_adds : ∀ T : Tree, T.right = true → Adds (spotsN T) (writeT T)
  | .node k s0 s1 s2 s3 l mn mx, h => by
    have hk := Tree.right_kids h
    by_cases h1 : k = 1
    · intro s hs
      unfold writeT spotsN
      rw [if_pos h1, if_pos h1]
      refine ⟨⟨by simp [hs.len], fun l hl => ?_⟩, ⟨Good.one (by simp), Good.one (by simp)⟩, by simp⟩
      rcases List.mem_append.1 hl with h2 | h2
      · exact (hs.good l h2).mono (by simp)
      · rw [List.mem_singleton.1 h2]; exact Good.nil _
    · by_cases h3 : k = 3
      · intro s hs
        unfold writeT spotsN
        rw [if_neg h1, if_pos h3, if_neg h1, if_pos (by omega)]
        exact writeAlt_adds l hk _ s hs (GoodPart.empty _ _)
      · by_cases h4 : k = 4
        · obtain ⟨hl, hm0, hm1, hm2⟩ := Tree.right_rep h h4
          have := writeRep_adds l hk hl mn mx hm0 (by omega)
          intro s hs
          unfold writeT spotsN
          rw [if_neg h1, if_neg h3, if_pos h4, if_neg h1, if_neg (by omega)]
          exact this s hs
        · intro s hs
          unfold writeT spotsN
          rw [if_neg h1, if_neg h3, if_neg h4, if_neg h1, if_pos h4]
          exact writeCat_adds l hk _ s hs (GoodPart.empty _ _)
theorem writeRep_adds : ∀ l : List Tree, (∀ t ∈ l, t.right = true) → l.length = 1 → ∀ mn mx : Int, 0 ≤ mn → (mx = -1 ∨ (1 ≤ mx ∧ mn ≤ mx)) →
    Adds (if mx = -1 then spotsNs l * (mn.toNat + 1) else spotsNs l * mx.toNat) (writeRep l mn mx)
  | [], _, h, _, _, _, _ => by simp at h
  | t :: l, hr, h, mn, mx, h0, hx => by
    have hl : l = [] := List.length_eq_zero_iff.1 (by simpa using h)
    subst hl
    have ht := hr t (by simp)
    have := oftenF_adds (writeT_adds t ht) (c := t.cnt) (spots_zero ht) h0 hx
    simpa [spotsNs, writeRep] using this
theorem writeCat_adds : ∀ l : List Tree, (∀ t ∈ l, t.right = true) → ∀ (p : Part) (s : St), GoodSt s → GoodPart s.sets.length p →
    GoodSt (writeCat l p s).2 ∧ GoodPart (writeCat l p s).2.sets.length (writeCat l p s).1 ∧ (writeCat l p s).2.sets.length = s.sets.length + spotsNs l
  | [], _, p, s, h, hp => ⟨h, hp, rfl⟩
  | t :: l, hr, p, s, h, hp => by
    obtain ⟨h1, h2, h3⟩ := writeT_adds t (hr t (by simp)) s h
    have h4 : (behindS (writeT t s).2 p (writeT t s).1).sets.length = (writeT t s).2.sets.length := rfl
    obtain ⟨a, b, c⟩ := writeCat_adds l (fun x hx => hr x (by simp [hx])) (behindP p (writeT t s).1) (behindS (writeT t s).2 p (writeT t s).1) (h1.behind h2) ((hp.mono (by omega)).behind h2)
    refine ⟨a, b, ?_⟩
    show (writeCat l _ _).2.sets.length = _
    rw [c, h4, h3]; simp [spotsNs]; omega
theorem writeAlt_adds : ∀ l : List Tree, (∀ t ∈ l, t.right = true) → ∀ (p : Part) (s : St), GoodSt s → GoodPart s.sets.length p →
    GoodSt (writeAlt l p s).2 ∧ GoodPart (writeAlt l p s).2.sets.length (writeAlt l p s).1 ∧ (writeAlt l p s).2.sets.length = s.sets.length + spotsNs l
  | [], _, p, s, h, hp => ⟨h, hp, rfl⟩
  | t :: l, hr, p, s, h, hp => by
    obtain ⟨h1, h2, h3⟩ := writeT_adds t (hr t (by simp)) s h
    have hp' := hp.mono (by omega : s.sets.length ≤ (writeT t s).2.sets.length)
    obtain ⟨a, b, c⟩ := writeAlt_adds l (fun x hx => hr x (by simp [hx])) ⟨mergeL p.first (writeT t s).1.first, mergeL p.last (writeT t s).1.last, p.none || (writeT t s).1.none⟩ (writeT t s).2 h1 ⟨hp'.first.merge h2.first, hp'.last.merge h2.last⟩
    refine ⟨a, b, ?_⟩
    show (writeAlt l _ _).2.sets.length = _
    rw [c, h3]; simp [spotsNs]; omega
end

end Go.Proofs.YtmcoaopcmjociaaDoor

namespace Go.Proofs.YtmcoaopcmjociaaDoor
open Go Go.RowKit Go.Sort

abbrev Lang := List Nat → Prop
def epsL : Lang := fun t => t = []
def catL (A B : Lang) : Lang := fun t => ∃ u v, t = u ++ v ∧ A u ∧ B v
def powL (A : Lang) : Nat → Lang
  | 0 => epsL
  | k + 1 => catL A (powL A k)
def starL (A : Lang) : Lang := fun t => ∃ k, powL A k t
mutual
/-- The texts of a pattern; lab says which bytes a set has. -/
def langT (lab : S4 → Nat → Bool) : Tree → Lang
  | .node k s0 s1 s2 s3 l mn mx => if k = 1 then fun t => ∃ b, t = [b] ∧ lab (s0, s1, s2, s3) b = true else if k = 3 then langAlt lab l else if k = 4 then langRep lab l mn mx else langCat lab l
def langCat (lab : S4 → Nat → Bool) : List Tree → Lang
  | [] => epsL
  | x :: l => catL (langT lab x) (langCat lab l)
def langAlt (lab : S4 → Nat → Bool) : List Tree → Lang
  | [] => fun _ => False
  | x :: l => fun t => langT lab x t ∨ langAlt lab l t
def langRep (lab : S4 → Nat → Bool) : List Tree → Int → Int → Lang
  | [], _, _ => fun _ => False
  | x :: _, mn, mx => fun t => ∃ k : Nat, mn ≤ k ∧ (mx = -1 ∨ (k : Int) ≤ mx) ∧ powL (langT lab x) k t
end

theorem langT_one (lab : S4 → Nat → Bool) (s0 s1 s2 s3 : Int) (l : List Tree) (mn mx : Int) (t : List Nat) : langT lab (.node 1 s0 s1 s2 s3 l mn mx) t ↔ ∃ b, t = [b] ∧ lab (s0, s1, s2, s3) b = true := by simp [langT]
theorem langT_cat (lab : S4 → Nat → Bool) (s0 s1 s2 s3 : Int) (l : List Tree) (mn mx : Int) : langT lab (.node 2 s0 s1 s2 s3 l mn mx) = langCat lab l := by simp [langT]
theorem langT_alt (lab : S4 → Nat → Bool) (s0 s1 s2 s3 : Int) (l : List Tree) (mn mx : Int) : langT lab (.node 3 s0 s1 s2 s3 l mn mx) = langAlt lab l := by simp [langT]
theorem langT_rep (lab : S4 → Nat → Bool) (s0 s1 s2 s3 : Int) (l : List Tree) (mn mx : Int) : langT lab (.node 4 s0 s1 s2 s3 l mn mx) = langRep lab l mn mx := by simp [langT]
theorem catL_eps (A : Lang) (t : List Nat) : catL A epsL t ↔ A t := by
  constructor
  · rintro ⟨u, v, rfl, h, rfl⟩; simpa using h
  · intro h; exact ⟨t, [], by simp, h, rfl⟩
theorem eps_catL (A : Lang) (t : List Nat) : catL epsL A t ↔ A t := by
  constructor
  · rintro ⟨u, v, rfl, rfl, h⟩; simpa using h
  · intro h; exact ⟨[], t, rfl, rfl, h⟩
theorem catL_assoc (A B C : Lang) (t : List Nat) : catL (catL A B) C t ↔ catL A (catL B C) t := by
  constructor
  · rintro ⟨_, w, rfl, ⟨u, v, rfl, ha, hb⟩, hc⟩; exact ⟨u, v ++ w, by simp, ha, v, w, rfl, hb, hc⟩
  · rintro ⟨u, _, rfl, ha, v, w, rfl, hb, hc⟩; exact ⟨u ++ v, w, by simp, ⟨u, v, rfl, ha, hb⟩, hc⟩
theorem catL_congr {A A' B B' : Lang} (ha : ∀ t, A t ↔ A' t) (hb : ∀ t, B t ↔ B' t) (t : List Nat) : catL A B t ↔ catL A' B' t := by
  constructor
  · rintro ⟨u, v, rfl, h1, h2⟩; exact ⟨u, v, rfl, (ha u).1 h1, (hb v).1 h2⟩
  · rintro ⟨u, v, rfl, h1, h2⟩; exact ⟨u, v, rfl, (ha u).2 h1, (hb v).2 h2⟩
theorem powL_congr {A A' : Lang} (ha : ∀ t, A t ↔ A' t) : ∀ (k : Nat) (t : List Nat), powL A k t ↔ powL A' k t
  | 0, _ => Iff.rfl
  | k + 1, t => catL_congr ha (powL_congr ha k) t
theorem powL_add (A : Lang) : ∀ (a b : Nat) (t : List Nat), powL A (a + b) t ↔ catL (powL A a) (powL A b) t
  | 0, b, t => by rw [Nat.zero_add]; exact (eps_catL _ t).symm
  | a + 1, b, t => by
    rw [show a + 1 + b = (a + b) + 1 by omega]
    show catL A (powL A (a + b)) t ↔ catL (catL A (powL A a)) (powL A b) t
    rw [catL_assoc]
    exact catL_congr (fun _ => Iff.rfl) (powL_add A a b) t
theorem powL_eps (k : Nat) (t : List Nat) : powL epsL k t ↔ t = [] := by
  induction k generalizing t with
  | zero => exact Iff.rfl
  | succ k ih => exact (eps_catL _ t).trans (ih t)

mutual
/-- A right pattern without spots has the empty text alone. -/
theorem lang_zero (lab : S4 → Nat → Bool) : ∀ T : Tree, T.right = true → spotsN T = 0 → ∀ t, langT lab T t ↔ t = []
  | .node k s0 s1 s2 s3 l mn mx, h, h0, t => by
    have hk := Tree.right_kids h
    rcases Tree.right_kind h with rfl | rfl | rfl | rfl
    · simp [spotsN] at h0
    · have h0' : spotsNs l = 0 := by simpa [spotsN] using h0
      rw [langT_cat]
      exact langCat_zero lab l hk h0' t
    · have h0' : spotsNs l = 0 := by simpa [spotsN] using h0
      rw [langT_alt]
      have hl : l ≠ [] := by
        rintro rfl
        simp [Tree.right] at h
      exact langAlt_zero lab l hk h0' hl t
    · obtain ⟨hl, hm0, hm1, hm2⟩ := Tree.right_rep h rfl
      rw [langT_rep]
      have h0' : spotsNs l = 0 := by
        simp only [spotsN] at h0
        rw [if_neg (by omega), if_neg (by omega)] at h0
        by_cases hx : mx = -1
        · rw [if_pos hx] at h0
          rcases Nat.mul_eq_zero.1 h0 with h | h
          · exact h
          · omega
        · rw [if_neg hx] at h0
          rcases Nat.mul_eq_zero.1 h0 with h | h
          · exact h
          · omega
      exact langRep_zero lab l hk h0' hl mn mx hm0 (by omega) t
theorem langCat_zero (lab : S4 → Nat → Bool) : ∀ l : List Tree, (∀ t ∈ l, t.right = true) → spotsNs l = 0 → ∀ t, langCat lab l t ↔ t = []
  | [], _, _, t => Iff.rfl
  | x :: l, h, h0, t => by
    simp only [spotsNs] at h0
    have h1 := lang_zero lab x (h x (by simp)) (by omega)
    have h2 := langCat_zero lab l (fun y hy => h y (by simp [hy])) (by omega)
    simp only [langCat]
    rw [catL_congr (A' := epsL) (B' := epsL) h1 h2]
    exact eps_catL _ t
theorem langAlt_zero (lab : S4 → Nat → Bool) : ∀ l : List Tree, (∀ t ∈ l, t.right = true) → spotsNs l = 0 → l ≠ [] → ∀ t, langAlt lab l t ↔ t = []
  | [], _, _, h, _ => absurd rfl h
  | x :: l, h, h0, _, t => by
    simp only [spotsNs] at h0
    have h1 := lang_zero lab x (h x (by simp)) (by omega)
    simp only [langAlt]
    cases l with
    | nil => simp only [langAlt, or_false]; exact h1 t
    | cons y l =>
      have h2 := langAlt_zero lab (y :: l) (fun z hz => h z (List.mem_cons_of_mem _ hz)) (by omega) (by simp) t
      rw [h1 t, h2, or_self]
theorem langRep_zero (lab : S4 → Nat → Bool) : ∀ l : List Tree, (∀ t ∈ l, t.right = true) → spotsNs l = 0 → l.length = 1 → ∀ mn mx : Int, 0 ≤ mn → (mx = -1 ∨ mn ≤ mx) → ∀ t, langRep lab l mn mx t ↔ t = []
  | [], _, _, h, _, _, _, _, _ => by simp at h
  | x :: l, h, h0, _, mn, mx, hm, hx, t => by
    simp only [spotsNs] at h0
    have h1 := lang_zero lab x (h x (by simp)) (by omega)
    simp only [langRep]
    constructor
    · rintro ⟨k, _, _, hp⟩
      exact (powL_eps k t).1 ((powL_congr h1 k t).1 hp)
    · intro ht
      exact ⟨mn.toNat, by omega, by omega, (powL_congr h1 _ t).2 ((powL_eps _ t).2 ht)⟩
end

/-- Reading along spots: from one to another. -/
inductive Wk (lab : S4 → Nat → Bool) (sets : List S4) (nx : List (List Int)) : Int → List Nat → Int → Prop
  | one (i : Int) (b : Nat) : lab (sets.getD i.toNat (0, 0, 0, 0)) b = true → Wk lab sets nx i [b] i
  | step (i k : Int) (b : Nat) (t : List Nat) (j : Int) : lab (sets.getD i.toNat (0, 0, 0, 0)) b = true → k ∈ nx.getD i.toNat [] → Wk lab sets nx k t j → Wk lab sets nx i (b :: t) j
theorem Wk.ne {lab : S4 → Nat → Bool} {sets : List S4} {nx : List (List Int)} {i j : Int} {t : List Nat} (h : Wk lab sets nx i t j) : t ≠ [] := by cases h <;> simp
theorem Wk.join {lab : S4 → Nat → Bool} {sets : List S4} {nx : List (List Int)} {i k m j : Int} {u v : List Nat} (h : Wk lab sets nx i u k) (hm : m ∈ nx.getD k.toNat []) (h2 : Wk lab sets nx m v j) : Wk lab sets nx i (u ++ v) j := by
  induction h with
  | one i b hl => exact Wk.step i m b v j hl hm h2
  | step i k' b t j' hl hk _ ih => exact Wk.step i k' b _ j hl hk (ih hm)
/-- Where spots are left alone by two tables the same way. -/
theorem Wk.congr {lab : S4 → Nat → Bool} {sets sets' : List S4} {nx nx' : List (List Int)} (P : Int → Prop) (hp : ∀ i k, P i → k ∈ nx.getD i.toNat [] → P k) (hs : ∀ i, P i → sets'.getD i.toNat (0, 0, 0, 0) = sets.getD i.toNat (0, 0, 0, 0)) (hn : ∀ i, P i → ∀ k ∈ nx.getD i.toNat [], k ∈ nx'.getD i.toNat []) {i j : Int} {t : List Nat} (h : Wk lab sets nx i t j) (hi : P i) : Wk lab sets' nx' i t j ∧ P j := by
  induction h with
  | one i b hl => exact ⟨Wk.one i b (by rw [hs i hi]; exact hl), hi⟩
  | step i k b t j hl hk _ ih =>
    obtain ⟨h1, h2⟩ := ih (hp i k hi hk)
    exact ⟨Wk.step i k b t j (by rw [hs i hi]; exact hl) (hn i hi k hk) h1, h2⟩

/-- The texts of a part. -/
def langP (lab : S4 → Nat → Bool) (s : St) (p : Part) : Lang := fun t => (t = [] ∧ p.none = true) ∨ ∃ i ∈ p.first, ∃ j ∈ p.last, Wk lab s.sets s.next i t j
/-- p was written behind s, giving s': its texts are A's. -/
structure Wrt (lab : S4 → Nat → Bool) (s s' : St) (p : Part) (A : Lang) : Prop where
  good : GoodSt s'
  part : GoodPart s'.sets.length p
  len : s.sets.length ≤ s'.sets.length
  sets : ∀ i, i < s.sets.length → s'.sets[i]? = s.sets[i]?
  next : ∀ i, i < s.sets.length → s'.next[i]? = s.next[i]?
  closed : ∀ i : Nat, s.sets.length ≤ i → ∀ x ∈ s'.next.getD i [], (s.sets.length : Int) ≤ x
  first : ∀ x ∈ p.first, (s.sets.length : Int) ≤ x
  last : ∀ x ∈ p.last, (s.sets.length : Int) ≤ x
  lang : ∀ t, langP lab s' p t ↔ A t
theorem getD_of {α : Type} {l l' : List α} {i : Nat} (h : l'[i]? = l[i]?) (d : α) : l'.getD i d = l.getD i d := by
  rw [List.getD_eq_getElem?_getD, List.getD_eq_getElem?_getD, h]
theorem next_in {s : St} (h : GoodSt s) {i : Nat} {x : Int} (hx : x ∈ s.next.getD i []) : 0 ≤ x ∧ x < s.sets.length := by
  rw [List.getD_eq_getElem?_getD] at hx
  cases hi : s.next[i]? with
  | none => rw [hi] at hx; simp at hx
  | some l => rw [hi] at hx; exact (h.good l (List.mem_of_getElem? hi)).2 x hx
theorem Wrt.congr {lab : S4 → Nat → Bool} {s s' : St} {p : Part} {A B : Lang} (h : Wrt lab s s' p A) (hab : ∀ t, A t ↔ B t) : Wrt lab s s' p B :=
  ⟨h.good, h.part, h.len, h.sets, h.next, h.closed, h.first, h.last, fun t => (h.lang t).trans (hab t)⟩

theorem nextL_at (sp : List Int) : ∀ (of : List Int) (nx : List (List Int)) (i : Nat), (∀ x ∈ of, x.toNat ≠ i) → (nextL nx of sp)[i]? = nx[i]?
  | [], _, _, _ => rfl
  | q :: of, nx, i, h => by
    show (nextL (nx.set q.toNat _) of sp)[i]? = _
    rw [nextL_at sp of _ i fun x hx => h x (by simp [hx]), List.getElem?_set_ne (h q (by simp))]
theorem nextL_mem (sp : List Int) : ∀ (of : List Int) (nx : List (List Int)), (∀ x ∈ of, 0 ≤ x ∧ x < nx.length) → ∀ (i : Nat) (x : Int), x ∈ (nextL nx of sp).getD i [] ↔ x ∈ nx.getD i [] ∨ ((i : Int) ∈ of ∧ x ∈ sp)
  | [], nx, _, i, x => by simp [nextL]
  | q :: of, nx, h, i, x => by
    have hq := h q (by simp)
    have ih := nextL_mem sp of (nx.set q.toNat (mergeL (nx.getD q.toNat []) sp)) (fun y hy => by rw [List.length_set]; exact h y (by simp [hy])) i x
    show x ∈ (nextL _ of sp).getD i [] ↔ _
    rw [ih]
    by_cases hi : q.toNat = i
    · subst hi
      have e : (nx.set q.toNat (mergeL (nx.getD q.toNat []) sp)).getD q.toNat [] = mergeL (nx.getD q.toNat []) sp := by
        rw [List.getD_eq_getElem?_getD, List.getElem?_set_self (by omega)]; rfl
      rw [e, mem_mergeL]
      have : ((q.toNat : Nat) : Int) ∈ q :: of := by rw [Int.toNat_of_nonneg hq.1]; simp
      constructor
      · rintro ((h1 | h1) | ⟨h1, h2⟩)
        · exact .inl h1
        · exact .inr ⟨this, h1⟩
        · exact .inr ⟨this, h2⟩
      · rintro (h1 | ⟨_, h2⟩)
        · exact .inl (.inl h1)
        · exact .inl (.inr h2)
    · have e : (nx.set q.toNat (mergeL (nx.getD q.toNat []) sp)).getD i [] = nx.getD i [] := getD_of (List.getElem?_set_ne hi) []
      rw [e]
      have : ((i : Int) ∈ q :: of) ↔ (i : Int) ∈ of := by
        rw [List.mem_cons]
        constructor
        · rintro (h1 | h1)
          · omega
          · exact h1
        · exact .inr
      rw [this]
end Go.Proofs.YtmcoaopcmjociaaDoor

namespace Go.Proofs.YtmcoaopcmjociaaDoor
open Go Go.RowKit Go.Sort

variable {lab : S4 → Nat → Bool}
theorem Wrt.empty {s : St} (h : GoodSt s) : Wrt lab s s emptyP epsL :=
  ⟨h, GoodPart.empty _ _, Nat.le_refl _, fun _ _ => rfl, fun _ _ => rfl, fun i hi x hx => by
    rw [List.getD_eq_getElem?_getD, List.getElem?_eq_none (by rw [h.len]; exact hi)] at hx
    simp at hx, fun x hx => by simp [emptyP] at hx, fun x hx => by simp [emptyP] at hx, fun t => by
    constructor
    · rintro (⟨h, _⟩ | ⟨i, hi, _⟩)
      · exact h
      · simp [emptyP] at hi
    · intro h; exact .inl ⟨h, rfl⟩⟩
theorem Wrt.nothing {s : St} (h : GoodSt s) : Wrt lab s s ⟨[], [], false⟩ (fun _ => False) :=
  ⟨h, GoodPart.empty _ _, Nat.le_refl _, fun _ _ => rfl, fun _ _ => rfl, fun i hi x hx => by
    rw [List.getD_eq_getElem?_getD, List.getElem?_eq_none (by rw [h.len]; exact hi)] at hx
    simp at hx, fun x hx => by simp at hx, fun x hx => by simp at hx, fun t => by
    constructor
    · rintro (⟨_, h⟩ | ⟨i, hi, _⟩)
      · simp at h
      · simp at hi
    · intro h; exact h.elim⟩
/-- The part may be empty, besides. -/
theorem Wrt.maybe {s s' : St} {p : Part} {A : Lang} (h : Wrt lab s s' p A) : Wrt lab s s' { p with none := true } (fun t => t = [] ∨ A t) := by
  refine ⟨h.good, ⟨h.part.first, h.part.last⟩, h.len, h.sets, h.next, h.closed, h.first, h.last, fun t => ?_⟩
  rw [← h.lang t]
  constructor
  · rintro (⟨h1, _⟩ | h1)
    · exact .inl h1
    · exact .inr (.inr h1)
  · rintro (h1 | ⟨h1, _⟩ | h1)
    · exact .inl ⟨h1, rfl⟩
    · exact .inl ⟨h1, rfl⟩
    · exact .inr h1
theorem Wrt.up {s s' : St} {p : Part} {A : Lang} (h : Wrt lab s s' p A) {i k : Int} (hi : (s.sets.length : Int) ≤ i) (hk : k ∈ s'.next.getD i.toNat []) : (s.sets.length : Int) ≤ k ∧ k < s'.sets.length :=
  ⟨h.closed i.toNat (by omega) k hk, (next_in h.good hk).2⟩
/-- What a later writing leaves of an earlier part's reading. -/
theorem Wrt.stays {s s1 s2 : St} {p q : Part} {A B : Lang} (h : Wrt lab s s1 p A) (k : Wrt lab s1 s2 q B) {i j : Int} {t : List Nat} (hi : (s.sets.length : Int) ≤ i ∧ i < s1.sets.length) :
    Wk lab s1.sets s1.next i t j ↔ Wk lab s2.sets s2.next i t j := by
  have hs : ∀ x : Int, (s.sets.length : Int) ≤ x ∧ x < s1.sets.length → s2.sets.getD x.toNat (0, 0, 0, 0) = s1.sets.getD x.toNat (0, 0, 0, 0) := fun x hx => getD_of (k.sets x.toNat (by omega)) _
  have hn : ∀ x : Int, (s.sets.length : Int) ≤ x ∧ x < s1.sets.length → s2.next.getD x.toNat [] = s1.next.getD x.toNat [] := fun x hx => getD_of (k.next x.toNat (by omega)) _
  constructor
  · intro hw
    exact (hw.congr (fun x => (s.sets.length : Int) ≤ x ∧ x < s1.sets.length) (fun x y hx hy => h.up hx.1 hy) hs (fun x hx y hy => by rw [hn x hx]; exact hy) hi).1
  · intro hw
    exact (hw.congr (fun x => (s.sets.length : Int) ≤ x ∧ x < s1.sets.length) (fun x y hx hy => by rw [hn x hx] at hy; exact h.up hx.1 hy) (fun x hx => (hs x hx).symm) (fun x hx y hy => by rw [hn x hx] at hy; exact hy) hi).1
theorem Wk.stays_in {sets : List S4} {nx : List (List Int)} (P : Int → Prop) (hp : ∀ i k, P i → k ∈ nx.getD i.toNat [] → P k) {i j : Int} {t : List Nat} (h : Wk lab sets nx i t j) (hi : P i) : P j :=
  (h.congr (sets' := sets) (nx' := nx) P hp (fun _ _ => rfl) (fun _ _ _ hk => hk) hi).2

/-- Beside one another. -/
theorem Wrt.alt {s s1 s2 : St} {p q : Part} {A B : Lang} (h : Wrt lab s s1 p A) (k : Wrt lab s1 s2 q B) : Wrt lab s s2 ⟨mergeL p.first q.first, mergeL p.last q.last, p.none || q.none⟩ (fun t => A t ∨ B t) := by
  have hl := h.len; have kl := k.len
  refine ⟨k.good, ⟨(h.part.mono kl).first.merge k.part.first, (h.part.mono kl).last.merge k.part.last⟩, by omega, fun i hi => (k.sets i (by omega)).trans (h.sets i hi), fun i hi => (k.next i (by omega)).trans (h.next i hi), fun i hi x hx => ?_, fun x hx => ?_, fun x hx => ?_, fun t => ?_⟩
  · rcases Nat.lt_or_ge i s1.sets.length with h1 | h1
    · rw [getD_of (k.next i h1)] at hx
      exact h.closed i hi x hx
    · have := k.closed i h1 x hx
      omega
  · rcases (mem_mergeL _ _ x).1 hx with h1 | h1
    · exact h.first x h1
    · have := k.first x h1; omega
  · rcases (mem_mergeL _ _ x).1 hx with h1 | h1
    · exact h.last x h1
    · have := k.last x h1; omega
  · rw [← h.lang t, ← k.lang t]
    constructor
    · rintro (⟨h1, h2⟩ | ⟨i, hi, j, hj, hw⟩)
      · rcases Bool.or_eq_true _ _ ▸ h2 with h2 | h2
        · exact .inl (.inl ⟨h1, h2⟩)
        · exact .inr (.inl ⟨h1, h2⟩)
      · rcases (mem_mergeL _ _ i).1 hi with hi | hi
        · have hir : (s.sets.length : Int) ≤ i ∧ i < s1.sets.length := ⟨h.first i hi, (h.part.first.2 i hi).2⟩
          have hw1 := (h.stays k hir).2 hw
          have hjr := hw1.stays_in (fun x => (s.sets.length : Int) ≤ x ∧ x < s1.sets.length) (fun x y hx hy => h.up hx.1 hy) hir
          refine .inl (.inr ⟨i, hi, j, ?_, hw1⟩)
          rcases (mem_mergeL _ _ j).1 hj with hj | hj
          · exact hj
          · have := k.last j hj; omega
        · have hir := k.first i hi
          have hjr := hw.stays_in (fun x => (s1.sets.length : Int) ≤ x) (fun x y hx hy => (k.up hx hy).1) hir
          refine .inr (.inr ⟨i, hi, j, ?_, hw⟩)
          rcases (mem_mergeL _ _ j).1 hj with hj | hj
          · have := (h.part.last.2 j hj).2; omega
          · exact hj
    · rintro ((⟨h1, h2⟩ | ⟨i, hi, j, hj, hw⟩) | (⟨h1, h2⟩ | ⟨i, hi, j, hj, hw⟩))
      · exact .inl ⟨h1, by simp [h2]⟩
      · exact .inr ⟨i, (mem_mergeL _ _ i).2 (.inl hi), j, (mem_mergeL _ _ j).2 (.inl hj), (h.stays k ⟨h.first i hi, (h.part.first.2 i hi).2⟩).1 hw⟩
      · exact .inl ⟨h1, by simp [h2]⟩
      · exact .inr ⟨i, (mem_mergeL _ _ i).2 (.inr hi), j, (mem_mergeL _ _ j).2 (.inr hj), hw⟩

/-- Behind one another. -/
theorem Wrt.behind {s s1 s2 : St} {p q : Part} {A B : Lang} (h : Wrt lab s s1 p A) (k : Wrt lab s1 s2 q B) : Wrt lab s (behindS s2 p q) (behindP p q) (catL A B) := by
  have hl := h.len; have kl := k.len
  have hmem := fun (i : Nat) (x : Int) => nextL_mem q.first p.last s2.next (fun y hy => by have := (h.part.mono kl).last.2 y hy; rw [k.good.len]; exact this) i x
  have hgood := k.good.behind (a := p) k.part
  have hpart := (h.part.mono kl).behind k.part
  have hpl : ∀ x ∈ p.last, (s.sets.length : Int) ≤ x ∧ x < s1.sets.length := fun x hx => ⟨h.last x hx, (h.part.last.2 x hx).2⟩
  have hpf : ∀ x ∈ p.first, (s.sets.length : Int) ≤ x ∧ x < s1.sets.length := fun x hx => ⟨h.first x hx, (h.part.first.2 x hx).2⟩
  have hqf : ∀ x ∈ (behindP p q).first, x ∈ p.first ∨ (p.none = true ∧ x ∈ q.first) := by
    intro x hx
    unfold behindP at hx
    simp only at hx
    split at hx
    · rename_i hn
      rcases (mem_mergeL _ _ x).1 hx with h1 | h1
      · exact .inl h1
      · exact .inr ⟨hn, h1⟩
    · exact .inl hx
  have hql : ∀ x ∈ (behindP p q).last, x ∈ q.last ∨ (q.none = true ∧ x ∈ p.last) := by
    intro x hx
    unfold behindP at hx
    simp only at hx
    split at hx
    · rename_i hn
      rcases (mem_mergeL _ _ x).1 hx with h1 | h1
      · exact .inr ⟨hn, h1⟩
      · exact .inl h1
    · exact .inl hx
  have hfp : ∀ x ∈ p.first, x ∈ (behindP p q).first := by
    intro x hx
    unfold behindP
    simp only
    split
    · exact (mem_mergeL _ _ x).2 (.inl hx)
    · exact hx
  have hfq : p.none = true → ∀ x ∈ q.first, x ∈ (behindP p q).first := by
    intro hn x hx
    unfold behindP
    simp only
    rw [if_pos hn]
    exact (mem_mergeL _ _ x).2 (.inr hx)
  have hlq : ∀ x ∈ q.last, x ∈ (behindP p q).last := by
    intro x hx
    unfold behindP
    simp only
    split
    · exact (mem_mergeL _ _ x).2 (.inr hx)
    · exact hx
  have hlp : q.none = true → ∀ x ∈ p.last, x ∈ (behindP p q).last := by
    intro hn x hx
    unfold behindP
    simp only
    rw [if_pos hn]
    exact (mem_mergeL _ _ x).2 (.inl hx)
  have hold : ∀ i : Nat, (∀ x ∈ p.last, x ≠ (i : Int)) → ∀ x, x ∈ (behindS s2 p q).next.getD i [] ↔ x ∈ s2.next.getD i [] := by
    intro i hi x
    refine (hmem i x).trans ⟨?_, .inl⟩
    rintro (h1 | ⟨h1, _⟩)
    · exact h1
    · exact absurd rfl (hi _ h1)
  have hsets : (behindS s2 p q).sets = s2.sets := rfl
  refine ⟨hgood, hpart, by rw [hsets]; omega, fun i hi => by rw [hsets]; exact (k.sets i (by omega)).trans (h.sets i hi), fun i hi => ?_, fun i hi x hx => ?_, fun x hx => ?_, fun x hx => ?_, fun t => ?_⟩
  · have h1 := nextL_at q.first p.last s2.next i (fun y hy => by have := hpl y hy; omega)
    exact h1.trans ((k.next i (by omega)).trans (h.next i hi))
  · rcases (hmem i x).1 hx with h1 | ⟨h1, h2⟩
    · rcases Nat.lt_or_ge i s1.sets.length with h3 | h3
      · rw [getD_of (k.next i h3)] at h1
        exact h.closed i hi x h1
      · have := k.closed i h3 x h1; omega
    · have := k.first x h2; omega
  · rcases hqf x hx with h1 | ⟨_, h1⟩
    · exact h.first x h1
    · have := k.first x h1; omega
  · rcases hql x hx with h1 | ⟨_, h1⟩
    · have := k.last x h1; omega
    · exact h.last x h1
  · -- walks within q's spots, and walks that begin at p's
    have hin : ∀ {i j : Int} {t : List Nat}, (s1.sets.length : Int) ≤ i → (Wk lab (behindS s2 p q).sets (behindS s2 p q).next i t j ↔ Wk lab s2.sets s2.next i t j) := by
      intro i j t hi
      have e : ∀ x : Int, (s1.sets.length : Int) ≤ x → ∀ y, y ∈ (behindS s2 p q).next.getD x.toNat [] ↔ y ∈ s2.next.getD x.toNat [] := fun x hx y => hold x.toNat (fun z hz => by have := hpl z hz; omega) y
      constructor
      · intro hw
        exact (hw.congr (fun x => (s1.sets.length : Int) ≤ x) (fun x y hx hy => (k.up hx ((e x hx y).1 hy)).1) (fun _ _ => rfl) (fun x hx y hy => (e x hx y).1 hy) hi).1
      · intro hw
        exact (hw.congr (fun x => (s1.sets.length : Int) ≤ x) (fun x y hx hy => (k.up hx hy).1) (fun _ _ => rfl) (fun x hx y hy => (e x hx y).2 hy) hi).1
    have hup : ∀ {i j : Int} {t : List Nat}, (s.sets.length : Int) ≤ i ∧ i < s1.sets.length → Wk lab s1.sets s1.next i t j → Wk lab (behindS s2 p q).sets (behindS s2 p q).next i t j := by
      intro i j t hi hw
      have hw2 := (h.stays k hi).1 hw
      exact (hw2.congr (fun _ => True) (fun _ _ _ _ => trivial) (fun _ _ => rfl) (fun x _ y hy => (hmem x.toNat y).2 (.inl hy)) trivial).1
    have hsplit : ∀ {i j : Int} {t : List Nat}, Wk lab (behindS s2 p q).sets (behindS s2 p q).next i t j → ((s.sets.length : Int) ≤ i ∧ i < s1.sets.length) →
        (Wk lab s1.sets s1.next i t j ∧ j < s1.sets.length) ∨ ∃ u v m n, t = u ++ v ∧ Wk lab s1.sets s1.next i u m ∧ m ∈ p.last ∧ n ∈ q.first ∧ Wk lab s2.sets s2.next n v j ∧ (s1.sets.length : Int) ≤ j := by
      intro i j t hw
      induction hw with
      | one i b hb =>
        intro hi
        exact .inl ⟨Wk.one i b (by rw [← getD_of (k.sets i.toNat (by omega))]; exact hb), hi.2⟩
      | step i m b t j hb hm hw ih =>
        intro hi
        have hb1 : lab (s1.sets.getD i.toNat (0, 0, 0, 0)) b = true := by rw [← getD_of (k.sets i.toNat (by omega))]; exact hb
        rcases (hmem i.toNat m).1 hm with h1 | ⟨h1, h2⟩
        · rw [getD_of (k.next i.toNat (by omega))] at h1
          rcases ih (h.up hi.1 h1) with ⟨h3, h4⟩ | ⟨u, v, m', n, rfl, h3, h4, h5, h6, h7⟩
          · exact .inl ⟨Wk.step i m b t j hb1 h1 h3, h4⟩
          · exact .inr ⟨b :: u, v, m', n, rfl, Wk.step i m b u m' hb1 h1 h3, h4, h5, h6, h7⟩
        · have hm1 := k.first m h2
          have hw2 := (hin hm1).1 hw
          refine .inr ⟨[b], t, i, m, rfl, Wk.one i b hb1, by rwa [Int.toNat_of_nonneg (by omega)] at h1, h2, hw2, ?_⟩
          exact hw2.stays_in (fun x => (s1.sets.length : Int) ≤ x) (fun x y hx hy => (k.up hx hy).1) hm1
    constructor
    · rintro (⟨h1, h2⟩ | ⟨i, hi, j, hj, hw⟩)
      · have h3 : p.none = true ∧ q.none = true := by simpa [behindP] using h2
        exact ⟨[], [], h1, (h.lang []).1 (.inl ⟨rfl, h3.1⟩), (k.lang []).1 (.inl ⟨rfl, h3.2⟩)⟩
      · rcases hqf i hi with hi | ⟨hn, hi⟩
        · rcases hsplit hw (hpf i hi) with ⟨h3, h4⟩ | ⟨u, v, m, n, rfl, h3, h4, h5, h6, h7⟩
          · rcases hql j hj with hj | ⟨hqn, hj⟩
            · have := k.last j hj; omega
            · exact ⟨t, [], by simp, (h.lang t).1 (.inr ⟨i, hi, j, hj, h3⟩), (k.lang []).1 (.inl ⟨rfl, hqn⟩)⟩
          · rcases hql j hj with hj | ⟨_, hj⟩
            · exact ⟨u, v, rfl, (h.lang u).1 (.inr ⟨i, hi, m, h4, h3⟩), (k.lang v).1 (.inr ⟨n, h5, j, hj, h6⟩)⟩
            · have := (hpl j hj).2; omega
        · have hi1 := k.first i hi
          have hw2 := (hin hi1).1 hw
          have hj1 := hw2.stays_in (fun x => (s1.sets.length : Int) ≤ x) (fun x y hx hy => (k.up hx hy).1) hi1
          rcases hql j hj with hj | ⟨_, hj⟩
          · exact ⟨[], t, rfl, (h.lang []).1 (.inl ⟨rfl, hn⟩), (k.lang t).1 (.inr ⟨i, hi, j, hj, hw2⟩)⟩
          · have := (hpl j hj).2; omega
    · rintro ⟨u, v, rfl, ha, hb⟩
      rcases (h.lang u).2 ha with ⟨rfl, hn⟩ | ⟨i, hi, m, hm, hw⟩
      · rcases (k.lang v).2 hb with ⟨rfl, hn2⟩ | ⟨n, hn2, j, hj, hw2⟩
        · exact .inl ⟨rfl, by simp [behindP, hn, hn2]⟩
        · exact .inr ⟨n, hfq hn n hn2, j, hlq j hj, (hin (k.first n hn2)).2 hw2⟩
      · rcases (k.lang v).2 hb with ⟨rfl, hn2⟩ | ⟨n, hn2, j, hj, hw2⟩
        · rw [List.append_nil]
          exact .inr ⟨i, hfp i hi, m, hlp hn2 m hm, hup (hpf i hi) hw⟩
        · refine .inr ⟨i, hfp i hi, j, hlq j hj, (hup (hpf i hi) hw).join ?_ ((hin (k.first n hn2)).2 hw2)⟩
          refine (hmem m.toNat n).2 (.inr ⟨?_, hn2⟩)
          rw [Int.toNat_of_nonneg (by have := hpl m hm; omega)]
          exact hm
end Go.Proofs.YtmcoaopcmjociaaDoor

namespace Go.Proofs.YtmcoaopcmjociaaDoor
open Go Go.RowKit Go.Sort

variable {lab : S4 → Nat → Bool}
/-- Again and again. -/
theorem Wrt.loop {s s1 : St} {q : Part} {K : Lang} (h : Wrt lab s s1 q K) : Wrt lab s (loopS s1 q) { q with none := true } (starL K) := by
  have hl := h.len
  have hmem := fun (i : Nat) (x : Int) => nextL_mem q.first q.last s1.next (fun y hy => by have := h.part.last.2 y hy; rw [h.good.len]; exact this) i x
  have hgood : GoodSt (loopS s1 q) := h.good.nextS h.part.first
  have hqf : ∀ x ∈ q.first, (s.sets.length : Int) ≤ x ∧ x < s1.sets.length := fun x hx => ⟨h.first x hx, (h.part.first.2 x hx).2⟩
  have hql : ∀ x ∈ q.last, (s.sets.length : Int) ≤ x ∧ x < s1.sets.length := fun x hx => ⟨h.last x hx, (h.part.last.2 x hx).2⟩
  refine ⟨hgood, ⟨h.part.first, h.part.last⟩, hl, h.sets, fun i hi => ?_, fun i hi x hx => ?_, h.first, h.last, fun t => ?_⟩
  · exact (nextL_at q.first q.last s1.next i (fun y hy => by have := hql y hy; omega)).trans (h.next i hi)
  · rcases (hmem i x).1 hx with h1 | ⟨_, h2⟩
    · exact h.closed i hi x h1
    · exact h.first x h2
  · have hup : ∀ {i j : Int} {t : List Nat}, Wk lab s1.sets s1.next i t j → Wk lab (loopS s1 q).sets (loopS s1 q).next i t j := by
      intro i j t hw
      exact (hw.congr (fun _ => True) (fun _ _ _ _ => trivial) (fun _ _ => rfl) (fun x _ y hy => (hmem x.toNat y).2 (.inl hy)) trivial).1
    have hsplit : ∀ {i j : Int} {t : List Nat}, Wk lab (loopS s1 q).sets (loopS s1 q).next i t j → (s.sets.length : Int) ≤ i ∧ i < s1.sets.length → j ∈ q.last → ∃ u v m, t = u ++ v ∧ m ∈ q.last ∧ Wk lab s1.sets s1.next i u m ∧ starL K v := by
      intro i j t hw
      induction hw with
      | one i b hb => exact fun _ hj => ⟨[b], [], i, rfl, hj, Wk.one i b hb, 0, rfl⟩
      | step i m b t j hb hm hw ih =>
        intro hi hj
        rcases (hmem i.toNat m).1 hm with h1 | ⟨h1, h2⟩
        · obtain ⟨u, v, n, rfl, hn, h3, h4⟩ := ih (h.up hi.1 h1) hj
          exact ⟨b :: u, v, n, rfl, hn, Wk.step i m b u n hb h1 h3, h4⟩
        · obtain ⟨u, v, n, rfl, hn, h3, k, h4⟩ := ih (hqf m h2) hj
          rw [Int.toNat_of_nonneg (by omega)] at h1
          exact ⟨[b], u ++ v, i, rfl, h1, Wk.one i b hb, k + 1, u, v, rfl, (h.lang u).1 (.inr ⟨m, h2, n, hn, h3⟩), h4⟩
    constructor
    · rintro (⟨h1, _⟩ | ⟨i, hi, j, hj, hw⟩)
      · exact ⟨0, h1⟩
      · obtain ⟨u, v, m, rfl, hm, h3, k, h4⟩ := hsplit hw (hqf i hi) hj
        exact ⟨k + 1, u, v, rfl, (h.lang u).1 (.inr ⟨i, hi, m, hm, h3⟩), h4⟩
    · rintro ⟨k, hk⟩
      induction k generalizing t with
      | zero => exact .inl ⟨hk, rfl⟩
      | succ k ih =>
        obtain ⟨u, v, rfl, hu, hv⟩ := hk
        have hv2 := ih v hv
        rcases (h.lang u).2 hu with ⟨rfl, _⟩ | ⟨i, hi, m, hm, hw⟩
        · exact hv2
        · rcases hv2 with ⟨rfl, _⟩ | ⟨n, hn, j, hj, hw2⟩
          · rw [List.append_nil]
            exact .inr ⟨i, hi, m, hm, hup hw⟩
          · refine .inr ⟨i, hi, j, hj, (hup hw).join ?_ hw2⟩
            refine (hmem m.toNat n).2 (.inr ⟨?_, hn⟩)
            rw [Int.toNat_of_nonneg (by have := hql m hm; omega)]
            exact hm

/-- Writing by f makes parts of A's texts. -/
def Writes (lab : S4 → Nat → Bool) (f : St → Part × St) (A : Lang) : Prop := ∀ s, GoodSt s → Wrt lab s (f s).2 (f s).1 A
theorem Wrt.many {f : St → Part × St} {K : Lang} (hf : Writes lab f K) : ∀ (n : Nat) {s0 s : St} {p : Part} {A : Lang}, Wrt lab s0 s p A → Wrt lab s0 (manyF f n p s).2 (manyF f n p s).1 (catL A (powL K n))
  | 0, s0, s, p, A, h => h.congr fun t => (catL_eps A t).symm
  | n + 1, s0, s, p, A, h => (Wrt.many hf n (h.behind (hf s h.good))).congr fun t => catL_assoc A K (powL K n) t
theorem Wrt.rest {f : St → Part × St} {K : Lang} (hf : Writes lab f K) : ∀ (n : Nat) (s : St), GoodSt s → Wrt lab s (restF f n s).2 (restF f n s).1 (fun t => ∃ k, k ≤ n ∧ powL K k t)
  | 0, s, h => (Wrt.empty h).congr fun t => ⟨fun h => ⟨0, Nat.le_refl _, h⟩, fun ⟨k, hk, hp⟩ => by
    have e : k = 0 := by omega
    subst e
    exact hp⟩
  | n + 1, s, h => by
    have h1 := hf s h
    have h2 := Wrt.rest hf n (f s).2 h1.good
    refine (h1.behind h2).maybe.congr fun t => ?_
    constructor
    · rintro (rfl | ⟨u, v, rfl, hu, k, hk, hv⟩)
      · exact ⟨0, Nat.zero_le _, rfl⟩
      · exact ⟨k + 1, by omega, u, v, rfl, hu, hv⟩
    · rintro ⟨k, hk, hp⟩
      cases k with
      | zero => exact .inl hp
      | succ k =>
        obtain ⟨u, v, rfl, hu, hv⟩ := hp
        exact .inr ⟨u, v, rfl, hu, k, by omega, hv⟩
theorem Writes.often {f : St → Part × St} {K : Lang} (hf : Writes lab f K) {c mn mx : Int} (hc : c = 0 → ∀ t, K t ↔ t = []) (h0 : 0 ≤ mn) (hx : mx = -1 ∨ (1 ≤ mx ∧ mn ≤ mx)) :
    Writes lab (oftenF c f mn mx) (fun t => ∃ k : Nat, mn ≤ k ∧ (mx = -1 ∨ (k : Int) ≤ mx) ∧ powL K k t) := by
  intro s h
  unfold oftenF
  by_cases h1 : c = 0
  · rw [if_pos h1]
    refine (Wrt.empty h).congr fun t => ?_
    constructor
    · intro ht
      exact ⟨mn.toNat, by omega, by omega, (powL_congr (hc h1) _ t).2 ((powL_eps _ t).2 ht)⟩
    · rintro ⟨k, _, _, hp⟩
      exact (powL_eps k t).1 ((powL_congr (hc h1) k t).1 hp)
  · rw [if_neg h1]
    have hm := Wrt.many hf mn.toNat (Wrt.empty (lab := lab) h)
    have hm2 : ∀ t, catL epsL (powL K mn.toNat) t ↔ powL K mn.toNat t := fun t => eps_catL _ t
    by_cases h2 : mx = -1
    · simp only [if_pos h2]
      refine ((hm.congr hm2).behind (hf _ hm.good).loop).congr fun t => ?_
      constructor
      · rintro ⟨u, v, rfl, hu, k, hv⟩
        exact ⟨mn.toNat + k, by omega, .inl h2, (powL_add K _ _ _).2 ⟨u, v, rfl, hu, hv⟩⟩
      · rintro ⟨k, hk, _, hp⟩
        obtain ⟨d, rfl⟩ : ∃ d, k = mn.toNat + d := ⟨k - mn.toNat, by omega⟩
        obtain ⟨u, v, rfl, hu, hv⟩ := (powL_add K _ _ _).1 hp
        exact ⟨u, v, rfl, hu, d, hv⟩
    · simp only [if_neg h2]
      refine ((hm.congr hm2).behind (Wrt.rest hf (mx - mn).toNat _ hm.good)).congr fun t => ?_
      constructor
      · rintro ⟨u, v, rfl, hu, k, hk, hv⟩
        exact ⟨mn.toNat + k, by omega, .inr (by omega), (powL_add K _ _ _).2 ⟨u, v, rfl, hu, hv⟩⟩
      · rintro ⟨k, hk, hk2, hp⟩
        obtain ⟨d, rfl⟩ : ∃ d, k = mn.toNat + d := ⟨k - mn.toNat, by omega⟩
        obtain ⟨u, v, rfl, hu, hv⟩ := (powL_add K _ _ _).1 hp
        exact ⟨u, v, rfl, hu, d, by omega, hv⟩

theorem Wrt.one {s : St} (h : GoodSt s) (x : S4) : Wrt lab s ⟨s.sets ++ [x], s.next ++ [[]]⟩ ⟨[(s.sets.length : Int)], [(s.sets.length : Int)], false⟩ (fun t => ∃ b, t = [b] ∧ lab x b = true) := by
  have hg : GoodSt ⟨s.sets ++ [x], s.next ++ [[]]⟩ := by
    refine ⟨by simp [h.len], fun l hl => ?_⟩
    rcases List.mem_append.1 hl with h1 | h1
    · exact (h.good l h1).mono (by simp)
    · rw [List.mem_singleton.1 h1]; exact Good.nil _
  have hset : (s.sets ++ [x]).getD ((s.sets.length : Int).toNat) (0, 0, 0, 0) = x := by
    rw [Int.toNat_natCast, List.getD_eq_getElem?_getD, List.getElem?_append_right (Nat.le_refl _)]; simp
  have hnx : ∀ i, s.sets.length ≤ i → (s.next ++ [[]]).getD i [] = [] := by
    intro i hi
    rw [List.getD_eq_getElem?_getD, List.getElem?_append_right (by rw [h.len]; exact hi)]
    cases i - s.next.length <;> simp
  refine ⟨hg, ⟨Good.one (by simp), Good.one (by simp)⟩, by simp, fun i hi => List.getElem?_append_left hi, fun i hi => List.getElem?_append_left (by rw [h.len]; exact hi), fun i hi y hy => ?_, fun y hy => by rw [List.mem_singleton.1 hy]; exact Int.le_refl _, fun y hy => by rw [List.mem_singleton.1 hy]; exact Int.le_refl _, fun t => ?_⟩
  · rw [hnx i hi] at hy; simp at hy
  · constructor
    · rintro (⟨_, h1⟩ | ⟨i, hi, j, hj, hw⟩)
      · simp at h1
      · obtain rfl := List.mem_singleton.1 hi
        cases hw with
        | one _ b hb => exact ⟨b, rfl, by rwa [hset] at hb⟩
        | step _ k b t _ hb hk _ => rw [Int.toNat_natCast, hnx _ (Nat.le_refl _)] at hk; simp at hk
    · rintro ⟨b, rfl, hb⟩
      exact .inr ⟨(s.sets.length : Int), by simp, (s.sets.length : Int), by simp, Wk.one _ b (by rw [hset]; exact hb)⟩

mutual
/-- A right pattern's spots are read along just its texts. -/
theorem writes_lang (lab : S4 → Nat → Bool) : ∀ T : Tree, T.right = true → Writes lab (writeT T) (langT lab T)
  | .node k s0 s1 s2 s3 l mn mx, h => by
    intro s hs
    have hk := Tree.right_kids h
    rcases Tree.right_kind h with rfl | rfl | rfl | rfl
    · have e : writeT (.node 1 s0 s1 s2 s3 l mn mx) s = (⟨[(s.sets.length : Int)], [(s.sets.length : Int)], false⟩, ⟨s.sets ++ [(s0, s1, s2, s3)], s.next ++ [[]]⟩) := by simp [writeT]
      rw [e]
      exact (Wrt.one hs _).congr fun t => (langT_one lab s0 s1 s2 s3 l mn mx t).symm
    · have e : writeT (.node 2 s0 s1 s2 s3 l mn mx) s = writeCat l emptyP s := by simp [writeT]
      rw [e, langT_cat]
      exact (writesCat_lang lab l hk (Wrt.empty hs)).congr fun t => eps_catL _ t
    · have e : writeT (.node 3 s0 s1 s2 s3 l mn mx) s = writeAlt l ⟨[], [], false⟩ s := by simp [writeT]
      rw [e, langT_alt]
      exact (writesAlt_lang lab l hk (Wrt.nothing hs)).congr fun t => by simp
    · obtain ⟨hl, hm0, hm1, hm2⟩ := Tree.right_rep h rfl
      have e : writeT (.node 4 s0 s1 s2 s3 l mn mx) s = writeRep l mn mx s := by simp [writeT]
      rw [e, langT_rep]
      exact writesRep_lang lab l hk hl mn mx hm0 (by omega) s hs
theorem writesCat_lang (lab : S4 → Nat → Bool) : ∀ l : List Tree, (∀ t ∈ l, t.right = true) → ∀ {s0 s : St} {p : Part} {A : Lang}, Wrt lab s0 s p A → Wrt lab s0 (writeCat l p s).2 (writeCat l p s).1 (catL A (langCat lab l))
  | [], _, s0, s, p, A, h => h.congr fun t => (catL_eps A t).symm
  | x :: l, hr, s0, s, p, A, h => by
    have h1 := writes_lang lab x (hr x (by simp)) s h.good
    exact (writesCat_lang lab l (fun t ht => hr t (List.mem_cons_of_mem _ ht)) (h.behind h1)).congr fun t => catL_assoc A (langT lab x) (langCat lab l) t
theorem writesAlt_lang (lab : S4 → Nat → Bool) : ∀ l : List Tree, (∀ t ∈ l, t.right = true) → ∀ {s0 s : St} {p : Part} {A : Lang}, Wrt lab s0 s p A → Wrt lab s0 (writeAlt l p s).2 (writeAlt l p s).1 (fun t => A t ∨ langAlt lab l t)
  | [], _, s0, s, p, A, h => h.congr fun t => by simp [langAlt]
  | x :: l, hr, s0, s, p, A, h => by
    have h1 := writes_lang lab x (hr x (by simp)) s h.good
    exact (writesAlt_lang lab l (fun t ht => hr t (List.mem_cons_of_mem _ ht)) (h.alt h1)).congr fun t => by simp only [langAlt, or_assoc]
theorem writesRep_lang (lab : S4 → Nat → Bool) : ∀ l : List Tree, (∀ t ∈ l, t.right = true) → l.length = 1 → ∀ mn mx : Int, 0 ≤ mn → (mx = -1 ∨ (1 ≤ mx ∧ mn ≤ mx)) → Writes lab (writeRep l mn mx) (langRep lab l mn mx)
  | [], _, h, _, _, _, _ => by simp at h
  | x :: l, hr, _, mn, mx, h0, hx => by
    have h1 := writes_lang lab x (hr x (by simp))
    exact h1.often (fun hc t => lang_zero lab x (hr x (by simp)) (spots_zero (hr x (by simp)) hc) t) h0 hx
end
end Go.Proofs.YtmcoaopcmjociaaDoor
