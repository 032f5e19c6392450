/- How the values of the program lie in memory: trees of patterns, slices of whole numbers; and what stays as it was. No program in sight. -/
import Derived.WalkKit
import Derived.WalkSpells
import Derived.WalkLawsBesides
import Derived.Deep.Draws
import Derived.Deep.LoopGhost
import Derived.Lib.Hide
namespace Go.Proofs.YtmcoaopcmjociaaDoor
open Go Go.RowKit

/-! Short names of three laws on lists, for the printed steps. -/
theorem sA {α : Type} (l : List α) (i : Nat) (a : α) : l.toArray.setIfInBounds i a = (l.set i a).toArray := List.setIfInBounds_toArray l i a
theorem sB {α : Type} (x a : α) (l : List α) : (a :: l).set 0 x = x :: l := rfl
theorem sC {α : Type} (x a : α) (l : List α) (i : Nat) : (a :: l).set (i + 1) x = a :: l.set i x := rfl

/-- A pattern's tree as the program holds it. -/
inductive Tree where
  | node (kind s0 s1 s2 s3 : Int) (kids : List Tree) (mn mx : Int)

namespace Tree
def kind : Tree → Int | .node k _ _ _ _ _ _ _ => k
def s0 : Tree → Int | .node _ s _ _ _ _ _ _ => s
def s1 : Tree → Int | .node _ _ s _ _ _ _ _ => s
def s2 : Tree → Int | .node _ _ _ s _ _ _ _ => s
def s3 : Tree → Int | .node _ _ _ _ s _ _ _ => s
def kids : Tree → List Tree | .node _ _ _ _ _ l _ _ => l
def mn : Tree → Int | .node _ _ _ _ _ _ m _ => m
def mx : Tree → Int | .node _ _ _ _ _ _ _ m => m

mutual
/-- How many nodes. -/
def size : Tree → Nat | .node _ _ _ _ _ l _ _ => 1 + sizes l
def sizes : List Tree → Nat | [] => 0 | t :: l => size t + sizes l
end
theorem size_get (l : List Tree) (i : Nat) (t : Tree) (h : l[i]? = some t) : size t ≤ sizes l := by
  induction l generalizing i with
  | nil => simp at h
  | cons x l ih =>
    cases i with
    | zero => simp at h; subst h; simp [sizes]
    | succ i => simp at h; have := ih i h; simp [sizes]; omega
theorem size_mem {l : List Tree} {t : Tree} (h : t ∈ l) : size t ≤ sizes l := by
  obtain ⟨i, hi⟩ := List.mem_iff_getElem?.1 h; exact size_get l i t hi

/-- The value of a tree whose kids lie at A (capacity c). -/
abbrev val (T : Tree) (A : Option Addr) (c : Nat) : Value :=
  .agg #[.int .i64 T.kind, .int .u64 T.s0, .int .u64 T.s1, .int .u64 T.s2, .int .u64 T.s3, .slice A T.kids.length c, .int .i64 T.mn, .int .i64 T.mx]

/-- May a part come so often? -/
def times (lo hi : Int) : Bool := decide (0 ≤ lo ∧ lo ≤ 16 ∧ (hi = -1 ∨ (1 ≤ hi ∧ lo ≤ hi ∧ hi ≤ 16)))

mutual
/-- May the tree be? -/
def right : Tree → Bool
  | .node k s0 s1 s2 s3 l mn mx =>
    rights k l && (decide (k = 1) || decide (s0 = 0 ∧ s1 = 0 ∧ s2 = 0 ∧ s3 = 0)) && (decide (k = 4) || decide (mn = 0 ∧ mx = 0)) &&
      (decide (k = 1 ∧ l.length = 0) || decide (k = 2 ∧ l.length ≠ 1) || decide (k = 3 ∧ 1 < l.length) || (decide (k = 4 ∧ l.length = 1) && times mn mx))
/-- Are all kids of a node of kind k right? -/
def rights : Int → List Tree → Bool
  | _, [] => true
  | k, t :: l => (right t && (decide (k = 4) || !decide (t.kind = k))) && rights k l
end
theorem rights_split : ∀ (k : Int) (l : List Tree) (j : Nat), rights k l = (rights k (l.take j) && rights k (l.drop j))
  | _, [], j => by simp [rights]
  | k, x :: l, 0 => by simp [rights]
  | k, x :: l, j + 1 => by simp only [List.take_succ_cons, List.drop_succ_cons, rights]; rw [rights_split k l j, Bool.and_assoc, Bool.and_assoc, Bool.and_assoc]
theorem rights_snoc (k : Int) (l : List Tree) (t : Tree) : rights k (l ++ [t]) = (rights k l && (right t && (decide (k = 4) || !decide (t.kind = k)))) := by
  rw [rights_split k (l ++ [t]) l.length]; simp [rights]
theorem rights_not (k : Int) (l : List Tree) (j : Nat) (h : j < l.length) (hb : (right l[j] && (decide (k = 4) || !decide (l[j].kind = k))) = false) : rights k l = false := by
  rw [rights_split k l j, List.drop_eq_getElem_cons h, rights, hb]; simp
theorem rights_get : ∀ (k : Int) (l : List Tree), rights k l = true → ∀ t ∈ l, right t = true
  | _, [], _, t, ht => by simp at ht
  | k, x :: l, h, t, ht => by
    simp only [rights, Bool.and_eq_true] at h
    rcases List.mem_cons.1 ht with rfl | ht
    · exact h.1.1
    · exact rights_get k l h.2 t ht

mutual
/-- How many spots a right tree has, up to 513. -/
def cnt : Tree → Int
  | .node k _ _ _ _ l mn mx => if k = 1 then 1 else if k ≠ 4 then cnts l 0 else if mx = -1 then min (cnts l 0 * (mn + 1)) 513 else min (cnts l 0 * mx) 513
def cnts : List Tree → Int → Int
  | [], a => a
  | t :: l, a => cnts l (min (a + cnt t) 513)
end
theorem times_iff {lo hi : Int} : times lo hi = true ↔ 0 ≤ lo ∧ lo ≤ 16 ∧ (hi = -1 ∨ (1 ≤ hi ∧ lo ≤ hi ∧ hi ≤ 16)) := by simp [times]
theorem right_rep {k s0 s1 s2 s3 : Int} {l : List Tree} {mn mx : Int} (h : right (.node k s0 s1 s2 s3 l mn mx) = true) (hk : k = 4) : l.length = 1 ∧ 0 ≤ mn ∧ mn ≤ 16 ∧ (mx = -1 ∨ (1 ≤ mx ∧ mn ≤ mx ∧ mx ≤ 16)) := by
  subst hk
  simp [right, times] at h
  exact ⟨h.2.1, h.2.2⟩
theorem right_kids {k s0 s1 s2 s3 : Int} {l : List Tree} {mn mx : Int} (h : right (.node k s0 s1 s2 s3 l mn mx) = true) : ∀ t ∈ l, right t = true := by
  simp only [right, Bool.and_eq_true] at h
  exact rights_get k l h.1.1.1
theorem right_kind {k s0 s1 s2 s3 : Int} {l : List Tree} {mn mx : Int} (h : right (.node k s0 s1 s2 s3 l mn mx) = true) : k = 1 ∨ k = 2 ∨ k = 3 ∨ k = 4 := by
  simp [right] at h; omega
theorem right_one {k s0 s1 s2 s3 : Int} {l : List Tree} {mn mx : Int} (h : right (.node k s0 s1 s2 s3 l mn mx) = true) (hk : k = 1) : l = [] := by
  subst hk; simp [right] at h; exact List.length_eq_zero_iff.1 (by simpa using h.2)
mutual
theorem cnt_bd : ∀ T : Tree, right T = true → 0 ≤ cnt T ∧ cnt T ≤ 513
  | .node k s0 s1 s2 s3 l mn mx, h => by
    have hl := cnts_bd l 0 (right_kids h) (by omega) (by omega)
    unfold cnt
    split
    · omega
    · split
      · exact hl
      · have := right_rep h (by omega)
        split
        · have : 0 ≤ cnts l 0 * (mn + 1) := Int.mul_nonneg hl.1 (by omega)
          omega
        · have : 0 ≤ cnts l 0 * mx := Int.mul_nonneg hl.1 (by omega)
          omega
theorem cnts_bd : ∀ (l : List Tree) (a : Int), (∀ t ∈ l, right t = true) → 0 ≤ a → a ≤ 513 → 0 ≤ cnts l a ∧ cnts l a ≤ 513
  | [], a, _, h0, h1 => ⟨h0, h1⟩
  | t :: l, a, h, h0, h1 => by
    have := cnt_bd t (h t (by simp))
    exact cnts_bd l _ (fun x hx => h x (by simp [hx])) (by omega) (by omega)
end
theorem cnts_snoc (l : List Tree) (t : Tree) : ∀ a, cnts (l ++ [t]) a = min (cnts l a + cnt t) 513 := by
  induction l with
  | nil => intro a; rfl
  | cons x l ih => intro a; exact ih _
theorem take_snoc {α : Type} (l : List α) (j : Nat) (h : j < l.length) : l.take (j + 1) = l.take j ++ [l[j]] := List.take_succ_eq_append_getElem h
end Tree

theorem ret_bool {a b : Bool} (h : a = b) : Ending.returned (.bool a) = .returned (.bool b) := by rw [h]
theorem ret_int {k : IntKind} {a b : Int} (h : a = b) : Ending.returned (.int k a) = .returned (.int k b) := by rw [h]

/-! ### Memory -/
theorem cell_keep {w w' : World} (hb : Below w.heap.size w w') {a : Addr} {v : Value} (h : w.cell? a = some v) : w'.cell? a = some v := (hb.cell (World.block_lt_of_cell? w _ h)).trans h
/-- Below a new block (a boxed argument), and on. -/
theorem below_box {w wr : World} {o : Obj} (h : Below (w.heap.size + 1) (w.alloc o) wr) : Below w.heap.size w wr :=
  ((Below.refl _ _).alloc (Nat.le_refl _) o).trans (h.mono (Nat.le_succ _))
/-- From the world at a loop's round through a callee's world. -/
theorem below_on {B : Nat} {w0 wr w1 : World} (h : Below B w0 wr) (hB : B ≤ wr.heap.size) (o : Obj) (k : Below (wr.alloc o).heap.size (wr.alloc o) w1) : Below B w0 w1 := (h.alloc hB o).trans (k.mono (by simp; omega))
theorem below_then {B : Nat} {w0 wr w1 : World} (h : Below B w0 wr) (hB : B ≤ wr.heap.size) (k : Below wr.heap.size wr w1) : Below B w0 w1 := h.trans (k.mono hB)
theorem below_drewN {B : Nat} {w W : World} (h : Below B w W) (n : Nat) : Below B w (W.drewN n) := ⟨h.os, h.tape, h.output, h.size, h.block⟩

/-- At a there lie the eight cells of a tree whose kids lie at A. -/
def NodeAt (w : World) (a : Addr) (T : Tree) (A : Option Addr) (c : Nat) : Prop :=
  w.cell? a = some (.int .i64 T.kind) ∧ w.cell? { block := a.block, off := a.off + 1 } = some (.int .u64 T.s0) ∧ w.cell? { block := a.block, off := a.off + 2 } = some (.int .u64 T.s1) ∧
  w.cell? { block := a.block, off := a.off + 3 } = some (.int .u64 T.s2) ∧ w.cell? { block := a.block, off := a.off + 4 } = some (.int .u64 T.s3) ∧ w.cell? { block := a.block, off := a.off + 5 } = some (.slice A T.kids.length c) ∧
  w.cell? { block := a.block, off := a.off + 6 } = some (.int .i64 T.mn) ∧ w.cell? { block := a.block, off := a.off + 7 } = some (.int .i64 T.mx)
theorem NodeAt.below {w w' : World} (hb : Below w.heap.size w w') {a : Addr} {T : Tree} {A : Option Addr} {c : Nat} (h : NodeAt w a T A c) : NodeAt w' a T A c := by
  obtain ⟨h0, h1, h2, h3, h4, h5, h6, h7⟩ := h
  exact ⟨cell_keep hb h0, cell_keep hb h1, cell_keep hb h2, cell_keep hb h3, cell_keep hb h4, cell_keep hb h5, cell_keep hb h6, cell_keep hb h7⟩

/-- All kids of a tree lie in memory at A, down to depth d. -/
def KidsIn (w : World) : Nat → List Tree → Option Addr → Prop
  | 0, _, _ => False
  | d + 1, l, A => l.length ≤ 17592186044416 ∧ ∀ i t, l[i]? = some t → ∃ ad A' c', A = some ad ∧ NodeAt w (ad.add (i * 8)) t A' c' ∧ KidsIn w d t.kids A'

theorem KidsIn.below {w w' : World} (hb : Below w.heap.size w w') : ∀ {d : Nat} {l : List Tree} {A : Option Addr}, KidsIn w d l A → KidsIn w' d l A
  | 0, _, _, h => h
  | d + 1, l, A, h => ⟨h.1, fun i t ht => by
      obtain ⟨ad, A', c', hA, hc, hk⟩ := h.2 i t ht
      exact ⟨ad, A', c', hA, hc.below hb, KidsIn.below hb hk⟩⟩

/-! ### Arrays of four uint64 -/
theorem part_at {P : Program} (w : World) {e : TypeId} (he : P.underlying e = some (.int .u64)) (cs : Array Value) (i : Nat) (v : Value) (hv : cs[i]? = some v) : (part e cs i).run P w = .ok v w := by
  simp [part, isAgg, run_underlying he, hv]
/-- '==' of two arrays of four uint64. -/
theorem run_equalIn_set {P : Program} (w : World) (d : Nat) {t e : TypeId} {i : TypeInfo} (ht : P.underlying t = some (.array 4 e)) (he : P.underlying e = some (.int .u64)) (hi : P.info? e = some i) (hs : i.size = 1) (a0 a1 a2 a3 b0 b1 b2 b3 : Int) : (Op.equalIn (d + 2) t (.agg #[.int .u64 a0, .int .u64 a1, .int .u64 a2, .int .u64 a3]) (.agg #[.int .u64 b0, .int .u64 b1, .int .u64 b2, .int .u64 b3])).run P w =
    .ok (a0 == b0 && (a1 == b1 && (a2 == b2 && a3 == b3))) w := by
  have hsz : (sizeOf e).run P w = .ok 1 w := by simp [sizeOf, typeInfo, hi, hs]
  have hq := fun (x y : Int) => run_equalIn_int (P := P) w d e .u64 .u64 x y he
  have hp0 := fun (x y z u : Int) => part_at w he #[.int .u64 x, .int .u64 y, .int .u64 z, .int .u64 u] 0 (.int .u64 x) rfl
  have hp1 := fun (x y z u : Int) => part_at w he #[.int .u64 x, .int .u64 y, .int .u64 z, .int .u64 u] 1 (.int .u64 y) rfl
  have hp2 := fun (x y z u : Int) => part_at w he #[.int .u64 x, .int .u64 y, .int .u64 z, .int .u64 u] 2 (.int .u64 z) rfl
  have hp3 := fun (x y z u : Int) => part_at w he #[.int .u64 x, .int .u64 y, .int .u64 z, .int .u64 u] 3 (.int .u64 u) rfl
  rw [Op.equalIn]
  simp only [Sem.run_bind, run_underlying ht, Result.andThen_ok, hsz]
  simp only [Std.Legacy.Range.forIn_eq_forIn_range', Std.Legacy.Range.size, Nat.sub_zero, Nat.add_sub_cancel, Nat.div_one, List.range', List.forIn_cons, List.forIn_nil, Nat.zero_mul, Nat.one_mul, Nat.mul_one, Nat.zero_add, Nat.reduceAdd]
  simp only [Sem.run_bind, hp0, hp1, hp2, hp3, Result.andThen_ok, hq]
  cases h0 : (a0 == b0) <;> cases h1 : (a1 == b1) <;> cases h2 : (a2 == b2) <;> cases h3 : (a3 == b3) <;> simp only [hp0, hp1, hp2, hp3, hq, h0, h1, h2, h3, Bool.not_true, Bool.not_false, Bool.false_eq_true, if_true, if_false, Sem.run_pure, Sem.run_bind, Result.andThen_ok, Bool.and_true, Bool.and_false, Bool.true_and, Bool.false_and]
theorem run_eql_set {P : Program} (w : World) {t e : TypeId} {i : TypeInfo} (ht : P.underlying t = some (.array 4 e)) (he : P.underlying e = some (.int .u64)) (hi : P.info? e = some i) (hs : i.size = 1) (a0 a1 a2 a3 b0 b1 b2 b3 : Int) : (binOp .eql t (.agg #[.int .u64 a0, .int .u64 a1, .int .u64 a2, .int .u64 a3]) (.agg #[.int .u64 b0, .int .u64 b1, .int .u64 b2, .int .u64 b3])).run P w =
    .ok (.bool (a0 == b0 && (a1 == b1 && (a2 == b2 && a3 == b3)))) w := by
  rw [run_eql_struct, run_equalIn_set w 9998 ht he hi hs]; rfl
theorem run_neq_set {P : Program} (w : World) {t e : TypeId} {i : TypeInfo} (ht : P.underlying t = some (.array 4 e)) (he : P.underlying e = some (.int .u64)) (hi : P.info? e = some i) (hs : i.size = 1) (a0 a1 a2 a3 b0 b1 b2 b3 : Int) : (binOp .neq t (.agg #[.int .u64 a0, .int .u64 a1, .int .u64 a2, .int .u64 a3]) (.agg #[.int .u64 b0, .int .u64 b1, .int .u64 b2, .int .u64 b3])).run P w =
    .ok (.bool (!(a0 == b0 && (a1 == b1 && (a2 == b2 && a3 == b3))))) w := by
  rw [run_neq_struct, run_equalIn_set w 9998 ht he hi hs]; rfl

end Go.Proofs.YtmcoaopcmjociaaDoor
