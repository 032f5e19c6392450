/- A region of open order by one relation over what is listed: the acts. The reference's write of a One: the relation of its drawn region. The reference's write of a One. -/
import Derived.Test.YtmcoaopcmjociaaDoorZo17
import Derived.Test.YtmcoaopcmjociaaDoorWInv
import Derived.Test.YtmcoaopcmjociaaDoorWInvWords
namespace Go.Proofs.YtmcoaopcmjociaaDoor
open Go Go.RowKit Go.Sort Go.Proofs.YtmcoaopcmjociaaDoorW.PrintLast

/-- The slots of operations, filled by V. -/
def LV (O : List (Nat × Tmp)) (V : Nat → Value) : List (Nat × Tmp × Value) := O.map fun e => (e.1, e.2, V e.1)
def upV (V : Nat → Value) (i : Nat) (v : Value) : Nat → Value := fun j => if j = i then v else V j
theorem upV_self (V : Nat → Value) (i : Nat) (v : Value) : upV V i v i = v := by simp [upV]
theorem upV_ne {V : Nat → Value} {i j : Nat} {v : Value} (h : j ≠ i) : upV V i v j = V j := by simp [upV, h]
theorem put_comm {a : Act} {t u : Tmp} {x y : Value} (h : t ≠ u) : (a.put (some t) x).put (some u) y = (a.put (some u) y).put (some t) x := by
  simp only [Act.put]
  rw [Array.setIfInBounds_comm _ _ h]
theorem putSel_put {b : Nat → Bool} {t : Tmp} {v : Value} : ∀ {L : List (Nat × Tmp × Value)} {a : Act}, (∀ e ∈ L, e.2.1 ≠ t) → putSel (a.put (some t) v) b L = (putSel a b L).put (some t) v
  | [], _, _ => rfl
  | e :: r, a, h => by
    unfold putSel
    by_cases hb : b e.1 = true
    · rw [if_pos hb, if_pos hb, put_comm (Ne.symm (h e (by simp)))]
      exact putSel_put fun x hx => h x (List.mem_cons_of_mem _ hx)
    · rw [if_neg hb, if_neg hb]
      exact putSel_put fun x hx => h x (List.mem_cons_of_mem _ hx)
theorem putSel_same {b : Nat → Bool} {i : Nat} {v : Value} {V : Nat → Value} : ∀ {O : List (Nat × Tmp)} {a : Act}, (∀ e ∈ O, e.1 ≠ i) → putSel a (up b i) (LV O (upV V i v)) = putSel a b (LV O V)
  | [], _, _ => rfl
  | e :: r, a, h => by
    have h1 := h e (by simp)
    show putSel (if up b i e.1 = true then a.put (some e.2) (upV V i v e.1) else a) (up b i) (LV r (upV V i v)) = putSel (if b e.1 = true then a.put (some e.2) (V e.1) else a) b (LV r V)
    rw [up_ne h1, upV_ne h1]
    exact putSel_same fun x hx => h x (List.mem_cons_of_mem _ hx)
theorem putSel_up {b : Nat → Bool} {i : Nat} {t : Tmp} {v : Value} {V : Nat → Value} : ∀ {O : List (Nat × Tmp)} {a : Act}, (O.map Prod.fst).Nodup → (O.map Prod.snd).Nodup → (i, t) ∈ O → b i = false →
    putSel a (up b i) (LV O (upV V i v)) = (putSel a b (LV O V)).put (some t) v
  | [], _, _, _, h, _ => by cases h
  | e :: r, a, h1, h2, hm, hb => by
    rw [List.map_cons, List.nodup_cons] at h1 h2
    show putSel (if up b i e.1 = true then a.put (some e.2) (upV V i v e.1) else a) (up b i) (LV r (upV V i v)) = (putSel (if b e.1 = true then a.put (some e.2) (V e.1) else a) b (LV r V)).put (some t) v
    rcases List.mem_cons.1 hm with rfl | hm
    · rw [up_self, upV_self, if_pos rfl, hb, if_neg (by simp), putSel_same (fun x hx hxi => h1.1 (List.mem_map.2 ⟨x, hx, hxi⟩))]
      refine putSel_put fun x hx => ?_
      obtain ⟨y, hy, rfl⟩ := List.mem_map.1 hx
      exact fun hyt => h2.1 (List.mem_map.2 ⟨y, hy, hyt⟩)
    · have hne : e.1 ≠ i := by rintro rfl; exact h1.1 (List.mem_map.2 ⟨(e.1, t), hm, rfl⟩)
      rw [up_ne hne, upV_ne hne]
      exact putSel_up h1.2 h2.2 hm hb
end Go.Proofs.YtmcoaopcmjociaaDoor

namespace Go.Proofs.YtmcoaopcmjociaaDoor
open Go Go.RowKit Go.Sort Go.Proofs.YtmcoaopcmjociaaDoorW.PrintLast

/-- What is known of the world, by what is listed: n0: the blocks that were there at the call; r: the result's box. -/
structure J1 (w0 : World) (n0 r : Nat) (c0 c1 : Array Value) (x : S4) (s : St) (b : Nat → Bool) (V : Nat → Value) (w : World) : Prop where
  below : Below n0 w0 w
  rlt : r < w.heap.size
  n0le : n0 ≤ w.heap.size
  nb : w.heap[n0]? = some (.cells c0 27 (0, 0))
  wb : w.heap[n0 + 1]? = some (.cells c1 56 (0, 0))
  res0 : b 19 = false → w.heap[r]? = some (.cells #[.slice none 0 0, .slice none 0 0, .slice none 0 0, .slice none 0 0, .bool false] 56 (0, 0))
  res1 : b 19 = true → w.heap[r]? = some (.cells #[V 7, V 13, V 15, V 17, .bool false] 56 (0, 0))
  r0 : b 0 = true → b 3 = false → w.ownsRow n0 24 4 (V 0) 0 []
  r3 : b 3 = true → b 7 = false → w.ownsRow n0 24 4 (V 3) s.sets.length (cells4 s.sets)
  r6 : b 6 = true → b 7 = false → ∃ k, V 6 = .slice (some ⟨k, 0, none⟩) 1 1 ∧ n0 ≤ k ∧ w.heap[k]? = some (.cells #[.int .u64 x.1, .int .u64 x.2.1, .int .u64 x.2.2.1, .int .u64 x.2.2.2] 24 (0, 0)) ∧
    (b 0 = true → b 3 = false → (V 0).ownBlock ≠ some k) ∧ (b 3 = true → (V 3).ownBlock ≠ some k)
  r7 : b 7 = true → w.ownsRow n0 24 4 (V 7) (s.sets.length + 1) (cells4 (s.sets ++ [x]))
  r8 : b 8 = true → b 11 = false → w.ownsRow n0 32 1 (V 8) 0 []
  r11 : b 11 = true → b 13 = false → NXR n0 w (V 11) s.next
  r12 : b 12 = true → b 13 = false → ∃ k, V 12 = .slice (some ⟨k, 0, none⟩) 1 1 ∧ n0 ≤ k ∧ w.heap[k]? = some (.cells #[.slice none 0 0] 32 (0, 0)) ∧
    (b 8 = true → b 11 = false → (V 8).ownBlock ≠ some k) ∧ (b 11 = true → (V 11).ownBlock ≠ some k)
  r13 : b 13 = true → NXR n0 w (V 13) (s.next ++ [[]])
  r15 : b 15 = true → IRT w (V 15) [(s.sets.length : Int)]
  r17 : b 17 = true → IRT w (V 17) [(s.sets.length : Int)]

variable {w0 : World} {n0 r : Nat} {c0 c1 : Array Value} {x : S4} {s : St} {b : Nat → Bool} {V : Nat → Value} {w : World}
/-- New memory alone changes nothing of it. -/
theorem J1.alloc (h : J1 w0 n0 r c0 c1 x s b V w) (o : Obj) : J1 w0 n0 r c0 c1 x s b V (w.alloc o) := by
  have hb : Below w.heap.size w (w.alloc o) := (Below.refl _ _).alloc (Nat.le_refl _) o
  have hk : ∀ {B n sz : Nat} {e : TypeId} {v : Value} {xs : List Value}, w.ownsRow B e sz v n xs → (w.alloc o).ownsRow B e sz v n xs := fun h => own_keep h fun k hk _ => hb.block k hk.lt
  exact ⟨h.below.alloc h.n0le o, Nat.lt_of_lt_of_le h.rlt hb.size, Nat.le_trans h.n0le hb.size, heap_a1 h.nb, heap_a1 h.wb, fun a => heap_a1 (h.res0 a), fun a => heap_a1 (h.res1 a), fun a c => hk (h.r0 a c), fun a c => hk (h.r3 a c),
    fun a c => by obtain ⟨k, h1, h2, h3, h4⟩ := h.r6 a c; exact ⟨k, h1, h2, heap_a1 h3, h4⟩, fun a => hk (h.r7 a), fun a c => hk (h.r8 a c), fun a c => (h.r11 a c).below hb,
    fun a c => by obtain ⟨k, h1, h2, h3, h4⟩ := h.r12 a c; exact ⟨k, h1, h2, heap_a1 h3, h4⟩, fun a => (h.r13 a).below hb, fun a => IRT.below (h.r15 a) hb, fun a => IRT.below (h.r17 a) hb⟩
/-- A row's own block is older than the next one. -/
theorem own_lt {w : World} {base n : Nat} {e : TypeId} {size : Nat} {v : Value} {xs : List Value} (h : w.ownsRow base e size v n xs) : ∀ k, v.ownBlock = some k → k < w.heap.size := fun k hk => (own_ty h k hk).1.lt
/-- Step 0: an empty row of sets. -/
theorem J1.s0 (h : J1 w0 n0 r c0 c1 x s b V w) (h0 : b 0 = false) : J1 w0 n0 r c0 c1 x s (up b 0) (upV V 0 (.slice (some ⟨w.heap.size, 0, none⟩) 0 0)) (w.alloc (.cells #[] 24)) := by
  have g := h.alloc (.cells #[] 24)
  have hn : (w.alloc (.cells #[] 24)).ownsRow n0 24 4 (.slice (some ⟨w.heap.size, 0, none⟩) 0 0) 0 [] :=
    ⟨by simp, .inr ⟨w.heap.size, 0, #[], rfl, h.n0le, heap_a0 _ _, by simp, by simp, by simp, by simp⟩⟩
  refine ⟨g.below, g.rlt, g.n0le, g.nb, g.wb, ?_, ?_, ?_, ?_, ?_, ?_, ?_, ?_, ?_, ?_, ?_, ?_⟩
  · simpa [up, upV] using g.res0
  · simpa [up, upV] using g.res1
  · intro _ _; simpa [upV] using hn
  · simpa [up, upV] using g.r3
  · intro a c
    have a' : b 6 = true := by simpa [up] using a
    have c' : b 7 = false := by simpa [up] using c
    obtain ⟨k, h1, h2, h3, h4, h5⟩ := g.r6 a' c'
    obtain ⟨k', h1', _, h3', _⟩ := h.r6 a' c'
    have hkk : k = k' := by rw [h1] at h1'; simpa using h1'
    have hlt : k < w.heap.size := by rw [hkk]; exact (Array.getElem?_eq_some_iff.1 h3').1
    refine ⟨k, by simpa [upV] using h1, h2, h3, fun _ _ => ?_, by simpa [up, upV] using h5⟩
    simp [upV, Value.ownBlock]; omega
  · simpa [up, upV] using g.r7
  · simpa [up, upV] using g.r8
  · simpa [up, upV] using g.r11
  · simpa [up, upV] using g.r12
  · simpa [up, upV] using g.r13
  · simpa [up, upV] using g.r15
  · simpa [up, upV] using g.r17

theorem J1.s6 (h : J1 w0 n0 r c0 c1 x s b V w) (h0 : b 6 = false) : J1 w0 n0 r c0 c1 x s (up b 6) (upV V 6 (.slice (some ⟨w.heap.size, 0, none⟩) 1 1)) (w.alloc (.cells #[.int .u64 x.1, .int .u64 x.2.1, .int .u64 x.2.2.1, .int .u64 x.2.2.2] 24)) := by
  have g := h.alloc (.cells #[.int .u64 x.1, .int .u64 x.2.1, .int .u64 x.2.2.1, .int .u64 x.2.2.2] 24)
  refine ⟨g.below, g.rlt, g.n0le, g.nb, g.wb, ?_, ?_, ?_, ?_, ?_, ?_, ?_, ?_, ?_, ?_, ?_, ?_⟩
  · simpa [up, upV] using g.res0
  · simpa [up, upV] using g.res1
  · simpa [up, upV] using g.r0
  · simpa [up, upV] using g.r3
  · intro _ c
    have c' : b 7 = false := by simpa [up] using c
    refine ⟨w.heap.size, by simp [upV], h.n0le, heap_a0 _ _, fun a d => ?_, fun a => ?_⟩
    · have a' : b 0 = true := by simpa [up] using a
      have d' : b 3 = false := by simpa [up] using d
      intro hk
      have := own_lt (h.r0 a' d') w.heap.size (by simpa [upV] using hk)
      omega
    · have a' : b 3 = true := by simpa [up] using a
      intro hk
      have := own_lt (h.r3 a' c') w.heap.size (by simpa [upV] using hk)
      omega
  · simpa [up, upV] using g.r7
  · simpa [up, upV] using g.r8
  · simpa [up, upV] using g.r11
  · simpa [up, upV] using g.r12
  · simpa [up, upV] using g.r13
  · simpa [up, upV] using g.r15
  · simpa [up, upV] using g.r17
theorem J1.s8 (h : J1 w0 n0 r c0 c1 x s b V w) (h0 : b 8 = false) : J1 w0 n0 r c0 c1 x s (up b 8) (upV V 8 (.slice (some ⟨w.heap.size, 0, none⟩) 0 0)) (w.alloc (.cells #[] 32)) := by
  have g := h.alloc (.cells #[] 32)
  refine ⟨g.below, g.rlt, g.n0le, g.nb, g.wb, ?_, ?_, ?_, ?_, ?_, ?_, ?_, ?_, ?_, ?_, ?_, ?_⟩
  · simpa [up, upV] using g.res0
  · simpa [up, upV] using g.res1
  · simpa [up, upV] using g.r0
  · simpa [up, upV] using g.r3
  · simpa [up, upV] using g.r6
  · simpa [up, upV] using g.r7
  · intro _ _
    have hn : (w.alloc (.cells #[] 32)).ownsRow n0 32 1 (.slice (some ⟨w.heap.size, 0, none⟩) 0 0) 0 [] :=
      ⟨by simp, .inr ⟨w.heap.size, 0, #[], rfl, h.n0le, heap_a0 _ _, by simp, by simp, by simp, by simp⟩⟩
    simpa [upV] using hn
  · simpa [up, upV] using g.r11
  · intro a c
    have a' : b 12 = true := by simpa [up] using a
    have c' : b 13 = false := by simpa [up] using c
    obtain ⟨k, h1, h2, h3, h4, h5⟩ := g.r12 a' c'
    obtain ⟨k', h1', _, h3', _⟩ := h.r12 a' c'
    have hkk : k = k' := by rw [h1] at h1'; simpa using h1'
    have hlt : k < w.heap.size := by rw [hkk]; exact (Array.getElem?_eq_some_iff.1 h3').1
    refine ⟨k, by simpa [upV] using h1, h2, h3, fun _ _ => ?_, by simpa [up, upV] using h5⟩
    simp [upV, Value.ownBlock]; omega
  · simpa [up, upV] using g.r13
  · simpa [up, upV] using g.r15
  · simpa [up, upV] using g.r17
theorem J1.s12 (h : J1 w0 n0 r c0 c1 x s b V w) (h0 : b 12 = false) : J1 w0 n0 r c0 c1 x s (up b 12) (upV V 12 (.slice (some ⟨w.heap.size, 0, none⟩) 1 1)) (w.alloc (.cells #[.slice none 0 0] 32)) := by
  have g := h.alloc (.cells #[.slice none 0 0] 32)
  refine ⟨g.below, g.rlt, g.n0le, g.nb, g.wb, ?_, ?_, ?_, ?_, ?_, ?_, ?_, ?_, ?_, ?_, ?_, ?_⟩
  · simpa [up, upV] using g.res0
  · simpa [up, upV] using g.res1
  · simpa [up, upV] using g.r0
  · simpa [up, upV] using g.r3
  · simpa [up, upV] using g.r6
  · simpa [up, upV] using g.r7
  · simpa [up, upV] using g.r8
  · simpa [up, upV] using g.r11
  · intro _ c
    have c' : b 13 = false := by simpa [up] using c
    refine ⟨w.heap.size, by simp [upV], h.n0le, heap_a0 _ _, fun a d => ?_, fun a => ?_⟩
    · have a' : b 8 = true := by simpa [up] using a
      have d' : b 11 = false := by simpa [up] using d
      intro hk
      have := own_lt (h.r8 a' d') w.heap.size (by simpa [upV] using hk)
      omega
    · have a' : b 11 = true := by simpa [up] using a
      intro hk
      obtain ⟨vs, ho, _⟩ := h.r11 a' c'
      have := own_lt ho w.heap.size (by simpa [upV] using hk)
      omega
  · simpa [up, upV] using g.r13
  · simpa [up, upV] using g.r15
  · simpa [up, upV] using g.r17
theorem J1.s15 (h : J1 w0 n0 r c0 c1 x s b V w) (h0 : b 15 = false) (h19 : b 19 = false) : J1 w0 n0 r c0 c1 x s (up b 15) (upV V 15 (.slice (some ⟨w.heap.size, 0, none⟩) 1 1)) (w.alloc (.cells #[.int .i64 s.sets.length] 3)) := by
  have g := h.alloc (.cells #[.int .i64 s.sets.length] 3)
  refine ⟨g.below, g.rlt, g.n0le, g.nb, g.wb, ?_, ?_, ?_, ?_, ?_, ?_, ?_, ?_, ?_, ?_, ?_, ?_⟩
  · simpa [up, upV] using g.res0
  · intro a; simp only [up, show ¬ (19 : Nat) = 15 by decide, if_false] at a; rw [h19] at a; cases a
  · simpa [up, upV] using g.r0
  · simpa [up, upV] using g.r3
  · simpa [up, upV] using g.r6
  · simpa [up, upV] using g.r7
  · simpa [up, upV] using g.r8
  · simpa [up, upV] using g.r11
  · simpa [up, upV] using g.r12
  · simpa [up, upV] using g.r13
  · intro _
    have hn : IRT (w.alloc (.cells #[.int .i64 s.sets.length] 3)) (.slice (some ⟨w.heap.size, 0, none⟩) 1 1) [(s.sets.length : Int)] := IRT.one (heap_a0 _ _)
    simpa [upV] using hn
  · simpa [up, upV] using g.r17
theorem J1.s17 (h : J1 w0 n0 r c0 c1 x s b V w) (h0 : b 17 = false) (h19 : b 19 = false) : J1 w0 n0 r c0 c1 x s (up b 17) (upV V 17 (.slice (some ⟨w.heap.size, 0, none⟩) 1 1)) (w.alloc (.cells #[.int .i64 s.sets.length] 3)) := by
  have g := h.alloc (.cells #[.int .i64 s.sets.length] 3)
  refine ⟨g.below, g.rlt, g.n0le, g.nb, g.wb, ?_, ?_, ?_, ?_, ?_, ?_, ?_, ?_, ?_, ?_, ?_, ?_⟩
  · simpa [up, upV] using g.res0
  · intro a; simp only [up, show ¬ (19 : Nat) = 17 by decide, if_false] at a; rw [h19] at a; cases a
  · simpa [up, upV] using g.r0
  · simpa [up, upV] using g.r3
  · simpa [up, upV] using g.r6
  · simpa [up, upV] using g.r7
  · simpa [up, upV] using g.r8
  · simpa [up, upV] using g.r11
  · simpa [up, upV] using g.r12
  · simpa [up, upV] using g.r13
  · simpa [up, upV] using g.r15
  · intro _
    have hn : IRT (w.alloc (.cells #[.int .i64 s.sets.length] 3)) (.slice (some ⟨w.heap.size, 0, none⟩) 1 1) [(s.sets.length : Int)] := IRT.one (heap_a0 _ _)
    simpa [upV] using hn

theorem NXR.move {B : Nat} {w w' : World} {v : Value} {nx : List (List Int)} (h : NXR B w v nx) (hs : w.heap.size ≤ w'.heap.size) (hk : ∀ t k, Ty w t k → t = 32 ∨ t = 3 → w'.heap[k]? = w.heap[k]?) : NXR B w' v nx := by
  obtain ⟨vs, h1, h2⟩ := h
  exact ⟨vs, own_keep h1 fun k h _ => hk _ k h (.inl rfl), fun i v xs a b => IRT.keep (h2 i v xs a b) ⟨hs, fun k h => hk _ k h (.inr rfl)⟩⟩
theorem J1.s3 (h : J1 w0 n0 r c0 c1 x s b V w) (h30 : b 3 = false) (h7 : b 7 = false) (hsrc : b 0 = true) {v : Value} {w' : World} (ho : w'.ownsRow n0 24 4 v s.sets.length (cells4 s.sets)) (hg : w.grownBy w' (V 0).ownBlock) (hat : ∀ k, v.ownBlock = some k → (V 0).ownBlock = some k ∨ k = w.heap.size) : J1 w0 n0 r c0 c1 x s (up b 3) (upV V 3 v) w' := by
  have hrow := own_ty (h.r0 hsrc h30)
  have hoth : ∀ t k, Ty w t k → t ≠ 24 → w'.heap[k]? = w.heap[k]? := fun t k hk ht => grown_ty hg (fun k hk => (hrow k hk).1) hk ht
  refine ⟨h.below.grown hg h.n0le (fun k hk => (hrow k hk).2), Nat.lt_of_lt_of_le h.rlt hg.size, Nat.le_trans h.n0le hg.size, (hoth _ _ ⟨_, _, h.nb⟩ (by decide)).trans h.nb, (hoth _ _ ⟨_, _, h.wb⟩ (by decide)).trans h.wb, ?_, ?_, ?_, ?_, ?_, ?_, ?_, ?_, ?_, ?_, ?_, ?_⟩
  · intro a; have a' : b 19 = false := by simpa [up] using a
    exact (hoth _ r ⟨_, _, h.res0 a'⟩ (by decide)).trans (h.res0 a')
  · intro a; have a' : b 19 = true := by simpa [up] using a
    simpa [upV] using (hoth _ r ⟨_, _, h.res1 a'⟩ (by decide)).trans (h.res1 a')
  · intro a c; simp [up] at c
  · intro _ _; simpa [upV] using ho
  · intro a c; have a' : b 6 = true := by simpa [up] using a
    have c' : b 7 = false := by simpa [up] using c
    obtain ⟨k, h1, h2, h3, h4, h5⟩ := h.r6 a' c'
    have hlt := (Array.getElem?_eq_some_iff.1 h3).1
    refine ⟨k, by simpa [upV] using h1, h2, (hg.block k hlt (fun e => h4 hsrc h30 e.symm)).trans h3, fun _ d => by simp [up] at d, fun _ hk => ?_⟩
    rcases hat k (by simpa [upV] using hk) with e | e
    · exact h4 hsrc h30 e
    · omega
  · intro a; simp only [up, show ¬ (7 : Nat) = 3 by decide, if_false] at a; rw [h7] at a; cases a
  · intro a c; have a' : b 8 = true := by simpa [up] using a
    have c' : b 11 = false := by simpa [up] using c
    simpa [upV] using own_keep (h.r8 a' c') fun k hk _ => hoth _ k hk (by decide)
  · intro a c; have a' : b 11 = true := by simpa [up] using a
    have c' : b 13 = false := by simpa [up] using c
    simpa [upV] using (h.r11 a' c').move hg.size fun t k hk ht => hoth t k hk (by rcases ht with rfl | rfl <;> decide)
  · intro a c; have a' : b 12 = true := by simpa [up] using a
    have c' : b 13 = false := by simpa [up] using c
    obtain ⟨k, h1, h2, h3, h4⟩ := h.r12 a' c'
    exact ⟨k, by simpa [upV] using h1, h2, (hoth _ k ⟨_, _, h3⟩ (by decide)).trans h3, by simpa [up, upV] using h4⟩
  · intro a; have a' : b 13 = true := by simpa [up] using a
    simpa [upV] using (h.r13 a').move hg.size fun t k hk ht => hoth t k hk (by rcases ht with rfl | rfl <;> decide)
  · intro a; have a' : b 15 = true := by simpa [up] using a
    simpa [upV] using IRT.keep (h.r15 a') ⟨hg.size, fun k hk => hoth _ k hk (by decide)⟩
  · intro a; have a' : b 17 = true := by simpa [up] using a
    simpa [upV] using IRT.keep (h.r17 a') ⟨hg.size, fun k hk => hoth _ k hk (by decide)⟩
theorem J1.s7 (h : J1 w0 n0 r c0 c1 x s b V w) (h70 : b 7 = false) (hsrc : b 3 = true) (h19 : b 19 = false) {v : Value} {w' : World} (ho : w'.ownsRow n0 24 4 v (s.sets.length + 1) (cells4 (s.sets ++ [x]))) (hg : w.grownBy w' (V 3).ownBlock) : J1 w0 n0 r c0 c1 x s (up b 7) (upV V 7 v) w' := by
  have hrow := own_ty (h.r3 hsrc h70)
  have hoth : ∀ t k, Ty w t k → t ≠ 24 → w'.heap[k]? = w.heap[k]? := fun t k hk ht => grown_ty hg (fun k hk => (hrow k hk).1) hk ht
  refine ⟨h.below.grown hg h.n0le (fun k hk => (hrow k hk).2), Nat.lt_of_lt_of_le h.rlt hg.size, Nat.le_trans h.n0le hg.size, (hoth _ _ ⟨_, _, h.nb⟩ (by decide)).trans h.nb, (hoth _ _ ⟨_, _, h.wb⟩ (by decide)).trans h.wb, ?_, ?_, ?_, ?_, ?_, ?_, ?_, ?_, ?_, ?_, ?_, ?_⟩
  · intro a; have a' : b 19 = false := by simpa [up] using a
    exact (hoth _ r ⟨_, _, h.res0 a'⟩ (by decide)).trans (h.res0 a')
  · intro a; simp only [up, show ¬ (19 : Nat) = 7 by decide, if_false] at a; rw [h19] at a; cases a
  · intro a c; simp only [up, show ¬ (3 : Nat) = 7 by decide, if_false] at c; rw [hsrc] at c; cases c
  · intro a c; simp [up] at c
  · intro a c; simp [up] at c
  · intro _; simpa [upV] using ho
  · intro a c; have a' : b 8 = true := by simpa [up] using a
    have c' : b 11 = false := by simpa [up] using c
    simpa [upV] using own_keep (h.r8 a' c') fun k hk _ => hoth _ k hk (by decide)
  · intro a c; have a' : b 11 = true := by simpa [up] using a
    have c' : b 13 = false := by simpa [up] using c
    simpa [upV] using (h.r11 a' c').move hg.size fun t k hk ht => hoth t k hk (by rcases ht with rfl | rfl <;> decide)
  · intro a c; have a' : b 12 = true := by simpa [up] using a
    have c' : b 13 = false := by simpa [up] using c
    obtain ⟨k, h1, h2, h3, h4⟩ := h.r12 a' c'
    exact ⟨k, by simpa [upV] using h1, h2, (hoth _ k ⟨_, _, h3⟩ (by decide)).trans h3, by simpa [up, upV] using h4⟩
  · intro a; have a' : b 13 = true := by simpa [up] using a
    simpa [upV] using (h.r13 a').move hg.size fun t k hk ht => hoth t k hk (by rcases ht with rfl | rfl <;> decide)
  · intro a; have a' : b 15 = true := by simpa [up] using a
    simpa [upV] using IRT.keep (h.r15 a') ⟨hg.size, fun k hk => hoth _ k hk (by decide)⟩
  · intro a; have a' : b 17 = true := by simpa [up] using a
    simpa [upV] using IRT.keep (h.r17 a') ⟨hg.size, fun k hk => hoth _ k hk (by decide)⟩
theorem J1.s11 (h : J1 w0 n0 r c0 c1 x s b V w) (h110 : b 11 = false) (h13 : b 13 = false) (hsrc : b 8 = true) {v : Value} {w' : World} (ho : NXR n0 w' v s.next) (hg : w.grownBy w' (V 8).ownBlock) (hat : ∀ k, v.ownBlock = some k → (V 8).ownBlock = some k ∨ k = w.heap.size) : J1 w0 n0 r c0 c1 x s (up b 11) (upV V 11 v) w' := by
  have hrow := own_ty (h.r8 hsrc h110)
  have hoth : ∀ t k, Ty w t k → t ≠ 32 → w'.heap[k]? = w.heap[k]? := fun t k hk ht => grown_ty hg (fun k hk => (hrow k hk).1) hk ht
  refine ⟨h.below.grown hg h.n0le (fun k hk => (hrow k hk).2), Nat.lt_of_lt_of_le h.rlt hg.size, Nat.le_trans h.n0le hg.size, (hoth _ _ ⟨_, _, h.nb⟩ (by decide)).trans h.nb, (hoth _ _ ⟨_, _, h.wb⟩ (by decide)).trans h.wb, ?_, ?_, ?_, ?_, ?_, ?_, ?_, ?_, ?_, ?_, ?_, ?_⟩
  · intro a; have a' : b 19 = false := by simpa [up] using a
    exact (hoth _ r ⟨_, _, h.res0 a'⟩ (by decide)).trans (h.res0 a')
  · intro a; have a' : b 19 = true := by simpa [up] using a
    simpa [upV] using (hoth _ r ⟨_, _, h.res1 a'⟩ (by decide)).trans (h.res1 a')
  · intro a c; have a' : b 0 = true := by simpa [up] using a
    have c' : b 3 = false := by simpa [up] using c
    simpa [upV] using own_keep (h.r0 a' c') fun k hk _ => hoth _ k hk (by decide)
  · intro a c; have a' : b 3 = true := by simpa [up] using a
    have c' : b 7 = false := by simpa [up] using c
    simpa [upV] using own_keep (h.r3 a' c') fun k hk _ => hoth _ k hk (by decide)
  · intro a c; have a' : b 6 = true := by simpa [up] using a
    have c' : b 7 = false := by simpa [up] using c
    obtain ⟨k, h1, h2, h3, h4⟩ := h.r6 a' c'
    exact ⟨k, by simpa [upV] using h1, h2, (hoth _ k ⟨_, _, h3⟩ (by decide)).trans h3, by simpa [up, upV] using h4⟩
  · intro a; have a' : b 7 = true := by simpa [up] using a
    simpa [upV] using own_keep (h.r7 a') fun k hk _ => hoth _ k hk (by decide)
  · intro a c; simp [up] at c
  · intro _ _; simpa [upV] using ho
  · intro a c; have a' : b 12 = true := by simpa [up] using a
    have c' : b 13 = false := by simpa [up] using c
    obtain ⟨k, h1, h2, h3, h4, h5⟩ := h.r12 a' c'
    have hlt := (Array.getElem?_eq_some_iff.1 h3).1
    refine ⟨k, by simpa [upV] using h1, h2, (hg.block k hlt (fun e => h4 hsrc h110 e.symm)).trans h3, fun _ d => by simp [up] at d, fun _ hk => ?_⟩
    rcases hat k (by simpa [upV] using hk) with e | e
    · exact h4 hsrc h110 e
    · omega
  · intro a; simp only [up, show ¬ (13 : Nat) = 11 by decide, if_false] at a; rw [h13] at a; cases a
  · intro a; have a' : b 15 = true := by simpa [up] using a
    simpa [upV] using IRT.keep (h.r15 a') ⟨hg.size, fun k hk => hoth _ k hk (by decide)⟩
  · intro a; have a' : b 17 = true := by simpa [up] using a
    simpa [upV] using IRT.keep (h.r17 a') ⟨hg.size, fun k hk => hoth _ k hk (by decide)⟩
theorem J1.s13 (h : J1 w0 n0 r c0 c1 x s b V w) (h130 : b 13 = false) (hsrc : b 11 = true) (h19 : b 19 = false) {v : Value} {w' : World} (ho : NXR n0 w' v (s.next ++ [[]])) (hg : w.grownBy w' (V 11).ownBlock) : J1 w0 n0 r c0 c1 x s (up b 13) (upV V 13 v) w' := by
  have hrow := own_ty (h.r11 hsrc h130).choose_spec.1
  have hoth : ∀ t k, Ty w t k → t ≠ 32 → w'.heap[k]? = w.heap[k]? := fun t k hk ht => grown_ty hg (fun k hk => (hrow k hk).1) hk ht
  refine ⟨h.below.grown hg h.n0le (fun k hk => (hrow k hk).2), Nat.lt_of_lt_of_le h.rlt hg.size, Nat.le_trans h.n0le hg.size, (hoth _ _ ⟨_, _, h.nb⟩ (by decide)).trans h.nb, (hoth _ _ ⟨_, _, h.wb⟩ (by decide)).trans h.wb, ?_, ?_, ?_, ?_, ?_, ?_, ?_, ?_, ?_, ?_, ?_, ?_⟩
  · intro a; have a' : b 19 = false := by simpa [up] using a
    exact (hoth _ r ⟨_, _, h.res0 a'⟩ (by decide)).trans (h.res0 a')
  · intro a; simp only [up, show ¬ (19 : Nat) = 13 by decide, if_false] at a; rw [h19] at a; cases a
  · intro a c; have a' : b 0 = true := by simpa [up] using a
    have c' : b 3 = false := by simpa [up] using c
    simpa [upV] using own_keep (h.r0 a' c') fun k hk _ => hoth _ k hk (by decide)
  · intro a c; have a' : b 3 = true := by simpa [up] using a
    have c' : b 7 = false := by simpa [up] using c
    simpa [upV] using own_keep (h.r3 a' c') fun k hk _ => hoth _ k hk (by decide)
  · intro a c; have a' : b 6 = true := by simpa [up] using a
    have c' : b 7 = false := by simpa [up] using c
    obtain ⟨k, h1, h2, h3, h4⟩ := h.r6 a' c'
    exact ⟨k, by simpa [upV] using h1, h2, (hoth _ k ⟨_, _, h3⟩ (by decide)).trans h3, by simpa [up, upV] using h4⟩
  · intro a; have a' : b 7 = true := by simpa [up] using a
    simpa [upV] using own_keep (h.r7 a') fun k hk _ => hoth _ k hk (by decide)
  · intro a c; simp only [up, show ¬ (11 : Nat) = 13 by decide, if_false] at c; rw [hsrc] at c; cases c
  · intro a c; simp [up] at c
  · intro a c; simp [up] at c
  · intro _; simpa [upV] using ho
  · intro a; have a' : b 15 = true := by simpa [up] using a
    simpa [upV] using IRT.keep (h.r15 a') ⟨hg.size, fun k hk => hoth _ k hk (by decide)⟩
  · intro a; have a' : b 17 = true := by simpa [up] using a
    simpa [upV] using IRT.keep (h.r17 a') ⟨hg.size, fun k hk => hoth _ k hk (by decide)⟩
theorem J1.s18 (h : J1 w0 n0 r c0 c1 x s b V w) (v : Value) : J1 w0 n0 r c0 c1 x s (up b 18) (upV V 18 v) w := by
  refine ⟨h.below, h.rlt, h.n0le, h.nb, h.wb, ?_, ?_, ?_, ?_, ?_, ?_, ?_, ?_, ?_, ?_, ?_, ?_⟩
  · simpa [up, upV] using h.res0
  · simpa [up, upV] using h.res1
  · simpa [up, upV] using h.r0
  · simpa [up, upV] using h.r3
  · simpa [up, upV] using h.r6
  · simpa [up, upV] using h.r7
  · simpa [up, upV] using h.r8
  · simpa [up, upV] using h.r11
  · simpa [up, upV] using h.r12
  · simpa [up, upV] using h.r13
  · simpa [up, upV] using h.r15
  · simpa [up, upV] using h.r17
/-- An append of nothing leaves the row as it was. -/
theorem J1.s3z (h : J1 w0 n0 r c0 c1 x s b V w) (h30 : b 3 = false) (h7 : b 7 = false) (hsrc : b 0 = true) (hn : s.sets = []) : J1 w0 n0 r c0 c1 x s (up b 3) (upV V 3 (V 0)) w := by
  refine ⟨h.below, h.rlt, h.n0le, h.nb, h.wb, ?_, ?_, ?_, ?_, ?_, ?_, ?_, ?_, ?_, ?_, ?_, ?_⟩
  · simpa [up, upV] using h.res0
  · simpa [up, upV] using h.res1
  · intro a c; simp [up] at c
  · intro _ _; simpa [upV, hn, cells4] using h.r0 hsrc h30
  · intro a c; have a' : b 6 = true := by simpa [up] using a
    obtain ⟨k, h1, h2, h3, h4, h5⟩ := h.r6 a' h7
    exact ⟨k, by simpa [upV] using h1, h2, h3, fun _ d => by simp [up] at d, fun _ => by simpa [upV] using h4 hsrc h30⟩
  · simpa [up, upV] using h.r7
  · simpa [up, upV] using h.r8
  · simpa [up, upV] using h.r11
  · simpa [up, upV] using h.r12
  · simpa [up, upV] using h.r13
  · simpa [up, upV] using h.r15
  · simpa [up, upV] using h.r17
theorem J1.s11z (h : J1 w0 n0 r c0 c1 x s b V w) (h110 : b 11 = false) (h13 : b 13 = false) (hsrc : b 8 = true) (hn : s.next = []) : J1 w0 n0 r c0 c1 x s (up b 11) (upV V 11 (V 8)) w := by
  refine ⟨h.below, h.rlt, h.n0le, h.nb, h.wb, ?_, ?_, ?_, ?_, ?_, ?_, ?_, ?_, ?_, ?_, ?_, ?_⟩
  · simpa [up, upV] using h.res0
  · simpa [up, upV] using h.res1
  · simpa [up, upV] using h.r0
  · simpa [up, upV] using h.r3
  · simpa [up, upV] using h.r6
  · simpa [up, upV] using h.r7
  · intro a c; simp [up] at c
  · intro _ _; have h8 := h.r8 hsrc h110; exact ⟨[], by simpa [upV, hn] using h8, fun i v xs hv => by simp at hv⟩
  · intro a c; have a' : b 12 = true := by simpa [up] using a
    obtain ⟨k, h1, h2, h3, h4, h5⟩ := h.r12 a' h13
    exact ⟨k, by simpa [upV] using h1, h2, h3, fun _ d => by simp [up] at d, fun _ => by simpa [upV] using h4 hsrc h110⟩
  · simpa [up, upV] using h.r13
  · simpa [up, upV] using h.r15
  · simpa [up, upV] using h.r17
theorem J1.sv (h : J1 w0 n0 r c0 c1 x s b V w) (i : Nat) (v : Value) (hi : i ≠ 0 ∧ i ≠ 3 ∧ i ≠ 6 ∧ i ≠ 7 ∧ i ≠ 8 ∧ i ≠ 11 ∧ i ≠ 12 ∧ i ≠ 13 ∧ i ≠ 15 ∧ i ≠ 17 ∧ i ≠ 19) : J1 w0 n0 r c0 c1 x s (up b i) (upV V i v) w := by
  obtain ⟨i0, i3, i6, i7, i8, i11, i12, i13, i15, i17, i19⟩ := hi
  have e : ∀ j, j ≠ i → up b i j = b j := fun j hj => up_ne hj
  have f : ∀ j, j ≠ i → upV V i v j = V j := fun j hj => upV_ne hj
  refine ⟨h.below, h.rlt, h.n0le, h.nb, h.wb, ?_, ?_, ?_, ?_, ?_, ?_, ?_, ?_, ?_, ?_, ?_, ?_⟩ <;>
    simp only [e 0 i0.symm, e 3 i3.symm, e 6 i6.symm, e 7 i7.symm, e 8 i8.symm, e 11 i11.symm, e 12 i12.symm, e 13 i13.symm, e 15 i15.symm, e 17 i17.symm, e 19 i19.symm, f 0 i0.symm, f 3 i3.symm, f 6 i6.symm, f 7 i7.symm, f 8 i8.symm, f 11 i11.symm, f 12 i12.symm, f 13 i13.symm, f 15 i15.symm, f 17 i17.symm]
  · exact h.res0
  · exact h.res1
  · exact h.r0
  · exact h.r3
  · exact h.r6
  · exact h.r7
  · exact h.r8
  · exact h.r11
  · exact h.r12
  · exact h.r13
  · exact h.r15
  · exact h.r17
/-- The store into the result's box. -/
theorem J1.s19 (h : J1 w0 n0 r c0 c1 x s b V w) (h190 : b 19 = false) (hr : n0 + 1 < r) : J1 w0 n0 r c0 c1 x s (up b 19) V (set5 w r (V 7) (V 13) (V 15) (V 17) (.bool false)) := by
  have hbox := h.res0 h190
  have hks := set5_ks (w := w) ⟨_, _, hbox⟩ (by decide) (by decide) (by decide) (by decide) (V 7) (V 13) (V 15) (V 17) (.bool false)
  have hne : ∀ k, k ≠ r → (set5 w r (V 7) (V 13) (V 15) (V 17) (.bool false)).heap[k]? = w.heap[k]? := fun k hk =>
    (Below.heap_setCell _ ⟨r, 4, none⟩ _ k hk).trans ((Below.heap_setCell _ ⟨r, 3, none⟩ _ k hk).trans ((Below.heap_setCell _ ⟨r, 2, none⟩ _ k hk).trans ((Below.heap_setCell _ ⟨r, 1, none⟩ _ k hk).trans (Below.heap_setCell w ⟨r, 0, none⟩ _ k hk))))
  have hown : ∀ {B n sz : Nat} {v : Value} {xs : List Value}, w.ownsRow B 24 sz v n xs → (set5 w r (V 7) (V 13) (V 15) (V 17) (.bool false)).ownsRow B 24 sz v n xs := fun h => own_keep h fun k hk _ => hks.typed k _ hk (by simp)
  have hown2 : ∀ {B n sz : Nat} {v : Value} {xs : List Value}, w.ownsRow B 32 sz v n xs → (set5 w r (V 7) (V 13) (V 15) (V 17) (.bool false)).ownsRow B 32 sz v n xs := fun h => own_keep h fun k hk _ => hks.typed k _ hk (by simp)
  refine ⟨set5_below h.below (by omega) _ _ _ _ _, Nat.lt_of_lt_of_le h.rlt hks.size, Nat.le_trans h.n0le hks.size, (hne _ (by omega)).trans h.nb, (hne _ (by omega)).trans h.wb, ?_, ?_, ?_, ?_, ?_, ?_, ?_, ?_, ?_, ?_, ?_, ?_⟩
  · intro a; simp [up] at a
  · intro _; exact set5_box hbox _ _ _ _ _
  · intro a c; exact hown (h.r0 (by simpa [up] using a) (by simpa [up] using c))
  · intro a c; exact hown (h.r3 (by simpa [up] using a) (by simpa [up] using c))
  · intro a c; obtain ⟨k, h1, h2, h3, h4⟩ := h.r6 (by simpa [up] using a) (by simpa [up] using c)
    exact ⟨k, h1, h2, (hks.typed k _ ⟨_, _, h3⟩ (by simp)).trans h3, by simpa [up] using h4⟩
  · intro a; exact hown (h.r7 (by simpa [up] using a))
  · intro a c; exact hown2 (h.r8 (by simpa [up] using a) (by simpa [up] using c))
  · intro a c; exact (h.r11 (by simpa [up] using a) (by simpa [up] using c)).side hks
  · intro a c; obtain ⟨k, h1, h2, h3, h4⟩ := h.r12 (by simpa [up] using a) (by simpa [up] using c)
    exact ⟨k, h1, h2, (hks.typed k _ ⟨_, _, h3⟩ (by simp)).trans h3, by simpa [up] using h4⟩
  · intro a; exact (h.r13 (by simpa [up] using a)).side hks
  · intro a; exact IRT.keep (h.r15 (by simpa [up] using a)) hks.keep3
  · intro a; exact IRT.keep (h.r17 (by simpa [up] using a)) hks.keep3
end Go.Proofs.YtmcoaopcmjociaaDoor

namespace Go.Proofs.YtmcoaopcmjociaaDoor
open Go Go.RowKit Go.Sort Go.Proofs.YtmcoaopcmjociaaDoorW.PrintLast

/-- The slots of the region's operations. -/
def OS : List (Nat × Tmp) := [(0, 18), (2, 20), (3, 21), (5, 23), (6, 24), (7, 25), (8, 26), (10, 28), (11, 29), (12, 30), (13, 31), (15, 33), (17, 35), (18, 36)]
/-- What the loads and the build yield. -/
structure V1 (b : Nat → Bool) (V : Nat → Value) (S N X : Value) : Prop where
  v2 : b 2 = true → V 2 = S
  v5 : b 5 = true → V 5 = X
  v10 : b 10 = true → V 10 = N
  v18 : b 18 = true → V 18 = .agg #[V 7, V 13, V 15, V 17, .bool false]
/-- The relation of the region. -/
def I1 (a0 : Act) (w0 : World) (n0 r : Nat) (c0 c1 : Array Value) (x : S4) (s : St) (S N X : Value) (b : Nat → Bool) (a : Act) (w : World) : Prop :=
  ∃ V, a = putSel a0 b (LV OS V) ∧ J1 w0 n0 r c0 c1 x s b V w ∧ V1 b V S N X
theorem V1.up {b : Nat → Bool} {V : Nat → Value} {S N X : Value} (h : V1 b V S N X) (i : Nat) (v : Value) (hi : i ≠ 2 ∧ i ≠ 5 ∧ i ≠ 10 ∧ i ≠ 18) (h18 : b 18 = false) : V1 (up b i) (upV V i v) S N X := by
  obtain ⟨i2, i5, i10, i18⟩ := hi
  refine ⟨?_, ?_, ?_, ?_⟩
  · rw [up_ne i2.symm, upV_ne i2.symm]; exact h.v2
  · rw [up_ne i5.symm, upV_ne i5.symm]; exact h.v5
  · rw [up_ne i10.symm, upV_ne i10.symm]; exact h.v10
  · rw [up_ne i18.symm]; intro a; rw [h18] at a; cases a
theorem slot_of {a0 : Act} {b : Nat → Bool} {V : Nat → Value} {i : Nat} {t : Tmp} (k : Nat) (h : OS[k]? = some (i, t)) (hd : (((LV OS V).drop (k + 1)).all fun x => !(x.2.1 == t)) = true) (hb : b i = true) (hs : Nat.ble (t + 1) a0.tmps.size = true) : (putSel a0 b (LV OS V)).tmps[t]? = some (V i) := by
  have := putSel_on (b := b) (e := (i, t, V i)) (L := LV OS V) (a := a0) k (by simp [LV, h]) hd hb hs
  exact this
theorem off_of {a0 : Act} {b : Nat → Bool} {V : Nat → Value} {t : Tmp} {v : Value} (h : (OS.all fun e => !(e.2 == t)) = true) (hv : a0.tmps[t]? = some v) : (putSel a0 b (LV OS V)).tmps[t]? = some v := by
  refine (putSel_off ?_).trans hv
  rw [LV, List.all_map]
  exact h
theorem V1.up2 {b : Nat → Bool} {V : Nat → Value} {S N X : Value} (h : V1 b V S N X) (h18 : b 18 = false) : V1 (Go.Proofs.YtmcoaopcmjociaaDoorW.PrintLast.up b 2) (upV V 2 S) S N X :=
  ⟨fun _ => upV_self _ _ _, fun a => by simpa [upV] using h.v5 (by simpa [Go.Proofs.YtmcoaopcmjociaaDoorW.PrintLast.up] using a), fun a => by simpa [upV] using h.v10 (by simpa [Go.Proofs.YtmcoaopcmjociaaDoorW.PrintLast.up] using a), fun a => by simp [Go.Proofs.YtmcoaopcmjociaaDoorW.PrintLast.up, h18] at a⟩
theorem V1.up5 {b : Nat → Bool} {V : Nat → Value} {S N X : Value} (h : V1 b V S N X) (h18 : b 18 = false) : V1 (Go.Proofs.YtmcoaopcmjociaaDoorW.PrintLast.up b 5) (upV V 5 X) S N X :=
  ⟨fun a => by simpa [upV] using h.v2 (by simpa [Go.Proofs.YtmcoaopcmjociaaDoorW.PrintLast.up] using a), fun _ => upV_self _ _ _, fun a => by simpa [upV] using h.v10 (by simpa [Go.Proofs.YtmcoaopcmjociaaDoorW.PrintLast.up] using a), fun a => by simp [Go.Proofs.YtmcoaopcmjociaaDoorW.PrintLast.up, h18] at a⟩
theorem V1.up10 {b : Nat → Bool} {V : Nat → Value} {S N X : Value} (h : V1 b V S N X) (h18 : b 18 = false) : V1 (Go.Proofs.YtmcoaopcmjociaaDoorW.PrintLast.up b 10) (upV V 10 N) S N X :=
  ⟨fun a => by simpa [upV] using h.v2 (by simpa [Go.Proofs.YtmcoaopcmjociaaDoorW.PrintLast.up] using a), fun a => by simpa [upV] using h.v5 (by simpa [Go.Proofs.YtmcoaopcmjociaaDoorW.PrintLast.up] using a), fun _ => upV_self _ _ _, fun a => by simp [Go.Proofs.YtmcoaopcmjociaaDoorW.PrintLast.up, h18] at a⟩
theorem V1.up18 {b : Nat → Bool} {V : Nat → Value} {S N X : Value} (h : V1 b V S N X) {v : Value} (hv : v = .agg #[V 7, V 13, V 15, V 17, .bool false]) : V1 (Go.Proofs.YtmcoaopcmjociaaDoorW.PrintLast.up b 18) (upV V 18 v) S N X :=
  ⟨fun a => by simpa [upV] using h.v2 (by simpa [Go.Proofs.YtmcoaopcmjociaaDoorW.PrintLast.up] using a), fun a => by simpa [upV] using h.v5 (by simpa [Go.Proofs.YtmcoaopcmjociaaDoorW.PrintLast.up] using a), fun a => by simpa [upV] using h.v10 (by simpa [Go.Proofs.YtmcoaopcmjociaaDoorW.PrintLast.up] using a), fun _ => by simpa [upV] using hv⟩
theorem upV_id (V : Nat → Value) (i : Nat) : upV V i (V i) = V := by
  funext j
  by_cases h : j = i
  · rw [h, upV_self]
  · rw [upV_ne h]
theorem putSel_none {a0 : Act} {b : Nat → Bool} {V : Nat → Value} : putSel a0 (Go.Proofs.YtmcoaopcmjociaaDoorW.PrintLast.up b 19) (LV OS V) = putSel a0 b (LV OS V) := by
  have := putSel_same (b := b) (i := 19) (v := V 19) (V := V) (O := OS) (a := a0) (by decide)
  rw [upV_id] at this
  exact this
theorem V1.up19 {b : Nat → Bool} {V : Nat → Value} {S N X : Value} (h : V1 b V S N X) : V1 (Go.Proofs.YtmcoaopcmjociaaDoorW.PrintLast.up b 19) V S N X :=
  ⟨fun a => h.v2 (by simpa [Go.Proofs.YtmcoaopcmjociaaDoorW.PrintLast.up] using a), fun a => h.v5 (by simpa [Go.Proofs.YtmcoaopcmjociaaDoorW.PrintLast.up] using a), fun a => h.v10 (by simpa [Go.Proofs.YtmcoaopcmjociaaDoorW.PrintLast.up] using a), fun a => h.v18 (by simpa [Go.Proofs.YtmcoaopcmjociaaDoorW.PrintLast.up] using a)⟩
theorem NXR.snoc {B : Nat} {w w' : World} {v v' u : Value} {nx : List (List Int)} {l : List Int} {vs : List Value} (h1 : w.ownsRow B 32 1 v nx.length vs) (h2 : ∀ (i : Nat) (v : Value) (xs : List Int), vs[i]? = some v → nx[i]? = some xs → IRT w v xs) (hu : IRT w u l)
    (hg : w.grownBy w' v.ownBlock) (ho : w'.ownsRow B 32 1 v' (nx.length + 1) (vs ++ [u])) : NXR B w' v' (nx ++ [l]) := by
  have hrow := own_ty h1
  have hlen : (nx ++ [l]).length = nx.length + 1 := by simp
  have hvl : vs.length = nx.length := by simpa using h1.1
  rw [NXR]
  refine ⟨vs ++ [u], by rw [hlen]; exact ho, fun i v xs hv hx => ?_⟩
  by_cases hi : i < nx.length
  · rw [List.getElem?_append_left (by omega)] at hv
    rw [List.getElem?_append_left hi] at hx
    exact NXR.keepG hg (fun k hk => (hrow k hk).1) (h2 i v xs hv hx)
  · rw [List.getElem?_append_right (by omega)] at hv hx
    rw [hvl] at hv
    by_cases hi0 : i - nx.length = 0
    · rw [hi0] at hv hx
      obtain rfl : u = v := by simpa using hv
      obtain rfl : l = xs := by simpa using hx
      exact NXR.keepG hg (fun k hk => (hrow k hk).1) hu
    · rw [List.getElem?_eq_none (by simp; omega)] at hv
      cases hv

set_option maxRecDepth 100000 in
set_option maxHeartbeats 4000000 in
theorem rwrite_one : ROne := by
  intro w0 s0 s1 s2 s3 mn mx A c s p0 v w h0 hv hgs hf
  have hsp : spotsN (.node 1 s0 s1 s2 s3 [] mn mx) = 1 := by simp [spotsN]
  have hwr : writeT (.node 1 s0 s1 s2 s3 [] mn mx) s = (⟨[(s.sets.length : Int)], [(s.sets.length : Int)], false⟩, ⟨s.sets ++ [(s0, s1, s2, s3)], s.next ++ [[]]⟩) := by simp [writeT]
  rw [hsp] at hf
  rw [hwr]
  clear hsp hwr
  simp only [Tree.val, Tree.kind, Tree.s0, Tree.s1, Tree.s2, Tree.s3, Tree.kids, Tree.mn, Tree.mx, List.length_nil]
  obtain ⟨SA, SC, NA, NC, A1, c1, A2, c2, rfl, hv1, hv2, _, _⟩ := hv
  have hb3 := below_a3 w (Obj.cells #[.int .i64 1, .int .u64 s0, .int .u64 s1, .int .u64 s2, .int .u64 s3, .slice A 0 c, .int .i64 mn, .int .i64 mx] 27) (Obj.cells #[.slice SA s.sets.length SC, .slice NA s.next.length NC, .slice A1 p0.first.length c1, .slice A2 p0.last.length c2, .bool p0.none] 56) (Obj.cells #[.slice none 0 0, .slice none 0 0, .slice none 0 0, .slice none 0 0, .bool false] 56)
  have k0 := heap_a1 (o' := (Obj.cells #[.slice none 0 0, .slice none 0 0, .slice none 0 0, .slice none 0 0, .bool false] 56)) (heap_a1 (o' := (Obj.cells #[.slice SA s.sets.length SC, .slice NA s.next.length NC, .slice A1 p0.first.length c1, .slice A2 p0.last.length c2, .bool p0.none] 56)) (heap_a0 w (Obj.cells #[.int .i64 1, .int .u64 s0, .int .u64 s1, .int .u64 s2, .int .u64 s3, .slice A 0 c, .int .i64 mn, .int .i64 mx] 27)))
  have k1 := heap_a1' w (Obj.cells #[.int .i64 1, .int .u64 s0, .int .u64 s1, .int .u64 s2, .int .u64 s3, .slice A 0 c, .int .i64 mn, .int .i64 mx] 27) (Obj.cells #[.slice SA s.sets.length SC, .slice NA s.next.length NC, .slice A1 p0.first.length c1, .slice A2 p0.last.length c2, .bool p0.none] 56) (Obj.cells #[.slice none 0 0, .slice none 0 0, .slice none 0 0, .slice none 0 0, .bool false] 56)
  have k2 := heap_a2 w (Obj.cells #[.int .i64 1, .int .u64 s0, .int .u64 s1, .int .u64 s2, .int .u64 s3, .slice A 0 c, .int .i64 mn, .int .i64 mx] 27) (Obj.cells #[.slice SA s.sets.length SC, .slice NA s.next.length NC, .slice A1 p0.first.length c1, .slice A2 p0.last.length c2, .bool p0.none] 56) (Obj.cells #[.slice none 0 0, .slice none 0 0, .slice none 0 0, .slice none 0 0, .bool false] 56)
  have hs3 := size_a3 w (Obj.cells #[.int .i64 1, .int .u64 s0, .int .u64 s1, .int .u64 s2, .int .u64 s3, .slice A 0 c, .int .i64 mn, .int .i64 mx] 27) (Obj.cells #[.slice SA s.sets.length SC, .slice NA s.next.length NC, .slice A1 p0.first.length c1, .slice A2 p0.last.length c2, .bool p0.none] 56) (Obj.cells #[.slice none 0 0, .slice none 0 0, .slice none 0 0, .slice none 0 0, .bool false] 56)
  go_enter Tryd.func23, Tryd.ntmps23
  go_wp2_with fail
  generalize hX : ((w.alloc (Obj.cells #[.int .i64 1, .int .u64 s0, .int .u64 s1, .int .u64 s2, .int .u64 s3, .slice A 0 c, .int .i64 mn, .int .i64 mx] 27)).alloc (Obj.cells #[.slice SA s.sets.length SC, .slice NA s.next.length NC, .slice A1 p0.first.length c1, .slice A2 p0.last.length c2, .bool p0.none] 56)).alloc (Obj.cells #[.slice none 0 0, .slice none 0 0, .slice none 0 0, .slice none 0 0, .bool false] 56) = X at hb3 k0 k1 k2 hs3 ⊢
  clear hX
  have hJ0 : J1 w w.heap.size (w.heap.size + 1 + 1) #[.int .i64 1, .int .u64 s0, .int .u64 s1, .int .u64 s2, .int .u64 s3, .slice A 0 c, .int .i64 mn, .int .i64 mx] #[.slice SA s.sets.length SC, .slice NA s.next.length NC, .slice A1 p0.first.length c1, .slice A2 p0.last.length c2, .bool p0.none] (s0, s1, s2, s3) s (fun _ => false) (fun _ => undef) X.drew :=
    ⟨hb3.drew, by show _ < X.heap.size; omega, by show _ ≤ X.heap.size; omega, k0, k1, fun _ => k2, by simp, by simp, by simp, by simp, by simp, by simp, by simp, by simp, by simp, by simp, by simp⟩
  refine start_ (n := 20) (S := fun _ => True) (ds := []) #[false, false, false, false, false, false, false, false, false, false, false, false, false, false, false, false, false, false, false, false] (by kernel_rfl) rfl rfl trivial (fun _ => ?_)
  refine pure_ (i := 1) (N := some 19) (v := ?_) (a' := ?_) #[false, true, false, false, false, false, false, false, false, false, false, false, false, false, false, false, false, false, false, false] rfl rfl (by kernel_rfl) (fun _ _ _ h => h) (Or.inl ⟨by rfl, ?_⟩) ?_ ?_
  rotate_left
  · intro w'
    go_simp
    with_reducible rfl
  rotate_left
  · simp only [Act.put, sA, sB, sC]
    rfl
  refine pure_ (i := 4) (N := some 22) (v := ?_) (a' := ?_) #[false, true, false, false, true, false, false, false, false, false, false, false, false, false, false, false, false, false, false, false] rfl rfl (by kernel_rfl) (fun _ _ _ h => h) (Or.inl ⟨by rfl, ?_⟩) ?_ ?_
  rotate_left
  · intro w'
    go_simp
    with_reducible rfl
  rotate_left
  · simp only [Act.put, sA, sB, sC]
    rfl
  refine pure_ (i := 9) (N := some 27) (v := ?_) (a' := ?_) #[false, true, false, false, true, false, false, false, false, true, false, false, false, false, false, false, false, false, false, false] rfl rfl (by kernel_rfl) (fun _ _ _ h => h) (Or.inl ⟨by rfl, ?_⟩) ?_ ?_
  rotate_left
  · intro w'
    go_simp
    with_reducible rfl
  rotate_left
  · simp only [Act.put, sA, sB, sC]
    rfl
  refine pure_ (i := 14) (N := some 32) (v := ?_) (a' := ?_) #[false, true, false, false, true, false, false, false, false, true, false, false, false, false, true, false, false, false, false, false] rfl rfl (by kernel_rfl) (fun _ _ _ h => h) (Or.inl ⟨by rfl, ?_⟩) ?_ ?_
  rotate_left
  · intro w'
    go_simp
    with_reducible rfl
  rotate_left
  · simp only [Act.put, sA, sB, sC]
    rfl
  refine pure_ (i := 16) (N := some 34) (v := ?_) (a' := ?_) #[false, true, false, false, true, false, false, false, false, true, false, false, false, false, true, false, true, false, false, false] rfl rfl (by kernel_rfl) (fun _ _ _ h => h) (Or.inl ⟨by rfl, ?_⟩) ?_ ?_
  rotate_left
  · intro w'
    go_simp
    with_reducible rfl
  rotate_left
  · simp only [Act.put, sA, sB, sC]
    rfl
  refine inv_at (B := [0, 0, 2, 7, 0, 16, 48, 127, 0, 0, 512, 2047, 0, 8191, 0, 16384, 0, 65536, 262143, 524287]) [0, 2, 3, 5, 6, 7, 8, 10, 11, 12, 13, 15, 17, 18, 19] (fun a0 => I1 a0 w w.heap.size (w.heap.size + 1 + 1) #[.int .i64 1, .int .u64 s0, .int .u64 s1, .int .u64 s2, .int .u64 s3, .slice A 0 c, .int .i64 mn, .int .i64 mx] #[.slice SA s.sets.length SC, .slice NA s.next.length NC, .slice A1 p0.first.length c1, .slice A2 p0.last.length c2, .bool p0.none] (s0, s1, s2, s3) s (.slice SA s.sets.length SC) (.slice NA s.next.length NC) (.agg #[.int .u64 s0, .int .u64 s1, .int .u64 s2, .int .u64 s3])) rfl (by kernel_rfl) (by kernel_rfl) (by kernel_rfl) ?_ ?_ ?_
  · exact ⟨fun _ => undef, rfl, hJ0, by simp, by simp, by simp, by simp⟩
  · refine (steps_cons ?_ (steps_cons ?_ (steps_cons ?_ (steps_cons ?_ (steps_cons ?_ (steps_cons ?_ (steps_cons ?_ (steps_cons ?_ (steps_cons ?_ (steps_cons ?_ (steps_cons ?_ (steps_cons ?_ (steps_cons ?_ (steps_cons ?_ (steps_cons ?_ steps_nil)))))))))))))))
    · intro b a wd hI hb hon hoff
      obtain ⟨V, ha, hJ, hV⟩ := hI
      have h18 := hoff 18 (by kernel_rfl)
      have h19 := hoff 19 (by kernel_rfl)
      have HA := Lib.hid ha
      clear ha
      refine ⟨_, rfl, fun K hK => ?_⟩
      refine value_ (N := some 18) (v := (.slice (some ⟨wd.heap.size, 0, none⟩) 0 0)) (w1 := wd.alloc (.cells #[] 24)) (by rfl) rfl (by go_simp) ?_
      exact hK.out _ _ ⟨upV V 0 _, by rw [HA.out]; exact (putSel_up (by decide) (by decide) (by decide) hb).symm, hJ.s0 hb, hV.up 0 _ (by decide) h18⟩
    · intro b a wd hI hb hon hoff
      obtain ⟨V, ha, hJ, hV⟩ := hI
      have h18 := hoff 18 (by kernel_rfl)
      have h19 := hoff 19 (by kernel_rfl)
      have e19 : a.tmps[19]? = some (.pointer (some ⟨w.heap.size + 1, 0, none⟩)) := by rw [ha]; exact off_of (by rfl) (by rfl)
      obtain ⟨⟨q0, q1, q2, q3, q4⟩, _⟩ := box5 hJ.wb
      have HA := Lib.hid ha
      clear ha
      refine ⟨_, rfl, fun K hK => ?_⟩
      refine value_ (N := some 20) (v := (.slice SA s.sets.length SC)) (w1 := wd) (by rfl) rfl (by go_simp) ?_
      exact hK.out _ _ ⟨upV V 2 _, by rw [HA.out]; exact (putSel_up (by decide) (by decide) (by decide) hb).symm, hJ.sv 2 _ (by decide), hV.up2 h18⟩
    · intro b a wd hI hb hon hoff
      obtain ⟨V, ha, hJ, hV⟩ := hI
      have h18 := hoff 18 (by kernel_rfl)
      have h7 := hoff 7 (by kernel_rfl)
      have h00 := hon 0 (by kernel_rfl)
      have e18 : a.tmps[18]? = some (V 0) := by rw [ha]; exact slot_of 0 rfl rfl h00 (by rfl)
      have e20 : a.tmps[20]? = some (.slice SA s.sets.length SC) := by rw [ha]; exact (slot_of 1 rfl rfl (hon 2 (by kernel_rfl)) (by rfl)).trans (congrArg some (hV.v2 (hon 2 (by kernel_rfl))))
      have hr1 := own_keep hv1 fun k hk _ => hJ.below.block k hk.lt
      have hvl := cells4_len s.sets
      refine ⟨_, rfl, fun K hK => ?_⟩
      by_cases hz : s.sets = []
      · obtain ⟨x0, y0, hs0⟩ := own_shape (hJ.r0 h00 hb)
        have hJz := hJ.s3z hb h7 h00 hz
        rw [hs0] at e18
        rw [hz] at e20
        simp only [List.length_nil] at e20
        have HA := Lib.hid ha; have HS := Lib.hid hs0; have HZ := Lib.hid hJz
        clear ha hs0 hJz
        refine value_ (N := some 21) (v := .slice x0 0 y0) (w1 := wd) (by rfl) rfl (by cases SA <;> cases x0 <;> first | (go_simp; done) | (go_simp; rfl) | (go_simp; simp [storeCells]; done)) ?_
        rw [← HS.out]
        exact hK.out _ _ ⟨upV V 3 _, by rw [HA.out]; exact (putSel_up (by decide) (by decide) (by decide) hb).symm, HZ.out, hV.up 3 _ (by decide) h18⟩
      · have hpos := List.length_pos_iff.2 hz
        obtain ⟨i0, hi0, hz0, hz1, hz2⟩ := info_parts setInfo4
        rcases hr1.2 with ⟨he, h0'⟩ | ⟨g0, cap0, cur, he, _, hh, hc0, hm0, hs0, ht0⟩
        · omega
        · injection he with hA _ _
          subst hA
          have hcell : ∀ j u, (cells4 s.sets)[j]? = some u → wd.cell? ((⟨g0, 0, none⟩ : Addr).add j) = some u := by
            intro j u hu
            have hj : j < s.sets.length * 4 := by rw [← hvl]; exact (List.getElem?_eq_some_iff.1 hu).1
            have hadd : (⟨g0, 0, none⟩ : Addr).add j = ⟨g0, j, none⟩ := by unfold Addr.add; split <;> simp_all
            rw [hadd, cell_of_row wd g0 j cur _ _ hh, ← hu, ← ht0, List.getElem?_take, if_pos (by omega)]
            simp
          have hone : ∀ u ∈ cells4 s.sets, u.oneCell' = true := by
            intro u hu
            simp only [cells4, List.mem_flatMap] at hu
            obtain ⟨q, _, hq⟩ := hu
            simp only [List.mem_cons, List.not_mem_nil, or_false] at hq
            rcases hq with rfl | rfl | rfl | rfl <;> rfl
          refine step_append_lies _ rfl (.tmp 18) (.tmp 20) 31 rfl w.heap.size 24 i0 (.agg #[.int .u64 0, .int .u64 0, .int .u64 0, .int .u64 0]) 4 32 Tryd.underlying31 hi0 hz0 hz1 hz2 rfl (by decide) (V 0) 0 [] (by simp [Act.eval, e18]) (hJ.r0 h00 hb) ⟨g0, 0, none⟩ s.sets.length SC (cells4 s.sets) (by simp [Act.eval, e20]) hvl hcell hone hpos (by unfold maxLen; omega) (by omega) hJ.n0le wd.heap.size rfl ?_
          intro g cap w' ho hg hat _
          rw [List.nil_append] at ho
          have ho2 : w'.ownsRow w.heap.size 24 4 (.slice (some ⟨g, 0, none⟩) (0 + s.sets.length) cap) s.sets.length (cells4 s.sets) := by rw [Nat.zero_add] at ho ⊢; exact ho
          refine hK.out _ _ ⟨upV V 3 _, by rw [ha]; exact (putSel_up (by decide) (by decide) (by decide) hb).symm, hJ.s3 hb h7 h00 ho2 hg ?_, hV.up 3 _ (by decide) h18⟩
          intro k hk
          simp [Value.ownBlock] at hk
          subst hk
          exact hat
    · intro b a wd hI hb hon hoff
      obtain ⟨V, ha, hJ, hV⟩ := hI
      have h18 := hoff 18 (by kernel_rfl)
      have h19 := hoff 19 (by kernel_rfl)
      have e22 : a.tmps[22]? = some (.pointer (some ⟨w.heap.size, 1, none⟩)) := by rw [ha]; exact off_of (by rfl) (by rfl)
      obtain ⟨m0, m1, m2, m3, m4, m5, m6, m7, _⟩ := box8' hJ.nb
      have HA := Lib.hid ha
      clear ha
      refine ⟨_, rfl, fun K hK => ?_⟩
      refine value_ (N := some 23) (v := (.agg #[.int .u64 s0, .int .u64 s1, .int .u64 s2, .int .u64 s3])) (w1 := wd) (by rfl) rfl (by go_simp) ?_
      exact hK.out _ _ ⟨upV V 5 _, by rw [HA.out]; exact (putSel_up (by decide) (by decide) (by decide) hb).symm, hJ.sv 5 _ (by decide), hV.up5 h18⟩
    · intro b a wd hI hb hon hoff
      obtain ⟨V, ha, hJ, hV⟩ := hI
      have h18 := hoff 18 (by kernel_rfl)
      have h19 := hoff 19 (by kernel_rfl)
      have e23 : a.tmps[23]? = some (.agg #[.int .u64 s0, .int .u64 s1, .int .u64 s2, .int .u64 s3]) := by rw [ha]; exact (slot_of 3 rfl rfl (hon 5 (by kernel_rfl)) (by rfl)).trans (congrArg some (hV.v5 (hon 5 (by kernel_rfl))))
      have HA := Lib.hid ha
      clear ha
      refine ⟨_, rfl, fun K hK => ?_⟩
      refine value_ (N := some 24) (v := (.slice (some ⟨wd.heap.size, 0, none⟩) 1 1)) (w1 := wd.alloc (.cells #[.int .u64 s0, .int .u64 s1, .int .u64 s2, .int .u64 s3] 24)) (by rfl) rfl (by go_simp) ?_
      exact hK.out _ _ ⟨upV V 6 _, by rw [HA.out]; exact (putSel_up (by decide) (by decide) (by decide) hb).symm, hJ.s6 hb, hV.up 6 _ (by decide) h18⟩
    · intro b a wd hI hb hon hoff
      obtain ⟨V, ha, hJ, hV⟩ := hI
      have h18 := hoff 18 (by kernel_rfl)
      have h19 := hoff 19 (by kernel_rfl)
      have h3 := hon 3 (by kernel_rfl)
      have e21 : a.tmps[21]? = some (V 3) := by rw [ha]; exact slot_of 2 rfl rfl h3 (by rfl)
      have e24 : a.tmps[24]? = some (V 6) := by rw [ha]; exact slot_of 4 rfl rfl (hon 6 (by kernel_rfl)) (by rfl)
      obtain ⟨k, h6, hk0, hk, _, hne⟩ := hJ.r6 (hon 6 (by kernel_rfl)) hb
      rw [h6] at e24
      obtain ⟨i0, hi0, hz0, hz1, hz2⟩ := info_parts setInfo4
      refine ⟨_, rfl, fun K hK => ?_⟩
      refine step_append_lies _ rfl (.tmp 21) (.tmp 24) 31 rfl w.heap.size 24 i0 (.agg #[.int .u64 0, .int .u64 0, .int .u64 0, .int .u64 0]) 4 32 Tryd.underlying31 hi0 hz0 hz1 hz2 rfl (by decide) (V 3) s.sets.length (cells4 s.sets) (by simp [Act.eval, e21]) (hJ.r3 h3 hb) ⟨k, 0, none⟩ 1 1 [.int .u64 s0, .int .u64 s1, .int .u64 s2, .int .u64 s3] (by simp [Act.eval, e24]) rfl (World.news_of_block (cs := #[.int .u64 s0, .int .u64 s1, .int .u64 s2, .int .u64 s3]) hk) (by simp [Value.oneCell']) (by omega) (by unfold maxLen; omega) (by omega) hJ.n0le wd.heap.size rfl ?_
      intro g cap w' ho hg _ _
      rw [show cells4 s.sets ++ [Value.int .u64 s0, .int .u64 s1, .int .u64 s2, .int .u64 s3] = cells4 (s.sets ++ [(s0, s1, s2, s3)]) from (cells4_snoc s.sets (s0, s1, s2, s3)).symm] at ho
      exact hK.out _ _ ⟨upV V 7 _, by rw [ha]; exact (putSel_up (by decide) (by decide) (by decide) hb).symm, hJ.s7 hb h3 h19 ho hg, hV.up 7 _ (by decide) h18⟩
    · intro b a wd hI hb hon hoff
      obtain ⟨V, ha, hJ, hV⟩ := hI
      have h18 := hoff 18 (by kernel_rfl)
      have h19 := hoff 19 (by kernel_rfl)
      have HA := Lib.hid ha
      clear ha
      refine ⟨_, rfl, fun K hK => ?_⟩
      refine value_ (N := some 26) (v := (.slice (some ⟨wd.heap.size, 0, none⟩) 0 0)) (w1 := wd.alloc (.cells #[] 32)) (by rfl) rfl (by go_simp) ?_
      exact hK.out _ _ ⟨upV V 8 _, by rw [HA.out]; exact (putSel_up (by decide) (by decide) (by decide) hb).symm, hJ.s8 hb, hV.up 8 _ (by decide) h18⟩
    · intro b a wd hI hb hon hoff
      obtain ⟨V, ha, hJ, hV⟩ := hI
      have h18 := hoff 18 (by kernel_rfl)
      have h19 := hoff 19 (by kernel_rfl)
      have e27 : a.tmps[27]? = some (.pointer (some ⟨w.heap.size + 1, 1, none⟩)) := by rw [ha]; exact off_of (by rfl) (by rfl)
      obtain ⟨⟨q0, q1, q2, q3, q4⟩, _⟩ := box5 hJ.wb
      have HA := Lib.hid ha
      clear ha
      refine ⟨_, rfl, fun K hK => ?_⟩
      refine value_ (N := some 28) (v := (.slice NA s.next.length NC)) (w1 := wd) (by rfl) rfl (by go_simp) ?_
      exact hK.out _ _ ⟨upV V 10 _, by rw [HA.out]; exact (putSel_up (by decide) (by decide) (by decide) hb).symm, hJ.sv 10 _ (by decide), hV.up10 h18⟩
    · intro b a wd hI hb hon hoff
      obtain ⟨V, ha, hJ, hV⟩ := hI
      have h18 := hoff 18 (by kernel_rfl)
      have h13 := hoff 13 (by kernel_rfl)
      have h8 := hon 8 (by kernel_rfl)
      have e26 : a.tmps[26]? = some (V 8) := by rw [ha]; exact slot_of 6 rfl rfl h8 (by rfl)
      have e28 : a.tmps[28]? = some (.slice NA s.next.length NC) := by rw [ha]; exact (slot_of 7 rfl rfl (hon 10 (by kernel_rfl)) (by rfl)).trans (congrArg some (hV.v10 (hon 10 (by kernel_rfl))))
      obtain ⟨vs, hr1, hr2⟩ := hv2.below hJ.below
      have hnl := hgs.len
      have hvl : vs.length = s.next.length := by simpa using hr1.1
      refine ⟨_, rfl, fun K hK => ?_⟩
      by_cases hz : s.next = []
      · obtain ⟨x0, y0, hs0⟩ := own_shape (hJ.r8 h8 hb)
        have hJz := hJ.s11z hb h13 h8 hz
        rw [hs0] at e26
        rw [hz] at e28
        simp only [List.length_nil] at e28
        have HA := Lib.hid ha; have HS := Lib.hid hs0; have HZ := Lib.hid hJz
        clear ha hs0 hJz
        refine value_ (N := some 29) (v := .slice x0 0 y0) (w1 := wd) (by rfl) rfl (by cases NA <;> cases x0 <;> first | (go_simp; done) | (go_simp; rfl) | (go_simp; simp [storeCells]; done)) ?_
        rw [← HS.out]
        exact hK.out _ _ ⟨upV V 11 _, by rw [HA.out]; exact (putSel_up (by decide) (by decide) (by decide) hb).symm, HZ.out, hV.up 11 _ (by decide) h18⟩
      · have hpos := List.length_pos_iff.2 hz
        obtain ⟨i1, hi1, hz1, hz2, hz3⟩ := info_parts listInfo
        rcases hr1.2 with ⟨he, h0'⟩ | ⟨g0, cap0, cur, he, _, hh, hc0, hm0, hs0, ht0⟩
        · omega
        · injection he with hA _ _
          subst hA
          have hcell : ∀ j u, vs[j]? = some u → wd.cell? ((⟨g0, 0, none⟩ : Addr).add j) = some u := by
            intro j u hu
            have hj : j < s.next.length := by rw [← hvl]; exact (List.getElem?_eq_some_iff.1 hu).1
            have hadd : (⟨g0, 0, none⟩ : Addr).add j = ⟨g0, j, none⟩ := by unfold Addr.add; split <;> simp_all
            rw [hadd, cell_of_row wd g0 j cur _ _ hh, ← hu, ← ht0, List.getElem?_take, if_pos (by omega)]
            simp
          have hone : ∀ u ∈ vs, u.oneCell' = true := by
            intro u hu
            obtain ⟨j, hj, rfl⟩ := List.getElem_of_mem hu
            obtain ⟨A', c', hs', _⟩ := (hr2 j vs[j] (s.next[j]'(by omega)) (List.getElem?_eq_getElem hj) (List.getElem?_eq_getElem (by omega))).form
            rw [hs']; rfl
          refine step_append_lies _ rfl (.tmp 26) (.tmp 28) 33 rfl w.heap.size 32 i1 (.slice none 0 0) 1 24 Tryd.underlying33 hi1 hz1 hz2 hz3 rfl (by decide) (V 8) 0 [] (by simp [Act.eval, e26]) (hJ.r8 h8 hb) ⟨g0, 0, none⟩ s.next.length NC vs (by simp [Act.eval, e28]) (by omega) hcell hone hpos (by unfold maxLen; omega) (by omega) hJ.n0le wd.heap.size rfl ?_
          intro g cap w' ho hg hat _
          rw [List.nil_append, Nat.zero_add] at ho
          have hN : NXR w.heap.size w' (.slice (some ⟨g, 0, none⟩) (0 + s.next.length) cap) s.next := by
            rw [Nat.zero_add]
            exact ⟨vs, ho, fun i v xs hv hx => NXR.keepG hg (fun k hk => (own_ty (hJ.r8 h8 hb) k hk).1) (hr2 i v xs hv hx)⟩
          refine hK.out _ _ ⟨upV V 11 _, by rw [ha]; exact (putSel_up (by decide) (by decide) (by decide) hb).symm, hJ.s11 hb h13 h8 hN hg ?_, hV.up 11 _ (by decide) h18⟩
          intro k hk
          simp [Value.ownBlock] at hk
          subst hk
          exact hat
    · intro b a wd hI hb hon hoff
      obtain ⟨V, ha, hJ, hV⟩ := hI
      have h18 := hoff 18 (by kernel_rfl)
      have h19 := hoff 19 (by kernel_rfl)
      have HA := Lib.hid ha
      clear ha
      refine ⟨_, rfl, fun K hK => ?_⟩
      refine value_ (N := some 30) (v := (.slice (some ⟨wd.heap.size, 0, none⟩) 1 1)) (w1 := wd.alloc (.cells #[.slice none 0 0] 32)) (by rfl) rfl (by go_simp) ?_
      exact hK.out _ _ ⟨upV V 12 _, by rw [HA.out]; exact (putSel_up (by decide) (by decide) (by decide) hb).symm, hJ.s12 hb, hV.up 12 _ (by decide) h18⟩
    · intro b a wd hI hb hon hoff
      obtain ⟨V, ha, hJ, hV⟩ := hI
      have h18 := hoff 18 (by kernel_rfl)
      have h19 := hoff 19 (by kernel_rfl)
      have h11 := hon 11 (by kernel_rfl)
      have e29 : a.tmps[29]? = some (V 11) := by rw [ha]; exact slot_of 8 rfl rfl h11 (by rfl)
      have e30 : a.tmps[30]? = some (V 12) := by rw [ha]; exact slot_of 9 rfl rfl (hon 12 (by kernel_rfl)) (by rfl)
      obtain ⟨k, h12, hk0, hk, _, hne⟩ := hJ.r12 (hon 12 (by kernel_rfl)) hb
      rw [h12] at e30
      obtain ⟨vs, hr1, hr2⟩ := hJ.r11 h11 hb
      obtain ⟨i1, hi1, hz1, hz2, hz3⟩ := info_parts listInfo
      have hnl := hgs.len
      refine ⟨_, rfl, fun K hK => ?_⟩
      refine step_append_lies _ rfl (.tmp 29) (.tmp 30) 33 rfl w.heap.size 32 i1 (.slice none 0 0) 1 24 Tryd.underlying33 hi1 hz1 hz2 hz3 rfl (by decide) (V 11) s.next.length vs (by simp [Act.eval, e29]) hr1 ⟨k, 0, none⟩ 1 1 [.slice none 0 0] (by simp [Act.eval, e30]) rfl (World.news_of_block (cs := #[.slice none 0 0]) hk) (by simp [Value.oneCell']) (by omega) (by unfold maxLen; omega) (by omega) hJ.n0le wd.heap.size rfl ?_
      intro g cap w' ho hg _ _
      exact hK.out _ _ ⟨upV V 13 _, by rw [ha]; exact (putSel_up (by decide) (by decide) (by decide) hb).symm, hJ.s13 hb h11 h19 (NXR.snoc hr1 hr2 (IR.nil _ _) hg ho) hg, hV.up 13 _ (by decide) h18⟩
    · intro b a wd hI hb hon hoff
      obtain ⟨V, ha, hJ, hV⟩ := hI
      have h18 := hoff 18 (by kernel_rfl)
      have h19 := hoff 19 (by kernel_rfl)
      have e32 : a.tmps[32]? = some (.int .i64 s.sets.length) := by rw [ha]; exact off_of (by rfl) (by rfl)
      have HA := Lib.hid ha
      clear ha
      refine ⟨_, rfl, fun K hK => ?_⟩
      refine value_ (N := some 33) (v := (.slice (some ⟨wd.heap.size, 0, none⟩) 1 1)) (w1 := wd.alloc (.cells #[.int .i64 s.sets.length] 3)) (by rfl) rfl (by go_simp) ?_
      exact hK.out _ _ ⟨upV V 15 _, by rw [HA.out]; exact (putSel_up (by decide) (by decide) (by decide) hb).symm, hJ.s15 hb h19, hV.up 15 _ (by decide) h18⟩
    · intro b a wd hI hb hon hoff
      obtain ⟨V, ha, hJ, hV⟩ := hI
      have h18 := hoff 18 (by kernel_rfl)
      have h19 := hoff 19 (by kernel_rfl)
      have e32 : a.tmps[34]? = some (.int .i64 s.sets.length) := by rw [ha]; exact off_of (by rfl) (by rfl)
      have HA := Lib.hid ha
      clear ha
      refine ⟨_, rfl, fun K hK => ?_⟩
      refine value_ (N := some 35) (v := (.slice (some ⟨wd.heap.size, 0, none⟩) 1 1)) (w1 := wd.alloc (.cells #[.int .i64 s.sets.length] 3)) (by rfl) rfl (by go_simp) ?_
      exact hK.out _ _ ⟨upV V 17 _, by rw [HA.out]; exact (putSel_up (by decide) (by decide) (by decide) hb).symm, hJ.s17 hb h19, hV.up 17 _ (by decide) h18⟩
    · intro b a wd hI hb hon hoff
      obtain ⟨V, ha, hJ, hV⟩ := hI
      have e25 : a.tmps[25]? = some (V 7) := by rw [ha]; exact slot_of 5 rfl rfl (hon 7 (by kernel_rfl)) (by rfl)
      have e31 : a.tmps[31]? = some (V 13) := by rw [ha]; exact slot_of 10 rfl rfl (hon 13 (by kernel_rfl)) (by rfl)
      have e33 : a.tmps[33]? = some (V 15) := by rw [ha]; exact slot_of 11 rfl rfl (hon 15 (by kernel_rfl)) (by rfl)
      have e35 : a.tmps[35]? = some (V 17) := by rw [ha]; exact slot_of 12 rfl rfl (hon 17 (by kernel_rfl)) (by rfl)
      obtain ⟨x7, y7, h7⟩ := own_shape (hJ.r7 (hon 7 (by kernel_rfl)))
      obtain ⟨x13, y13, h13⟩ := (hJ.r13 (hon 13 (by kernel_rfl))).shape
      obtain ⟨x15, y15, h15, _, _⟩ := (hJ.r15 (hon 15 (by kernel_rfl))).form
      obtain ⟨x17, y17, h17, _, _⟩ := (hJ.r17 (hon 17 (by kernel_rfl))).form
      have hagg : (Value.agg #[.slice x7 (s.sets.length + 1) y7, .slice x13 (s.next ++ [[]]).length y13, .slice x15 [(s.sets.length : Int)].length y15, .slice x17 [(s.sets.length : Int)].length y17, .bool false]) = .agg #[V 7, V 13, V 15, V 17, .bool false] := by rw [h7, h13, h15, h17]
      rw [h7] at e25
      rw [h13] at e31
      rw [h15] at e33
      rw [h17] at e35
      have HA := Lib.hid ha; have H7 := Lib.hid h7; have H13 := Lib.hid h13; have H15 := Lib.hid h15; have H17 := Lib.hid h17; have HG := Lib.hid hagg
      clear ha h7 h13 h15 h17 hagg
      refine ⟨_, rfl, fun K hK => ?_⟩
      refine value_ (N := some 36) (v := (.agg #[.slice x7 (s.sets.length + 1) y7, .slice x13 (s.next ++ [[]]).length y13, .slice x15 [(s.sets.length : Int)].length y15, .slice x17 [(s.sets.length : Int)].length y17, .bool false])) (w1 := wd) (by rfl) rfl (by go_simp) ?_
      exact hK.out _ _ ⟨upV V 18 _, by rw [HA.out]; exact (putSel_up (by decide) (by decide) (by decide) hb).symm, hJ.sv 18 _ (by decide), hV.up18 HG.out⟩
    · intro b a wd hI hb hon hoff
      obtain ⟨V, ha, hJ, hV⟩ := hI
      have e4 : a.tmps[4]? = some (.pointer (some ⟨w.heap.size + 1 + 1, 0, none⟩)) := by rw [ha]; exact off_of (by rfl) (by rfl)
      have e36 : a.tmps[36]? = some (.agg #[V 7, V 13, V 15, V 17, .bool false]) := by rw [ha]; exact (slot_of 13 rfl rfl (hon 18 (by kernel_rfl)) (by rfl)).trans (congrArg some (hV.v18 (hon 18 (by kernel_rfl))))
      obtain ⟨x7, y7, h7⟩ := own_shape (hJ.r7 (hon 7 (by kernel_rfl)))
      obtain ⟨x13, y13, h13⟩ := (hJ.r13 (hon 13 (by kernel_rfl))).shape
      obtain ⟨x15, y15, h15, _, _⟩ := (hJ.r15 (hon 15 (by kernel_rfl))).form
      obtain ⟨x17, y17, h17, _, _⟩ := (hJ.r17 (hon 17 (by kernel_rfl))).form
      have hj := hJ.s19 hb (by omega)
      rw [h7, h13, h15, h17] at e36 hj
      obtain ⟨⟨z0, z1, z2, z3, z4⟩, y0, y1, y2, y3, y4, _⟩ := box5 (hJ.res0 hb)
      have HA := Lib.hid ha; have HJ := Lib.hid hj
      clear ha h7 h13 h15 h17 hj
      refine ⟨_, rfl, fun K hK => ?_⟩
      refine skip_ (w1 := set5 wd (w.heap.size + 1 + 1) (.slice x7 (s.sets.length + 1) y7) (.slice x13 (s.next ++ [[]]).length y13) (.slice x15 [(s.sets.length : Int)].length y15) (.slice x17 [(s.sets.length : Int)].length y17) (.bool false)) (by rfl) rfl (by go_simp) ?_
      exact hK.out _ _ ⟨V, by rw [HA.out]; exact putSel_none.symm, HJ.out, hV.up19⟩
  · intro b a wd hall hI
    obtain ⟨V, ha, hJ, hV⟩ := hI
    have e4 : a.tmps[4]? = some (.pointer (some ⟨w.heap.size + 1 + 1, 0, none⟩)) := by rw [ha]; exact off_of (by rfl) (by rfl)
    have hdf : a.defers = [] := by rw [ha]; exact (putSel_size b _ _).2
    have g7 := hJ.r7 (hall 7 (by kernel_rfl))
    have g13 := hJ.r13 (hall 13 (by kernel_rfl))
    have g15 := hJ.r15 (hall 15 (by kernel_rfl))
    have g17 := hJ.r17 (hall 17 (by kernel_rfl))
    have hbox := hJ.res1 (hall 19 (by kernel_rfl))
    have hbel := hJ.below
    obtain ⟨x7, y7, h7⟩ := own_shape g7
    obtain ⟨x13, y13, h13⟩ := g13.shape
    obtain ⟨x15, y15, h15, _, _⟩ := g15.form
    obtain ⟨x17, y17, h17, _, _⟩ := g17.form
    rw [h7] at g7 hbox
    rw [h13] at g13 hbox
    rw [h15] at g15 hbox
    rw [h17] at g17 hbox
    have hget : a.tmps.getD 4 undef = .pointer (some ⟨w.heap.size + 1 + 1, 0, none⟩) := by rw [Array.getD_eq_getD_getElem?, e4]; rfl
    clear ha hJ hV h7 h13 h15 h17 hall e4
    have G := Lib.hid (And.intro g7 (And.intro g13 (And.intro g15 (And.intro g17 (And.intro hbox (And.intro hbel (And.intro hget hdf)))))))
    clear g7 g13 g15 g17 hbox hbel hget hdf
    go_wp2_with fail
    obtain ⟨g7, g13, g15, g17, hbox, hbel, hget, hdf⟩ := G.out
    refine bodyPost_ret (ret_w rfl _ _ (w.heap.size + 1 + 1) _ _ _ _ _ (0, 0) hget hbox) hdf ?_
    refine ⟨_, rfl, ⟨x7, y7, x13, y13, x15, y15, x17, y17, ?_, ?_, g13.lower (Nat.zero_le _), g15, g17⟩, hbel⟩
    · simp
    · have := ownsRow_lower g7 (Nat.zero_le _)
      simpa using this
end Go.Proofs.YtmcoaopcmjociaaDoor
