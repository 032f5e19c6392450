/- slices.Grow, slices.Concat of two, and spots.merge: the numbers of two slices, sorted, each once. -/
import Derived.Test.YtmcoaopcmjociaaDoorZt1
import Derived.Test.YtmcoaopcmjociaaDoorZt2
import Derived.Lib.AppendZerosOnto
import Derived.Lib.AppendZeros
import Derived.LoopN
import Derived.Outline
namespace Go.Proofs.YtmcoaopcmjociaaDoor
open Go Go.RowKit Go.Sort

set_option maxHeartbeats 1000000 in
set_option maxRecDepth 100000 in
theorem grow_any (m : Int) (hm0 : 0 ≤ m) (hm : m ≤ 17592186044416) (w : World) :
    Calls Tryd.prog 62 #[.slice none 0 0, .int .i64 m] w fun e w' => ∃ v, e = .returned v ∧ w'.ownsRow w.heap.size 3 1 v 0 [] ∧ Below w.heap.size w w' := by
  obtain ⟨n, rfl⟩ := Int.eq_ofNat_of_zero_le hm0
  have hn : n ≤ 17592186044416 := by omega
  clear hm hm0
  by_cases h0 : n = 0
  · subst h0
    go_enter Tryd.func62, Tryd.ntmps62
    go_wp2
    go_ret
    exact ⟨_, rfl, World.ownsRow_nil _ _ _ _, Below.refl _ _⟩
  · obtain ⟨i0, hi, hz0, hz1, hz2⟩ := info_parts intInfo
    have h1 : ¬ ((n : Int) < 0) := by omega
    have h4 : (n : Int) > 0 := by omega
    have hrz : ∀ ty, (Builtin.append_ #[32, 3] ty #[.slice none 0 0, .int .i64 (n : Int)]).run Tryd.prog w =
      .ok (.slice (some ⟨w.heap.size, 0, none⟩) n (grownCap w n 0 3)) (w.drew.alloc (.cells (Builtin.zeroCells (Value.cells (.int .i64 0)) n ++ Builtin.zeroCells (Value.cells (.int .i64 0)) (grownCap w n 0 3 - n)) 3)) := fun ty => by
      have h := Lib.run_append_grow_zeros w 32 3 ty 3 i0 (.int .i64 0) .i64 .i64 Tryd.underlying32 Tryd.underlying3 hi hz0 none 0 0 [] (run_firstCells_none w.drew i0.size 0 0 0) n (by omega) (by omega) (by omega) (by omega) (by rw [hz2]; omega) (by rw [hz2]; exact growslice_fits (by omega) (by omega))
      simpa using h
    have hGn : n ≤ grownCap w n 0 3 := grownCap_ge w _ _ _
    have hG63 : grownCap w n 0 3 ≤ maxLen := grownCap_le_maxLen w n 0 3 (by unfold maxLen; omega)
    obtain ⟨G, hG⟩ : ∃ G, G = grownCap w n 0 3 := ⟨_, rfl⟩
    rw [← hG] at hrz hGn hG63
    have HG := Lib.hid hG63
    clear hG hz0 hz1 hz2 hi
    unfold maxLen at hG63
    go_enter Tryd.func62, Tryd.ntmps62
    go_wp2_with (at_builtin; refine Lib.wpList_append_run _ rfl _ _ _ _ rfl _ _ rfl rfl _ _ (hrz _) ?_)
    go_ret
    refine ⟨_, rfl, ?_, ((Below.refl _ _).drew).alloc (Nat.le_refl _) _⟩
    refine ⟨rfl, .inr ⟨w.heap.size, G, _, rfl, Nat.le_refl _, heap_alloc_new w.drew _, Nat.zero_le _, HG.out, ?_, by simp⟩⟩
    simp [Builtin.zeroCells, Value.cells]
    omega

set_option maxHeartbeats 1000000 in
set_option maxRecDepth 100000 in
/-- slices.Concat of two slices. -/
theorem concat_two {S S' : Nat → Prop} (b0 : Nat) (va vb : Value) (xa xb : List Int) (w : World) (h0 : w.cell? ⟨b0, 0, none⟩ = some va) (h1 : w.cell? ⟨b0, 1, none⟩ = some vb) (ha : IR S w va xa) (hb : IR S' w vb xb)
    (hlen : xa.length + xb.length ≤ 17592186044416) :
    Calls Tryd.prog 53 #[.slice (some ⟨b0, 0, none⟩) 2 2] w fun e w' => ∃ v, e = .returned v ∧ w'.ownsRow w.heap.size 3 1 v (xa ++ xb).length (ints (xa ++ xb)) ∧ Below w.heap.size w w' := by
  obtain ⟨A, ca, rfl, hca, hA⟩ := ha.form
  obtain ⟨B, cb, rfl, hcb, hB⟩ := hb.form
  clear hA hB
  have HA := Lib.hid ha; clear ha
  have HB := Lib.hid hb; clear hb
  go_enter Tryd.func53, Tryd.ntmps53
  go_wp2_with fail
  refine wp_loop_rounds 3 ?_
  rw [rounds_succ]
  go_wp2_with fail
  rw [rounds_succ]
  go_wp2_with fail
  rw [rounds_succ]
  go_wp2_with fail
  refine (grow_any _ (by omega) (by omega) _).mono ?_
  rintro e w1 ⟨v, rfl, ho, hb⟩
  have g0 := cell_keep hb h0
  have g1 := cell_keep hb h1
  have H0 : Hid (∀ w2, Below w.heap.size w w2 → w2.cell? ⟨b0, 0, none⟩ = some (.slice A xa.length ca)) := Lib.hid fun w2 h2 => cell_keep h2 h0
  have H1 : Hid (∀ w2, Below w.heap.size w w2 → w2.cell? ⟨b0, 1, none⟩ = some (.slice B xb.length cb)) := Lib.hid fun w2 h2 => cell_keep h2 h1
  have HO := Lib.hid ho; clear ho
  have Hb := Lib.hid hb; clear hb h0 h1
  obtain ⟨n0, hn0⟩ : ∃ n0, n0 = w.heap.size := ⟨_, rfl⟩
  have Hn0 := Lib.hid hn0; clear hn0
  go_wp2_with fail
  refine wp_loop_rounds 3 ?_
  rw [rounds_succ]
  go_wp2_with (at_builtin; refine wpList_append_ints rfl (.tmp 31) (.tmp 32) rfl w.heap.size v [] rfl (by simpa using HO.out) _ xa rfl (HA.out.below Hb.out) (by simp; omega) Hb.out.size ?_)
  intro v2 w2 ho2 hg2
  have hb2 : Below w.heap.size w w2 := Hb.out.grown hg2 Hb.out.size (own_block_ge HO.out)
  have q0 := H0.out w2 hb2
  have q1 := H1.out w2 hb2
  have HO2 := Lib.hid ho2; clear ho2
  have Hb2 := Lib.hid hb2; clear hb2 hg2 g0 g1
  go_wp2_with fail
  rw [rounds_succ]
  go_wp2_with (at_builtin; refine wpList_append_ints rfl (.tmp 31) (.tmp 32) rfl w.heap.size v2 xa rfl HO2.out _ xb rfl (HB.out.below Hb2.out) hlen Hb2.out.size ?_)
  intro v3 w3 ho3 hg3
  have hb3 : Below w.heap.size w w3 := Hb2.out.grown hg3 Hb2.out.size (own_block_ge HO2.out)
  have HO3 := Lib.hid ho3; clear ho3
  have Hb3 := Lib.hid hb3; clear hb3 hg3 q0 q1
  go_wp2_with fail
  rw [rounds_succ]
  go_wp2_with fail
  go_ret
  exact ⟨_, rfl, by simpa using HO3.out, Hb3.out⟩

/-! ### merge -/
theorem ownsRow_lower {w : World} {base base' : Nat} {e : TypeId} {size : Nat} {v : Value} {n : Nat} {xs : List Value} (h : w.ownsRow base e size v n xs) (hb : base' ≤ base) : w.ownsRow base' e size v n xs := by
  obtain ⟨h1, h2⟩ := h
  refine ⟨h1, ?_⟩
  rcases h2 with h2 | ⟨g, cap, cur, rfl, hg, r⟩
  · exact .inl h2
  · exact .inr ⟨g, cap, cur, rfl, Nat.le_trans hb hg, r⟩
theorem compact_len (zs : List Int) : (Lib.compact zs).length ≤ zs.length := by
  unfold Lib.compact Lib.compactUpTo
  rw [List.length_map]
  exact Nat.le_trans (List.length_filter_le _ _) (by simp)
/-- A row of the call's own, in the sort's words. -/
theorem holds_own {w : World} {base g cap : Nat} {xs : List Int} (h : w.ownsRow base 3 1 (.slice (some ⟨g, 0, none⟩) xs.length cap) xs.length (ints xs)) : Holds (Value.int .i64) w g 0 xs.toArray ∧ xs.length ≤ cap ∧ g < w.heap.size ∧ base ≤ g ∧ ∃ cur, w.heap[g]? = some (.cells cur 3 (0, 0)) := by
  refine ⟨fun j hj => ?_, ?_⟩
  · have hj' : j < xs.length := by simpa using hj
    rw [Nat.zero_add]
    refine ⟨?_, h.frozenAt j⟩
    have := h.cells (g := g) rfl j (.int .i64 xs[j]) (by simp [List.getElem?_eq_getElem hj'])
    rw [addr_add, Nat.zero_add] at this
    rw [this]; simp [hj']
  · rcases h.2 with ⟨h1, _⟩ | ⟨g', cap', cur, he, hg, hh, hc, _, _, _⟩
    · cases h1
    · obtain ⟨rfl, rfl⟩ : g = g' ∧ cap = cap' := by
        injection he with h1 h2 h3
        exact ⟨by injection h1 with h1; injection h1, h3⟩
      exact ⟨hc, (Array.getElem?_eq_some_iff.1 hh).1, hg, cur, hh⟩

set_option maxHeartbeats 1000000 in
set_option maxRecDepth 100000 in
theorem merge_any {S S' : Nat → Prop} (va vb : Value) (xa xb : List Int) (w : World) (ha : IR S w va xa) (hb : IR S' w vb xb) (hlen : xa.length + xb.length ≤ 17592186044416) :
    Calls Tryd.prog 38 #[va, vb] w fun e w' => ∃ v, e = .returned v ∧ IRT w' v (mergeL xa xb) ∧ Below w.heap.size w w' := by
  obtain ⟨A, ca, rfl, hca, hA⟩ := ha.form
  obtain ⟨B, cb, rfl, hcb, hB⟩ := hb.form
  clear hA hB
  have HA := Lib.hid ha; clear ha
  have HB := Lib.hid hb; clear hb
  go_enter Tryd.func38, Tryd.ntmps38
  go_wp2_with fail
  have hb0 : Below w.heap.size w (w.alloc (Obj.cells #[.slice A xa.length ca, .slice B xb.length cb] 32)) := (Below.refl _ _).alloc (Nat.le_refl _) _
  refine (concat_two (S := S) (S' := S') w.heap.size (.slice A xa.length ca) (.slice B xb.length cb) xa xb _ (by simp) (by simp) (HA.out.below hb0) (HB.out.below hb0) hlen).mono ?_
  rintro e w1 ⟨v, rfl, ho, hb1⟩
  have ho : w1.ownsRow w.heap.size 3 1 v (xa ++ xb).length (ints (xa ++ xb)) := ownsRow_lower ho (by simp)
  have hB1 : Below w.heap.size w w1 := hb0.trans (hb1.mono (by simp))
  clear hb0 hb1
  have hzl : (xa ++ xb).length ≤ 17592186044416 := by simp; omega
  obtain ⟨zs, hzs⟩ : ∃ zs, zs = xa ++ xb := ⟨_, rfl⟩
  have hm : mergeL xa xb = Lib.compact (zs.mergeSort fun x y => decide (x ≤ y)) := by rw [hzs]; rfl
  rw [← hzs] at ho hzl
  have HM := Lib.hid hm
  clear hm hzs
  by_cases h0 : zs = []
  · subst h0
    obtain ⟨p, cp, rfl⟩ : ∃ p cp, v = .slice p 0 cp := by
      rcases ho.2 with ⟨rfl, _⟩ | ⟨g, cap, cur, rfl, _⟩
      · exact ⟨_, _, rfl⟩
      · exact ⟨_, _, rfl⟩
    have HB1 := Lib.hid hB1
    clear hB1 ho
    go_wp2_with fail
    refine (Tryd.slices_Sort_int_none p cp _).mono ?_
    rintro e w' ⟨rfl, rfl⟩
    go_wp2_with fail
    refine (Tryd.slices_Compact_int_empty p cp _).mono ?_
    rintro e w' ⟨rfl, rfl⟩
    go_wp2_with fail
    go_ret
    refine ⟨_, rfl, ?_, HB1.out⟩
    rw [HM.out]
    exact ⟨p, cp, by simp [Lib.compact, Lib.compactUpTo], by simp [Lib.compact, Lib.compactUpTo], by simp [Lib.compact, Lib.compactUpTo], fun h => absurd (by simp [Lib.compact, Lib.compactUpTo]) h⟩
  · obtain ⟨g, cap, rfl⟩ : ∃ g cap, v = .slice (some ⟨g, 0, none⟩) zs.length cap := by
      rcases ho.2 with ⟨rfl, h⟩ | ⟨g, cap, cur, rfl, _⟩
      · exact absurd (List.length_eq_zero_iff.1 h) h0
      · exact ⟨_, _, rfl⟩
    obtain ⟨hH, hcap, hlt, hge, cur, hcur⟩ := holds_own ho
    have HH := Lib.hid hH
    have HB1 := Lib.hid hB1
    have HC := Lib.hid hcur
    clear hH hB1 hcur ho
    have hn0 : 0 < zs.length := List.length_pos_iff.2 h0
    clear h0
    go_wp2_with fail
    refine (Tryd.slices_Sort_int g 0 cap zs _ HH.out hlt (by omega)).mono ?_
    rintro e w2 ⟨rfl, n, os, hw2⟩
    obtain ⟨ys, hys⟩ : ∃ ys, ys = zs.mergeSort fun x y => decide (x ≤ y) := ⟨_, rfl⟩
    have hyl : ys.length = zs.length := by rw [hys]; exact List.length_mergeSort _
    rw [← hys] at hw2
    have HM2 : Hid (mergeL xa xb = Lib.compact ys) := Lib.hid (by rw [HM.out, hys])
    clear hys
    have hH2 : Holds (Value.int .i64) w2 g 0 ys.toArray := by
      intro j hj
      have h1 := holds_putRow (Value.int .i64) (Sort.ahead w1 n) g 0 zs.toArray ys.toArray HH.out (by simpa using hyl) j hj
      rw [hw2]
      have hg : g < (putRow (Value.int .i64) (Sort.ahead w1 n) g 0 ys.toArray).heap.size := by simp; exact hlt
      have e := heap_grow_old (os := os) hg
      exact ⟨(World.cell?_of_block (a := ⟨g, 0 + j, none⟩) e).trans h1.1, (World.frozen?_of_block (a := ⟨g, 0 + j, none⟩) e).trans h1.2⟩
    have hc2 : w2.heap[g]? = some (.cells (putCells (Value.int .i64) 0 ys.toArray cur) 3 (0, 0)) := by
      rw [hw2, heap_grow_old (by simp; exact hlt)]
      exact heap_putRow_same (w := Sort.ahead w1 n) HC.out
    have hk2 : w2.heap.size ≥ w1.heap.size ∧ ∀ k, k < w1.heap.size → k ≠ g → w2.heap[k]? = w1.heap[k]? := by
      rw [hw2]
      refine ⟨by simp [grow], fun k hk hne => ?_⟩
      rw [heap_grow_old (by simp; exact hk), heap_putRow_other hne]
      rfl
    have htape : w2.os = w1.os ∧ w2.tape = w1.tape ∧ w2.output = w1.output := by rw [hw2]; exact ⟨rfl, rfl, rfl⟩
    have HH2 := Lib.hid hH2
    have HC2 := Lib.hid hc2
    have HK2 := Lib.hid hk2
    have HT2 := Lib.hid htape
    clear hw2 hH2 hc2 hk2 htape
    rw [← hyl]
    have hyl' : ys.length ≤ 17592186044416 := by omega
    have hyc : ys.length ≤ cap := by omega
    have Hyl := Lib.hid hyl
    clear hyl
    go_wp2_with fail
    refine (Tryd.slices_Compact_int g 0 cap ys _ HH2.out (by omega) hyc).mono ?_
    rintro e w3 ⟨rfl, q, hw3⟩
    have HW3 := Lib.hid hw3
    clear hw3
    go_wp2_with fail
    go_ret
    have hw3 := HW3.out
    have hk2 := HK2.out
    have hcl := compact_len ys
    have hc3 : w3.heap[g]? = some (.cells (putCells (Value.int .i64) 0 (Lib.compact ys ++ List.replicate (ys.length - (Lib.compact ys).length) 0).toArray (putCells (Value.int .i64) 0 ys.toArray cur)) 3 (0, 0)) := by
      rw [hw3]; exact heap_putRow_same (w := Sort.ahead w2 q) HC2.out
    refine ⟨_, rfl, ?_, ?_⟩
    · rw [HM2.out]
      refine ⟨_, cap, rfl, by omega, by omega, fun _ => ⟨g, 0, rfl, ⟨_, _, hc3⟩, fun j hj => ?_⟩⟩
      have h1 := holds_putRow (Value.int .i64) (Sort.ahead w2 q) g 0 ys.toArray (Lib.compact ys ++ List.replicate (ys.length - (Lib.compact ys).length) 0).toArray HH2.out (by simp; omega) j (by simp; omega)
      rw [hw3, h1.1]
      congr 2
      rw [getElem!_pos _ _ (by simp; omega)]
      simp [List.getElem_append_left hj, List.getD_eq_getElem?_getD, List.getElem?_eq_getElem hj]
    · have ht := HT2.out
      have hB1 := HB1.out
      refine ⟨?_, ?_, ?_, ?_, fun k hk => ?_⟩
      · rw [hw3]; exact ht.1.trans hB1.os
      · rw [hw3]; exact ht.2.1.trans hB1.tape
      · rw [hw3]; exact ht.2.2.trans hB1.output
      · have : w3.heap.size = w2.heap.size := by rw [hw3]; simp
        have := hB1.size
        omega
      · have hne : k ≠ g := by omega
        have h1 : w3.heap[k]? = w2.heap[k]? := by rw [hw3, heap_putRow_other hne]; rfl
        rw [h1, hk2.2 k (by have := hB1.size; omega) hne, hB1.block k hk]

/-- The same, the slice's shape told. -/
theorem merge_sl {S S' : Nat → Prop} (va vb : Value) (xa xb : List Int) (w : World) (ha : IR S w va xa) (hb : IR S' w vb xb) (hlen : xa.length + xb.length ≤ 17592186044416) :
    Calls Tryd.prog 38 #[va, vb] w fun e w' => ∃ A c, e = .returned (.slice A (mergeL xa xb).length c) ∧ IRT w' (.slice A (mergeL xa xb).length c) (mergeL xa xb) ∧ Below w.heap.size w w' :=
  (merge_any va vb xa xb w ha hb hlen).mono fun e w' ⟨v, he, hv, hb⟩ => by
    obtain ⟨A, c, rfl, _⟩ := hv.form
    exact ⟨A, c, he, hv, hb⟩

end Go.Proofs.YtmcoaopcmjociaaDoor
