/- The reader's atom and piece, where nothing is wrong. The reader's atom at a bracket; its piece. regex.join, where no part is of the joined kind. The reader's cat and alt, where nothing is wrong. The reader's alt, where nothing is wrong. regex.Parse, where nothing is wrong. charset.Has. -/
import Derived.Test.YtmcoaopcmjociaaDoorZt6
import Derived.Defers
import Derived.Recover
namespace Go.Proofs.YtmcoaopcmjociaaDoor
open Go Go.RowKit

theorem bx8 {w : World} {k : Nat} {v0 v1 v2 v3 v4 v5 v6 v7 : Value} {t : TypeId} (h : w.heap[k]? = some (.cells #[v0, v1, v2, v3, v4, v5, v6, v7] t (0, 0))) :
    (w.cell? ⟨k, 0, none⟩ = some v0 ∧ w.cell? ⟨k, 1, none⟩ = some v1 ∧ w.cell? ⟨k, 2, none⟩ = some v2 ∧ w.cell? ⟨k, 3, none⟩ = some v3 ∧ w.cell? ⟨k, 4, none⟩ = some v4 ∧ w.cell? ⟨k, 5, none⟩ = some v5 ∧ w.cell? ⟨k, 6, none⟩ = some v6 ∧ w.cell? ⟨k, 7, none⟩ = some v7) ∧
    w.frozen? ⟨k, 0, none⟩ = false ∧ w.frozen? ⟨k, 1, none⟩ = false ∧ w.frozen? ⟨k, 2, none⟩ = false ∧ w.frozen? ⟨k, 3, none⟩ = false ∧ w.frozen? ⟨k, 4, none⟩ = false ∧ w.frozen? ⟨k, 5, none⟩ = false ∧ w.frozen? ⟨k, 6, none⟩ = false ∧ w.frozen? ⟨k, 7, none⟩ = false ∧ k < w.heap.size :=
  ⟨⟨cell_of h rfl, cell_of h rfl, cell_of h rfl, cell_of h rfl, cell_of h rfl, cell_of h rfl, cell_of h rfl, cell_of h rfl⟩, frozen_of h, frozen_of h, frozen_of h, frozen_of h, frozen_of h, frozen_of h, frozen_of h, frozen_of h, (Array.getElem?_eq_some_iff.1 h).1⟩
abbrev set8 (w : World) (r : Nat) (v0 v1 v2 v3 v4 v5 v6 v7 : Value) : World := (((((((w.setCell ⟨r, 0, none⟩ v0).setCell ⟨r, 1, none⟩ v1).setCell ⟨r, 2, none⟩ v2).setCell ⟨r, 3, none⟩ v3).setCell ⟨r, 4, none⟩ v4).setCell ⟨r, 5, none⟩ v5).setCell ⟨r, 6, none⟩ v6).setCell ⟨r, 7, none⟩ v7
theorem heap_set8 {w : World} {r : Nat} {x0 x1 x2 x3 x4 x5 x6 x7 : Value} {t : TypeId} {m : Nat × Nat} (v0 v1 v2 v3 v4 v5 v6 v7 : Value) (h : w.heap[r]? = some (.cells #[x0, x1, x2, x3, x4, x5, x6, x7] t m)) : (set8 w r v0 v1 v2 v3 v4 v5 v6 v7).heap[r]? = some (.cells #[v0, v1, v2, v3, v4, v5, v6, v7] t m) := by
  have h0 := heap_setCell_same w r 0 v0 h
  simp only [sA, sB, sC] at h0
  have h1 := heap_setCell_same (w.setCell ⟨r, 0, none⟩ v0) r 1 v1 h0
  simp only [sA, sB, sC] at h1
  have h2 := heap_setCell_same ((w.setCell ⟨r, 0, none⟩ v0).setCell ⟨r, 1, none⟩ v1) r 2 v2 h1
  simp only [sA, sB, sC] at h2
  have h3 := heap_setCell_same (((w.setCell ⟨r, 0, none⟩ v0).setCell ⟨r, 1, none⟩ v1).setCell ⟨r, 2, none⟩ v2) r 3 v3 h2
  simp only [sA, sB, sC] at h3
  have h4 := heap_setCell_same ((((w.setCell ⟨r, 0, none⟩ v0).setCell ⟨r, 1, none⟩ v1).setCell ⟨r, 2, none⟩ v2).setCell ⟨r, 3, none⟩ v3) r 4 v4 h3
  simp only [sA, sB, sC] at h4
  have h5 := heap_setCell_same (((((w.setCell ⟨r, 0, none⟩ v0).setCell ⟨r, 1, none⟩ v1).setCell ⟨r, 2, none⟩ v2).setCell ⟨r, 3, none⟩ v3).setCell ⟨r, 4, none⟩ v4) r 5 v5 h4
  simp only [sA, sB, sC] at h5
  have h6 := heap_setCell_same ((((((w.setCell ⟨r, 0, none⟩ v0).setCell ⟨r, 1, none⟩ v1).setCell ⟨r, 2, none⟩ v2).setCell ⟨r, 3, none⟩ v3).setCell ⟨r, 4, none⟩ v4).setCell ⟨r, 5, none⟩ v5) r 6 v6 h5
  simp only [sA, sB, sC] at h6
  have h7 := heap_setCell_same (((((((w.setCell ⟨r, 0, none⟩ v0).setCell ⟨r, 1, none⟩ v1).setCell ⟨r, 2, none⟩ v2).setCell ⟨r, 3, none⟩ v3).setCell ⟨r, 4, none⟩ v4).setCell ⟨r, 5, none⟩ v5).setCell ⟨r, 6, none⟩ v6) r 7 v7 h6
  simp only [sA, sB, sC] at h7
  exact h7
theorem heap_set8_ne (w : World) (r : Nat) (v0 v1 v2 v3 v4 v5 v6 v7 : Value) (k : Nat) (h : k ≠ r) : (set8 w r v0 v1 v2 v3 v4 v5 v6 v7).heap[k]? = w.heap[k]? := by
  have e := fun (w : World) (j : Nat) (v : Value) => Below.heap_setCell w ⟨r, j, none⟩ v k h
  simp only [set8, e]
theorem KR.set8 {B rb : Nat} {w w' : World} (h : KR B rb w w') {r : Nat} (hr : B ≤ r) (v0 v1 v2 v3 v4 v5 v6 v7 : Value) : KR B rb w (set8 w' r v0 v1 v2 v3 v4 v5 v6 v7) :=
  (((((((h.set hr 0 v0).set hr 1 v1).set hr 2 v2).set hr 3 v3).set hr 4 v4).set hr 5 v5).set hr 6 v6).set hr 7 v7
theorem RAt.set8 {w : World} {rb : Nat} {s : ByteArray} {i o : Int} (h : RAt w rb s i o) {r : Nat} (hr : rb ≠ r) (v0 v1 v2 v3 v4 v5 v6 v7 : Value) : RAt (set8 w r v0 v1 v2 v3 v4 v5 v6 v7) rb s i o :=
  (heap_set8_ne w r v0 v1 v2 v3 v4 v5 v6 v7 rb hr).trans h
theorem KidsP.set8 {P : Nat → Prop} {w : World} {d : Nat} {l : List Tree} {A : Option Addr} (h : KidsP P w d l A) {r : Nat} (hr : ∀ k, P k → k ≠ r) (v0 v1 v2 v3 v4 v5 v6 v7 : Value) : KidsP P (set8 w r v0 v1 v2 v3 v4 v5 v6 v7) d l A :=
  h.keep fun k hk _ => heap_set8_ne w r v0 v1 v2 v3 v4 v5 v6 v7 k (hr k hk)
theorem nodeInfo : (Tryd.prog.info? 27).map (·.size) = some 8 := by kernel_rfl
abbrev zero8 : Obj := .cells #[.int .i64 0, .int .u64 0, .int .u64 0, .int .u64 0, .int .u64 0, .slice none 0 0, .int .i64 0, .int .i64 0] 27
/-- A node is handed back out of its box. -/
theorem ret_node {fn : Func} {p : Tmp} (h : fn.results = #[.cell p 27]) (tmps : Array Value) (w : World) (g : Nat) (v0 v1 v2 v3 v4 v5 v6 v7 : Value) (fr : Nat × Nat) (hp : tmps.getD p undef = .pointer (some ⟨g, 0, none⟩)) (hg : w.heap[g]? = some (.cells #[v0, v1, v2, v3, v4, v5, v6, v7] 27 fr)) :
    (results fn tmps).run Tryd.prog w = .ok (.agg #[v0, v1, v2, v3, v4, v5, v6, v7]) w :=
  results_cell_row h tmps w g 27 _ fr _ hp hg Tryd.underlying27 rfl nodeInfo

/-- A method of the reader reads a tree: from a place to another. -/
def Reads (K : Nat) (s : ByteArray) (i : Nat) (o : Int) (T : Tree) (j d : Nat) : Prop := ∀ (rb : Nat) (w : World), RAt w rb s i o →
  Calls Tryd.prog K #[.pointer (some ⟨rb, 0, none⟩)] w fun e w' => ∃ A c, e = .returned (T.val A c) ∧ KidsP (w.heap.size ≤ ·) w' d T.kids A ∧ RAt w' rb s j o ∧ KR w.heap.size rb w w'

/-- The tree of one byte. -/
def oneT (b : Nat) : Tree := .node 1 (byteS b).1 (byteS b).2.1 (byteS b).2.2.1 (byteS b).2.2.2 [] 0 0

set_option maxRecDepth 100000 in
theorem atom_letter (s : ByteArray) (i : Nat) (o : Int) (b d : Nat) (hs : s.size ≤ 1048576) (hi : i < s.size) (hb : peekN s i = b) (h1 : 97 ≤ b) (h2 : b ≤ 122) : Reads 67 s i o (oneT b) (i + 1) (d + 1) := by
  intro rb w h
  have hb0 := (Below.refl w.heap.size w).alloc (Nat.le_refl _) zero8
  have h0 := h.below hb0
  have hz0 := heap_a0 w zero8
  have hp := Lib.hid (peek_any rb s i o _ h0 (by omega) hs)
  rw [hb] at hp
  have hlt := h.lt
  have H0 := Lib.hid h0; have HB0 := Lib.hid hb0; have HZ0 := Lib.hid hz0
  clear h h0 hz0 hb0 hb
  go_enter Tryd.func67, Tryd.ntmps67
  go_wp2_with fail
  refine hp.out.mono ?_
  rintro e w1 ⟨rfl, hB1⟩
  have hr1 := H0.out.below hB1
  have hz1 := heap_aq hB1 HZ0.out
  obtain ⟨r0, r1, r2, f0, f1, f2, hl⟩ := hr1.cells
  have hk1 := KR.of (rb := rb) (HB0.out.trans (hB1.mono HB0.out.size))
  have hr2 := hr1.setI (i + 1)
  have hk2 := hk1.setR 1 (.int .i64 (i + 1))
  have hz2 := (Below.heap_setCell w1 ⟨rb, 1, none⟩ (.int .i64 (i + 1)) w.heap.size (by show w.heap.size ≠ rb; omega)).trans hz1
  have Hof := Lib.hid (of_byte b (w1.setCell ⟨rb, 1, none⟩ (.int .i64 (i + 1))) (by omega))
  have HR2 := Lib.hid hr2; have HK2 := Lib.hid hk2; have HZ2 := Lib.hid hz2
  have hsz : w.heap.size + 1 ≤ w1.heap.size := by have := hB1.size; simpa using this
  clear hr1 hz1 hk1 hr2 hk2 hz2 hB1
  go_wp2_with fail
  refine Hof.out.mono ?_
  rintro e w2 ⟨rfl, hB2⟩
  have hz3 := heap_aq hB2 HZ2.out
  have hr3 := HR2.out.below hB2
  have hk3 := HK2.out.on (by simp; omega) hB2
  obtain ⟨⟨m0, m1, m2, m3, m4, m5, m6, m7⟩, z0, z1, z2, z3, z4, z5, z6, z7, hzl⟩ := bx8 hz3
  have E1 := Lib.hid (heap_set8 (.int .i64 1) (.int .u64 (byteS b).1) (.int .u64 (byteS b).2.1) (.int .u64 (byteS b).2.2.1) (.int .u64 (byteS b).2.2.2) (.slice none 0 0) (.int .i64 0) (.int .i64 0) hz3)
  have E2 := Lib.hid (hr3.set8 (r := w.heap.size) (by omega) (.int .i64 1) (.int .u64 (byteS b).1) (.int .u64 (byteS b).2.1) (.int .u64 (byteS b).2.2.1) (.int .u64 (byteS b).2.2.2) (.slice none 0 0) (.int .i64 0) (.int .i64 0))
  have E3 := Lib.hid (hk3.set8 (r := w.heap.size) (Nat.le_refl _) (.int .i64 1) (.int .u64 (byteS b).1) (.int .u64 (byteS b).2.1) (.int .u64 (byteS b).2.2.1) (.int .u64 (byteS b).2.2.2) (.slice none 0 0) (.int .i64 0) (.int .i64 0))
  clear hz3 hr3 hk3 hB2
  unfold setV
  go_wp2_with fail
  refine bodyPost_ret (ret_node rfl _ _ w.heap.size _ _ _ _ _ _ _ _ (0, 0) rfl E1.out) rfl ?_
  exact ⟨none, 0, rfl, KidsP.nil _ _ _ _, E2.out, E3.out⟩
end Go.Proofs.YtmcoaopcmjociaaDoor

namespace Go.Proofs.YtmcoaopcmjociaaDoor
open Go Go.RowKit

set_option maxRecDepth 100000 in
set_option maxHeartbeats 400000 in
theorem atom_group (s : ByteArray) (i j : Nat) (o : Int) (T : Tree) (d : Nat) (hs : s.size ≤ 1048576) (hi : i < s.size) (hj : j < s.size) (hb : peekN s i = 40) (hb2 : peekN s j = 41) (ho : 0 ≤ o) (ho2 : o ≤ 15)
    (halt : Reads 36 s (i + 1) (o + 1) T j d) : Reads 67 s i o T (j + 1) d := by
  intro rb w h
  have hb0 := (Below.refl w.heap.size w).alloc (Nat.le_refl _) zero8
  have h0 := h.below hb0
  have hz0 := heap_a0 w zero8
  have hp := Lib.hid (peek_any rb s i o _ h0 (by omega) hs)
  rw [hb] at hp
  have hlt := h.lt
  have H0 := Lib.hid h0; have HB0 := Lib.hid hb0; have HZ0 := Lib.hid hz0; have HALT := Lib.hid halt; have HB2 := Lib.hid hb2
  clear h h0 hz0 hb0 hb halt hb2
  go_enter Tryd.func67, Tryd.ntmps67
  go_wp2_with fail
  refine hp.out.mono ?_
  rintro e w1 ⟨rfl, hB1⟩
  have hr1 := H0.out.below hB1
  have hz1 := heap_aq hB1 HZ0.out
  obtain ⟨r0, r1, r2, f0, f1, f2, hl⟩ := hr1.cells
  have hk1 := KR.of (rb := rb) (HB0.out.trans (hB1.mono HB0.out.size))
  have hr2 := (hr1.setO (o + 1)).setI (i + 1)
  have hk2 := (hk1.setR 2 (.int .i64 (o + 1))).setR 1 (.int .i64 (i + 1))
  have hz2 := (Below.heap_setCell (w1.setCell ⟨rb, 2, none⟩ (.int .i64 (o + 1))) ⟨rb, 1, none⟩ (.int .i64 (i + 1)) w.heap.size (by show w.heap.size ≠ rb; omega)).trans ((Below.heap_setCell w1 ⟨rb, 2, none⟩ (.int .i64 (o + 1)) w.heap.size (by show w.heap.size ≠ rb; omega)).trans hz1)
  have Hal := Lib.hid (HALT.out rb _ hr2)
  have HK2 := Lib.hid hk2; have HZ2 := Lib.hid hz2
  have hsz : w.heap.size + 1 ≤ w1.heap.size := by have := hB1.size; simpa using this
  clear hr1 hz1 hk1 hr2 hk2 hz2 hB1
  go_wp2_with fail
  refine Hal.out.mono ?_
  rintro e w3 ⟨A, c, rfl, hT, hr3, hk3⟩
  have hz3 := hk3.keep HZ2.out (by omega)
  have hkk3 := HK2.out.then (by simp; omega) hk3
  have hsz3 : w.heap.size + 1 ≤ w3.heap.size := by have := hk3.size; simp at this; omega
  have hbx := (Below.refl w3.heap.size w3).alloc (Nat.le_refl _) (Obj.cells #[.int .i64 T.kind, .int .u64 T.s0, .int .u64 T.s1, .int .u64 T.s2, .int .u64 T.s3, .slice A T.kids.length c, .int .i64 T.mn, .int .i64 T.mx] 27)
  have hT2 := KidsP.mono (P' := fun k => w.heap.size + 1 ≤ k ∧ k < w3.heap.size) (fun k hk hl => by simp at hk; omega) hT
  have HT := Lib.hid (hT2.below hbx)
  have HBX := Lib.hid (heap_a0 w3 (Obj.cells #[.int .i64 T.kind, .int .u64 T.s0, .int .u64 T.s1, .int .u64 T.s2, .int .u64 T.s3, .slice A T.kids.length c, .int .i64 T.mn, .int .i64 T.mx] 27))
  have HZ3 := Lib.hid (heap_aq hbx hz3)
  have HK3 := Lib.hid (hkk3.on (by omega) hbx)
  have Hn := Lib.hid (need_any rb s j (o + 1) 41 _ (hr3.below hbx) hj hs HB2.out (by omega))
  clear hz3 hkk3 hT hT2 hr3 hk3 hbx
  go_wp2_with fail
  refine Hn.out.mono ?_
  rintro e w4 ⟨rfl, hr4, hk4⟩
  have hb4 := hk4.keep HBX.out (by omega)
  have hz4 := hk4.keep HZ3.out (by omega)
  have hT4 := HT.out.keep (w' := w4) fun k hk hl => hk4.block k hl (by omega)
  have hkk4 := HK3.out.then (by simp; omega) hk4
  have hr5 := hr4.setO o
  have hkk5 := hkk4.setR 2 (.int .i64 o)
  have hb5 := (Below.heap_setCell w4 ⟨rb, 2, none⟩ (.int .i64 o) w3.heap.size (by show w3.heap.size ≠ rb; omega)).trans hb4
  have hz5 := (Below.heap_setCell w4 ⟨rb, 2, none⟩ (.int .i64 o) w.heap.size (by show w.heap.size ≠ rb; omega)).trans hz4
  have hT5 := hT4.keep (w' := w4.setCell ⟨rb, 2, none⟩ (.int .i64 o)) fun k hk _ => Below.heap_setCell w4 ⟨rb, 2, none⟩ (.int .i64 o) k (by show k ≠ rb; omega)
  obtain ⟨q0, q1, q2, f0, f1, f2, hl4⟩ := hr4.cells
  obtain ⟨⟨m0, m1, m2, m3, m4, m5, m6, m7⟩, z0, z1, z2, z3, z4, z5, z6, z7, hzl⟩ := bx8 hz4
  obtain ⟨⟨n0, n1, n2, n3, n4, n5, n6, n7⟩, _⟩ := bx8 hb4
  have E1 := Lib.hid (heap_set8 (.int .i64 T.kind) (.int .u64 T.s0) (.int .u64 T.s1) (.int .u64 T.s2) (.int .u64 T.s3) (.slice A T.kids.length c) (.int .i64 T.mn) (.int .i64 T.mx) hz5)
  have E2 := Lib.hid (hr5.set8 (r := w.heap.size) (by omega) (.int .i64 T.kind) (.int .u64 T.s0) (.int .u64 T.s1) (.int .u64 T.s2) (.int .u64 T.s3) (.slice A T.kids.length c) (.int .i64 T.mn) (.int .i64 T.mx))
  have E3 := Lib.hid (hkk5.set8 (r := w.heap.size) (Nat.le_refl _) (.int .i64 T.kind) (.int .u64 T.s0) (.int .u64 T.s1) (.int .u64 T.s2) (.int .u64 T.s3) (.slice A T.kids.length c) (.int .i64 T.mn) (.int .i64 T.mx))
  have E4 := Lib.hid (hT5.set8 (r := w.heap.size) (fun k hk => by omega) (.int .i64 T.kind) (.int .u64 T.s0) (.int .u64 T.s1) (.int .u64 T.s2) (.int .u64 T.s3) (.slice A T.kids.length c) (.int .i64 T.mn) (.int .i64 T.mx))
  have hne : w.heap.size ≠ rb := by omega
  have hne3 : w3.heap.size ≠ rb := by omega
  clear hb4 hz4 hT4 hkk4 hr5 hkk5 hb5 hz5 hT5 hr4 hk4
  go_wp2_with fail
  refine bodyPost_ret (ret_node rfl _ _ w.heap.size _ _ _ _ _ _ _ _ (0, 0) rfl E1.out) rfl ?_
  exact ⟨A, c, rfl, E4.out.mono fun k hk _ => by omega, E2.out, E3.out⟩

/-- A block's eight cells are a node. -/
theorem node_at {w : World} {g : Nat} {T : Tree} {A : Option Addr} {c : Nat} {m : Nat × Nat} (h : w.heap[g]? = some (.cells #[.int .i64 T.kind, .int .u64 T.s0, .int .u64 T.s1, .int .u64 T.s2, .int .u64 T.s3, .slice A T.kids.length c, .int .i64 T.mn, .int .i64 T.mx] 27 m)) :
    NodeAt w ((⟨g, 0, none⟩ : Addr).add (0 * 8)) T A c := by
  have e : (⟨g, 0, none⟩ : Addr).add (0 * 8) = ⟨g, 0, none⟩ := by rw [addr_add]
  rw [e]
  exact ⟨cell_of h rfl, cell_of h rfl, cell_of h rfl, cell_of h rfl, cell_of h rfl, cell_of h rfl, cell_of h rfl, cell_of h rfl⟩

set_option maxRecDepth 100000 in
set_option maxHeartbeats 400000 in
theorem piece_plain (s : ByteArray) (i j : Nat) (o : Int) (T : Tree) (d : Nat) (hs : s.size ≤ 1048576) (hj : j ≤ s.size) (hb : peekN s j ≠ 42 ∧ peekN s j ≠ 43 ∧ peekN s j ≠ 63 ∧ peekN s j ≠ 123)
    (hat : Reads 67 s i o T j d) : Reads 61 s i o T j d := by
  intro rb w h
  have hb0 := (Below.refl w.heap.size w).alloc (Nat.le_refl _) zero8
  have h0 := h.below hb0
  have hz0 := heap_a0 w zero8
  have hp := Lib.hid (hat rb _ h0)
  have hlt := h.lt
  have HB0 := Lib.hid hb0; have HZ0 := Lib.hid hz0
  clear h h0 hz0 hb0 hat
  go_enter Tryd.func61, Tryd.ntmps61
  go_wp2_with fail
  refine hp.out.mono ?_
  rintro e w3 ⟨A, c, rfl, hT, hr3, hk3⟩
  have hz3 := hk3.keep HZ0.out (by omega)
  have hkk3 := (KR.of (rb := rb) HB0.out).then (by simp) hk3
  have hsz3 : w.heap.size + 1 ≤ w3.heap.size := by have := hk3.size; simp at this; omega
  have hbx := (Below.refl w3.heap.size w3).alloc (Nat.le_refl _) (Obj.cells #[.int .i64 T.kind, .int .u64 T.s0, .int .u64 T.s1, .int .u64 T.s2, .int .u64 T.s3, .slice A T.kids.length c, .int .i64 T.mn, .int .i64 T.mx] 27)
  have hT2 := KidsP.mono (P' := fun k => w.heap.size + 1 ≤ k ∧ k < w3.heap.size) (fun k hk hl => by simp at hk; omega) hT
  have HT := Lib.hid (hT2.below hbx)
  have HBX := Lib.hid (heap_a0 w3 (Obj.cells #[.int .i64 T.kind, .int .u64 T.s0, .int .u64 T.s1, .int .u64 T.s2, .int .u64 T.s3, .slice A T.kids.length c, .int .i64 T.mn, .int .i64 T.mx] 27))
  have HZ3 := Lib.hid (heap_aq hbx hz3)
  have HK3 := Lib.hid (hkk3.on (by omega) hbx)
  have HR3 := Lib.hid (hr3.below hbx)
  have Hn := Lib.hid (peek_any rb s j o _ (hr3.below hbx) (by omega) hs)
  clear hz3 hkk3 hT hT2 hr3 hk3 hbx
  go_wp2_with fail
  refine Hn.out.mono ?_
  rintro e w4 ⟨rfl, hB4⟩
  have hr4 := HR3.out.below hB4
  have hb4 := heap_aq hB4 HBX.out
  have hz4 := heap_aq hB4 HZ3.out
  have hT4 := HT.out.below hB4
  have hkk4 := HK3.out.on (by simp; omega) hB4
  have hsz4 : w3.heap.size + 1 ≤ w4.heap.size := by have := hB4.size; simpa using this
  obtain ⟨q0, q1, q2, f0, f1, f2, hl4⟩ := hr4.cells
  obtain ⟨⟨m0, m1, m2, m3, m4, m5, m6, m7⟩, z0, z1, z2, z3, z4, z5, z6, z7, hzl⟩ := bx8 hz4
  obtain ⟨⟨n0, n1, n2, n3, n4, n5, n6, n7⟩, _⟩ := bx8 hb4
  obtain ⟨p, hpp⟩ : ∃ p, p = peekN s j := ⟨_, rfl⟩
  rw [← hpp] at hb ⊢
  obtain ⟨t1, t2, t3, t4⟩ := hb
  have t1 : (p == 42) = false := by simpa using t1
  have t2 : (p == 43) = false := by simpa using t2
  have t3 : (p == 63) = false := by simpa using t3
  have t4 : (p == 123) = false := by simpa using t4
  have E1 := Lib.hid (heap_set8 (.int .i64 T.kind) (.int .u64 T.s0) (.int .u64 T.s1) (.int .u64 T.s2) (.int .u64 T.s3) (.slice A T.kids.length c) (.int .i64 T.mn) (.int .i64 T.mx) hz4)
  have E2 := Lib.hid (hr4.set8 (r := w.heap.size) (by omega) (.int .i64 T.kind) (.int .u64 T.s0) (.int .u64 T.s1) (.int .u64 T.s2) (.int .u64 T.s3) (.slice A T.kids.length c) (.int .i64 T.mn) (.int .i64 T.mx))
  have E3 := Lib.hid (hkk4.set8 (r := w.heap.size) (Nat.le_refl _) (.int .i64 T.kind) (.int .u64 T.s0) (.int .u64 T.s1) (.int .u64 T.s2) (.int .u64 T.s3) (.slice A T.kids.length c) (.int .i64 T.mn) (.int .i64 T.mx))
  have E4 := Lib.hid (hT4.set8 (r := w.heap.size) (fun k hk => by omega) (.int .i64 T.kind) (.int .u64 T.s0) (.int .u64 T.s1) (.int .u64 T.s2) (.int .u64 T.s3) (.slice A T.kids.length c) (.int .i64 T.mn) (.int .i64 T.mx))
  clear hb4 hz4 hT4 hkk4 hr4 hB4 hpp
  go_wp2_with fail
  refine bodyPost_ret (ret_node rfl _ _ w.heap.size _ _ _ _ _ _ _ _ (0, 0) rfl E1.out) rfl ?_
  exact ⟨A, c, rfl, E4.out.mono fun k hk _ => by omega, E2.out, E3.out⟩

set_option maxRecDepth 100000 in
set_option maxHeartbeats 400000 in
theorem piece_star (s : ByteArray) (i j : Nat) (o : Int) (T : Tree) (d : Nat) (hs : s.size ≤ 1048576) (hj : j < s.size) (hb : peekN s j = 42)
    (hat : Reads 67 s i o T j d) : Reads 61 s i o (.node 4 0 0 0 0 [T] 0 (-1)) (j + 1) (d + 1) := by
  intro rb w h
  have hb0 := (Below.refl w.heap.size w).alloc (Nat.le_refl _) zero8
  have h0 := h.below hb0
  have hz0 := heap_a0 w zero8
  have hp := Lib.hid (hat rb _ h0)
  have hlt := h.lt
  have HB0 := Lib.hid hb0; have HZ0 := Lib.hid hz0
  clear h h0 hz0 hb0 hat
  go_enter Tryd.func61, Tryd.ntmps61
  go_wp2_with fail
  refine hp.out.mono ?_
  rintro e w3 ⟨A, c, rfl, hT, hr3, hk3⟩
  have hz3 := hk3.keep HZ0.out (by omega)
  have hkk3 := (KR.of (rb := rb) HB0.out).then (by simp) hk3
  have hsz3 : w.heap.size + 1 ≤ w3.heap.size := by have := hk3.size; simp at this; omega
  have hbx := (Below.refl w3.heap.size w3).alloc (Nat.le_refl _) (Obj.cells #[.int .i64 T.kind, .int .u64 T.s0, .int .u64 T.s1, .int .u64 T.s2, .int .u64 T.s3, .slice A T.kids.length c, .int .i64 T.mn, .int .i64 T.mx] 27)
  have hT2 := KidsP.mono (P' := fun k => w.heap.size + 1 ≤ k ∧ k < w3.heap.size) (fun k hk hl => by simp at hk; omega) hT
  have HT := Lib.hid (hT2.below hbx)
  have HBX := Lib.hid (heap_a0 w3 (Obj.cells #[.int .i64 T.kind, .int .u64 T.s0, .int .u64 T.s1, .int .u64 T.s2, .int .u64 T.s3, .slice A T.kids.length c, .int .i64 T.mn, .int .i64 T.mx] 27))
  have HZ3 := Lib.hid (heap_aq hbx hz3)
  have HK3 := Lib.hid (hkk3.on (by omega) hbx)
  have HR3 := Lib.hid (hr3.below hbx)
  have Hn := Lib.hid (peek_any rb s j o _ (hr3.below hbx) (by omega) hs)
  clear hz3 hkk3 hT hT2 hr3 hk3 hbx
  go_wp2_with fail
  refine Hn.out.mono ?_
  rw [hb]
  rintro e w4 ⟨rfl, hB4⟩
  have hr4 := HR3.out.below hB4
  have hb4 := heap_aq hB4 HBX.out
  have hz4 := heap_aq hB4 HZ3.out
  have hT4 := HT.out.below hB4
  have hkk4 := HK3.out.on (by simp; omega) hB4
  have hsz4 : w3.heap.size + 1 ≤ w4.heap.size := by have := hB4.size; simpa using this
  obtain ⟨q0, q1, q2, f0, f1, f2, hl4⟩ := hr4.cells
  obtain ⟨⟨m0, m1, m2, m3, m4, m5, m6, m7⟩, z0, z1, z2, z3, z4, z5, z6, z7, hzl⟩ := bx8 hz4
  obtain ⟨⟨n0, n1, n2, n3, n4, n5, n6, n7⟩, _⟩ := bx8 hb4
  have hr5 := hr4.setI (j + 1)
  have hkk5 := hkk4.setR 1 (.int .i64 (j + 1))
  have hb5 := (Below.heap_setCell w4 ⟨rb, 1, none⟩ (.int .i64 (j + 1)) w3.heap.size (by show w3.heap.size ≠ rb; omega)).trans hb4
  have hz5 := (Below.heap_setCell w4 ⟨rb, 1, none⟩ (.int .i64 (j + 1)) w.heap.size (by show w.heap.size ≠ rb; omega)).trans hz4
  have hT5 := hT4.keep (w' := w4.setCell ⟨rb, 1, none⟩ (.int .i64 (j + 1))) fun k hk _ => Below.heap_setCell w4 ⟨rb, 1, none⟩ (.int .i64 (j + 1)) k (by show k ≠ rb; omega)
  have hz6 := heap_set8 (.int .i64 4) (.int .u64 0) (.int .u64 0) (.int .u64 0) (.int .u64 0) (.slice (some ⟨w4.heap.size, 0, none⟩) 1 1) (.int .i64 0) (.int .i64 (-1)) hz5
  have hr6 := hr5.set8 (r := w.heap.size) (by omega) (.int .i64 4) (.int .u64 0) (.int .u64 0) (.int .u64 0) (.int .u64 0) (.slice (some ⟨w4.heap.size, 0, none⟩) 1 1) (.int .i64 0) (.int .i64 (-1))
  have hkk6 := hkk5.set8 (r := w.heap.size) (Nat.le_refl _) (.int .i64 4) (.int .u64 0) (.int .u64 0) (.int .u64 0) (.int .u64 0) (.slice (some ⟨w4.heap.size, 0, none⟩) 1 1) (.int .i64 0) (.int .i64 (-1))
  have hT6 := hT5.set8 (r := w.heap.size) (fun k hk => by omega) (.int .i64 4) (.int .u64 0) (.int .u64 0) (.int .u64 0) (.int .u64 0) (.slice (some ⟨w4.heap.size, 0, none⟩) 1 1) (.int .i64 0) (.int .i64 (-1))
  obtain ⟨w6, hw6⟩ : ∃ w6, w6 = set8 (w4.setCell ⟨rb, 1, none⟩ (.int .i64 (j + 1))) w.heap.size (.int .i64 4) (.int .u64 0) (.int .u64 0) (.int .u64 0) (.int .u64 0) (.slice (some ⟨w4.heap.size, 0, none⟩) 1 1) (.int .i64 0) (.int .i64 (-1)) := ⟨_, rfl⟩
  have hs6 : w6.heap.size = w4.heap.size := by rw [hw6]; simp
  rw [← hw6] at hz6 hr6 hkk6 hT6
  have hal := (Below.refl w6.heap.size w6).alloc (Nat.le_refl _) (Obj.cells #[.int .i64 T.kind, .int .u64 T.s0, .int .u64 T.s1, .int .u64 T.s2, .int .u64 T.s3, .slice A T.kids.length c, .int .i64 T.mn, .int .i64 T.mx] 27)
  have hN := node_at (heap_a0 w6 (Obj.cells #[.int .i64 T.kind, .int .u64 T.s0, .int .u64 T.s1, .int .u64 T.s2, .int .u64 T.s3, .slice A T.kids.length c, .int .i64 T.mn, .int .i64 T.mx] 27))
  have hkid : KidsP (fun k => w.heap.size + 1 ≤ k) (w6.alloc (Obj.cells #[.int .i64 T.kind, .int .u64 T.s0, .int .u64 T.s1, .int .u64 T.s2, .int .u64 T.s3, .slice A T.kids.length c, .int .i64 T.mn, .int .i64 T.mx] 27)) (d + 1) [T] (some ⟨w6.heap.size, 0, none⟩) := by
    refine ⟨by simp, fun i t ht => ?_⟩
    have hi : i = 0 ∧ t = T := by
      cases i with
      | zero => simp at ht; exact ⟨rfl, ht.symm⟩
      | succ i => simp at ht
    obtain ⟨rfl, rfl⟩ := hi
    exact ⟨_, A, c, rfl, by show _ ≤ w6.heap.size; omega, hN, (hT6.below hal).mono fun k hk _ => by omega⟩
  have E1 := heap_a1 (o' := (Obj.cells #[.int .i64 T.kind, .int .u64 T.s0, .int .u64 T.s1, .int .u64 T.s2, .int .u64 T.s3, .slice A T.kids.length c, .int .i64 T.mn, .int .i64 T.mx] 27)) hz6
  have E2 := hr6.below hal
  have E3 := hkk6.alloc (by omega) (Obj.cells #[.int .i64 T.kind, .int .u64 T.s0, .int .u64 T.s1, .int .u64 T.s2, .int .u64 T.s3, .slice A T.kids.length c, .int .i64 T.mn, .int .i64 T.mx] 27)
  have E4 := hkid
  rw [hs6] at E4
  subst hw6
  have E1 := Lib.hid E1; have E2 := Lib.hid E2; have E3 := Lib.hid E3; have E4 := Lib.hid E4
  have hne : w.heap.size ≠ rb := by omega
  have hne3 : w3.heap.size ≠ rb := by omega
  clear hb4 hz4 hT4 hkk4 hr4 hB4 hb hr5 hkk5 hb5 hz5 hT5 hal hz6 hr6 hkk6 hT6 hN hkid hs6
  go_wp2_with fail
  refine bodyPost_ret (ret_node rfl _ _ w.heap.size _ _ _ _ _ _ _ _ (0, 0) rfl E1.out) rfl ?_
  exact ⟨some ⟨w4.heap.size, 0, none⟩, 1, rfl, E4.out.mono fun k hk _ => by omega, E2.out, E3.out⟩
end Go.Proofs.YtmcoaopcmjociaaDoor

namespace Go.Proofs.YtmcoaopcmjociaaDoor
open Go Go.RowKit

/-- What join makes of parts that are not of its kind. -/
def joinT (k : Int) (ts : List Tree) : Tree := match ts with
  | [t] => t
  | _ => .node k 0 0 0 0 ts 0 0
theorem nodeInfo8 : (Tryd.prog.info? 27).map (fun i => (i.zero, i.size, i.bytes)) = some (some (Value.agg #[.int .i64 0, .int .u64 0, .int .u64 0, .int .u64 0, .int .u64 0, .slice none 0 0, .int .i64 0, .int .i64 0]), 8, 80) := by kernel_rfl

set_option maxRecDepth 100000 in
set_option maxHeartbeats 1000000 in
theorem join_any' (k : Int) (P : Nat → Prop) (A : Option Addr) (c : Nat) (ts : List Tree) (d : Nat) (w : World) (h : KidsP P w (d + 1) ts A) (hP : ∀ b, P b → b < w.heap.size) (hk : ∀ t ∈ ts, t.kind ≠ k) (hl : ts.length ≤ 1048576) :
    Calls Tryd.prog 51 #[.int .i64 k, .slice A ts.length c] w fun e w' => ∃ A' c', e = .returned ((joinT k ts).val A' c') ∧ KidsP (fun b => P b ∨ w.heap.size < b) w' (d + 1) (joinT k ts).kids A' ∧ Below w.heap.size w w' := by
  have hb0 := (Below.refl w.heap.size w).alloc (Nat.le_refl _) zero8
  have hz0 := heap_a0 w zero8
  have H := Lib.hid h; have HB0 := Lib.hid hb0; have HZ0 := Lib.hid hz0; have HP := Lib.hid hP; have HK := Lib.hid hk
  clear h hb0 hz0 hP hk
  go_enter Tryd.func51, Tryd.ntmps51
  go_wp2_with fail
  go_loopg [5, 10] ts.length (fun g v i wr => ∃ (j : Nat) (A' : Option Addr) (c' : Nat) (ks : List (Option Addr × Nat)), j + g = ts.length ∧ i = .int .i64 j ∧ v = .slice A' j c' ∧ Hid (NRow (w.heap.size + 1) P wr d A' c' (ts.take j) ks) ∧ Hid (Below w.heap.size w wr) ∧ w.heap.size + 1 ≤ wr.heap.size ∧ Hid (wr.heap[w.heap.size]? = some zero8))
  case atStart => exact ⟨0, none, 0, [], by omega, rfl, rfl, Lib.hid (NRow.nil _ _ _ _), HB0, by simp, HZ0⟩
  case round =>
    obtain ⟨j, A', c', ks, hj, rfl, rfl, HN, HB, hsz, HZ⟩ := hrel
    have hj1 : j ≤ ts.length := by omega
    have Hj := Lib.hid hj; clear hj
    by_cases hlt : j < ts.length
    · obtain ⟨ad, A2, c2, rfl, hp, hn, hkd⟩ := H.out.2 j ts[j] (List.getElem?_eq_getElem hlt)
      obtain ⟨n0, n1, n2, n3, n4, n5, n6, n7⟩ := hn.below HB.out
      have hkd2 := hkd.below HB.out
      have hkind : (ts[j].kind == k) = false := by simpa using HK.out ts[j] (List.getElem_mem hlt)
      have hlen : (ts.take j).length = j := by rw [List.length_take]; omega
      have hown := HN.out.row
      rw [hlen] at hown
      have HKD := Lib.hid hkd2; have Hp := Lib.hid hp; have Hown := Lib.hid hown
      have Hlen := Lib.hid hlen
      obtain ⟨i0, hi0, hz0, hz1, hz2⟩ := info_parts nodeInfo8
      clear hn hkd hkd2 hp hown hlen
      go_wp2_with (at_builtin; refine wpList_append_lies _ rfl (.tmp 22) (.tmp 24) 25 rfl (w.heap.size + 1) 27 i0 (Value.agg #[.int .i64 0, .int .u64 0, .int .u64 0, .int .u64 0, .int .u64 0, .slice none 0 0, .int .i64 0, .int .i64 0]) 8 80 Tryd.underlying25 hi0 hz0 hz1 hz2 rfl (by decide) _ j (nodesC (ts.take j) ks) rfl ((Hown.out.alloc _).alloc _) ⟨wr.heap.size + 1, 0, none⟩ 1 1 [.int .i64 ts[j].kind, .int .u64 ts[j].s0, .int .u64 ts[j].s1, .int .u64 ts[j].s2, .int .u64 ts[j].s3, .slice A2 ts[j].kids.length c2, .int .i64 ts[j].mn, .int .i64 ts[j].mx] rfl rfl (World.news_of_block (cs := #[.int .i64 ts[j].kind, .int .u64 ts[j].s0, .int .u64 ts[j].s1, .int .u64 ts[j].s2, .int .u64 ts[j].s3, .slice A2 ts[j].kids.length c2, .int .i64 ts[j].mn, .int .i64 ts[j].mx]) (t := 27) (fr := (0, 0)) (heap_aB _ _ _)) (by simp [Value.oneCell']) (by omega) (by unfold maxLen; omega) (by omega) (by simp; omega) (wr.heap.size + 2) (by simp) ?_)
      intro g2 cap2 w3 hown3 hgrow3 hat3 hlt3
      have hba := ((Below.refl wr.heap.size wr).alloc (Nat.le_refl _) (Obj.cells #[.int .i64 ts[j].kind, .int .u64 ts[j].s0, .int .u64 ts[j].s1, .int .u64 ts[j].s2, .int .u64 ts[j].s3, .slice A2 ts[j].kids.length c2, .int .i64 ts[j].mn, .int .i64 ts[j].mx] 27)).alloc (by simp) (Obj.cells #[.int .i64 ts[j].kind, .int .u64 ts[j].s0, .int .u64 ts[j].s1, .int .u64 ts[j].s2, .int .u64 ts[j].s3, .slice A2 ts[j].kids.length c2, .int .i64 ts[j].mn, .int .i64 ts[j].mx] 27)
      have hna := HN.out.below hba
      have hadd := hna.add (T := ts[j]) (k := (A2, c2)) (by rw [Hlen.out]; exact hown3) (by rw [Hlen.out]; exact hgrow3) (by rw [Hlen.out]; rcases hat3 with h | h; exact .inl h; exact .inr (by rw [h]; simp)) ((HKD.out.below hba).mono fun b hb _ => ⟨hb, fun a ha => by have := hna.block a ha; have := HP.out b hb; omega⟩)
      have hbw3 : Below w.heap.size w w3 := by
        refine ⟨hgrow3.os.trans (hba.os.trans HB.out.os), hgrow3.tape.trans (hba.tape.trans HB.out.tape), hgrow3.output.trans (hba.output.trans HB.out.output), Nat.le_trans (HB.out.trans (hba.mono HB.out.size)).size hgrow3.size, fun b hb => (hgrow3.block b (by simp; omega) fun e => ?_).trans (((hba.mono HB.out.size).block b hb).trans (HB.out.block b hb))⟩
        have := (Hown.out.lt _ e.symm).1
        omega
      have hz3 : w3.heap[w.heap.size]? = some zero8 := (hgrow3.block _ (by simp; omega) (fun e => by have := (Hown.out.lt _ e.symm).1; omega)).trans (heap_aq hba HZ.out)
      have hsz3 : w.heap.size + 1 ≤ w3.heap.size := by have := hgrow3.size; simp at this; omega
      rw [← Tree.take_snoc ts j hlt] at hadd
      have HA := Lib.hid hadd; have HB3 := Lib.hid hbw3; have HZ3 := Lib.hid hz3
      clear hba hna hadd hbw3 hz3 hown3 hgrow3 hat3 hi0 hz0 hz1 hz2
      go_wp2_with fail
      have hj := Hj.out
      go_roundg (gk - 1)
      case measure => omega
      case rel => exact ⟨j + 1, _, _, _, by omega, by go_num, rfl, HA, HB3, hsz3, HZ3⟩
    · obtain rfl : j = ts.length := by omega
      rw [List.take_length] at HN
      have hz := HZ.out
      obtain ⟨⟨m0, m1, m2, m3, m4, m5, m6, m7⟩, z0, z1, z2, z3, z4, z5, z6, z7, hzl⟩ := bx8 hz
      by_cases h1 : ts.length = 1
      · obtain ⟨t, rfl⟩ : ∃ t, ts = [t] := List.length_eq_one_iff.1 h1
        obtain ⟨q, hq⟩ := HN.out.getk 0 (by simp)
        obtain ⟨g, rfl, hg, hn⟩ := HN.out.node 0 t q rfl hq
        have hkt := HN.out.each 0 t q rfl hq
        obtain ⟨n0, n1, n2, n3, n4, n5, n6, n7⟩ := hn
        simp only [Nat.zero_mul, Nat.zero_add] at n0 n1 n2 n3 n4 n5 n6 n7
        have E1 := Lib.hid (heap_set8 (.int .i64 t.kind) (.int .u64 t.s0) (.int .u64 t.s1) (.int .u64 t.s2) (.int .u64 t.s3) (.slice q.1 t.kids.length q.2) (.int .i64 t.mn) (.int .i64 t.mx) hz)
        have E3 := Lib.hid ((KR.of (rb := w.heap.size) HB.out).set8 (r := w.heap.size) (Nat.le_refl _) (.int .i64 t.kind) (.int .u64 t.s0) (.int .u64 t.s1) (.int .u64 t.s2) (.int .u64 t.s3) (.slice q.1 t.kids.length q.2) (.int .i64 t.mn) (.int .i64 t.mx))
        have E4 := Lib.hid (hkt.set8 (r := w.heap.size) (fun b hb => by have := HP.out b hb.1; omega) (.int .i64 t.kind) (.int .u64 t.s0) (.int .u64 t.s1) (.int .u64 t.s2) (.int .u64 t.s3) (.slice q.1 t.kids.length q.2) (.int .i64 t.mn) (.int .i64 t.mx))
        clear hz hkt hq h1
        simp only [List.length_singleton]
        go_wp2_with fail
        refine bodyPost_ret (ret_node rfl _ _ w.heap.size _ _ _ _ _ _ _ _ (0, 0) rfl E1.out) rfl ?_
        exact ⟨q.1, q.2, rfl, (E4.out.mono fun b hb _ => .inl hb.1).deeper (by omega), E3.out.below (Nat.le_refl _)⟩
      · have h2 : ((ts.length : Int) == 1) = false := by simp; omega
        have hjt : joinT k ts = .node k 0 0 0 0 ts 0 0 := by
          unfold joinT
          split
          · simp at h1
          · rfl
        have hkt := HN.out.kids (by omega)
        have E0 := Lib.hid hjt
        have E1 := Lib.hid (heap_set8 (.int .i64 k) (.int .u64 0) (.int .u64 0) (.int .u64 0) (.int .u64 0) (.slice A' ts.length c') (.int .i64 0) (.int .i64 0) hz)
        have E3 := Lib.hid ((KR.of (rb := w.heap.size) HB.out).set8 (r := w.heap.size) (Nat.le_refl _) (.int .i64 k) (.int .u64 0) (.int .u64 0) (.int .u64 0) (.int .u64 0) (.slice A' ts.length c') (.int .i64 0) (.int .i64 0))
        have E4 := Lib.hid (hkt.set8 (r := w.heap.size) (fun b hb => by rcases hb with hb | hb; omega; have := HP.out b hb; omega) (.int .i64 k) (.int .u64 0) (.int .u64 0) (.int .u64 0) (.int .u64 0) (.slice A' ts.length c') (.int .i64 0) (.int .i64 0))
        clear hz hkt hjt h1
        go_wp2_with fail
        refine bodyPost_ret (ret_node rfl _ _ w.heap.size _ _ _ _ _ _ _ _ (0, 0) rfl E1.out) rfl ?_
        rw [E0.out]
        exact ⟨A', c', rfl, E4.out.mono fun b hb _ => by rcases hb with hb | hb; exact .inr (by omega); exact .inl hb, E3.out.below (Nat.le_refl _)⟩
end Go.Proofs.YtmcoaopcmjociaaDoor

namespace Go.Proofs.YtmcoaopcmjociaaDoor
open Go Go.RowKit

/-- Pieces, one behind the other, up to an end of a cat. -/
inductive Cats (s : ByteArray) (o : Int) (d : Nat) : Nat → List Tree → Nat → Prop
  | nil (i : Nat) : i ≤ s.size → (peekN s i = -1 ∨ peekN s i = 124 ∨ peekN s i = 41) → Cats s o d i [] i
  | cons (i j k : Nat) (T : Tree) (ts : List Tree) : i ≤ s.size → peekN s i ≠ -1 → peekN s i ≠ 124 → peekN s i ≠ 41 → Reads 61 s i o T j d → Cats s o d j ts k → Cats s o d i (T :: ts) k
theorem Cats.le {s : ByteArray} {o : Int} {d i k : Nat} {ts : List Tree} (h : Cats s o d i ts k) : i ≤ s.size := by cases h <;> assumption

set_option maxRecDepth 100000 in
set_option maxHeartbeats 1000000 in
theorem cat_any (s : ByteArray) (i j : Nat) (o : Int) (ts : List Tree) (d : Nat) (hs : s.size ≤ 1048576) (hc : Cats s o d i ts j) (hk : ∀ t ∈ ts, t.kind ≠ 2) (hl : ts.length ≤ 1048576) : Reads 49 s i o (joinT 2 ts) j (d + 1) := by
  intro rb w h
  have hb0 := (Below.refl w.heap.size w).alloc (Nat.le_refl _) zero8
  have hz0 := heap_a0 w zero8
  have hlt := h.lt
  have HR0 := Lib.hid (h.below hb0); have HK0 := Lib.hid (KR.of (rb := rb) hb0); have HZ0 := Lib.hid hz0; have HC := Lib.hid hc; have HKK := Lib.hid hk
  clear h hb0 hz0 hc hk
  go_enter Tryd.func49, Tryd.ntmps49
  go_wp2_with fail
  go_loopg [3] ts.length (fun g v wr => ∃ (ts1 ts2 : List Tree) (i' : Nat) (A : Option Addr) (c : Nat) (ks : List (Option Addr × Nat)), Hid (ts1 ++ ts2 = ts) ∧ Cats s o d i' ts2 j ∧ g = ts2.length ∧ v = .slice A ts1.length c ∧ Hid (NRow (w.heap.size + 1) (fun b => w.heap.size + 1 ≤ b) wr d A c ts1 ks) ∧ Hid (RAt wr rb s i' o) ∧ Hid (KR w.heap.size rb w wr) ∧ w.heap.size + 1 ≤ wr.heap.size ∧ Hid (wr.heap[w.heap.size]? = some zero8))
  case atStart => exact ⟨[], ts, i, none, 0, [], Lib.hid rfl, HC.out, rfl, rfl, Lib.hid (NRow.nil _ _ _ _), HR0, HK0, by simp, HZ0⟩
  case round =>
    obtain ⟨ts1, ts2, i', A, c, ks, HT, hc, rfl, rfl, HN, HR, HK, hsz, HZ⟩ := hrel
    have hi' := hc.le
    have hlen : ts1.length + ts2.length ≤ 1048576 := by rw [← List.length_append, HT.out]; exact hl
    have Hp := Lib.hid (peek_any rb s i' o wr HR.out hi' hs)
    have hrl := HR.out.lt
    cases hc with
    | nil _ _ he =>
      rw [List.append_nil] at HT
      have hT := HT.out
      subst hT
      have hp := Hp.out
      rcases he with he | he | he
      all_goals
        rw [he] at hp
        have Hp2 := Lib.hid hp
        clear he hp Hp
        go_wp2_with fail
        refine Hp2.out.mono ?_
        rintro e w1 ⟨rfl, hB1⟩
        have hn1 := HN.out.below hB1
        have hr1 := HR.out.below hB1
        have hk1 := HK.out.on (by omega) hB1
        have hz1 := heap_aq hB1 HZ.out
        have hsz1 := hB1.size
        have HJ := Lib.hid (join_any' 2 (fun b => w.heap.size + 1 ≤ b ∧ b < w1.heap.size) A c ts1 d w1 ((hn1.kids (by omega)).mono fun b hb hl => ⟨by rcases hb with hb | hb <;> exact hb, hl⟩) (fun b hb => hb.2) HKK.out hl)
        have HR1 := Lib.hid hr1; have HK1 := Lib.hid hk1; have HZ1 := Lib.hid hz1
        clear hn1 hr1 hk1 hz1 hB1
        go_wp2_with fail
        refine HJ.out.mono ?_
        rintro e w2 ⟨A', c', rfl, hT2, hB2⟩
        have hz2 := heap_aq hB2 HZ1.out
        obtain ⟨T, hTT⟩ : ∃ T, T = joinT 2 ts1 := ⟨_, rfl⟩
        rw [← hTT] at hT2 ⊢
        obtain ⟨⟨m0, m1, m2, m3, m4, m5, m6, m7⟩, z0, z1, z2, z3, z4, z5, z6, z7, hzl⟩ := bx8 hz2
        have E1 := Lib.hid (heap_set8 (.int .i64 T.kind) (.int .u64 T.s0) (.int .u64 T.s1) (.int .u64 T.s2) (.int .u64 T.s3) (.slice A' T.kids.length c') (.int .i64 T.mn) (.int .i64 T.mx) hz2)
        have E2 := Lib.hid ((HR1.out.below hB2).set8 (r := w.heap.size) (by omega) (.int .i64 T.kind) (.int .u64 T.s0) (.int .u64 T.s1) (.int .u64 T.s2) (.int .u64 T.s3) (.slice A' T.kids.length c') (.int .i64 T.mn) (.int .i64 T.mx))
        have E3 := Lib.hid ((HK1.out.on (by omega) hB2).set8 (r := w.heap.size) (Nat.le_refl _) (.int .i64 T.kind) (.int .u64 T.s0) (.int .u64 T.s1) (.int .u64 T.s2) (.int .u64 T.s3) (.slice A' T.kids.length c') (.int .i64 T.mn) (.int .i64 T.mx))
        have E4 := Lib.hid (hT2.set8 (r := w.heap.size) (fun b hb => by omega) (.int .i64 T.kind) (.int .u64 T.s0) (.int .u64 T.s1) (.int .u64 T.s2) (.int .u64 T.s3) (.slice A' T.kids.length c') (.int .i64 T.mn) (.int .i64 T.mx))
        have HTT := Lib.hid hTT
        clear hz2 hT2 hB2 hTT
        go_wp2_with fail
        refine bodyPost_ret (ret_node rfl _ _ w.heap.size _ _ _ _ _ _ _ _ (0, 0) rfl E1.out) rfl ?_
        rw [← HTT.out]
        exact ⟨A', c', rfl, E4.out.mono (P' := fun b => w.heap.size ≤ b) fun b hb _ => by rcases hb with hb | hb <;> omega, E2.out, E3.out⟩
    | cons _ j' _ T ts3 _ h1 h2 h3 hrd hrest =>
      obtain ⟨p, hpp⟩ : ∃ p, p = peekN s i' := ⟨_, rfl⟩
      rw [← hpp] at h1 h2 h3 Hp
      have t1 : (p == -1) = false := by simpa using h1
      have t2 : (p == 124) = false := by simpa using h2
      have t3 : (p == 41) = false := by simpa using h3
      have HRD := Lib.hid hrd; have HRest := Lib.hid hrest
      clear h1 h2 h3 hpp hrd hrest
      go_wp2_with fail
      refine Hp.out.mono ?_
      rintro e w1 ⟨rfl, hB1⟩
      have hr1 := HR.out.below hB1
      have hn1 := HN.out.below hB1
      have hk1 := HK.out.on (by omega) hB1
      have hz1 := heap_aq hB1 HZ.out
      have hsz1 := hB1.size
      have HP := Lib.hid (HRD.out rb w1 hr1)
      have HN1 := Lib.hid hn1; have HK1 := Lib.hid hk1; have HZ1 := Lib.hid hz1
      clear hn1 hr1 hk1 hz1 hB1
      go_wp2_with fail
      refine HP.out.mono ?_
      rintro e w2 ⟨A', c', rfl, hT2, hr2, hkr2⟩
      have hsz2 := hkr2.size
      have hn2 := HN1.out.keepR hkr2 (by omega) (fun b hb => by omega)
      have hk2 := HK1.out.then (by omega) hkr2
      have hz2 := hkr2.keep HZ1.out (by omega)
      have hba := (Below.refl w2.heap.size w2).alloc (Nat.le_refl _) (Obj.cells #[.int .i64 T.kind, .int .u64 T.s0, .int .u64 T.s1, .int .u64 T.s2, .int .u64 T.s3, .slice A' T.kids.length c', .int .i64 T.mn, .int .i64 T.mx] 27)
      have hT3 := (hT2.mono (P' := rowP (fun b => w.heap.size + 1 ≤ b) A) fun b hb _ => ⟨by have hb : w1.heap.size ≤ b := hb; omega, fun a ha => by have := (HN1.out.block a ha).2; have hb : w1.heap.size ≤ b := hb; omega⟩).below hba
      have Hown := Lib.hid (hn2.row.alloc (Obj.cells #[.int .i64 T.kind, .int .u64 T.s0, .int .u64 T.s1, .int .u64 T.s2, .int .u64 T.s3, .slice A' T.kids.length c', .int .i64 T.mn, .int .i64 T.mx] 27))
      have HN2 := Lib.hid (hn2.below hba); have HR2 := Lib.hid (hr2.below hba); have HK2 := Lib.hid (hk2.on (by omega) hba); have HZ2 := Lib.hid (heap_aq hba hz2); have HT3 := Lib.hid hT3
      obtain ⟨i0, hi0, hzz0, hzz1, hzz2⟩ := info_parts nodeInfo8
      clear hn2 hk2 hz2 hba hT2 hT3 hr2 hkr2
      go_wp2_with (at_builtin; refine wpList_append_lies _ rfl (.tmp 12) (.tmp 15) 25 rfl (w.heap.size + 1) 27 i0 (Value.agg #[.int .i64 0, .int .u64 0, .int .u64 0, .int .u64 0, .int .u64 0, .slice none 0 0, .int .i64 0, .int .i64 0]) 8 80 Tryd.underlying25 hi0 hzz0 hzz1 hzz2 rfl (by decide) _ ts1.length (nodesC ts1 ks) rfl Hown.out ⟨w2.heap.size, 0, none⟩ 1 1 [.int .i64 T.kind, .int .u64 T.s0, .int .u64 T.s1, .int .u64 T.s2, .int .u64 T.s3, .slice A' T.kids.length c', .int .i64 T.mn, .int .i64 T.mx] rfl rfl (World.news_of_block (cs := #[.int .i64 T.kind, .int .u64 T.s0, .int .u64 T.s1, .int .u64 T.s2, .int .u64 T.s3, .slice A' T.kids.length c', .int .i64 T.mn, .int .i64 T.mx]) (t := 27) (fr := (0, 0)) (heap_a0 _ _)) (by simp [Value.oneCell']) (by omega) (by unfold maxLen; simp only [List.length_cons] at hlen; omega) (by simp only [List.length_cons] at hlen; omega) (by simp; omega) (w2.heap.size + 1) (by simp) ?_)
      intro g2 cap2 w3 hown3 hgrow3 hat3 hlt3
      have hadd := HN2.out.add (T := T) (k := (A', c')) hown3 hgrow3 (by rcases hat3 with h | h; exact .inl h; exact .inr (by rw [h]; simp)) HT3.out
      have hgk : KR (w.heap.size + 1) rb (w2.alloc (Obj.cells #[.int .i64 T.kind, .int .u64 T.s0, .int .u64 T.s1, .int .u64 T.s2, .int .u64 T.s3, .slice A' T.kids.length c', .int .i64 T.mn, .int .i64 T.mx] 27)) w3 :=
        ⟨hgrow3.os, hgrow3.tape, hgrow3.output, hgrow3.size, fun b hb _ => hgrow3.block b (by simp; omega) fun e => by have := (Hown.out.lt _ e.symm).1; omega⟩
      have hr3 : RAt w3 rb s j' o := (hgrow3.block rb (by simp; omega) fun e => by have := (Hown.out.lt _ e.symm).1; omega).trans HR2.out
      have hz3 : w3.heap[w.heap.size]? = some zero8 := (hgk.block _ (by omega) (by omega)).trans HZ2.out
      have hk3 := HK2.out.trans (hgk.mono (Nat.le_succ _))
      have hsz3 := hgrow3.size
      simp at hsz3
      have HA := Lib.hid hadd; have HR3 := Lib.hid hr3; have HZ3 := Lib.hid hz3; have HK3 := Lib.hid hk3
      have HT1 : Hid ((ts1 ++ [T]) ++ ts3 = ts) := by rw [List.append_assoc]; exact HT
      clear hadd hgk hr3 hz3 hk3 hown3 hgrow3 hat3 hi0 hzz0 hzz1 hzz2
      go_wp2_with fail
      go_roundg ts3.length
      case measure => simp
      case rel => exact ⟨ts1 ++ [T], ts3, j', _, cap2, _, HT1, HRest.out, rfl, by simp, HA, HR3, HK3, by omega, HZ3⟩
end Go.Proofs.YtmcoaopcmjociaaDoor

namespace Go.Proofs.YtmcoaopcmjociaaDoor
open Go Go.RowKit

/-- Cats, each behind a bar, up to an end. -/
inductive Bars (s : ByteArray) (o : Int) (d : Nat) : Nat → List Tree → Nat → Prop
  | nil (i : Nat) : i ≤ s.size → peekN s i ≠ 124 → Bars s o d i [] i
  | cons (i j k : Nat) (T : Tree) (ts : List Tree) : i < s.size → peekN s i = 124 → Reads 49 s (i + 1) o T j d → Bars s o d j ts k → Bars s o d i (T :: ts) k
theorem Bars.le {s : ByteArray} {o : Int} {d i k : Nat} {ts : List Tree} (h : Bars s o d i ts k) : i ≤ s.size := by
  cases h
  · assumption
  · omega
/-- A new block that holds one node. -/
theorem NRow.one {B : Nat} {P : Nat → Prop} {w : World} {d g : Nat} {T : Tree} {A' : Option Addr} {c' : Nat} (h : w.heap[g]? = some (.cells #[.int .i64 T.kind, .int .u64 T.s0, .int .u64 T.s1, .int .u64 T.s2, .int .u64 T.s3, .slice A' T.kids.length c', .int .i64 T.mn, .int .i64 T.mx] 27 (0, 0))) (hg : B ≤ g) (hT : KidsP (rowP P (some ⟨g, 0, none⟩)) w d T.kids A') : NRow B P w d (some ⟨g, 0, none⟩) 1 [T] [(A', c')] := by
  refine ⟨rfl, ⟨rfl, .inr ⟨g, 1, _, rfl, hg, h, Nat.le_refl _, by unfold maxLen; omega, rfl, by simp [nodesC, nodeC]⟩⟩, fun i t k h1 h2 => ?_⟩
  cases i with
  | zero => simp at h1 h2; subst h1 h2; exact hT
  | succ i => simp at h1

set_option maxRecDepth 100000 in
set_option maxHeartbeats 1000000 in
theorem alt_any (s : ByteArray) (i m k : Nat) (o : Int) (T0 : Tree) (ts : List Tree) (d : Nat) (hs : s.size ≤ 1048576) (hd : Reads 49 s i o T0 m d) (hc : Bars s o d m ts k) (hk : ∀ t ∈ T0 :: ts, t.kind ≠ 3) (hl : (T0 :: ts).length ≤ 1048576) :
    Reads 36 s i o (joinT 3 (T0 :: ts)) k (d + 1) := by
  intro rb w h
  have hb0 := (Below.refl w.heap.size w).alloc (Nat.le_refl _) zero8
  have hz0 := heap_a0 w zero8
  have hlt := h.lt
  have hp := Lib.hid (hd rb _ (h.below hb0))
  have HK0 := Lib.hid (KR.of (rb := rb) hb0); have HZ0 := Lib.hid hz0; have HC := Lib.hid hc; have HKK := Lib.hid hk
  clear h hb0 hz0 hc hk hd
  go_enter Tryd.func36, Tryd.ntmps36
  go_wp2_with fail
  refine hp.out.mono ?_
  rintro e w1 ⟨A', c', rfl, hT1, hr1, hkr1⟩
  have hsz1 : w.heap.size + 1 ≤ w1.heap.size := by have := hkr1.size; simpa using this
  have hk1 := HK0.out.then (by simp) hkr1
  have hz1 := hkr1.keep HZ0.out (by omega)
  have hba := (Below.refl w1.heap.size w1).alloc (Nat.le_refl _) (Obj.cells #[.int .i64 T0.kind, .int .u64 T0.s0, .int .u64 T0.s1, .int .u64 T0.s2, .int .u64 T0.s3, .slice A' T0.kids.length c', .int .i64 T0.mn, .int .i64 T0.mx] 27)
  have hrow := NRow.one (B := w.heap.size + 1) (P := fun b => w.heap.size + 1 ≤ b) (heap_a0 w1 (Obj.cells #[.int .i64 T0.kind, .int .u64 T0.s0, .int .u64 T0.s1, .int .u64 T0.s2, .int .u64 T0.s3, .slice A' T0.kids.length c', .int .i64 T0.mn, .int .i64 T0.mx] 27)) (by omega) ((hT1.mono (P' := rowP (fun b => w.heap.size + 1 ≤ b) (some ⟨w1.heap.size, 0, none⟩)) fun b hb hl => ⟨by simp at hb; omega, fun a ha => by injection ha with ha; subst ha; show b ≠ w1.heap.size; omega⟩).below hba)
  have HN1 := Lib.hid hrow; have HR1 := Lib.hid (hr1.below hba); have HK1 := Lib.hid (hk1.on (by omega) hba); have HZ1 := Lib.hid (heap_aq hba hz1)
  clear hk1 hz1 hba hrow hT1 hr1 hkr1
  go_wp2_with fail
  go_loopg [3] ts.length (fun g v wr => ∃ (ts1 ts2 : List Tree) (i' : Nat) (A : Option Addr) (c : Nat) (ks : List (Option Addr × Nat)), Hid (ts1 ++ ts2 = T0 :: ts) ∧ 0 < ts1.length ∧ Bars s o d i' ts2 k ∧ g = ts2.length ∧ v = .slice A ts1.length c ∧ Hid (NRow (w.heap.size + 1) (fun b => w.heap.size + 1 ≤ b) wr d A c ts1 ks) ∧ Hid (RAt wr rb s i' o) ∧ Hid (KR w.heap.size rb w wr) ∧ w.heap.size + 1 ≤ wr.heap.size ∧ Hid (wr.heap[w.heap.size]? = some zero8))
  case atStart => exact ⟨[T0], ts, m, _, 1, _, Lib.hid rfl, by simp, HC.out, rfl, rfl, HN1, HR1, HK1, by simp; omega, HZ1⟩
  case round =>
    obtain ⟨ts1, ts2, i', A, c, ks, HT, hpos, hc, rfl, rfl, HN, HR, HK, hsz, HZ⟩ := hrel
    have hi' := hc.le
    have hlen : ts1.length + ts2.length ≤ 1048576 := by rw [← List.length_append, HT.out]; exact hl
    have Hp := Lib.hid (peek_any rb s i' o wr HR.out hi' hs)
    have hrl := HR.out.lt
    clear HN1 HR1 HK1 HZ1 HK0 HZ0 HC hp
    cases hc with
    | nil _ _ he =>
      rw [List.append_nil] at HT
      obtain ⟨p, hpp⟩ : ∃ p, p = peekN s k := ⟨_, rfl⟩
      rw [← hpp] at he Hp
      have t1 : (p == 124) = false := by simpa using he
      clear he hpp
      have hT := HT.out
      rw [← hT] at HKK
      clear hT
      by_cases h1 : ts1.length = 1
      · obtain ⟨t, rfl⟩ : ∃ t, ts1 = [t] := List.length_eq_one_iff.1 h1
        obtain ⟨q, hq⟩ := HN.out.getk 0 (by simp)
        have Hq := Lib.hid hq
        clear h1 hq
        simp only [List.length_singleton]
        go_wp2_with fail
        refine Hp.out.mono ?_
        rintro e w2 ⟨rfl, hB2⟩
        have hn2 := HN.out.below hB2
        have hz2 := heap_aq hB2 HZ.out
        have hk2 := HK.out.on (by omega) hB2
        have hr2 := HR.out.below hB2
        obtain ⟨g, rfl, hg, hn⟩ := hn2.node 0 t q rfl Hq.out
        have hkt := hn2.each 0 t q rfl Hq.out
        obtain ⟨n0, n1, n2, n3, n4, n5, n6, n7⟩ := hn
        simp only [Nat.zero_mul, Nat.zero_add] at n0 n1 n2 n3 n4 n5 n6 n7
        obtain ⟨⟨m0, m1, m2, m3, m4, m5, m6, m7⟩, z0, z1, z2, z3, z4, z5, z6, z7, hzl⟩ := bx8 hz2
        have E1 := Lib.hid (heap_set8 (.int .i64 t.kind) (.int .u64 t.s0) (.int .u64 t.s1) (.int .u64 t.s2) (.int .u64 t.s3) (.slice q.1 t.kids.length q.2) (.int .i64 t.mn) (.int .i64 t.mx) hz2)
        have E2 := Lib.hid (hr2.set8 (r := w.heap.size) (by omega) (.int .i64 t.kind) (.int .u64 t.s0) (.int .u64 t.s1) (.int .u64 t.s2) (.int .u64 t.s3) (.slice q.1 t.kids.length q.2) (.int .i64 t.mn) (.int .i64 t.mx))
        have E3 := Lib.hid (hk2.set8 (r := w.heap.size) (Nat.le_refl _) (.int .i64 t.kind) (.int .u64 t.s0) (.int .u64 t.s1) (.int .u64 t.s2) (.int .u64 t.s3) (.slice q.1 t.kids.length q.2) (.int .i64 t.mn) (.int .i64 t.mx))
        have E4 := Lib.hid (hkt.set8 (r := w.heap.size) (fun b hb => by have := hb.1; omega) (.int .i64 t.kind) (.int .u64 t.s0) (.int .u64 t.s1) (.int .u64 t.s2) (.int .u64 t.s3) (.slice q.1 t.kids.length q.2) (.int .i64 t.mn) (.int .i64 t.mx))
        have HT2 := Lib.hid HT.out.symm
        clear hz2 hkt hn2 hk2 hr2 hB2 HT
        go_wp2_with fail
        refine bodyPost_ret (ret_node rfl _ _ w.heap.size _ _ _ _ _ _ _ _ (0, 0) rfl E1.out) rfl ?_
        rw [HT2.out]
        exact ⟨q.1, q.2, rfl, (E4.out.mono fun b hb _ => by have := hb.1; show w.heap.size ≤ b; omega).deeper (by omega), E2.out, E3.out⟩
      · have h2 : ((ts1.length : Int) == 1) = false := by simp; omega
        clear h1
        go_wp2_with fail
        refine Hp.out.mono ?_
        rintro e w1 ⟨rfl, hB1⟩
        have hn1 := HN.out.below hB1
        have hr1 := HR.out.below hB1
        have hk1 := HK.out.on (by omega) hB1
        have hz1 := heap_aq hB1 HZ.out
        have hsz1 := hB1.size
        have HJ := Lib.hid (join_any' 3 (fun b => w.heap.size + 1 ≤ b ∧ b < w1.heap.size) A c ts1 d w1 ((hn1.kids (by omega)).mono fun b hb hl => ⟨by rcases hb with hb | hb <;> exact hb, hl⟩) (fun b hb => hb.2) HKK.out (by omega))
        have HR1 := Lib.hid hr1; have HK1 := Lib.hid hk1; have HZ1 := Lib.hid hz1
        clear hn1 hr1 hk1 hz1 hB1
        go_wp2_with fail
        refine HJ.out.mono ?_
        rintro e w2 ⟨A', c', rfl, hT2, hB2⟩
        have hz2 := heap_aq hB2 HZ1.out
        have hTT0 := HT.out
        obtain ⟨T, hTT⟩ : ∃ T, T = joinT 3 ts1 := ⟨_, rfl⟩
        rw [← hTT] at hT2 ⊢
        rw [hTT0] at hTT
        obtain ⟨⟨m0, m1, m2, m3, m4, m5, m6, m7⟩, z0, z1, z2, z3, z4, z5, z6, z7, hzl⟩ := bx8 hz2
        have E1 := Lib.hid (heap_set8 (.int .i64 T.kind) (.int .u64 T.s0) (.int .u64 T.s1) (.int .u64 T.s2) (.int .u64 T.s3) (.slice A' T.kids.length c') (.int .i64 T.mn) (.int .i64 T.mx) hz2)
        have E2 := Lib.hid ((HR1.out.below hB2).set8 (r := w.heap.size) (by omega) (.int .i64 T.kind) (.int .u64 T.s0) (.int .u64 T.s1) (.int .u64 T.s2) (.int .u64 T.s3) (.slice A' T.kids.length c') (.int .i64 T.mn) (.int .i64 T.mx))
        have E3 := Lib.hid ((HK1.out.on (by omega) hB2).set8 (r := w.heap.size) (Nat.le_refl _) (.int .i64 T.kind) (.int .u64 T.s0) (.int .u64 T.s1) (.int .u64 T.s2) (.int .u64 T.s3) (.slice A' T.kids.length c') (.int .i64 T.mn) (.int .i64 T.mx))
        have E4 := Lib.hid (hT2.set8 (r := w.heap.size) (fun b hb => by omega) (.int .i64 T.kind) (.int .u64 T.s0) (.int .u64 T.s1) (.int .u64 T.s2) (.int .u64 T.s3) (.slice A' T.kids.length c') (.int .i64 T.mn) (.int .i64 T.mx))
        have HTT := Lib.hid hTT
        clear hz2 hT2 hB2 hTT hTT0 HT
        go_wp2_with fail
        refine bodyPost_ret (ret_node rfl _ _ w.heap.size _ _ _ _ _ _ _ _ (0, 0) rfl E1.out) rfl ?_
        rw [← HTT.out]
        exact ⟨A', c', rfl, E4.out.mono (P' := fun b => w.heap.size ≤ b) fun b hb _ => by rcases hb with hb | hb <;> omega, E2.out, E3.out⟩
    | cons _ j' _ T ts3 hi1 he hrd hrest =>
      have hp := Hp.out
      rw [he] at hp
      have Hp2 := Lib.hid hp
      have HRD := Lib.hid hrd; have HRest := Lib.hid hrest
      clear he hrd hrest hp Hp
      go_wp2_with fail
      refine Hp2.out.mono ?_
      rintro e w1 ⟨rfl, hB1⟩
      have hr1 := HR.out.below hB1
      have hn1 := (HN.out.below hB1).setR (g := rb) (by omega) (fun b hb => by omega) 1 (.int .i64 (i' + 1))
      have hk1 := (HK.out.on (by omega) hB1).setR 1 (.int .i64 (i' + 1))
      have hz1 := (Below.heap_setCell w1 ⟨rb, 1, none⟩ (.int .i64 (i' + 1)) w.heap.size (by show w.heap.size ≠ rb; omega)).trans (heap_aq hB1 HZ.out)
      have hsz1 := hB1.size
      obtain ⟨r0, r1, r2, f0, f1, f2, hrl1⟩ := hr1.cells
      have HP := Lib.hid (HRD.out rb _ (hr1.setI (i' + 1)))
      have HN1 := Lib.hid hn1; have HK1 := Lib.hid hk1; have HZ1 := Lib.hid hz1
      clear hn1 hr1 hk1 hz1 hB1
      go_wp2_with fail
      refine HP.out.mono ?_
      rintro e w2 ⟨A', c', rfl, hT2, hr2, hkr2⟩
      have hsz2 : w1.heap.size ≤ w2.heap.size := by have := hkr2.size; simpa using this
      have hn2 := HN1.out.keepR hkr2 (by omega) (fun b hb => by omega)
      have hk2 := HK1.out.then (by simp; omega) hkr2
      have hz2 := hkr2.keep HZ1.out (by omega)
      have hba := (Below.refl w2.heap.size w2).alloc (Nat.le_refl _) (Obj.cells #[.int .i64 T.kind, .int .u64 T.s0, .int .u64 T.s1, .int .u64 T.s2, .int .u64 T.s3, .slice A' T.kids.length c', .int .i64 T.mn, .int .i64 T.mx] 27)
      have hT3 := (hT2.mono (P' := rowP (fun b => w.heap.size + 1 ≤ b) A) fun b hb _ => by
        simp only [World.size_setCell] at hb
        exact ⟨by omega, fun a ha => by have := (HN.out.block a ha).2; omega⟩).below hba
      have Hown := Lib.hid (hn2.row.alloc (Obj.cells #[.int .i64 T.kind, .int .u64 T.s0, .int .u64 T.s1, .int .u64 T.s2, .int .u64 T.s3, .slice A' T.kids.length c', .int .i64 T.mn, .int .i64 T.mx] 27))
      have HN2 := Lib.hid (hn2.below hba); have HR2 := Lib.hid (hr2.below hba); have HK2 := Lib.hid (hk2.on (by omega) hba); have HZ2 := Lib.hid (heap_aq hba hz2); have HT3 := Lib.hid hT3
      obtain ⟨i0, hi0, hzz0, hzz1, hzz2⟩ := info_parts nodeInfo8
      clear hn2 hk2 hz2 hba hT2 hT3 hr2 hkr2 r0 r1 r2 f0 f1 f2
      go_wp2_with (at_builtin; refine wpList_append_lies _ rfl (.tmp 17) (.tmp 20) 25 rfl (w.heap.size + 1) 27 i0 (Value.agg #[.int .i64 0, .int .u64 0, .int .u64 0, .int .u64 0, .int .u64 0, .slice none 0 0, .int .i64 0, .int .i64 0]) 8 80 Tryd.underlying25 hi0 hzz0 hzz1 hzz2 rfl (by decide) _ ts1.length (nodesC ts1 ks) rfl Hown.out ⟨w2.heap.size, 0, none⟩ 1 1 [.int .i64 T.kind, .int .u64 T.s0, .int .u64 T.s1, .int .u64 T.s2, .int .u64 T.s3, .slice A' T.kids.length c', .int .i64 T.mn, .int .i64 T.mx] rfl rfl (World.news_of_block (cs := #[.int .i64 T.kind, .int .u64 T.s0, .int .u64 T.s1, .int .u64 T.s2, .int .u64 T.s3, .slice A' T.kids.length c', .int .i64 T.mn, .int .i64 T.mx]) (t := 27) (fr := (0, 0)) (heap_a0 _ _)) (by simp [Value.oneCell']) (by omega) (by unfold maxLen; simp only [List.length_cons] at hlen; omega) (by simp only [List.length_cons] at hlen; omega) (by simp; omega) (w2.heap.size + 1) (by simp) ?_)
      intro g2 cap2 w3 hown3 hgrow3 hat3 hlt3
      have hadd := HN2.out.add (T := T) (k := (A', c')) hown3 hgrow3 (by rcases hat3 with h | h; exact .inl h; exact .inr (by rw [h]; simp)) HT3.out
      have hgk : KR (w.heap.size + 1) rb (w2.alloc (Obj.cells #[.int .i64 T.kind, .int .u64 T.s0, .int .u64 T.s1, .int .u64 T.s2, .int .u64 T.s3, .slice A' T.kids.length c', .int .i64 T.mn, .int .i64 T.mx] 27)) w3 :=
        ⟨hgrow3.os, hgrow3.tape, hgrow3.output, hgrow3.size, fun b hb _ => hgrow3.block b (by simp; omega) fun e => by have := (Hown.out.lt _ e.symm).1; omega⟩
      have hr3 : RAt w3 rb s j' o := (hgrow3.block rb (by simp; omega) fun e => by have := (Hown.out.lt _ e.symm).1; omega).trans HR2.out
      have hz3 : w3.heap[w.heap.size]? = some zero8 := (hgk.block _ (by omega) (by omega)).trans HZ2.out
      have hk3 := HK2.out.trans (hgk.mono (Nat.le_succ _))
      have hsz3 := hgrow3.size
      simp at hsz3
      have HA := Lib.hid hadd; have HR3 := Lib.hid hr3; have HZ3 := Lib.hid hz3; have HK3 := Lib.hid hk3
      have HT1 : Hid ((ts1 ++ [T]) ++ ts3 = T0 :: ts) := by rw [List.append_assoc]; exact HT
      clear hadd hgk hr3 hz3 hk3 hown3 hgrow3 hat3 hi0 hzz0 hzz1 hzz2
      go_wp2_with fail
      go_roundg ts3.length
      case measure => simp
      case rel => exact ⟨ts1 ++ [T], ts3, j', _, cap2, _, HT1, by simp, HRest.out, rfl, by simp, HA, HR3, HK3, by omega, HZ3⟩
end Go.Proofs.YtmcoaopcmjociaaDoor

namespace Go.Proofs.YtmcoaopcmjociaaDoor
open Go Go.RowKit

/-- Parse's deferred call, where nothing panics. -/
theorem catch_idle (a b : Value) (w : World) :
    CallsD Tryd.prog 35 #[a, b] .returning w fun e u' w' => e = .returned (.tuple #[]) ∧ u' = .returning ∧ w' = w := by
  refine callsD_of_wpS Tryd.func35 rfl fun c₀ cs hu => ?_
  apply wpS_seq
  apply wpS_region
  simp [wpOpsS, go_sem, recoverD, hu, Tryd.ntmps35, Exit.thenS]
  refine wpS_of_wp ?_
  go_wp2_with fail
  cases c₀
  simp_all [bodyPostS, results, Tryd.results35]

theorem faultInfo : (Tryd.prog.info? 46).map (·.size) = some 2 := by kernel_rfl
theorem ret_parse {fn : Func} {p q : Tmp} (h : fn.results = #[.cell p 27, .cell q 46]) (tmps : Array Value) (w : World) (g k : Nat) (vs us : Array Value) (fr : Nat × Nat) (hp : tmps.getD p undef = .pointer (some ⟨g, 0, none⟩)) (hq : tmps.getD q undef = .pointer (some ⟨k, 0, none⟩))
    (hg : w.heap[g]? = some (.cells vs 27 fr)) (hv : vs.size = 8) (hk : w.heap[k]? = some (.cells us 46 fr)) (hu : us.size = 2) :
    (results fn tmps).run Tryd.prog w = .ok (.tuple #[.agg vs, .agg us]) w := by
  have hp' : tmps[p]?.getD undef = .pointer (some ⟨g, 0, none⟩) := by simpa using hp
  have hq' : tmps[q]?.getD undef = .pointer (some ⟨k, 0, none⟩) := by simpa using hq
  have h1 := run_loadVar_row (P := Tryd.prog) w g 27 27 vs fr _ hg Tryd.underlying27 rfl (by rw [hv]; exact nodeInfo)
  have h2 := run_loadVar_row (P := Tryd.prog) w k 46 46 us fr _ hk Tryd.underlying46 rfl (by rw [hu]; exact faultInfo)
  simp [results, h, hp', hq', asAddr, h1, h2]

set_option maxRecDepth 100000 in
set_option maxHeartbeats 1000000 in
theorem parse_any (s : ByteArray) (T : Tree) (d : Nat) (w : World) (hs : s.size ≤ 256) (h : Reads 36 s 0 0 T s.size d) :
    Calls Tryd.prog 20 #[.string s] w fun e w' => ∃ A c, e = .returned (.tuple #[T.val A c, .agg #[.int .i64 0, .int .i64 0]]) ∧ KidsIn w' d T.kids A ∧ Below w.heap.size w w' := by
  have hmf : ∀ (fn : Fn) (first cap : Array Value) (w : World), (Instr.makeFunc fn first cap).run Tryd.prog w = .ok (.func fn first cap) w := fun _ _ _ _ => rfl
  have hb3 := (((Below.refl w.heap.size w).alloc (Nat.le_refl _) zero8).alloc (by simp) (Obj.cells #[.int .i64 0, .int .i64 0] 46)).alloc (by simp; omega) (Obj.cells #[.string s, .int .i64 0, .int .i64 0] 72)
  have hz := heap_a1 (o' := Obj.cells #[.string s, .int .i64 0, .int .i64 0] 72) (heap_a1 (o' := Obj.cells #[.int .i64 0, .int .i64 0] 46) (heap_a0 w zero8))
  have hf := heap_a1' w zero8 (Obj.cells #[.int .i64 0, .int .i64 0] 46) (Obj.cells #[.string s, .int .i64 0, .int .i64 0] 72)
  have hr : RAt (((w.alloc zero8).alloc (Obj.cells #[.int .i64 0, .int .i64 0] 46)).alloc (Obj.cells #[.string s, .int .i64 0, .int .i64 0] 72)) (w.heap.size + 1 + 1) s 0 0 := heap_a2 w _ _ _
  have H := Lib.hid (h _ _ hr)
  have HB := Lib.hid hb3; have HZ := Lib.hid hz; have HF := Lib.hid hf
  clear h hb3 hz hf hr
  go_enter_defers Tryd.func20, Tryd.ntmps20
  go_wp2_with fail
  refine H.out.mono ?_
  rintro e w3 ⟨A, c, rfl, hT, hr3, hk3⟩
  have hz3 := hk3.keep HZ.out (by omega)
  have hf3 := hk3.keep HF.out (by omega)
  have hkk3 := (KR.of (rb := w.heap.size + 1 + 1) HB.out).then (by simp; omega) hk3
  obtain ⟨r0, r1, r2, f0, f1, f2, hl⟩ := hr3.cells
  obtain ⟨⟨m0, m1, m2, m3, m4, m5, m6, m7⟩, z0, z1, z2, z3, z4, z5, z6, z7, hzl⟩ := bx8 hz3
  have q0 := cell_of (j := 0) hf3 rfl
  have q1 := cell_of (j := 1) hf3 rfl
  have y0 := frozen_of (j := 0) hf3
  have y1 := frozen_of (j := 1) hf3
  obtain ⟨w4, hw4⟩ : ∃ w4, w4 = set8 (set8 w3 w.heap.size (.int .i64 T.kind) (.int .u64 T.s0) (.int .u64 T.s1) (.int .u64 T.s2) (.int .u64 T.s3) (.slice A T.kids.length c) (.int .i64 T.mn) (.int .i64 T.mx)) w.heap.size (.int .i64 T.kind) (.int .u64 T.s0) (.int .u64 T.s1) (.int .u64 T.s2) (.int .u64 T.s3) (.slice A T.kids.length c) (.int .i64 T.mn) (.int .i64 T.mx) := ⟨_, rfl⟩
  have hz4 := heap_set8 (.int .i64 T.kind) (.int .u64 T.s0) (.int .u64 T.s1) (.int .u64 T.s2) (.int .u64 T.s3) (.slice A T.kids.length c) (.int .i64 T.mn) (.int .i64 T.mx) (heap_set8 (.int .i64 T.kind) (.int .u64 T.s0) (.int .u64 T.s1) (.int .u64 T.s2) (.int .u64 T.s3) (.slice A T.kids.length c) (.int .i64 T.mn) (.int .i64 T.mx) hz3)
  have hf4 := (heap_set8_ne (set8 w3 w.heap.size (.int .i64 T.kind) (.int .u64 T.s0) (.int .u64 T.s1) (.int .u64 T.s2) (.int .u64 T.s3) (.slice A T.kids.length c) (.int .i64 T.mn) (.int .i64 T.mx)) w.heap.size (.int .i64 T.kind) (.int .u64 T.s0) (.int .u64 T.s1) (.int .u64 T.s2) (.int .u64 T.s3) (.slice A T.kids.length c) (.int .i64 T.mn) (.int .i64 T.mx) (w.heap.size + 1) (by omega)).trans ((heap_set8_ne w3 w.heap.size (.int .i64 T.kind) (.int .u64 T.s0) (.int .u64 T.s1) (.int .u64 T.s2) (.int .u64 T.s3) (.slice A T.kids.length c) (.int .i64 T.mn) (.int .i64 T.mx) (w.heap.size + 1) (by omega)).trans hf3)
  have hk4 := (hkk3.set8 (r := w.heap.size) (Nat.le_refl _) (.int .i64 T.kind) (.int .u64 T.s0) (.int .u64 T.s1) (.int .u64 T.s2) (.int .u64 T.s3) (.slice A T.kids.length c) (.int .i64 T.mn) (.int .i64 T.mx)).set8 (r := w.heap.size) (Nat.le_refl _) (.int .i64 T.kind) (.int .u64 T.s0) (.int .u64 T.s1) (.int .u64 T.s2) (.int .u64 T.s3) (.slice A T.kids.length c) (.int .i64 T.mn) (.int .i64 T.mx)
  have hT4 := ((hT.mono (P' := fun b => w.heap.size + 3 ≤ b) fun b hb _ => by simp at hb; omega).set8 (r := w.heap.size) (fun b hb => by omega) (.int .i64 T.kind) (.int .u64 T.s0) (.int .u64 T.s1) (.int .u64 T.s2) (.int .u64 T.s3) (.slice A T.kids.length c) (.int .i64 T.mn) (.int .i64 T.mx)).set8 (r := w.heap.size) (fun b hb => by omega) (.int .i64 T.kind) (.int .u64 T.s0) (.int .u64 T.s1) (.int .u64 T.s2) (.int .u64 T.s3) (.slice A T.kids.length c) (.int .i64 T.mn) (.int .i64 T.mx)
  rw [← hw4] at hz4 hf4 hk4 hT4
  have hz5 := (Below.heap_setCell (w4.setCell ⟨w.heap.size + 1, 0, none⟩ (.int .i64 0)) ⟨w.heap.size + 1, 1, none⟩ (.int .i64 0) w.heap.size (by show w.heap.size ≠ w.heap.size + 1; omega)).trans ((Below.heap_setCell w4 ⟨w.heap.size + 1, 0, none⟩ (.int .i64 0) w.heap.size (by show w.heap.size ≠ w.heap.size + 1; omega)).trans hz4)
  have hf5 := heap_setCell_same (w4.setCell ⟨w.heap.size + 1, 0, none⟩ (.int .i64 0)) (w.heap.size + 1) 1 (.int .i64 0) (heap_setCell_same w4 (w.heap.size + 1) 0 (.int .i64 0) hf4)
  have hk5 := (hk4.set (g := w.heap.size + 1) (by omega) 0 (.int .i64 0)).set (g := w.heap.size + 1) (by omega) 1 (.int .i64 0)
  have hT5 := (hT4.keep (w' := w4.setCell ⟨w.heap.size + 1, 0, none⟩ (.int .i64 0)) fun k hk _ => Below.heap_setCell w4 ⟨w.heap.size + 1, 0, none⟩ (.int .i64 0) k (by show k ≠ w.heap.size + 1; omega)).keep (w' := (w4.setCell ⟨w.heap.size + 1, 0, none⟩ (.int .i64 0)).setCell ⟨w.heap.size + 1, 1, none⟩ (.int .i64 0)) fun k hk _ => Below.heap_setCell (w4.setCell ⟨w.heap.size + 1, 0, none⟩ (.int .i64 0)) ⟨w.heap.size + 1, 1, none⟩ (.int .i64 0) k (by show k ≠ w.heap.size + 1; omega)
  subst hw4
  have HZ5 := Lib.hid hz5; have HF5 := Lib.hid hf5; have HK5 := Lib.hid hk5; have HT5 := Lib.hid hT5.in
  clear hz3 hf3 hkk3 hr3 hk3 hT hz4 hf4 hk4 hT4 hz5 hf5 hk5 hT5
  go_wp2_with fail
  refine leaves_cons (f := 35) (args := #[.pointer (some ⟨w.heap.size, 0, none⟩), .pointer (some ⟨w.heap.size + 1, 0, none⟩)]) (by simp) (by simp [go_sem]) ?_
  refine (catch_idle _ _ _).mono ?_
  rintro e u' w'' ⟨rfl, rfl, rfl⟩
  refine ⟨_, ret_parse rfl _ _ w.heap.size (w.heap.size + 1) _ _ (0, 0) rfl rfl HZ5.out rfl HF5.out rfl, A, c, rfl, HT5.out, HK5.out.below (by omega)⟩
end Go.Proofs.YtmcoaopcmjociaaDoor

namespace Go.Proofs.YtmcoaopcmjociaaDoor
open Go Go.RowKit

/-- The word of a set in which a byte lies. -/
def wordS (s : S4) (q : Nat) : Int := match q with
  | 0 => s.1
  | 1 => s.2.1
  | 2 => s.2.2.1
  | _ => s.2.2.2
/-- Is a byte in a set? -/
def hasB (s : S4) (b : Nat) : Bool := bits BinOp.and IntKind.u64 (wordS s (b / 64) / 2 ^ (b % 64)) 1 == 1

set_option maxRecDepth 100000 in
theorem has_any (s : S4) (b : Nat) (w : World) (hb : b < 256) :
    Calls Tryd.prog 29 #[setV s, .int .u8 b] w fun e w' => e = .returned (.bool (hasB s b)) ∧ Below w.heap.size w w' := by
  obtain ⟨s0, s1, s2, s3⟩ := s
  unfold setV
  simp only
  have hz0 := heap_a0 w (Obj.cells #[.int .u64 s0, .int .u64 s1, .int .u64 s2, .int .u64 s3] 24)
  obtain ⟨⟨c0, c1, c2, c3⟩, _⟩ := box4 hz0
  clear hz0
  rcases (show b / 64 = 0 ∨ b / 64 = 1 ∨ b / 64 = 2 ∨ b / 64 = 3 by omega) with h | h | h | h
  · have h1 : (b : Int) / 64 = 0 := by omega
    have HE := Lib.hid (show hasB (s0, s1, s2, s3) b = (bits BinOp.and IntKind.u64 (s0 / 2 ^ (b % 64)) 1 == 1) by simp [hasB, wordS, h])
    clear h
    go_enter Tryd.func29, Tryd.ntmps29
    go_wp2_with fail
    go_ret
    exact ⟨by rw [HE.out]; rfl, (Below.refl _ _).alloc (Nat.le_refl _) _⟩
  · have h1 : (b : Int) / 64 = 1 := by omega
    have HE := Lib.hid (show hasB (s0, s1, s2, s3) b = (bits BinOp.and IntKind.u64 (s1 / 2 ^ (b % 64)) 1 == 1) by simp [hasB, wordS, h])
    clear h
    go_enter Tryd.func29, Tryd.ntmps29
    go_wp2_with fail
    go_ret
    exact ⟨by rw [HE.out]; rfl, (Below.refl _ _).alloc (Nat.le_refl _) _⟩
  · have h1 : (b : Int) / 64 = 2 := by omega
    have HE := Lib.hid (show hasB (s0, s1, s2, s3) b = (bits BinOp.and IntKind.u64 (s2 / 2 ^ (b % 64)) 1 == 1) by simp [hasB, wordS, h])
    clear h
    go_enter Tryd.func29, Tryd.ntmps29
    go_wp2_with fail
    go_ret
    exact ⟨by rw [HE.out]; rfl, (Below.refl _ _).alloc (Nat.le_refl _) _⟩
  · have h1 : (b : Int) / 64 = 3 := by omega
    have HE := Lib.hid (show hasB (s0, s1, s2, s3) b = (bits BinOp.and IntKind.u64 (s3 / 2 ^ (b % 64)) 1 == 1) by simp [hasB, wordS, h])
    clear h
    go_enter Tryd.func29, Tryd.ntmps29
    go_wp2_with fail
    go_ret
    exact ⟨by rw [HE.out]; rfl, (Below.refl _ _).alloc (Nat.le_refl _) _⟩
end Go.Proofs.YtmcoaopcmjociaaDoor
