/- The reference's in, Join and link. The reference's link. -/
import Derived.Test.YtmcoaopcmjociaaDoorZo13
import Derived.Test.YtmcoaopcmjociaaDoorZo5
namespace Go.Proofs.YtmcoaopcmjociaaDoor
open Go Go.RowKit Go.Sort

/-- Numbers of both below m, rising. -/
def joinL (a b : List Int) : Nat → List Int
  | 0 => []
  | m + 1 => if (m : Int) ∈ a ∨ (m : Int) ∈ b then joinL a b m ++ [(m : Int)] else joinL a b m
theorem mem_joinL (a b : List Int) : ∀ (m : Nat) (x : Int), x ∈ joinL a b m ↔ (0 ≤ x ∧ x < m) ∧ (x ∈ a ∨ x ∈ b)
  | 0, x => by simp [joinL]; omega
  | m + 1, x => by
    have ih := mem_joinL a b m x
    unfold joinL
    split
    · rename_i h
      rw [List.mem_append, ih, List.mem_singleton]
      constructor
      · rintro (⟨h1, h2⟩ | rfl)
        · exact ⟨by omega, h2⟩
        · exact ⟨by omega, h⟩
      · rintro ⟨h1, h2⟩
        by_cases hx : x = m
        · exact .inr hx
        · exact .inl ⟨by omega, h2⟩
    · rename_i h
      rw [ih]
      constructor
      · rintro ⟨h1, h2⟩; exact ⟨by omega, h2⟩
      · rintro ⟨h1, h2⟩
        refine ⟨⟨h1.1, ?_⟩, h2⟩
        have : x ≠ m := by rintro rfl; exact h h2
        omega
theorem joinL_sorted (a b : List Int) : ∀ m : Nat, (joinL a b m).Pairwise (· < ·)
  | 0 => by simp [joinL]
  | m + 1 => by
    have ih := joinL_sorted a b m
    unfold joinL
    split
    · rw [List.pairwise_append]
      refine ⟨ih, by simp, fun x hx y hy => ?_⟩
      rw [List.mem_singleton] at hy
      have := ((mem_joinL a b m x).1 hx).1
      omega
    · exact ih
theorem joinL_len (a b : List Int) : ∀ m : Nat, (joinL a b m).length ≤ m
  | 0 => by simp [joinL]
  | m + 1 => by
    have ih := joinL_len a b m
    unfold joinL
    split
    · simp; omega
    · omega
/-- Lists of numbers below m: both ways to join them come to the same. -/
theorem joinL_merge {m : Nat} {a b : List Int} (ha : Good m a) (hb : Good m b) : joinL a b m = mergeL a b := by
  refine rising_ext (joinL_sorted a b m) (mergeL_sorted a b) fun x => ?_
  rw [mem_joinL, mem_mergeL]
  constructor
  · exact fun h => h.2
  · intro h
    refine ⟨?_, h⟩
    rcases h with h | h
    · exact ha.2 x h
    · exact hb.2 x h

set_option maxRecDepth 100000 in
set_option maxHeartbeats 400000 in
theorem rin_any {S : Nat → Prop} (v : Value) (xs : List Int) (n : Int) (w : World) (h : IR S w v xs) :
    Calls Tryd.prog 58 #[v, .int .i64 n] w fun e w' => e = .returned (.bool (decide (n ∈ xs))) ∧ Below w.heap.size w w' := by
  obtain ⟨A, c, rfl, hc, hcs⟩ := h.form
  have hl := h.len
  have H := Lib.hid h; clear h
  have HC := Lib.hid hcs; clear hcs
  go_enter Tryd.func58, Tryd.ntmps58
  go_wp2
  go_loopg [5] xs.length (fun g i wr => ∃ j : Nat, j + g = xs.length ∧ i = .int .i64 j ∧ Hid (n ∉ xs.take j) ∧ Hid (Below w.heap.size w wr))
  case atStart => exact ⟨0, by omega, rfl, Lib.hid (by simp), Lib.hid (Below.refl _ _)⟩
  case round =>
    obtain ⟨j, hj, rfl, hN, hB⟩ := hrel
    have Hj := Lib.hid hj
    by_cases hlt : j < xs.length
    · obtain ⟨b, off, rfl, hS, hx⟩ := HC.out (by omega)
      have hxj := (cell_keep hB.out (hx j hlt))
      rw [List.getD_eq_getElem?_getD, List.getElem?_eq_getElem hlt, Option.getD_some] at hxj
      have HX := Lib.hid hx; clear hx
      have hlt2 := World.block_lt_of_cell? wr _ hxj
      have hsn := Lib.hid (List.take_append_getElem hlt)
      by_cases hn : xs[j] = n
      · have hmem := Lib.hid (show decide (n ∈ xs) = true by rw [decide_eq_true_eq, ← hn]; exact List.getElem_mem hlt)
        have hnb : (xs[j] == n) = true := by simpa using hn
        clear hn
        go_wp2_with fail
        refine bodyPost_ret (results_tmp rfl _ _ _) rfl ?_
        rw [hmem.out]
        exact ⟨rfl, hB.out⟩
      · have hnb : (xs[j] == n) = false := by simpa using hn
        have Hn := Lib.hid hn
        clear hn
        go_wp2_with fail
        have hj := Hj.out
        go_roundg (gk - 1)
        case measure => omega
        case rel => exact ⟨j + 1, by omega, by go_num, Lib.hid (by rw [← hsn.out, List.mem_append, List.mem_singleton]; exact fun h => h.elim hN.out fun h => Hn.out h.symm), hB⟩
    · obtain rfl : j = xs.length := by omega
      have hmem := Lib.hid (show decide (n ∈ xs) = false by have := hN.out; rw [List.take_length] at this; simpa using this)
      go_wp2_with fail
      refine bodyPost_ret (results_tmp rfl _ _ _) rfl ?_
      rw [hmem.out]
      exact ⟨rfl, hB.out⟩

set_option maxRecDepth 100000 in
set_option maxHeartbeats 1000000 in
theorem join_any {S S' : Nat → Prop} (va vb : Value) (xa xb : List Int) (m : Nat) (w : World) (ha : IR S w va xa) (hb : IR S' w vb xb) (hm : m ≤ 17592186044416) :
    Calls Tryd.prog 44 #[va, vb, .int .i64 m] w fun e w' => ∃ A c, e = .returned (.slice A (joinL xa xb m).length c) ∧ IRT w' (.slice A (joinL xa xb m).length c) (joinL xa xb m) ∧ Below w.heap.size w w' := by
  have HA := Lib.hid ha; have HB := Lib.hid hb
  clear ha hb
  go_enter Tryd.func44, Tryd.ntmps44
  go_wp2
  go_loopg [7, 8] m (fun g v i wr => ∃ j : Nat, j + g = m ∧ i = .int .i64 j ∧ Hid (wr.ownsRow w.heap.size 3 1 v (joinL xa xb j).length (ints (joinL xa xb j))) ∧ Hid (Below w.heap.size w wr))
  case atStart => exact ⟨0, by omega, rfl, Lib.hid ⟨by simp [joinL], .inl ⟨rfl, rfl⟩⟩, Lib.hid (Below.refl _ _)⟩
  case round =>
    obtain ⟨j, hj, rfl, hO, hW⟩ := hrel
    have Hj := Lib.hid hj
    by_cases hlt : j < m
    · have hll := joinL_len xa xb j
      have Hlt := Lib.hid hlt
      go_wp2_with fail
      refine (rin_any va xa j wr (HA.out.below hW.out)).mono ?_
      rintro e w1 ⟨rfl, hb1⟩
      have hW1 := hW.out.trans (hb1.mono hW.out.size)
      have HO1 := Lib.hid (own_keep hO.out fun k hk _ => hb1.block k hk.lt)
      have HW1 := Lib.hid hW1
      clear hb1 hW1
      by_cases hja : (j : Int) ∈ xa
      · have hd : decide ((j : Int) ∈ xa) = true := by simpa using hja
        have hjn : Hid (joinL xa xb (j + 1) = joinL xa xb j ++ [(j : Int)]) := Lib.hid (by show (if _ then _ else _) = _; rw [if_pos (.inl hja)])
        rw [hd]
        clear hja hd
        have hbn := (HW1.out.alloc HW1.out.size (Obj.cells #[.int .i64 (j : Int)] 3))
        have hon := own_keep HO1.out fun k hk _ => ((Below.refl w1.heap.size w1).alloc (Nat.le_refl _) (Obj.cells #[.int .i64 (j : Int)] 3)).block k hk.lt
        have hone := IRT.one (heap_a0 w1 (Obj.cells #[.int .i64 (j : Int)] 3))
        have hlen : (joinL xa xb j).length + [(j : Int)].length ≤ 17592186044416 := by simp; omega
        have HBN := Lib.hid hbn; have HON := Lib.hid hon; have HONE := Lib.hid hone
        clear hbn hon hone
        go_wp2_with (at_builtin; refine wpList_append_ints rfl (.tmp 22) (.tmp 24) rfl w.heap.size u7 (joinL xa xb j) rfl HON.out _ [(j : Int)] rfl HONE.out hlen HBN.out.size ?_)
        intro v3 w3 ho3 hg3
        have hb3 : Below w.heap.size w w3 := HBN.out.grown hg3 HBN.out.size (own_block_ge HON.out)
        have HO3 := Lib.hid ho3; have HB3 := Lib.hid hb3
        clear ho3 hb3 hg3
        go_wp2_with fail
        have hj := Hj.out
        have hlt := Hlt.out
        go_roundg (gk - 1)
        case measure => omega
        case rel => exact ⟨j + 1, by omega, by go_num, Lib.hid (by rw [hjn.out]; simpa [ints] using HO3.out), HB3⟩
      · have hd : decide ((j : Int) ∈ xa) = false := by simpa using hja
        rw [hd]
        have Hja := Lib.hid hja
        clear hja hd
        go_wp2_with fail
        refine (rin_any vb xb j w1 (HB.out.below HW1.out)).mono ?_
        rintro e w2 ⟨rfl, hb2⟩
        have hW2 := HW1.out.trans (hb2.mono HW1.out.size)
        have HO2 := Lib.hid (own_keep HO1.out fun k hk _ => hb2.block k hk.lt)
        have HW2 := Lib.hid hW2
        clear hb2 hW2
        by_cases hjb : (j : Int) ∈ xb
        · have hd : decide ((j : Int) ∈ xb) = true := by simpa using hjb
          have hjn : Hid (joinL xa xb (j + 1) = joinL xa xb j ++ [(j : Int)]) := Lib.hid (by show (if _ then _ else _) = _; rw [if_pos (.inr hjb)])
          rw [hd]
          clear hjb hd
          have hbn := (HW2.out.alloc HW2.out.size (Obj.cells #[.int .i64 (j : Int)] 3))
          have hon := own_keep HO2.out fun k hk _ => ((Below.refl w2.heap.size w2).alloc (Nat.le_refl _) (Obj.cells #[.int .i64 (j : Int)] 3)).block k hk.lt
          have hone := IRT.one (heap_a0 w2 (Obj.cells #[.int .i64 (j : Int)] 3))
          have hlen : (joinL xa xb j).length + [(j : Int)].length ≤ 17592186044416 := by simp; omega
          have HBN := Lib.hid hbn; have HON := Lib.hid hon; have HONE := Lib.hid hone
          clear hbn hon hone
          go_wp2_with (at_builtin; refine wpList_append_ints rfl (.tmp 22) (.tmp 24) rfl w.heap.size u7 (joinL xa xb j) rfl HON.out _ [(j : Int)] rfl HONE.out hlen HBN.out.size ?_)
          intro v3 w3 ho3 hg3
          have hb3 : Below w.heap.size w w3 := HBN.out.grown hg3 HBN.out.size (own_block_ge HON.out)
          have HO3 := Lib.hid ho3; have HB3 := Lib.hid hb3
          clear ho3 hb3 hg3
          go_wp2_with fail
          have hj := Hj.out
          have hlt := Hlt.out
          go_roundg (gk - 1)
          case measure => omega
          case rel => exact ⟨j + 1, by omega, by go_num, Lib.hid (by rw [hjn.out]; simpa [ints] using HO3.out), HB3⟩
        · have hd : decide ((j : Int) ∈ xb) = false := by simpa using hjb
          have hjn : Hid (joinL xa xb (j + 1) = joinL xa xb j) := Lib.hid (by show (if _ then _ else _) = _; rw [if_neg (fun h => h.elim Hja.out hjb)])
          rw [hd]
          clear hjb hd
          go_wp2_with fail
          have hj := Hj.out
          have hlt := Hlt.out
          go_roundg (gk - 1)
          case measure => omega
          case rel => exact ⟨j + 1, by omega, by go_num, Lib.hid (by rw [hjn.out]; exact HO2.out), HW2⟩
    · obtain rfl : j = m := by omega
      go_wp2_with fail
      refine bodyPost_ret (results_tmp rfl _ _ _) rfl ?_
      obtain ⟨A, c, rfl⟩ := own_shape hO.out
      exact ⟨A, c, rfl, IRT.own hO.out (by have := joinL_len xa xb j; omega), hW.out⟩
end Go.Proofs.YtmcoaopcmjociaaDoor

namespace Go.Proofs.YtmcoaopcmjociaaDoor
open Go Go.RowKit Go.Sort

/-- A list of lists that reads, in blocks from B on. -/
def NXR (B : Nat) (w : World) (v : Value) (nx : List (List Int)) : Prop := ∃ vs, w.ownsRow B 32 1 v nx.length vs ∧ (∀ (i : Nat) (v : Value) (xs : List Int), vs[i]? = some v → nx[i]? = some xs → IRT w v xs)
theorem NXR.below {B : Nat} {w w' : World} {v : Value} {nx : List (List Int)} (h : NXR B w v nx) (hb : Below w.heap.size w w') : NXR B w' v nx := by
  obtain ⟨vs, h1, h2⟩ := h
  exact ⟨vs, own_keep h1 fun k hk _ => hb.block k hk.lt, fun i v xs a b => IRT.below (h2 i v xs a b) hb⟩
theorem NXR.lower {B B' : Nat} {w : World} {v : Value} {nx : List (List Int)} (h : NXR B w v nx) (hb : B' ≤ B) : NXR B' w v nx := by
  obtain ⟨vs, h1, h2⟩ := h
  exact ⟨vs, ownsRow_lower h1 hb, h2⟩
theorem NXR.shape {B : Nat} {w : World} {v : Value} {nx : List (List Int)} (h : NXR B w v nx) : ∃ A c, v = .slice A nx.length c := by
  obtain ⟨vs, h1, _⟩ := h
  exact own_shape h1
theorem NXR.nil (B : Nat) (w : World) : NXR B w (.slice none 0 0) [] := ⟨[], ⟨by simp, .inl ⟨rfl, rfl⟩⟩, fun i v xs h => by simp at h⟩
/-- What lies at a place. -/
theorem NXR.get {B : Nat} {w : World} {A : Option Addr} {c : Nat} {nx : List (List Int)} (h : NXR B w (.slice A nx.length c) nx) (i : Nat) (hi : i < nx.length) :
    ∃ b u, A = some ⟨b, 0, none⟩ ∧ w.cell? ⟨b, i, none⟩ = some u ∧ IRT w u nx[i] := by
  obtain ⟨vs, ⟨h1, h2⟩, h3⟩ := h
  have hl : vs.length = nx.length := by simpa using h1
  rcases h2 with ⟨he, h0⟩ | ⟨g, cap, cur, he, hg, hh, hc, hm, hs, ht⟩
  · omega
  · injection he with hA _ _
    subst hA
    have hv : vs[i]? = some vs[i] := List.getElem?_eq_getElem (by omega)
    refine ⟨g, vs[i], rfl, ?_, h3 i _ _ hv (List.getElem?_eq_getElem hi)⟩
    rw [cell_of_row w g i cur _ _ hh, ← hv, ← ht, List.getElem?_take, if_pos (by omega)]
    simp

theorem NXR.keepG {w w' : World} {row : Option Nat} (hg : w.grownBy w' row) (hr : ∀ k, row = some k → Ty w 32 k) {v : Value} {xs : List Int} (h : IRT w v xs) : IRT w' v xs :=
  h.keep ⟨hg.size, fun k hk => grown_ty hg hr hk (by decide)⟩
set_option maxRecDepth 100000 in
/-- A list is appended to a list of lists. -/
theorem wpList_append_list {w : World} {ops : Array Oper} {rest : List Oper} {o : Oper} {a : Act} {Q : Exit → Act → World → Prop} (hgd : o.guard = none) (s x : Operand)
    (ho : o.op = .call { callee := .builtin .append, args := #[s, x], argTypes := #[33, 33] })
    (base : Nat) (v : Value) (nx : List (List Int)) (hs : a.eval s = v) (hN : NXR base w v nx) (k : Nat) (u : Value) (l : List Int) {t : TypeId} (hx : a.eval x = .slice (some ⟨k, 0, none⟩) 1 1) (hk : w.heap[k]? = some (.cells #[u] t (0, 0))) (hu : IRT w u l)
    (n : Nat) (hn : nx.length = n) (h63 : n + 1 ≤ 1048576) (hbase : base ≤ w.heap.size)
    (h : ∀ A c w', NXR base w' (.slice A (n + 1) c) (nx ++ [l]) → w.grownBy w' v.ownBlock → wpList Tryd.prog ops Q rest (a.put o.dst (.slice A (n + 1) c)) w') : wpList Tryd.prog ops Q (o :: rest) a w := by
  subst hn
  obtain ⟨vs, h1, h2⟩ := hN
  obtain ⟨i1, hi1, hz1, hz2, hz3⟩ := info_parts listInfo
  obtain ⟨A, c, rfl, hl, hc⟩ := hu.form
  refine wpList_append_lies _ hgd s x 33 ho base 32 i1 (.slice none 0 0) 1 24 Tryd.underlying33 hi1 hz1 hz2 hz3 rfl (by decide) v nx.length vs hs h1 ⟨k, 0, none⟩ 1 1 [.slice A l.length c] hx rfl (World.news_of_block (cs := #[.slice A l.length c]) hk) (by simp [Value.oneCell']) (by omega) (by unfold maxLen; omega) (by omega) hbase w.heap.size rfl ?_
  intro g cap w' ho' hg' _ _
  have hrow := own_ty h1
  have hlen : (nx ++ [l]).length = nx.length + 1 := by simp
  have hvl : vs.length = nx.length := by simpa using h1.1
  have hfin : NXR base w' (.slice (some ⟨g, 0, none⟩) (nx ++ [l]).length cap) (nx ++ [l]) := by
    rw [NXR]
    refine ⟨vs ++ [.slice A l.length c], by rw [hlen]; exact ho', fun i v xs hv hx => ?_⟩
    by_cases hi : i < nx.length
    · rw [List.getElem?_append_left (by omega)] at hv
      rw [List.getElem?_append_left hi] at hx
      exact NXR.keepG hg' (fun k hk => (hrow k hk).1) (h2 i v xs hv hx)
    · rw [List.getElem?_append_right (by omega)] at hv hx
      rw [hvl] at hv
      by_cases hi0 : i - nx.length = 0
      · rw [hi0] at hv hx
        obtain rfl : Value.slice A l.length c = v := by simpa using hv
        obtain rfl : l = xs := by simpa using hx
        exact NXR.keepG hg' (fun k hk => (hrow k hk).1) hu
      · rw [List.getElem?_eq_none (by simp; omega)] at hv
        cases hv
  rw [hlen] at hfin
  exact h _ cap w' hfin hg'

def linkL (nx : List (List Int)) (a b : List Int) : List (List Int) := nx.mapIdx fun i l => if (i : Int) ∈ a then joinL l b nx.length else l
theorem linkL_len (nx : List (List Int)) (a b : List Int) : (linkL nx a b).length = nx.length := by simp [linkL]
theorem linkL_get (nx : List (List Int)) (a b : List Int) (i : Nat) (h : i < nx.length) : (linkL nx a b).take (i + 1) = (linkL nx a b).take i ++ [if (i : Int) ∈ a then joinL nx[i] b nx.length else nx[i]] := by
  rw [List.take_add_one, List.getElem?_eq_getElem (by rw [linkL_len]; exact h)]
  simp [linkL]

set_option maxRecDepth 100000 in
set_option maxHeartbeats 1000000 in
theorem link_any {S S' : Nat → Prop} {B : Nat} (vn va vb : Value) (nx : List (List Int)) (xa xb : List Int) (w : World) (hn : NXR B w vn nx) (ha : IR S w va xa) (hb : IR S' w vb xb) (hm : nx.length ≤ 1048575) :
    Calls Tryd.prog 43 #[vn, va, vb] w fun e w' => ∃ A c, e = .returned (.slice A (linkL nx xa xb).length c) ∧ NXR w.heap.size w' (.slice A (linkL nx xa xb).length c) (linkL nx xa xb) ∧ Below w.heap.size w w' := by
  have HA := Lib.hid ha; have HB := Lib.hid hb; have HN := Lib.hid hn
  clear ha hb
  obtain ⟨A0, c0, rfl⟩ := hn.shape
  clear hn
  go_enter Tryd.func43, Tryd.ntmps43
  go_wp2
  go_loopg [7, 8] nx.length (fun g v i wr => ∃ (j : Nat) (A : Option Addr) (c : Nat), j + g = nx.length ∧ i = .int .i64 j ∧ v = .slice A j c ∧ Hid (NXR w.heap.size wr (.slice A j c) ((linkL nx xa xb).take j)) ∧ Hid (Below w.heap.size w wr))
  case atStart => exact ⟨0, none, 0, by omega, rfl, rfl, Lib.hid (NXR.nil _ _), Lib.hid (Below.refl _ _)⟩
  case round =>
    obtain ⟨j, A, c, hj, rfl, rfl, hO, hW⟩ := hrel
    have Hj := Lib.hid hj
    by_cases hlt : j < nx.length
    · have Hlt := Lib.hid hlt
      have hget := (HN.out.below hW.out).get j hlt
      obtain ⟨b0, u, rfl, hu, hur⟩ := hget
      obtain ⟨Au, cu, rfl, _, _⟩ := hur.form
      have hsn := Lib.hid (linkL_get nx xa xb j hlt)
      have hll : ((linkL nx xa xb).take j).length = j := by rw [List.length_take, linkL_len]; omega
      have hlt2 := World.block_lt_of_cell? wr _ hu
      have HU := Lib.hid hu; have HUR := Lib.hid hur; have HLL := Lib.hid hll
      clear hu hur hll
      go_wp2_with fail
      refine (rin_any va xa j wr (HA.out.below hW.out)).mono ?_
      rintro e w1 ⟨rfl, hb1⟩
      have hW1 := hW.out.trans (hb1.mono hW.out.size)
      have HO1 := Lib.hid (hO.out.below hb1)
      have HUR1 := Lib.hid (IRT.below HUR.out hb1)
      have hu1 := cell_keep hb1 HU.out
      have hlt3 := World.block_lt_of_cell? w1 _ hu1
      have HW1 := Lib.hid hW1
      clear hb1 hW1
      by_cases hja : (j : Int) ∈ xa
      · have hd : decide ((j : Int) ∈ xa) = true := by simpa using hja
        rw [hd]
        have Hja := Lib.hid hja
        clear hja hd
        go_wp2_with fail
        refine (join_any (.slice Au nx[j].length cu) vb nx[j] xb nx.length w1 HUR1.out (HB.out.below HW1.out) (by omega)).mono ?_
        rintro e w2 ⟨A2, c2, rfl, hj2, hb2⟩
        have hW2 := HW1.out.trans (hb2.mono HW1.out.size)
        have hO2 := HO1.out.below hb2
        have hjn : Hid ((linkL nx xa xb).take (j + 1) = (linkL nx xa xb).take j ++ [joinL nx[j] xb nx.length]) := Lib.hid (by rw [hsn.out, if_pos Hja.out]; rfl)
        have hbn := ((hW2.alloc hW2.size (Obj.cells #[.slice A2 (joinL nx[j] xb nx.length).length c2] 32)))
        have hbx := (Below.refl w2.heap.size w2).alloc (Nat.le_refl _) (Obj.cells #[.slice A2 (joinL nx[j] xb nx.length).length c2] 32)
        have hon := hO2.below hbx
        have hone := heap_a0 w2 (Obj.cells #[.slice A2 (joinL nx[j] xb nx.length).length c2] 32)
        have hux := IRT.below hj2 hbx
        have hlen : j + 1 ≤ 1048576 := by omega
        have HBN := Lib.hid hbn; have HON := Lib.hid hon; have HONE := Lib.hid hone; have HUX := Lib.hid hux; have HLEN := Lib.hid hlen
        clear hbn hbx hon hone hux hlen
        go_wp2_with (at_builtin; refine wpList_append_list rfl (.tmp 18) (.tmp 27) rfl w.heap.size (.slice A j c) ((linkL nx xa xb).take j) rfl HON.out w2.heap.size (.slice A2 (joinL nx[j] xb nx.length).length c2) (joinL nx[j] xb nx.length) rfl HONE.out HUX.out j HLL.out HLEN.out HBN.out.size ?_)
        intro A3 c3 w3 ho3 hg3
        have hb3 : Below w.heap.size w w3 := HBN.out.grown hg3 HBN.out.size (own_block_ge HON.out.choose_spec.1)
        have HO3 := Lib.hid ho3; have HB3 := Lib.hid hb3
        clear ho3 hb3 hg3
        go_wp2_with fail
        have hj := Hj.out
        have hlt := Hlt.out
        go_roundg (gk - 1)
        case measure => omega
        case rel => exact ⟨j + 1, A3, c3, by omega, by go_num, by go_num, Lib.hid (by rw [hjn.out]; exact HO3.out), HB3⟩
      · have hd : decide ((j : Int) ∈ xa) = false := by simpa using hja
        rw [hd]
        have Hja := Lib.hid hja
        clear hja hd
        have hjn : Hid ((linkL nx xa xb).take (j + 1) = (linkL nx xa xb).take j ++ [nx[j]]) := Lib.hid (by rw [hsn.out, if_neg Hja.out]; rfl)
        have hbn := ((HW1.out.alloc HW1.out.size (Obj.cells #[.slice Au nx[j].length cu] 32)))
        have hbx := (Below.refl w1.heap.size w1).alloc (Nat.le_refl _) (Obj.cells #[.slice Au nx[j].length cu] 32)
        have hon := HO1.out.below hbx
        have hone := heap_a0 w1 (Obj.cells #[.slice Au nx[j].length cu] 32)
        have hux := IRT.below HUR1.out hbx
        have hlen : j + 1 ≤ 1048576 := by omega
        have HBN := Lib.hid hbn; have HON := Lib.hid hon; have HONE := Lib.hid hone; have HUX := Lib.hid hux; have HLEN := Lib.hid hlen
        clear hbn hbx hon hone hux hlen
        go_wp2_with (at_builtin; refine wpList_append_list rfl (.tmp 29) (.tmp 34) rfl w.heap.size (.slice A j c) ((linkL nx xa xb).take j) rfl HON.out w1.heap.size (.slice Au nx[j].length cu) nx[j] rfl HONE.out HUX.out j HLL.out HLEN.out HBN.out.size ?_)
        intro A3 c3 w3 ho3 hg3
        have hb3 : Below w.heap.size w w3 := HBN.out.grown hg3 HBN.out.size (own_block_ge HON.out.choose_spec.1)
        have HO3 := Lib.hid ho3; have HB3 := Lib.hid hb3
        clear ho3 hb3 hg3
        go_wp2_with fail
        have hj := Hj.out
        have hlt := Hlt.out
        go_roundg (gk - 1)
        case measure => omega
        case rel => exact ⟨j + 1, A3, c3, by omega, by go_num, by go_num, Lib.hid (by rw [hjn.out]; exact HO3.out), HB3⟩
    · obtain rfl : j = nx.length := by omega
      have hfull := Lib.hid (List.take_of_length_le (Nat.le_of_eq (linkL_len nx xa xb)))
      go_wp2_with fail
      refine bodyPost_ret (results_tmp rfl _ _ _) rfl ?_
      have h1 := hO.out
      rw [hfull.out, ← linkL_len nx xa xb] at h1
      rw [← linkL_len nx xa xb]
      exact ⟨_, _, rfl, h1, hW.out⟩
end Go.Proofs.YtmcoaopcmjociaaDoor
