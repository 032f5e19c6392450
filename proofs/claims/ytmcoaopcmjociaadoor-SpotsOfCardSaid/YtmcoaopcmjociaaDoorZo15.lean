/- The reference's behind. -/
import Derived.Test.YtmcoaopcmjociaaDoorZo14
import Derived.Test.YtmcoaopcmjociaaDoorZo10
namespace Go.Proofs.YtmcoaopcmjociaaDoor
open Go Go.RowKit Go.Sort Go.Proofs.YtmcoaopcmjociaaDoorW.PrintLast

theorem nextL_get (sp : List Int) : ∀ (of : List Int) (nx : List (List Int)), of.Pairwise (· < ·) → (∀ x ∈ of, 0 ≤ x ∧ x < nx.length) → ∀ (i : Nat) (h : i < nx.length), (nextL nx of sp)[i]? = some (if (i : Int) ∈ of then mergeL nx[i] sp else nx[i])
  | [], nx, _, _, i, h => by simp [nextL, h]
  | x :: of, nx, hp, hb, i, h => by
    rw [List.pairwise_cons] at hp
    have hx := hb x (by simp)
    have hxl : x.toNat < nx.length := by omega
    have ih := nextL_get sp of (nx.set x.toNat (mergeL (nx.getD x.toNat []) sp)) hp.2 (fun y hy => by rw [List.length_set]; exact hb y (List.mem_cons_of_mem _ hy)) i (by rw [List.length_set]; exact h)
    show (nextL (nx.set x.toNat (mergeL (nx.getD x.toNat []) sp)) of sp)[i]? = _
    rw [ih]
    by_cases hxi : (i : Int) = x
    · subst hxi
      have hno : (i : Int) ∉ of := fun hm => by have := hp.1 _ hm; omega
      rw [if_neg hno, if_pos (by simp)]
      simp [List.getD_eq_getElem?_getD, h]
    · have hne : x.toNat ≠ i := by omega
      simp only [List.getElem_set_ne hne, List.mem_cons]
      by_cases hm : (i : Int) ∈ of
      · rw [if_pos hm, if_pos (.inr hm)]
      · rw [if_neg hm, if_neg (fun h => h.elim hxi hm)]
theorem linkL_next {nx : List (List Int)} {of sp : List Int} (hn : ∀ l ∈ nx, Good nx.length l) (ho : Good nx.length of) (hs : Good nx.length sp) : linkL nx of sp = nextL nx of sp := by
  apply List.ext_getElem?
  intro i
  by_cases hi : i < nx.length
  · rw [nextL_get sp of nx ho.1 ho.2 i hi]
    simp only [linkL, List.getElem?_mapIdx, List.getElem?_eq_getElem hi, Option.map_some]
    rw [joinL_merge (hn _ (List.getElem_mem hi)) hs]
  · rw [List.getElem?_eq_none (by rw [linkL_len]; omega), List.getElem?_eq_none (by rw [nextL_len]; omega)]

/-- A part that is written out, by value: the reference's W. -/
def WR (w : World) (v : Value) (p : Part) (s : St) : Prop := ∃ SA SC NA NC A1 c1 A2 c2, v = .agg #[.slice SA s.sets.length SC, .slice NA s.next.length NC, .slice A1 p.first.length c1, .slice A2 p.last.length c2, .bool p.none] ∧
  w.ownsRow 0 24 4 (.slice SA s.sets.length SC) s.sets.length (cells4 s.sets) ∧ NXR 0 w (.slice NA s.next.length NC) s.next ∧ IRT w (.slice A1 p.first.length c1) p.first ∧ IRT w (.slice A2 p.last.length c2) p.last
theorem WR.below {w w' : World} {v : Value} {p : Part} {s : St} (h : WR w v p s) (hb : Below w.heap.size w w') : WR w' v p s := by
  obtain ⟨SA, SC, NA, NC, A1, c1, A2, c2, rfl, h1, h2, h3, h4⟩ := h
  exact ⟨SA, SC, NA, NC, A1, c1, A2, c2, rfl, own_keep h1 fun k hk _ => hb.block k hk.lt, h2.below hb, IRT.below h3 hb, IRT.below h4 hb⟩
theorem wInfo : (Tryd.prog.info? 56).map (·.size) = some 5 := by kernel_rfl
theorem ret_w {fn : Func} {p : Tmp} (h : fn.results = #[.cell p 56]) (tmps : Array Value) (w : World) (g : Nat) (v0 v1 v2 v3 v4 : Value) (fr : Nat × Nat) (hp : tmps.getD p undef = .pointer (some ⟨g, 0, none⟩)) (hg : w.heap[g]? = some (.cells #[v0, v1, v2, v3, v4] 56 fr)) :
    (results fn tmps).run Tryd.prog w = .ok (.agg #[v0, v1, v2, v3, v4]) w :=
  results_cell_row h tmps w g 56 _ fr _ hp hg Tryd.underlying56 rfl wInfo

theorem set5_ks {w : World} {r : Nat} {t : TypeId} (ht : Ty w t r) (h1 : t ≠ 3) (h2 : t ≠ 24) (h3 : t ≠ 32) (h4 : t ≠ 50) (v0 v1 v2 v3 v4 : Value) : KS w (set5 w r v0 v1 v2 v3 v4) :=
  (((((KS.refl w).setCell ht h1 h2 h3 h4 0 v0).setCell (ht.set _ _) h1 h2 h3 h4 1 v1).setCell ((ht.set _ _).set _ _) h1 h2 h3 h4 2 v2).setCell (((ht.set _ _).set _ _).set _ _) h1 h2 h3 h4 3 v3).setCell ((((ht.set _ _).set _ _).set _ _).set _ _) h1 h2 h3 h4 4 v4
theorem set5_box {w : World} {r : Nat} {x0 x1 x2 x3 x4 : Value} {t : TypeId} {m : Nat × Nat} (hr : w.heap[r]? = some (.cells #[x0, x1, x2, x3, x4] t m)) (v0 v1 v2 v3 v4 : Value) : (set5 w r v0 v1 v2 v3 v4).heap[r]? = some (.cells #[v0, v1, v2, v3, v4] t m) :=
  heap_setCell_same _ r 4 v4 (heap_setCell_same _ r 3 v3 (heap_setCell_same _ r 2 v2 (heap_setCell_same _ r 1 v1 (heap_setCell_same _ r 0 v0 hr))))
theorem set5_below {B : Nat} {w w2 : World} (hB : Below B w w2) {r : Nat} (hnew : B ≤ r) (v0 v1 v2 v3 v4 : Value) : Below B w (set5 w2 r v0 v1 v2 v3 v4) :=
  ((((hB.setCell hnew v0).setCell hnew v1).setCell hnew v2).setCell hnew v3).setCell hnew v4
theorem NXR.side {B : Nat} {w w' : World} {v : Value} {nx : List (List Int)} (h : NXR B w v nx) (hk : KS w w') : NXR B w' v nx := by
  obtain ⟨vs, h1, h2⟩ := h
  exact ⟨vs, own_keep h1 fun k h _ => hk.typed k _ h (by simp), fun i v xs a b => IRT.keep (h2 i v xs a b) hk.keep3⟩
theorem WR.side {w w' : World} {v : Value} {p : Part} {s : St} (h : WR w v p s) (hk : KS w w') : WR w' v p s := by
  obtain ⟨SA, SC, NA, NC, A1, c1, A2, c2, rfl, h1, h2, h3, h4⟩ := h
  exact ⟨SA, SC, NA, NC, A1, c1, A2, c2, rfl, own_keep h1 fun k h _ => hk.typed k _ h (by simp), h2.side hk, IRT.keep h3 hk.keep3, IRT.keep h4 hk.keep3⟩
theorem w_end {w w2 : World} (hB : Below w.heap.size w w2) {r : Nat} {x0 x1 x2 x3 x4 : Value} (hr : w2.heap[r]? = some (.cells #[x0, x1, x2, x3, x4] 56 (0, 0))) (hnew : w.heap.size ≤ r) {p : Part} {s : St} {v0 v1 v2 v3 v4 : Value} (hs : WR w2 (.agg #[v0, v1, v2, v3, v4]) p s) :
    (set5 w2 r v0 v1 v2 v3 v4).heap[r]? = some (.cells #[v0, v1, v2, v3, v4] 56 (0, 0)) ∧ WR (set5 w2 r v0 v1 v2 v3 v4) (.agg #[v0, v1, v2, v3, v4]) p s ∧ Below w.heap.size w (set5 w2 r v0 v1 v2 v3 v4) :=
  ⟨set5_box hr _ _ _ _ _, hs.side (set5_ks ⟨_, _, hr⟩ (by decide) (by decide) (by decide) (by decide) _ _ _ _ _), set5_below hB hnew _ _ _ _ _⟩

set_option maxRecDepth 100000 in
set_option maxHeartbeats 4000000 in
theorem rbehind_any (va vb : Value) (a b : Part) (sa sb : St) (w : World) (ha : WR w va a sa) (hb : WR w vb b sb) (hs : GoodSt sb) (hfew : sb.sets.length ≤ 512) (ga : GoodPart sb.sets.length a) (gb : GoodPart sb.sets.length b) :
    Calls Tryd.prog 41 #[va, vb] w fun e w' => ∃ v, e = .returned v ∧ WR w' v (behindP a b) (behindS sb a b) ∧ Below w.heap.size w w' := by
  obtain ⟨SA, SC, NA, NC, A1, c1, A2, c2, rfl, ha1, ha2, ha3, ha4⟩ := ha
  obtain ⟨SB, TC, NB, MC, B1, d1, B2, d2, rfl, hb1, hb2, hb3, hb4⟩ := hb
  have hx3 := below_a3 w (Obj.cells #[.slice SA sa.sets.length SC, .slice NA sa.next.length NC, .slice A1 a.first.length c1, .slice A2 a.last.length c2, .bool a.none] 56) (Obj.cells #[.slice SB sb.sets.length TC, .slice NB sb.next.length MC, .slice B1 b.first.length d1, .slice B2 b.last.length d2, .bool b.none] 56) (Obj.cells #[.slice none 0 0, .slice none 0 0, .slice none 0 0, .slice none 0 0, .bool false] 56)
  have k0 := heap_a1 (o' := (Obj.cells #[.slice none 0 0, .slice none 0 0, .slice none 0 0, .slice none 0 0, .bool false] 56)) (heap_a1 (o' := (Obj.cells #[.slice SB sb.sets.length TC, .slice NB sb.next.length MC, .slice B1 b.first.length d1, .slice B2 b.last.length d2, .bool b.none] 56)) (heap_a0 w (Obj.cells #[.slice SA sa.sets.length SC, .slice NA sa.next.length NC, .slice A1 a.first.length c1, .slice A2 a.last.length c2, .bool a.none] 56)))
  have k1 := heap_a1' w (Obj.cells #[.slice SA sa.sets.length SC, .slice NA sa.next.length NC, .slice A1 a.first.length c1, .slice A2 a.last.length c2, .bool a.none] 56) (Obj.cells #[.slice SB sb.sets.length TC, .slice NB sb.next.length MC, .slice B1 b.first.length d1, .slice B2 b.last.length d2, .bool b.none] 56) (Obj.cells #[.slice none 0 0, .slice none 0 0, .slice none 0 0, .slice none 0 0, .bool false] 56)
  have k2 := heap_a2 w (Obj.cells #[.slice SA sa.sets.length SC, .slice NA sa.next.length NC, .slice A1 a.first.length c1, .slice A2 a.last.length c2, .bool a.none] 56) (Obj.cells #[.slice SB sb.sets.length TC, .slice NB sb.next.length MC, .slice B1 b.first.length d1, .slice B2 b.last.length d2, .bool b.none] 56) (Obj.cells #[.slice none 0 0, .slice none 0 0, .slice none 0 0, .slice none 0 0, .bool false] 56)
  go_enter Tryd.func41, Tryd.ntmps41
  go_wp2_with fail
  generalize hW : (((w.alloc (Obj.cells #[.slice SA sa.sets.length SC, .slice NA sa.next.length NC, .slice A1 a.first.length c1, .slice A2 a.last.length c2, .bool a.none] 56)).alloc (Obj.cells #[.slice SB sb.sets.length TC, .slice NB sb.next.length MC, .slice B1 b.first.length d1, .slice B2 b.last.length d2, .bool b.none] 56)).alloc (Obj.cells #[.slice none 0 0, .slice none 0 0, .slice none 0 0, .slice none 0 0, .bool false] 56)) = W at hx3 k0 k1 k2 ⊢
  clear hW
  have K0 := Lib.hid k0; have K1 := Lib.hid k1; have K2 := Lib.hid k2; have HX := Lib.hid hx3
  have HNB := Lib.hid (hb2.below hx3); have HA4 := Lib.hid (IRT.below ha4 hx3); have HB3 := Lib.hid (IRT.below hb3 hx3); have HA3 := Lib.hid (IRT.below ha3 hx3); have HB4 := Lib.hid (IRT.below hb4 hx3)
  have HSB := Lib.hid (own_keep hb1 fun k hk _ => hx3.block k hk.lt)
  have hfn : sb.next.length ≤ 512 := by rw [hs.len]; exact hfew
  have hlen := hs.len
  have HLN := Lib.hid (linkL_next (nx := sb.next) (of := a.last) (sp := b.first) (by rw [hlen]; exact hs.good) (by rw [hlen]; exact ga.last) (by rw [hlen]; exact gb.first))
  clear hlen
  have HJF := Lib.hid (joinL_merge ga.first gb.first); have HJL := Lib.hid (joinL_merge ga.last gb.last)
  have hWs : w.heap.size + 1 + 1 < W.heap.size := (Array.getElem?_eq_some_iff.1 k2).1
  have hWw : w.heap.size ≤ W.heap.size := by omega
  have HS := Lib.hid hs; have GA := Lib.hid ga; have GB := Lib.hid gb
  clear k0 k1 k2 hx3 ha1 ha2 ha3 ha4 hb1 hb2 hb3 hb4 hs ga gb
  cases han : a.none with
  | false =>
    rw [han] at K0
    cases hbn : b.none with
    | false =>
      rw [hbn] at K1
      have hHN := Lib.hid han; have hHM := Lib.hid hbn
      clear han hbn
      go_wp2_with fail
      refine start_ (n := 22) (S := fun w' => Below W.heap.size W w') (ds := [21]) #[false, false, false, false, false, false, false, false, false, false, false, false, false, false, false, false, false, false, false, false, false, false] (by kernel_rfl) rfl rfl ((Below.refl _ _).drew) (fun hHeld => ?_)
      refine pure_ (i := 0) (N := some 10) (v := ?_) (a' := ?_) #[true, false, false, false, false, false, false, false, false, false, false, false, false, false, false, false, false, false, false, false, false, false] rfl rfl (by kernel_rfl) (fun _ _ _ h => h) (Or.inl ⟨by rfl, ?_⟩) ?_ ?_
      rotate_left
      · intro w'
        go_simp
        with_reducible rfl
      rotate_left
      · simp only [Act.put, sA, sB, sC]
        rfl
      refine pure_ (i := 2) (N := some 12) (v := ?_) (a' := ?_) #[true, false, true, false, false, false, false, false, false, false, false, false, false, false, false, false, false, false, false, false, false, false] rfl rfl (by kernel_rfl) (fun _ _ _ h => h) (Or.inl ⟨by rfl, ?_⟩) ?_ ?_
      rotate_left
      · intro w'
        go_simp
        with_reducible rfl
      rotate_left
      · simp only [Act.put, sA, sB, sC]
        rfl
      refine pure_ (i := 4) (N := some 14) (v := ?_) (a' := ?_) #[true, false, true, false, true, false, false, false, false, false, false, false, false, false, false, false, false, false, false, false, false, false] rfl rfl (by kernel_rfl) (fun _ _ _ h => h) (Or.inl ⟨by rfl, ?_⟩) ?_ ?_
      rotate_left
      · intro w'
        go_simp
        with_reducible rfl
      rotate_left
      · simp only [Act.put, sA, sB, sC]
        rfl
      refine pure_ (i := 6) (N := some 16) (v := ?_) (a' := ?_) #[true, false, true, false, true, false, true, false, false, false, false, false, false, false, false, false, false, false, false, false, false, false] rfl rfl (by kernel_rfl) (fun _ _ _ h => h) (Or.inl ⟨by rfl, ?_⟩) ?_ ?_
      rotate_left
      · intro w'
        go_simp
        with_reducible rfl
      rotate_left
      · simp only [Act.put, sA, sB, sC]
        rfl
      refine pure_ (i := 9) (N := some 19) (v := ?_) (a' := ?_) #[true, false, true, false, true, false, true, false, false, true, false, false, false, false, false, false, false, false, false, false, false, false] rfl rfl (by kernel_rfl) (fun _ _ _ h => h) (Or.inl ⟨by rfl, ?_⟩) ?_ ?_
      rotate_left
      · intro w'
        go_simp
        with_reducible rfl
      rotate_left
      · simp only [Act.put, sA, sB, sC]
        rfl
      refine pure_ (i := 11) (N := some 21) (v := ?_) (a' := ?_) #[true, false, true, false, true, false, true, false, false, true, false, true, false, false, false, false, false, false, false, false, false, false] rfl rfl (by kernel_rfl) (fun _ _ _ h => h) (Or.inl ⟨by rfl, ?_⟩) ?_ ?_
      rotate_left
      · intro w'
        go_simp
        with_reducible rfl
      rotate_left
      · simp only [Act.put, sA, sB, sC]
        rfl
      refine pure_ (i := 13) (N := some 23) (v := ?_) (a' := ?_) #[true, false, true, false, true, false, true, false, false, true, false, true, false, true, false, false, false, false, false, false, false, false] rfl rfl (by kernel_rfl) (fun _ _ _ h => h) (Or.inl ⟨by rfl, ?_⟩) ?_ ?_
      rotate_left
      · intro w'
        go_simp
        with_reducible rfl
      rotate_left
      · simp only [Act.put, sA, sB, sC]
        rfl
      refine take_ (i := 1) (N := some 11) (v := ?_) (a' := ?_) #[true, true, true, false, true, false, true, false, false, true, false, true, false, true, false, false, false, false, false, false, false, false] rfl rfl (by kernel_rfl) (fun _ _ _ h => h) (Or.inl ⟨by rfl, ?_⟩) hHeld ?_ ?_
      rotate_left
      · intro w' sb; obtain ⟨⟨p0, p1, p2, p3, p4⟩, _, _, _, _, _, _⟩ := box5 (heap_aq sb K0.out); obtain ⟨⟨q0, q1, q2, q3, q4⟩, _, _, _, _, _, _⟩ := box5 (heap_aq sb K1.out)
        go_simp
        with_reducible rfl
      rotate_left
      · simp only [Act.put, sA, sB, sC]
        rfl
      refine take_ (i := 3) (N := some 13) (v := ?_) (a' := ?_) #[true, true, true, true, true, false, true, false, false, true, false, true, false, true, false, false, false, false, false, false, false, false] rfl rfl (by kernel_rfl) (fun _ _ _ h => h) (Or.inl ⟨by rfl, ?_⟩) hHeld ?_ ?_
      rotate_left
      · intro w' sb; obtain ⟨⟨p0, p1, p2, p3, p4⟩, _, _, _, _, _, _⟩ := box5 (heap_aq sb K0.out); obtain ⟨⟨q0, q1, q2, q3, q4⟩, _, _, _, _, _, _⟩ := box5 (heap_aq sb K1.out)
        go_simp
        with_reducible rfl
      rotate_left
      · simp only [Act.put, sA, sB, sC]
        rfl
      refine take_ (i := 5) (N := some 15) (v := ?_) (a' := ?_) #[true, true, true, true, true, true, true, false, false, true, false, true, false, true, false, false, false, false, false, false, false, false] rfl rfl (by kernel_rfl) (fun _ _ _ h => h) (Or.inl ⟨by rfl, ?_⟩) hHeld ?_ ?_
      rotate_left
      · intro w' sb; obtain ⟨⟨p0, p1, p2, p3, p4⟩, _, _, _, _, _, _⟩ := box5 (heap_aq sb K0.out); obtain ⟨⟨q0, q1, q2, q3, q4⟩, _, _, _, _, _, _⟩ := box5 (heap_aq sb K1.out)
        go_simp
        with_reducible rfl
      rotate_left
      · simp only [Act.put, sA, sB, sC]
        rfl
      refine take_ (i := 7) (N := some 17) (v := ?_) (a' := ?_) #[true, true, true, true, true, true, true, true, false, true, false, true, false, true, false, false, false, false, false, false, false, false] rfl rfl (by kernel_rfl) (fun _ _ _ h => h) (Or.inl ⟨by rfl, ?_⟩) hHeld ?_ ?_
      rotate_left
      · intro w' sb; obtain ⟨⟨p0, p1, p2, p3, p4⟩, _, _, _, _, _, _⟩ := box5 (heap_aq sb K0.out); obtain ⟨⟨q0, q1, q2, q3, q4⟩, _, _, _, _, _, _⟩ := box5 (heap_aq sb K1.out)
        go_simp
        with_reducible rfl
      rotate_left
      · simp only [Act.put, sA, sB, sC]
        rfl
      refine take_ (i := 10) (N := some 20) (v := ?_) (a' := ?_) #[true, true, true, true, true, true, true, true, false, true, true, true, false, true, false, false, false, false, false, false, false, false] rfl rfl (by kernel_rfl) (fun _ _ _ h => h) (Or.inl ⟨by rfl, ?_⟩) hHeld ?_ ?_
      rotate_left
      · intro w' sb; obtain ⟨⟨p0, p1, p2, p3, p4⟩, _, _, _, _, _, _⟩ := box5 (heap_aq sb K0.out); obtain ⟨⟨q0, q1, q2, q3, q4⟩, _, _, _, _, _, _⟩ := box5 (heap_aq sb K1.out)
        go_simp
        with_reducible rfl
      rotate_left
      · simp only [Act.put, sA, sB, sC]
        rfl
      refine take_ (i := 12) (N := some 22) (v := ?_) (a' := ?_) #[true, true, true, true, true, true, true, true, false, true, true, true, true, true, false, false, false, false, false, false, false, false] rfl rfl (by kernel_rfl) (fun _ _ _ h => h) (Or.inl ⟨by rfl, ?_⟩) hHeld ?_ ?_
      rotate_left
      · intro w' sb; obtain ⟨⟨p0, p1, p2, p3, p4⟩, _, _, _, _, _, _⟩ := box5 (heap_aq sb K0.out); obtain ⟨⟨q0, q1, q2, q3, q4⟩, _, _, _, _, _, _⟩ := box5 (heap_aq sb K1.out)
        go_simp
        with_reducible rfl
      rotate_left
      · simp only [Act.put, sA, sB, sC]
        rfl
      refine take_ (i := 14) (N := some 24) (v := ?_) (a' := ?_) #[true, true, true, true, true, true, true, true, false, true, true, true, true, true, true, false, false, false, false, false, false, false] rfl rfl (by kernel_rfl) (fun _ _ _ h => h) (Or.inl ⟨by rfl, ?_⟩) hHeld ?_ ?_
      rotate_left
      · intro w' sb; obtain ⟨⟨p0, p1, p2, p3, p4⟩, _, _, _, _, _, _⟩ := box5 (heap_aq sb K0.out); obtain ⟨⟨q0, q1, q2, q3, q4⟩, _, _, _, _, _, _⟩ := box5 (heap_aq sb K1.out)
        go_simp
        with_reducible rfl
      rotate_left
      · simp only [Act.put, sA, sB, sC]
        rfl
      refine join_ (σ := Nat × Option Addr × Nat) 1 #[true, true, true, true, true, true, true, true, true, true, true, true, true, true, true, true, true, true, true, true, true, false] (fun s => [(18, .slice s.2.1 (nextL sb.next a.last b.first).length s.2.2), (6, .pointer (some ⟨s.1, 0, none⟩)), (25, .bool false), (26, undef), (27, undef), (28, .bool false), (29, .agg #[.slice SB sb.sets.length TC, .slice s.2.1 (nextL sb.next a.last b.first).length s.2.2, .slice A1 a.first.length c1, .slice B2 b.last.length d2, .bool false])]) (fun s w' => Below W.heap.size W w' ∧ NXR 0 w' (.slice s.2.1 (nextL sb.next a.last b.first).length s.2.2) (nextL sb.next a.last b.first) ∧ w'.heap[s.1]? = some (Obj.cells #[.slice none 0 0, .slice none 0 0, .slice none 0 0, .slice none 0 0, .bool false] 56) ∧ W.heap.size ≤ s.1) ?_ ?_
      rotate_left
      · intro hJ
        refine two_ (i := 8) (j := 20) #[true, true, true, true, true, true, true, true, true, true, true, true, true, true, true, false, false, false, false, false, false, false] #[true, true, true, true, true, true, true, true, false, true, true, true, true, true, true, false, false, false, false, false, true, false] rfl rfl rfl rfl (by kernel_rfl) (by decide) (by decide) (fun K hK => ?_) (fun K hK => ?_)
        · refine goes_ Tryd.func43 (by kernel_rfl) rfl #[.slice NB sb.next.length MC, .slice A2 a.last.length c2, .slice B1 b.first.length d1] (by rfl) rfl rfl (by (try simp only [List.map_toArray, List.map_cons, List.map_nil]); rfl) ?_
          have hlk := (link_any (B := 0) (S := Ty W.drew 3) (S' := Ty W.drew 3) _ _ _ sb.next a.last b.first W.drew (HNB.out.below ((Below.refl W.heap.size W).drew)) (IRT.below HA4.out ((Below.refl W.heap.size W).drew)) (IRT.below HB3.out ((Below.refl W.heap.size W).drew)) (by omega))
          rw [HLN.out] at hlk
          refine hlk.mono ?_
          rintro e w4 ⟨A5, c5, rfl, hn4, hb4⟩
          refine ⟨_, rfl, ?_⟩
          refine hK.out _ _ (hHeld.trans (hb4.mono hHeld.size)) (fun hHeld => ?_)
          clear hK K
          refine norm_ (a' := ?_) ?_ ?_
          rotate_left
          · show Act.put _ (some 18) _ = _
            simp only [Act.put, sA, sB, sC]
            rfl
          refine pure_ (i := 15) (N := some 25) (v := ?_) (a' := ?_) #[true, true, true, true, true, true, true, true, true, true, true, true, true, true, true, true, false, false, false, false, false, false] rfl rfl (by kernel_rfl) (fun _ _ _ h => h) (Or.inl ⟨by rfl, ?_⟩) ?_ ?_
          rotate_left
          · intro w'
            go_simp
            with_reducible rfl
          rotate_left
          · simp only [Act.put, sA, sB, sC]
            rfl
          refine pure_ (i := 16) (N := some 26) (v := ?_) (a' := ?_) #[true, true, true, true, true, true, true, true, true, true, true, true, true, true, true, true, true, false, false, false, false, false] rfl rfl (by kernel_rfl) (fun _ _ _ h => h) (Or.inr ⟨by rfl, ?_⟩) ?_ ?_
          rotate_left
          · rfl
          rotate_left
          · simp only [Act.put, sA, sB, sC]
            rfl
          refine pure_ (i := 17) (N := some 27) (v := ?_) (a' := ?_) #[true, true, true, true, true, true, true, true, true, true, true, true, true, true, true, true, true, true, false, false, false, false] rfl rfl (by kernel_rfl) (fun _ _ _ h => h) (Or.inr ⟨by rfl, ?_⟩) ?_ ?_
          rotate_left
          · rfl
          rotate_left
          · simp only [Act.put, sA, sB, sC]
            rfl
          refine pure_ (i := 18) (N := some 28) (v := ?_) (a' := ?_) #[true, true, true, true, true, true, true, true, true, true, true, true, true, true, true, true, true, true, true, false, false, false] rfl rfl (by kernel_rfl) (fun _ _ _ h => h) (Or.inl ⟨by rfl, ?_⟩) ?_ ?_
          rotate_left
          · intro w'
            go_simp
            with_reducible rfl
          rotate_left
          · simp only [Act.put, sA, sB, sC]
            rfl
          refine pure_ (i := 19) (N := some 29) (v := ?_) (a' := ?_) #[true, true, true, true, true, true, true, true, true, true, true, true, true, true, true, true, true, true, true, true, false, false] rfl rfl (by kernel_rfl) (fun _ _ _ h => h) (Or.inl ⟨by rfl, ?_⟩) ?_ ?_
          rotate_left
          · intro w'
            go_simp
            with_reducible rfl
          rotate_left
          · simp only [Act.put, sA, sB, sC]
            rfl
          refine one_ (i := 20) (N := some 6) #[true, true, true, true, true, true, true, true, true, true, true, true, true, true, true, true, true, true, true, true, true, false] rfl rfl (by kernel_rfl) (by decide) (fun K hK => ?_)
          refine value_ (v := (.pointer (some ⟨w4.heap.size, 0, none⟩))) (w1 := (w4.alloc (Obj.cells #[.slice none 0 0, .slice none 0 0, .slice none 0 0, .slice none 0 0, .bool false] 56))) (by rfl) rfl (by first | rfl | (go_simp; done) | (go_simp; rfl)) ?_
          refine hK.out _ _ (hHeld.alloc hHeld.size _) (fun hHeld => ?_)
          clear hK K
          refine norm_ (a' := ?_) ?_ ?_
          rotate_left
          · show Act.put _ (some 6) _ = _
            simp only [Act.put, sA, sB, sC]
            rfl
          have hJ2 := hJ (w4.heap.size, A5, c5) _ ⟨hHeld, (hn4.lower (Nat.zero_le _)).below ((Below.refl _ _).alloc (Nat.le_refl _) _), heap_a0 _ _, hb4.size⟩
          simp only [putAll, Act.put, sA, sB, sC] at hJ2
          exact hJ2
        · refine value_ (v := (.pointer (some ⟨W.drew.heap.size, 0, none⟩))) (w1 := (W.drew.alloc (Obj.cells #[.slice none 0 0, .slice none 0 0, .slice none 0 0, .slice none 0 0, .bool false] 56))) (by rfl) rfl (by first | rfl | (go_simp; done) | (go_simp; rfl)) ?_
          refine hK.out _ _ (hHeld.alloc hHeld.size _) (fun hHeld => ?_)
          clear hK K
          refine norm_ (a' := ?_) ?_ ?_
          rotate_left
          · show Act.put _ (some 6) _ = _
            simp only [Act.put, sA, sB, sC]
            rfl
          refine one_ (i := 8) (N := some 18) #[true, true, true, true, true, true, true, true, true, true, true, true, true, true, true, false, false, false, false, false, true, false] rfl rfl (by kernel_rfl) (by decide) (fun K hK => ?_)
          refine goes_ Tryd.func43 (by kernel_rfl) rfl #[.slice NB sb.next.length MC, .slice A2 a.last.length c2, .slice B1 b.first.length d1] (by rfl) rfl rfl (by (try simp only [List.map_toArray, List.map_cons, List.map_nil]); rfl) ?_
          have hlk := (link_any (B := 0) (S := Ty (W.drew.alloc (Obj.cells #[.slice none 0 0, .slice none 0 0, .slice none 0 0, .slice none 0 0, .bool false] 56)) 3) (S' := Ty (W.drew.alloc (Obj.cells #[.slice none 0 0, .slice none 0 0, .slice none 0 0, .slice none 0 0, .bool false] 56)) 3) _ _ _ sb.next a.last b.first (W.drew.alloc (Obj.cells #[.slice none 0 0, .slice none 0 0, .slice none 0 0, .slice none 0 0, .bool false] 56)) (HNB.out.below hHeld) (IRT.below HA4.out hHeld) (IRT.below HB3.out hHeld) (by omega))
          rw [HLN.out] at hlk
          refine hlk.mono ?_
          rintro e w4 ⟨A5, c5, rfl, hn4, hb4⟩
          refine ⟨_, rfl, ?_⟩
          refine hK.out _ _ (hHeld.trans (hb4.mono hHeld.size)) (fun hHeld => ?_)
          clear hK K
          refine norm_ (a' := ?_) ?_ ?_
          rotate_left
          · show Act.put _ (some 18) _ = _
            simp only [Act.put, sA, sB, sC]
            rfl
          refine pure_ (i := 15) (N := some 25) (v := ?_) (a' := ?_) #[true, true, true, true, true, true, true, true, true, true, true, true, true, true, true, true, false, false, false, false, true, false] rfl rfl (by kernel_rfl) (fun _ _ _ h => h) (Or.inl ⟨by rfl, ?_⟩) ?_ ?_
          rotate_left
          · intro w'
            go_simp
            with_reducible rfl
          rotate_left
          · simp only [Act.put, sA, sB, sC]
            rfl
          refine pure_ (i := 16) (N := some 26) (v := ?_) (a' := ?_) #[true, true, true, true, true, true, true, true, true, true, true, true, true, true, true, true, true, false, false, false, true, false] rfl rfl (by kernel_rfl) (fun _ _ _ h => h) (Or.inr ⟨by rfl, ?_⟩) ?_ ?_
          rotate_left
          · rfl
          rotate_left
          · simp only [Act.put, sA, sB, sC]
            rfl
          refine pure_ (i := 17) (N := some 27) (v := ?_) (a' := ?_) #[true, true, true, true, true, true, true, true, true, true, true, true, true, true, true, true, true, true, false, false, true, false] rfl rfl (by kernel_rfl) (fun _ _ _ h => h) (Or.inr ⟨by rfl, ?_⟩) ?_ ?_
          rotate_left
          · rfl
          rotate_left
          · simp only [Act.put, sA, sB, sC]
            rfl
          refine pure_ (i := 18) (N := some 28) (v := ?_) (a' := ?_) #[true, true, true, true, true, true, true, true, true, true, true, true, true, true, true, true, true, true, true, false, true, false] rfl rfl (by kernel_rfl) (fun _ _ _ h => h) (Or.inl ⟨by rfl, ?_⟩) ?_ ?_
          rotate_left
          · intro w'
            go_simp
            with_reducible rfl
          rotate_left
          · simp only [Act.put, sA, sB, sC]
            rfl
          refine pure_ (i := 19) (N := some 29) (v := ?_) (a' := ?_) #[true, true, true, true, true, true, true, true, true, true, true, true, true, true, true, true, true, true, true, true, true, false] rfl rfl (by kernel_rfl) (fun _ _ _ h => h) (Or.inl ⟨by rfl, ?_⟩) ?_ ?_
          rotate_left
          · intro w'
            go_simp
            with_reducible rfl
          rotate_left
          · simp only [Act.put, sA, sB, sC]
            rfl
          have hJ2 := hJ (W.drew.heap.size, A5, c5) _ ⟨hHeld, hn4.lower (Nat.zero_le _), heap_aq hb4 (heap_a0 _ _), Nat.le_refl _⟩
          simp only [putAll, Act.put, sA, sB, sC] at hJ2
          exact hJ2
      rintro ⟨k, A5, c5⟩ w5 ⟨hHeld, hn5, hk5, hkl⟩
      refine norm_ (a' := ?_) ?_ ?_
      rotate_left
      · show putAll _ _ = _
        simp only [putAll, Act.put, sA, sB, sC]
        rfl
      refine last_ (i := 21) (N := none) #[true, true, true, true, true, true, true, true, true, true, true, true, true, true, true, true, true, true, true, true, true, true] rfl rfl (by kernel_rfl) (by decide) (fun K hK => ?_)
      refine skip_ (w1 := ?_) (by rfl) rfl ?_ ?_
      rotate_left
      · obtain ⟨⟨z0, z1, z2, z3, z4⟩, y0, y1, y2, y3, y4, _⟩ := box5 hk5
        go_simp
        rfl
      refine hK.out _ _ ?_
      clear hK K
      refine done_ (by kernel_rfl) ?_
      have han := hHN.out; have hbn := hHM.out
      clear hHN hHM
      have hk6 := set5_box hk5 (.slice SB sb.sets.length TC) (.slice A5 (nextL sb.next a.last b.first).length c5) (.slice A1 a.first.length c1) (.slice B2 b.last.length d2) (.bool false)
      have hks := set5_ks ⟨_, _, hk5⟩ (by decide) (by decide) (by decide) (by decide) (.slice SB sb.sets.length TC) (.slice A5 (nextL sb.next a.last b.first).length c5) (.slice A1 a.first.length c1) (.slice B2 b.last.length d2) (.bool false)
      have hB6 := set5_below hHeld hkl (.slice SB sb.sets.length TC) (.slice A5 (nextL sb.next a.last b.first).length c5) (.slice A1 a.first.length c1) (.slice B2 b.last.length d2) (.bool false)
      have hn6 := hn5.side hks
      obtain ⟨w6, hw6⟩ : ∃ w6, w6 = set5 w5 k (.slice SB sb.sets.length TC) (.slice A5 (nextL sb.next a.last b.first).length c5) (.slice A1 a.first.length c1) (.slice B2 b.last.length d2) (.bool false) := ⟨_, rfl⟩
      rw [← hw6] at hk6 hB6 hn6
      simp only [set5] at hw6
      rw [← hw6]
      clear hw6 hks hn5 hk5 hHeld
      obtain ⟨⟨p0, p1, p2, p3, p4⟩, _, _, _, _, _, pl⟩ := box5 (heap_aq hB6 K0.out)
      obtain ⟨⟨q0, q1, q2, q3, q4⟩, _, _, _, _, _, ql⟩ := box5 (heap_aq hB6 K1.out)
      obtain ⟨⟨r0, r1, r2, r3, r4⟩, t0, t1, t2, t3, t4, rl⟩ := box5 (heap_aq hB6 K2.out)
      obtain ⟨⟨z0, z1, z2, z3, z4⟩, y0, y1, y2, y3, y4, kl⟩ := box5 hk6
      have HK6 := Lib.hid hk6; have HB6 := Lib.hid hB6; have HN6 := Lib.hid hn6
      clear hk6 hB6 hn6
      have hwr : WR (w6) (.agg #[(.slice SB sb.sets.length TC), (.slice A5 (nextL sb.next a.last b.first).length c5), (.slice A1 a.first.length c1), (.slice B2 b.last.length d2), .bool false]) (behindP a b) (behindS sb a b) :=
        ⟨SB, TC, A5, c5, _, _, _, _, by simp only [behindP, behindS, han, hbn]; rfl, own_keep HSB.out fun k hk _ => HB6.out.block k hk.lt, HN6.out, by simp only [behindP, han]; exact (IRT.below HA3.out HB6.out), by simp only [behindP, hbn]; exact (IRT.below HB4.out HB6.out)⟩
      obtain ⟨e1, e2, e3⟩ := w_end (w := w) (HX.out.trans (HB6.out.mono HX.out.size)) (heap_aq HB6.out K2.out) (by omega) hwr
      have E1 := Lib.hid e1; have E2 := Lib.hid e2; have E3 := Lib.hid e3
      clear e1 e2 e3 hwr
      go_wp2_with fail
      refine bodyPost_ret (ret_w rfl _ _ (w.heap.size + 1 + 1) _ _ _ _ _ (0, 0) rfl E1.out) rfl ?_
      exact ⟨_, rfl, E2.out, E3.out⟩
    | true =>
      rw [hbn] at K1
      have hHN := Lib.hid han; have hHM := Lib.hid hbn
      clear han hbn
      go_wp2_with fail
      refine start_ (n := 22) (S := fun w' => Below W.heap.size W w') (ds := [21]) #[false, false, false, false, false, false, false, false, false, false, false, false, false, false, false, false, false, false, false, false, false, false] (by kernel_rfl) rfl rfl ((Below.refl _ _).drew) (fun hHeld => ?_)
      refine pure_ (i := 0) (N := some 10) (v := ?_) (a' := ?_) #[true, false, false, false, false, false, false, false, false, false, false, false, false, false, false, false, false, false, false, false, false, false] rfl rfl (by kernel_rfl) (fun _ _ _ h => h) (Or.inl ⟨by rfl, ?_⟩) ?_ ?_
      rotate_left
      · intro w'
        go_simp
        with_reducible rfl
      rotate_left
      · simp only [Act.put, sA, sB, sC]
        rfl
      refine pure_ (i := 2) (N := some 12) (v := ?_) (a' := ?_) #[true, false, true, false, false, false, false, false, false, false, false, false, false, false, false, false, false, false, false, false, false, false] rfl rfl (by kernel_rfl) (fun _ _ _ h => h) (Or.inl ⟨by rfl, ?_⟩) ?_ ?_
      rotate_left
      · intro w'
        go_simp
        with_reducible rfl
      rotate_left
      · simp only [Act.put, sA, sB, sC]
        rfl
      refine pure_ (i := 4) (N := some 14) (v := ?_) (a' := ?_) #[true, false, true, false, true, false, false, false, false, false, false, false, false, false, false, false, false, false, false, false, false, false] rfl rfl (by kernel_rfl) (fun _ _ _ h => h) (Or.inl ⟨by rfl, ?_⟩) ?_ ?_
      rotate_left
      · intro w'
        go_simp
        with_reducible rfl
      rotate_left
      · simp only [Act.put, sA, sB, sC]
        rfl
      refine pure_ (i := 6) (N := some 16) (v := ?_) (a' := ?_) #[true, false, true, false, true, false, true, false, false, false, false, false, false, false, false, false, false, false, false, false, false, false] rfl rfl (by kernel_rfl) (fun _ _ _ h => h) (Or.inl ⟨by rfl, ?_⟩) ?_ ?_
      rotate_left
      · intro w'
        go_simp
        with_reducible rfl
      rotate_left
      · simp only [Act.put, sA, sB, sC]
        rfl
      refine pure_ (i := 9) (N := some 19) (v := ?_) (a' := ?_) #[true, false, true, false, true, false, true, false, false, true, false, false, false, false, false, false, false, false, false, false, false, false] rfl rfl (by kernel_rfl) (fun _ _ _ h => h) (Or.inl ⟨by rfl, ?_⟩) ?_ ?_
      rotate_left
      · intro w'
        go_simp
        with_reducible rfl
      rotate_left
      · simp only [Act.put, sA, sB, sC]
        rfl
      refine pure_ (i := 11) (N := some 21) (v := ?_) (a' := ?_) #[true, false, true, false, true, false, true, false, false, true, false, true, false, false, false, false, false, false, false, false, false, false] rfl rfl (by kernel_rfl) (fun _ _ _ h => h) (Or.inl ⟨by rfl, ?_⟩) ?_ ?_
      rotate_left
      · intro w'
        go_simp
        with_reducible rfl
      rotate_left
      · simp only [Act.put, sA, sB, sC]
        rfl
      refine pure_ (i := 13) (N := some 23) (v := ?_) (a' := ?_) #[true, false, true, false, true, false, true, false, false, true, false, true, false, true, false, false, false, false, false, false, false, false] rfl rfl (by kernel_rfl) (fun _ _ _ h => h) (Or.inl ⟨by rfl, ?_⟩) ?_ ?_
      rotate_left
      · intro w'
        go_simp
        with_reducible rfl
      rotate_left
      · simp only [Act.put, sA, sB, sC]
        rfl
      refine take_ (i := 1) (N := some 11) (v := ?_) (a' := ?_) #[true, true, true, false, true, false, true, false, false, true, false, true, false, true, false, false, false, false, false, false, false, false] rfl rfl (by kernel_rfl) (fun _ _ _ h => h) (Or.inl ⟨by rfl, ?_⟩) hHeld ?_ ?_
      rotate_left
      · intro w' sb; obtain ⟨⟨p0, p1, p2, p3, p4⟩, _, _, _, _, _, _⟩ := box5 (heap_aq sb K0.out); obtain ⟨⟨q0, q1, q2, q3, q4⟩, _, _, _, _, _, _⟩ := box5 (heap_aq sb K1.out)
        go_simp
        with_reducible rfl
      rotate_left
      · simp only [Act.put, sA, sB, sC]
        rfl
      refine take_ (i := 3) (N := some 13) (v := ?_) (a' := ?_) #[true, true, true, true, true, false, true, false, false, true, false, true, false, true, false, false, false, false, false, false, false, false] rfl rfl (by kernel_rfl) (fun _ _ _ h => h) (Or.inl ⟨by rfl, ?_⟩) hHeld ?_ ?_
      rotate_left
      · intro w' sb; obtain ⟨⟨p0, p1, p2, p3, p4⟩, _, _, _, _, _, _⟩ := box5 (heap_aq sb K0.out); obtain ⟨⟨q0, q1, q2, q3, q4⟩, _, _, _, _, _, _⟩ := box5 (heap_aq sb K1.out)
        go_simp
        with_reducible rfl
      rotate_left
      · simp only [Act.put, sA, sB, sC]
        rfl
      refine take_ (i := 5) (N := some 15) (v := ?_) (a' := ?_) #[true, true, true, true, true, true, true, false, false, true, false, true, false, true, false, false, false, false, false, false, false, false] rfl rfl (by kernel_rfl) (fun _ _ _ h => h) (Or.inl ⟨by rfl, ?_⟩) hHeld ?_ ?_
      rotate_left
      · intro w' sb; obtain ⟨⟨p0, p1, p2, p3, p4⟩, _, _, _, _, _, _⟩ := box5 (heap_aq sb K0.out); obtain ⟨⟨q0, q1, q2, q3, q4⟩, _, _, _, _, _, _⟩ := box5 (heap_aq sb K1.out)
        go_simp
        with_reducible rfl
      rotate_left
      · simp only [Act.put, sA, sB, sC]
        rfl
      refine take_ (i := 7) (N := some 17) (v := ?_) (a' := ?_) #[true, true, true, true, true, true, true, true, false, true, false, true, false, true, false, false, false, false, false, false, false, false] rfl rfl (by kernel_rfl) (fun _ _ _ h => h) (Or.inl ⟨by rfl, ?_⟩) hHeld ?_ ?_
      rotate_left
      · intro w' sb; obtain ⟨⟨p0, p1, p2, p3, p4⟩, _, _, _, _, _, _⟩ := box5 (heap_aq sb K0.out); obtain ⟨⟨q0, q1, q2, q3, q4⟩, _, _, _, _, _, _⟩ := box5 (heap_aq sb K1.out)
        go_simp
        with_reducible rfl
      rotate_left
      · simp only [Act.put, sA, sB, sC]
        rfl
      refine take_ (i := 10) (N := some 20) (v := ?_) (a' := ?_) #[true, true, true, true, true, true, true, true, false, true, true, true, false, true, false, false, false, false, false, false, false, false] rfl rfl (by kernel_rfl) (fun _ _ _ h => h) (Or.inl ⟨by rfl, ?_⟩) hHeld ?_ ?_
      rotate_left
      · intro w' sb; obtain ⟨⟨p0, p1, p2, p3, p4⟩, _, _, _, _, _, _⟩ := box5 (heap_aq sb K0.out); obtain ⟨⟨q0, q1, q2, q3, q4⟩, _, _, _, _, _, _⟩ := box5 (heap_aq sb K1.out)
        go_simp
        with_reducible rfl
      rotate_left
      · simp only [Act.put, sA, sB, sC]
        rfl
      refine take_ (i := 12) (N := some 22) (v := ?_) (a' := ?_) #[true, true, true, true, true, true, true, true, false, true, true, true, true, true, false, false, false, false, false, false, false, false] rfl rfl (by kernel_rfl) (fun _ _ _ h => h) (Or.inl ⟨by rfl, ?_⟩) hHeld ?_ ?_
      rotate_left
      · intro w' sb; obtain ⟨⟨p0, p1, p2, p3, p4⟩, _, _, _, _, _, _⟩ := box5 (heap_aq sb K0.out); obtain ⟨⟨q0, q1, q2, q3, q4⟩, _, _, _, _, _, _⟩ := box5 (heap_aq sb K1.out)
        go_simp
        with_reducible rfl
      rotate_left
      · simp only [Act.put, sA, sB, sC]
        rfl
      refine take_ (i := 14) (N := some 24) (v := ?_) (a' := ?_) #[true, true, true, true, true, true, true, true, false, true, true, true, true, true, true, false, false, false, false, false, false, false] rfl rfl (by kernel_rfl) (fun _ _ _ h => h) (Or.inl ⟨by rfl, ?_⟩) hHeld ?_ ?_
      rotate_left
      · intro w' sb; obtain ⟨⟨p0, p1, p2, p3, p4⟩, _, _, _, _, _, _⟩ := box5 (heap_aq sb K0.out); obtain ⟨⟨q0, q1, q2, q3, q4⟩, _, _, _, _, _, _⟩ := box5 (heap_aq sb K1.out)
        go_simp
        with_reducible rfl
      rotate_left
      · simp only [Act.put, sA, sB, sC]
        rfl
      refine join_ (σ := Nat × Option Addr × Nat) 1 #[true, true, true, true, true, true, true, true, true, true, true, true, true, true, true, true, true, true, true, true, true, false] (fun s => [(18, .slice s.2.1 (nextL sb.next a.last b.first).length s.2.2), (6, .pointer (some ⟨s.1, 0, none⟩)), (25, .bool false), (26, undef), (27, undef), (28, .bool false), (29, .agg #[.slice SB sb.sets.length TC, .slice s.2.1 (nextL sb.next a.last b.first).length s.2.2, .slice A1 a.first.length c1, .slice B2 b.last.length d2, .bool false])]) (fun s w' => Below W.heap.size W w' ∧ NXR 0 w' (.slice s.2.1 (nextL sb.next a.last b.first).length s.2.2) (nextL sb.next a.last b.first) ∧ w'.heap[s.1]? = some (Obj.cells #[.slice none 0 0, .slice none 0 0, .slice none 0 0, .slice none 0 0, .bool false] 56) ∧ W.heap.size ≤ s.1) ?_ ?_
      rotate_left
      · intro hJ
        refine two_ (i := 8) (j := 20) #[true, true, true, true, true, true, true, true, true, true, true, true, true, true, true, false, false, false, false, false, false, false] #[true, true, true, true, true, true, true, true, false, true, true, true, true, true, true, false, false, false, false, false, true, false] rfl rfl rfl rfl (by kernel_rfl) (by decide) (by decide) (fun K hK => ?_) (fun K hK => ?_)
        · refine goes_ Tryd.func43 (by kernel_rfl) rfl #[.slice NB sb.next.length MC, .slice A2 a.last.length c2, .slice B1 b.first.length d1] (by rfl) rfl rfl (by (try simp only [List.map_toArray, List.map_cons, List.map_nil]); rfl) ?_
          have hlk := (link_any (B := 0) (S := Ty W.drew 3) (S' := Ty W.drew 3) _ _ _ sb.next a.last b.first W.drew (HNB.out.below ((Below.refl W.heap.size W).drew)) (IRT.below HA4.out ((Below.refl W.heap.size W).drew)) (IRT.below HB3.out ((Below.refl W.heap.size W).drew)) (by omega))
          rw [HLN.out] at hlk
          refine hlk.mono ?_
          rintro e w4 ⟨A5, c5, rfl, hn4, hb4⟩
          refine ⟨_, rfl, ?_⟩
          refine hK.out _ _ (hHeld.trans (hb4.mono hHeld.size)) (fun hHeld => ?_)
          clear hK K
          refine norm_ (a' := ?_) ?_ ?_
          rotate_left
          · show Act.put _ (some 18) _ = _
            simp only [Act.put, sA, sB, sC]
            rfl
          refine pure_ (i := 15) (N := some 25) (v := ?_) (a' := ?_) #[true, true, true, true, true, true, true, true, true, true, true, true, true, true, true, true, false, false, false, false, false, false] rfl rfl (by kernel_rfl) (fun _ _ _ h => h) (Or.inl ⟨by rfl, ?_⟩) ?_ ?_
          rotate_left
          · intro w'
            go_simp
            with_reducible rfl
          rotate_left
          · simp only [Act.put, sA, sB, sC]
            rfl
          refine pure_ (i := 16) (N := some 26) (v := ?_) (a' := ?_) #[true, true, true, true, true, true, true, true, true, true, true, true, true, true, true, true, true, false, false, false, false, false] rfl rfl (by kernel_rfl) (fun _ _ _ h => h) (Or.inr ⟨by rfl, ?_⟩) ?_ ?_
          rotate_left
          · rfl
          rotate_left
          · simp only [Act.put, sA, sB, sC]
            rfl
          refine pure_ (i := 17) (N := some 27) (v := ?_) (a' := ?_) #[true, true, true, true, true, true, true, true, true, true, true, true, true, true, true, true, true, true, false, false, false, false] rfl rfl (by kernel_rfl) (fun _ _ _ h => h) (Or.inr ⟨by rfl, ?_⟩) ?_ ?_
          rotate_left
          · rfl
          rotate_left
          · simp only [Act.put, sA, sB, sC]
            rfl
          refine pure_ (i := 18) (N := some 28) (v := ?_) (a' := ?_) #[true, true, true, true, true, true, true, true, true, true, true, true, true, true, true, true, true, true, true, false, false, false] rfl rfl (by kernel_rfl) (fun _ _ _ h => h) (Or.inl ⟨by rfl, ?_⟩) ?_ ?_
          rotate_left
          · intro w'
            go_simp
            with_reducible rfl
          rotate_left
          · simp only [Act.put, sA, sB, sC]
            rfl
          refine pure_ (i := 19) (N := some 29) (v := ?_) (a' := ?_) #[true, true, true, true, true, true, true, true, true, true, true, true, true, true, true, true, true, true, true, true, false, false] rfl rfl (by kernel_rfl) (fun _ _ _ h => h) (Or.inl ⟨by rfl, ?_⟩) ?_ ?_
          rotate_left
          · intro w'
            go_simp
            with_reducible rfl
          rotate_left
          · simp only [Act.put, sA, sB, sC]
            rfl
          refine one_ (i := 20) (N := some 6) #[true, true, true, true, true, true, true, true, true, true, true, true, true, true, true, true, true, true, true, true, true, false] rfl rfl (by kernel_rfl) (by decide) (fun K hK => ?_)
          refine value_ (v := (.pointer (some ⟨w4.heap.size, 0, none⟩))) (w1 := (w4.alloc (Obj.cells #[.slice none 0 0, .slice none 0 0, .slice none 0 0, .slice none 0 0, .bool false] 56))) (by rfl) rfl (by first | rfl | (go_simp; done) | (go_simp; rfl)) ?_
          refine hK.out _ _ (hHeld.alloc hHeld.size _) (fun hHeld => ?_)
          clear hK K
          refine norm_ (a' := ?_) ?_ ?_
          rotate_left
          · show Act.put _ (some 6) _ = _
            simp only [Act.put, sA, sB, sC]
            rfl
          have hJ2 := hJ (w4.heap.size, A5, c5) _ ⟨hHeld, (hn4.lower (Nat.zero_le _)).below ((Below.refl _ _).alloc (Nat.le_refl _) _), heap_a0 _ _, hb4.size⟩
          simp only [putAll, Act.put, sA, sB, sC] at hJ2
          exact hJ2
        · refine value_ (v := (.pointer (some ⟨W.drew.heap.size, 0, none⟩))) (w1 := (W.drew.alloc (Obj.cells #[.slice none 0 0, .slice none 0 0, .slice none 0 0, .slice none 0 0, .bool false] 56))) (by rfl) rfl (by first | rfl | (go_simp; done) | (go_simp; rfl)) ?_
          refine hK.out _ _ (hHeld.alloc hHeld.size _) (fun hHeld => ?_)
          clear hK K
          refine norm_ (a' := ?_) ?_ ?_
          rotate_left
          · show Act.put _ (some 6) _ = _
            simp only [Act.put, sA, sB, sC]
            rfl
          refine one_ (i := 8) (N := some 18) #[true, true, true, true, true, true, true, true, true, true, true, true, true, true, true, false, false, false, false, false, true, false] rfl rfl (by kernel_rfl) (by decide) (fun K hK => ?_)
          refine goes_ Tryd.func43 (by kernel_rfl) rfl #[.slice NB sb.next.length MC, .slice A2 a.last.length c2, .slice B1 b.first.length d1] (by rfl) rfl rfl (by (try simp only [List.map_toArray, List.map_cons, List.map_nil]); rfl) ?_
          have hlk := (link_any (B := 0) (S := Ty (W.drew.alloc (Obj.cells #[.slice none 0 0, .slice none 0 0, .slice none 0 0, .slice none 0 0, .bool false] 56)) 3) (S' := Ty (W.drew.alloc (Obj.cells #[.slice none 0 0, .slice none 0 0, .slice none 0 0, .slice none 0 0, .bool false] 56)) 3) _ _ _ sb.next a.last b.first (W.drew.alloc (Obj.cells #[.slice none 0 0, .slice none 0 0, .slice none 0 0, .slice none 0 0, .bool false] 56)) (HNB.out.below hHeld) (IRT.below HA4.out hHeld) (IRT.below HB3.out hHeld) (by omega))
          rw [HLN.out] at hlk
          refine hlk.mono ?_
          rintro e w4 ⟨A5, c5, rfl, hn4, hb4⟩
          refine ⟨_, rfl, ?_⟩
          refine hK.out _ _ (hHeld.trans (hb4.mono hHeld.size)) (fun hHeld => ?_)
          clear hK K
          refine norm_ (a' := ?_) ?_ ?_
          rotate_left
          · show Act.put _ (some 18) _ = _
            simp only [Act.put, sA, sB, sC]
            rfl
          refine pure_ (i := 15) (N := some 25) (v := ?_) (a' := ?_) #[true, true, true, true, true, true, true, true, true, true, true, true, true, true, true, true, false, false, false, false, true, false] rfl rfl (by kernel_rfl) (fun _ _ _ h => h) (Or.inl ⟨by rfl, ?_⟩) ?_ ?_
          rotate_left
          · intro w'
            go_simp
            with_reducible rfl
          rotate_left
          · simp only [Act.put, sA, sB, sC]
            rfl
          refine pure_ (i := 16) (N := some 26) (v := ?_) (a' := ?_) #[true, true, true, true, true, true, true, true, true, true, true, true, true, true, true, true, true, false, false, false, true, false] rfl rfl (by kernel_rfl) (fun _ _ _ h => h) (Or.inr ⟨by rfl, ?_⟩) ?_ ?_
          rotate_left
          · rfl
          rotate_left
          · simp only [Act.put, sA, sB, sC]
            rfl
          refine pure_ (i := 17) (N := some 27) (v := ?_) (a' := ?_) #[true, true, true, true, true, true, true, true, true, true, true, true, true, true, true, true, true, true, false, false, true, false] rfl rfl (by kernel_rfl) (fun _ _ _ h => h) (Or.inr ⟨by rfl, ?_⟩) ?_ ?_
          rotate_left
          · rfl
          rotate_left
          · simp only [Act.put, sA, sB, sC]
            rfl
          refine pure_ (i := 18) (N := some 28) (v := ?_) (a' := ?_) #[true, true, true, true, true, true, true, true, true, true, true, true, true, true, true, true, true, true, true, false, true, false] rfl rfl (by kernel_rfl) (fun _ _ _ h => h) (Or.inl ⟨by rfl, ?_⟩) ?_ ?_
          rotate_left
          · intro w'
            go_simp
            with_reducible rfl
          rotate_left
          · simp only [Act.put, sA, sB, sC]
            rfl
          refine pure_ (i := 19) (N := some 29) (v := ?_) (a' := ?_) #[true, true, true, true, true, true, true, true, true, true, true, true, true, true, true, true, true, true, true, true, true, false] rfl rfl (by kernel_rfl) (fun _ _ _ h => h) (Or.inl ⟨by rfl, ?_⟩) ?_ ?_
          rotate_left
          · intro w'
            go_simp
            with_reducible rfl
          rotate_left
          · simp only [Act.put, sA, sB, sC]
            rfl
          have hJ2 := hJ (W.drew.heap.size, A5, c5) _ ⟨hHeld, hn4.lower (Nat.zero_le _), heap_aq hb4 (heap_a0 _ _), Nat.le_refl _⟩
          simp only [putAll, Act.put, sA, sB, sC] at hJ2
          exact hJ2
      rintro ⟨k, A5, c5⟩ w5 ⟨hHeld, hn5, hk5, hkl⟩
      refine norm_ (a' := ?_) ?_ ?_
      rotate_left
      · show putAll _ _ = _
        simp only [putAll, Act.put, sA, sB, sC]
        rfl
      refine last_ (i := 21) (N := none) #[true, true, true, true, true, true, true, true, true, true, true, true, true, true, true, true, true, true, true, true, true, true] rfl rfl (by kernel_rfl) (by decide) (fun K hK => ?_)
      refine skip_ (w1 := ?_) (by rfl) rfl ?_ ?_
      rotate_left
      · obtain ⟨⟨z0, z1, z2, z3, z4⟩, y0, y1, y2, y3, y4, _⟩ := box5 hk5
        go_simp
        rfl
      refine hK.out _ _ ?_
      clear hK K
      refine done_ (by kernel_rfl) ?_
      have han := hHN.out; have hbn := hHM.out
      clear hHN hHM
      have hk6 := set5_box hk5 (.slice SB sb.sets.length TC) (.slice A5 (nextL sb.next a.last b.first).length c5) (.slice A1 a.first.length c1) (.slice B2 b.last.length d2) (.bool false)
      have hks := set5_ks ⟨_, _, hk5⟩ (by decide) (by decide) (by decide) (by decide) (.slice SB sb.sets.length TC) (.slice A5 (nextL sb.next a.last b.first).length c5) (.slice A1 a.first.length c1) (.slice B2 b.last.length d2) (.bool false)
      have hB6 := set5_below hHeld hkl (.slice SB sb.sets.length TC) (.slice A5 (nextL sb.next a.last b.first).length c5) (.slice A1 a.first.length c1) (.slice B2 b.last.length d2) (.bool false)
      have hn6 := hn5.side hks
      obtain ⟨w6, hw6⟩ : ∃ w6, w6 = set5 w5 k (.slice SB sb.sets.length TC) (.slice A5 (nextL sb.next a.last b.first).length c5) (.slice A1 a.first.length c1) (.slice B2 b.last.length d2) (.bool false) := ⟨_, rfl⟩
      rw [← hw6] at hk6 hB6 hn6
      simp only [set5] at hw6
      rw [← hw6]
      clear hw6 hks hn5 hk5 hHeld
      obtain ⟨⟨p0, p1, p2, p3, p4⟩, _, _, _, _, _, pl⟩ := box5 (heap_aq hB6 K0.out)
      obtain ⟨⟨q0, q1, q2, q3, q4⟩, _, _, _, _, _, ql⟩ := box5 (heap_aq hB6 K1.out)
      obtain ⟨⟨r0, r1, r2, r3, r4⟩, t0, t1, t2, t3, t4, rl⟩ := box5 (heap_aq hB6 K2.out)
      obtain ⟨⟨z0, z1, z2, z3, z4⟩, y0, y1, y2, y3, y4, kl⟩ := box5 hk6
      have HK6 := Lib.hid hk6; have HB6 := Lib.hid hB6; have HN6 := Lib.hid hn6
      clear hk6 hB6 hn6
      go_wp2_with fail
      have hjn := join_any (S := Ty (w6) 3) (S' := Ty (w6) 3) (.slice A2 a.last.length c2) (.slice B2 b.last.length d2) a.last b.last sb.sets.length (w6) (IRT.below HA4.out HB6.out) (IRT.below HB4.out HB6.out) (by omega)
      rw [HJL.out] at hjn
      refine hjn.mono ?_
      rintro e w7 ⟨E6, e6, rfl, hj, hb1⟩
      have hB1 := HB6.out.trans (hb1.mono HB6.out.size)
      have hkx := heap_aq hb1 HK6.out
      have hksx := (KS.refl w7).setCell (r := k) ⟨_, _, hkx⟩ (by decide) (by decide) (by decide) (by decide) 3 (.slice E6 (mergeL a.last b.last).length e6)
      have HK8 := Lib.hid (heap_setCell_same _ k 3 (.slice E6 (mergeL a.last b.last).length e6) hkx)
      have HB8 := Lib.hid (hB1.setCell (p := ⟨k, 3, none⟩) hkl (.slice E6 (mergeL a.last b.last).length e6))
      have HN8 := Lib.hid ((HN6.out.below hb1).side hksx)
      have HJ8 := Lib.hid (IRT.keep hj hksx.keep3)
      obtain ⟨⟨p0, p1, p2, p3, p4⟩, _, _, _, _, _, pl⟩ := box5 (heap_aq hB1 K0.out)
      obtain ⟨⟨q0, q1, q2, q3, q4⟩, _, _, _, _, _, ql⟩ := box5 (heap_aq hB1 K1.out)
      obtain ⟨⟨r0, r1, r2, r3, r4⟩, t0, t1, t2, t3, t4, rl⟩ := box5 (heap_aq hB1 K2.out)
      obtain ⟨⟨z0, z1, z2, z3, z4⟩, y0, y1, y2, y3, y4, kl⟩ := box5 hkx
      clear hksx hkx hB1 hj hb1 hjn
      have hwr : WR ((w7.setCell ⟨k, 3, none⟩ (.slice E6 (mergeL a.last b.last).length e6))) (.agg #[(.slice SB sb.sets.length TC), (.slice A5 (nextL sb.next a.last b.first).length c5), (.slice A1 a.first.length c1), (.slice E6 (mergeL a.last b.last).length e6), .bool false]) (behindP a b) (behindS sb a b) :=
        ⟨SB, TC, A5, c5, _, _, _, _, by simp only [behindP, behindS, han, hbn]; rfl, own_keep HSB.out fun k hk _ => HB8.out.block k hk.lt, HN8.out, by simp only [behindP, han]; exact (IRT.below HA3.out HB8.out), by simp only [behindP, hbn]; exact HJ8.out⟩
      obtain ⟨e1, e2, e3⟩ := w_end (w := w) (HX.out.trans (HB8.out.mono HX.out.size)) (heap_aq HB8.out K2.out) (by omega) hwr
      have E1 := Lib.hid e1; have E2 := Lib.hid e2; have E3 := Lib.hid e3
      clear e1 e2 e3 hwr
      go_wp2_with fail
      refine bodyPost_ret (ret_w rfl _ _ (w.heap.size + 1 + 1) _ _ _ _ _ (0, 0) rfl E1.out) rfl ?_
      exact ⟨_, rfl, E2.out, E3.out⟩
  | true =>
    rw [han] at K0
    cases hbn : b.none with
    | false =>
      rw [hbn] at K1
      have hHN := Lib.hid han; have hHM := Lib.hid hbn
      clear han hbn
      go_wp2_with fail
      refine start_ (n := 22) (S := fun w' => Below W.heap.size W w') (ds := [21]) #[false, false, false, false, false, false, false, false, false, false, false, false, false, false, false, false, false, false, false, false, false, false] (by kernel_rfl) rfl rfl ((Below.refl _ _).drew) (fun hHeld => ?_)
      refine pure_ (i := 0) (N := some 10) (v := ?_) (a' := ?_) #[true, false, false, false, false, false, false, false, false, false, false, false, false, false, false, false, false, false, false, false, false, false] rfl rfl (by kernel_rfl) (fun _ _ _ h => h) (Or.inl ⟨by rfl, ?_⟩) ?_ ?_
      rotate_left
      · intro w'
        go_simp
        with_reducible rfl
      rotate_left
      · simp only [Act.put, sA, sB, sC]
        rfl
      refine pure_ (i := 2) (N := some 12) (v := ?_) (a' := ?_) #[true, false, true, false, false, false, false, false, false, false, false, false, false, false, false, false, false, false, false, false, false, false] rfl rfl (by kernel_rfl) (fun _ _ _ h => h) (Or.inl ⟨by rfl, ?_⟩) ?_ ?_
      rotate_left
      · intro w'
        go_simp
        with_reducible rfl
      rotate_left
      · simp only [Act.put, sA, sB, sC]
        rfl
      refine pure_ (i := 4) (N := some 14) (v := ?_) (a' := ?_) #[true, false, true, false, true, false, false, false, false, false, false, false, false, false, false, false, false, false, false, false, false, false] rfl rfl (by kernel_rfl) (fun _ _ _ h => h) (Or.inl ⟨by rfl, ?_⟩) ?_ ?_
      rotate_left
      · intro w'
        go_simp
        with_reducible rfl
      rotate_left
      · simp only [Act.put, sA, sB, sC]
        rfl
      refine pure_ (i := 6) (N := some 16) (v := ?_) (a' := ?_) #[true, false, true, false, true, false, true, false, false, false, false, false, false, false, false, false, false, false, false, false, false, false] rfl rfl (by kernel_rfl) (fun _ _ _ h => h) (Or.inl ⟨by rfl, ?_⟩) ?_ ?_
      rotate_left
      · intro w'
        go_simp
        with_reducible rfl
      rotate_left
      · simp only [Act.put, sA, sB, sC]
        rfl
      refine pure_ (i := 9) (N := some 19) (v := ?_) (a' := ?_) #[true, false, true, false, true, false, true, false, false, true, false, false, false, false, false, false, false, false, false, false, false, false] rfl rfl (by kernel_rfl) (fun _ _ _ h => h) (Or.inl ⟨by rfl, ?_⟩) ?_ ?_
      rotate_left
      · intro w'
        go_simp
        with_reducible rfl
      rotate_left
      · simp only [Act.put, sA, sB, sC]
        rfl
      refine pure_ (i := 11) (N := some 21) (v := ?_) (a' := ?_) #[true, false, true, false, true, false, true, false, false, true, false, true, false, false, false, false, false, false, false, false, false, false] rfl rfl (by kernel_rfl) (fun _ _ _ h => h) (Or.inl ⟨by rfl, ?_⟩) ?_ ?_
      rotate_left
      · intro w'
        go_simp
        with_reducible rfl
      rotate_left
      · simp only [Act.put, sA, sB, sC]
        rfl
      refine pure_ (i := 13) (N := some 23) (v := ?_) (a' := ?_) #[true, false, true, false, true, false, true, false, false, true, false, true, false, true, false, false, false, false, false, false, false, false] rfl rfl (by kernel_rfl) (fun _ _ _ h => h) (Or.inl ⟨by rfl, ?_⟩) ?_ ?_
      rotate_left
      · intro w'
        go_simp
        with_reducible rfl
      rotate_left
      · simp only [Act.put, sA, sB, sC]
        rfl
      refine take_ (i := 1) (N := some 11) (v := ?_) (a' := ?_) #[true, true, true, false, true, false, true, false, false, true, false, true, false, true, false, false, false, false, false, false, false, false] rfl rfl (by kernel_rfl) (fun _ _ _ h => h) (Or.inl ⟨by rfl, ?_⟩) hHeld ?_ ?_
      rotate_left
      · intro w' sb; obtain ⟨⟨p0, p1, p2, p3, p4⟩, _, _, _, _, _, _⟩ := box5 (heap_aq sb K0.out); obtain ⟨⟨q0, q1, q2, q3, q4⟩, _, _, _, _, _, _⟩ := box5 (heap_aq sb K1.out)
        go_simp
        with_reducible rfl
      rotate_left
      · simp only [Act.put, sA, sB, sC]
        rfl
      refine take_ (i := 3) (N := some 13) (v := ?_) (a' := ?_) #[true, true, true, true, true, false, true, false, false, true, false, true, false, true, false, false, false, false, false, false, false, false] rfl rfl (by kernel_rfl) (fun _ _ _ h => h) (Or.inl ⟨by rfl, ?_⟩) hHeld ?_ ?_
      rotate_left
      · intro w' sb; obtain ⟨⟨p0, p1, p2, p3, p4⟩, _, _, _, _, _, _⟩ := box5 (heap_aq sb K0.out); obtain ⟨⟨q0, q1, q2, q3, q4⟩, _, _, _, _, _, _⟩ := box5 (heap_aq sb K1.out)
        go_simp
        with_reducible rfl
      rotate_left
      · simp only [Act.put, sA, sB, sC]
        rfl
      refine take_ (i := 5) (N := some 15) (v := ?_) (a' := ?_) #[true, true, true, true, true, true, true, false, false, true, false, true, false, true, false, false, false, false, false, false, false, false] rfl rfl (by kernel_rfl) (fun _ _ _ h => h) (Or.inl ⟨by rfl, ?_⟩) hHeld ?_ ?_
      rotate_left
      · intro w' sb; obtain ⟨⟨p0, p1, p2, p3, p4⟩, _, _, _, _, _, _⟩ := box5 (heap_aq sb K0.out); obtain ⟨⟨q0, q1, q2, q3, q4⟩, _, _, _, _, _, _⟩ := box5 (heap_aq sb K1.out)
        go_simp
        with_reducible rfl
      rotate_left
      · simp only [Act.put, sA, sB, sC]
        rfl
      refine take_ (i := 7) (N := some 17) (v := ?_) (a' := ?_) #[true, true, true, true, true, true, true, true, false, true, false, true, false, true, false, false, false, false, false, false, false, false] rfl rfl (by kernel_rfl) (fun _ _ _ h => h) (Or.inl ⟨by rfl, ?_⟩) hHeld ?_ ?_
      rotate_left
      · intro w' sb; obtain ⟨⟨p0, p1, p2, p3, p4⟩, _, _, _, _, _, _⟩ := box5 (heap_aq sb K0.out); obtain ⟨⟨q0, q1, q2, q3, q4⟩, _, _, _, _, _, _⟩ := box5 (heap_aq sb K1.out)
        go_simp
        with_reducible rfl
      rotate_left
      · simp only [Act.put, sA, sB, sC]
        rfl
      refine take_ (i := 10) (N := some 20) (v := ?_) (a' := ?_) #[true, true, true, true, true, true, true, true, false, true, true, true, false, true, false, false, false, false, false, false, false, false] rfl rfl (by kernel_rfl) (fun _ _ _ h => h) (Or.inl ⟨by rfl, ?_⟩) hHeld ?_ ?_
      rotate_left
      · intro w' sb; obtain ⟨⟨p0, p1, p2, p3, p4⟩, _, _, _, _, _, _⟩ := box5 (heap_aq sb K0.out); obtain ⟨⟨q0, q1, q2, q3, q4⟩, _, _, _, _, _, _⟩ := box5 (heap_aq sb K1.out)
        go_simp
        with_reducible rfl
      rotate_left
      · simp only [Act.put, sA, sB, sC]
        rfl
      refine take_ (i := 12) (N := some 22) (v := ?_) (a' := ?_) #[true, true, true, true, true, true, true, true, false, true, true, true, true, true, false, false, false, false, false, false, false, false] rfl rfl (by kernel_rfl) (fun _ _ _ h => h) (Or.inl ⟨by rfl, ?_⟩) hHeld ?_ ?_
      rotate_left
      · intro w' sb; obtain ⟨⟨p0, p1, p2, p3, p4⟩, _, _, _, _, _, _⟩ := box5 (heap_aq sb K0.out); obtain ⟨⟨q0, q1, q2, q3, q4⟩, _, _, _, _, _, _⟩ := box5 (heap_aq sb K1.out)
        go_simp
        with_reducible rfl
      rotate_left
      · simp only [Act.put, sA, sB, sC]
        rfl
      refine take_ (i := 14) (N := some 24) (v := ?_) (a' := ?_) #[true, true, true, true, true, true, true, true, false, true, true, true, true, true, true, false, false, false, false, false, false, false] rfl rfl (by kernel_rfl) (fun _ _ _ h => h) (Or.inl ⟨by rfl, ?_⟩) hHeld ?_ ?_
      rotate_left
      · intro w' sb; obtain ⟨⟨p0, p1, p2, p3, p4⟩, _, _, _, _, _, _⟩ := box5 (heap_aq sb K0.out); obtain ⟨⟨q0, q1, q2, q3, q4⟩, _, _, _, _, _, _⟩ := box5 (heap_aq sb K1.out)
        go_simp
        with_reducible rfl
      rotate_left
      · simp only [Act.put, sA, sB, sC]
        rfl
      refine join_ (σ := Nat × Option Addr × Nat) 1 #[true, true, true, true, true, true, true, true, true, true, true, true, true, true, true, true, true, true, true, true, true, false] (fun s => [(18, .slice s.2.1 (nextL sb.next a.last b.first).length s.2.2), (6, .pointer (some ⟨s.1, 0, none⟩)), (25, .bool true), (26, .pointer (some ⟨w.heap.size + 1, 4, none⟩)), (27, .bool false), (28, .bool false), (29, .agg #[.slice SB sb.sets.length TC, .slice s.2.1 (nextL sb.next a.last b.first).length s.2.2, .slice A1 a.first.length c1, .slice B2 b.last.length d2, .bool false])]) (fun s w' => Below W.heap.size W w' ∧ NXR 0 w' (.slice s.2.1 (nextL sb.next a.last b.first).length s.2.2) (nextL sb.next a.last b.first) ∧ w'.heap[s.1]? = some (Obj.cells #[.slice none 0 0, .slice none 0 0, .slice none 0 0, .slice none 0 0, .bool false] 56) ∧ W.heap.size ≤ s.1) ?_ ?_
      rotate_left
      · intro hJ
        refine two_ (i := 8) (j := 20) #[true, true, true, true, true, true, true, true, true, true, true, true, true, true, true, false, false, false, false, false, false, false] #[true, true, true, true, true, true, true, true, false, true, true, true, true, true, true, false, false, false, false, false, true, false] rfl rfl rfl rfl (by kernel_rfl) (by decide) (by decide) (fun K hK => ?_) (fun K hK => ?_)
        · refine goes_ Tryd.func43 (by kernel_rfl) rfl #[.slice NB sb.next.length MC, .slice A2 a.last.length c2, .slice B1 b.first.length d1] (by rfl) rfl rfl (by (try simp only [List.map_toArray, List.map_cons, List.map_nil]); rfl) ?_
          have hlk := (link_any (B := 0) (S := Ty W.drew 3) (S' := Ty W.drew 3) _ _ _ sb.next a.last b.first W.drew (HNB.out.below ((Below.refl W.heap.size W).drew)) (IRT.below HA4.out ((Below.refl W.heap.size W).drew)) (IRT.below HB3.out ((Below.refl W.heap.size W).drew)) (by omega))
          rw [HLN.out] at hlk
          refine hlk.mono ?_
          rintro e w4 ⟨A5, c5, rfl, hn4, hb4⟩
          refine ⟨_, rfl, ?_⟩
          refine hK.out _ _ (hHeld.trans (hb4.mono hHeld.size)) (fun hHeld => ?_)
          clear hK K
          refine norm_ (a' := ?_) ?_ ?_
          rotate_left
          · show Act.put _ (some 18) _ = _
            simp only [Act.put, sA, sB, sC]
            rfl
          refine pure_ (i := 15) (N := some 25) (v := ?_) (a' := ?_) #[true, true, true, true, true, true, true, true, true, true, true, true, true, true, true, true, false, false, false, false, false, false] rfl rfl (by kernel_rfl) (fun _ _ _ h => h) (Or.inl ⟨by rfl, ?_⟩) ?_ ?_
          rotate_left
          · intro w'
            go_simp
            with_reducible rfl
          rotate_left
          · simp only [Act.put, sA, sB, sC]
            rfl
          refine pure_ (i := 16) (N := some 26) (v := ?_) (a' := ?_) #[true, true, true, true, true, true, true, true, true, true, true, true, true, true, true, true, true, false, false, false, false, false] rfl rfl (by kernel_rfl) (fun _ _ _ h => h) (Or.inl ⟨by rfl, ?_⟩) ?_ ?_
          rotate_left
          · intro w'
            go_simp
            with_reducible rfl
          rotate_left
          · simp only [Act.put, sA, sB, sC]
            rfl
          refine take_ (i := 17) (N := some 27) (v := ?_) (a' := ?_) #[true, true, true, true, true, true, true, true, true, true, true, true, true, true, true, true, true, true, false, false, false, false] rfl rfl (by kernel_rfl) (fun _ _ _ h => h) (Or.inl ⟨by rfl, ?_⟩) hHeld ?_ ?_
          rotate_left
          · intro w' sb; obtain ⟨⟨p0, p1, p2, p3, p4⟩, _, _, _, _, _, _⟩ := box5 (heap_aq sb K0.out); obtain ⟨⟨q0, q1, q2, q3, q4⟩, _, _, _, _, _, _⟩ := box5 (heap_aq sb K1.out)
            go_simp
            with_reducible rfl
          rotate_left
          · simp only [Act.put, sA, sB, sC]
            rfl
          refine pure_ (i := 18) (N := some 28) (v := ?_) (a' := ?_) #[true, true, true, true, true, true, true, true, true, true, true, true, true, true, true, true, true, true, true, false, false, false] rfl rfl (by kernel_rfl) (fun _ _ _ h => h) (Or.inl ⟨by rfl, ?_⟩) ?_ ?_
          rotate_left
          · intro w'
            go_simp
            with_reducible rfl
          rotate_left
          · simp only [Act.put, sA, sB, sC]
            rfl
          refine pure_ (i := 19) (N := some 29) (v := ?_) (a' := ?_) #[true, true, true, true, true, true, true, true, true, true, true, true, true, true, true, true, true, true, true, true, false, false] rfl rfl (by kernel_rfl) (fun _ _ _ h => h) (Or.inl ⟨by rfl, ?_⟩) ?_ ?_
          rotate_left
          · intro w'
            go_simp
            with_reducible rfl
          rotate_left
          · simp only [Act.put, sA, sB, sC]
            rfl
          refine one_ (i := 20) (N := some 6) #[true, true, true, true, true, true, true, true, true, true, true, true, true, true, true, true, true, true, true, true, true, false] rfl rfl (by kernel_rfl) (by decide) (fun K hK => ?_)
          refine value_ (v := (.pointer (some ⟨w4.heap.size, 0, none⟩))) (w1 := (w4.alloc (Obj.cells #[.slice none 0 0, .slice none 0 0, .slice none 0 0, .slice none 0 0, .bool false] 56))) (by rfl) rfl (by first | rfl | (go_simp; done) | (go_simp; rfl)) ?_
          refine hK.out _ _ (hHeld.alloc hHeld.size _) (fun hHeld => ?_)
          clear hK K
          refine norm_ (a' := ?_) ?_ ?_
          rotate_left
          · show Act.put _ (some 6) _ = _
            simp only [Act.put, sA, sB, sC]
            rfl
          have hJ2 := hJ (w4.heap.size, A5, c5) _ ⟨hHeld, (hn4.lower (Nat.zero_le _)).below ((Below.refl _ _).alloc (Nat.le_refl _) _), heap_a0 _ _, hb4.size⟩
          simp only [putAll, Act.put, sA, sB, sC] at hJ2
          exact hJ2
        · refine value_ (v := (.pointer (some ⟨W.drew.heap.size, 0, none⟩))) (w1 := (W.drew.alloc (Obj.cells #[.slice none 0 0, .slice none 0 0, .slice none 0 0, .slice none 0 0, .bool false] 56))) (by rfl) rfl (by first | rfl | (go_simp; done) | (go_simp; rfl)) ?_
          refine hK.out _ _ (hHeld.alloc hHeld.size _) (fun hHeld => ?_)
          clear hK K
          refine norm_ (a' := ?_) ?_ ?_
          rotate_left
          · show Act.put _ (some 6) _ = _
            simp only [Act.put, sA, sB, sC]
            rfl
          refine one_ (i := 8) (N := some 18) #[true, true, true, true, true, true, true, true, true, true, true, true, true, true, true, false, false, false, false, false, true, false] rfl rfl (by kernel_rfl) (by decide) (fun K hK => ?_)
          refine goes_ Tryd.func43 (by kernel_rfl) rfl #[.slice NB sb.next.length MC, .slice A2 a.last.length c2, .slice B1 b.first.length d1] (by rfl) rfl rfl (by (try simp only [List.map_toArray, List.map_cons, List.map_nil]); rfl) ?_
          have hlk := (link_any (B := 0) (S := Ty (W.drew.alloc (Obj.cells #[.slice none 0 0, .slice none 0 0, .slice none 0 0, .slice none 0 0, .bool false] 56)) 3) (S' := Ty (W.drew.alloc (Obj.cells #[.slice none 0 0, .slice none 0 0, .slice none 0 0, .slice none 0 0, .bool false] 56)) 3) _ _ _ sb.next a.last b.first (W.drew.alloc (Obj.cells #[.slice none 0 0, .slice none 0 0, .slice none 0 0, .slice none 0 0, .bool false] 56)) (HNB.out.below hHeld) (IRT.below HA4.out hHeld) (IRT.below HB3.out hHeld) (by omega))
          rw [HLN.out] at hlk
          refine hlk.mono ?_
          rintro e w4 ⟨A5, c5, rfl, hn4, hb4⟩
          refine ⟨_, rfl, ?_⟩
          refine hK.out _ _ (hHeld.trans (hb4.mono hHeld.size)) (fun hHeld => ?_)
          clear hK K
          refine norm_ (a' := ?_) ?_ ?_
          rotate_left
          · show Act.put _ (some 18) _ = _
            simp only [Act.put, sA, sB, sC]
            rfl
          refine pure_ (i := 15) (N := some 25) (v := ?_) (a' := ?_) #[true, true, true, true, true, true, true, true, true, true, true, true, true, true, true, true, false, false, false, false, true, false] rfl rfl (by kernel_rfl) (fun _ _ _ h => h) (Or.inl ⟨by rfl, ?_⟩) ?_ ?_
          rotate_left
          · intro w'
            go_simp
            with_reducible rfl
          rotate_left
          · simp only [Act.put, sA, sB, sC]
            rfl
          refine pure_ (i := 16) (N := some 26) (v := ?_) (a' := ?_) #[true, true, true, true, true, true, true, true, true, true, true, true, true, true, true, true, true, false, false, false, true, false] rfl rfl (by kernel_rfl) (fun _ _ _ h => h) (Or.inl ⟨by rfl, ?_⟩) ?_ ?_
          rotate_left
          · intro w'
            go_simp
            with_reducible rfl
          rotate_left
          · simp only [Act.put, sA, sB, sC]
            rfl
          refine take_ (i := 17) (N := some 27) (v := ?_) (a' := ?_) #[true, true, true, true, true, true, true, true, true, true, true, true, true, true, true, true, true, true, false, false, true, false] rfl rfl (by kernel_rfl) (fun _ _ _ h => h) (Or.inl ⟨by rfl, ?_⟩) hHeld ?_ ?_
          rotate_left
          · intro w' sb; obtain ⟨⟨p0, p1, p2, p3, p4⟩, _, _, _, _, _, _⟩ := box5 (heap_aq sb K0.out); obtain ⟨⟨q0, q1, q2, q3, q4⟩, _, _, _, _, _, _⟩ := box5 (heap_aq sb K1.out)
            go_simp
            with_reducible rfl
          rotate_left
          · simp only [Act.put, sA, sB, sC]
            rfl
          refine pure_ (i := 18) (N := some 28) (v := ?_) (a' := ?_) #[true, true, true, true, true, true, true, true, true, true, true, true, true, true, true, true, true, true, true, false, true, false] rfl rfl (by kernel_rfl) (fun _ _ _ h => h) (Or.inl ⟨by rfl, ?_⟩) ?_ ?_
          rotate_left
          · intro w'
            go_simp
            with_reducible rfl
          rotate_left
          · simp only [Act.put, sA, sB, sC]
            rfl
          refine pure_ (i := 19) (N := some 29) (v := ?_) (a' := ?_) #[true, true, true, true, true, true, true, true, true, true, true, true, true, true, true, true, true, true, true, true, true, false] rfl rfl (by kernel_rfl) (fun _ _ _ h => h) (Or.inl ⟨by rfl, ?_⟩) ?_ ?_
          rotate_left
          · intro w'
            go_simp
            with_reducible rfl
          rotate_left
          · simp only [Act.put, sA, sB, sC]
            rfl
          have hJ2 := hJ (W.drew.heap.size, A5, c5) _ ⟨hHeld, hn4.lower (Nat.zero_le _), heap_aq hb4 (heap_a0 _ _), Nat.le_refl _⟩
          simp only [putAll, Act.put, sA, sB, sC] at hJ2
          exact hJ2
      rintro ⟨k, A5, c5⟩ w5 ⟨hHeld, hn5, hk5, hkl⟩
      refine norm_ (a' := ?_) ?_ ?_
      rotate_left
      · show putAll _ _ = _
        simp only [putAll, Act.put, sA, sB, sC]
        rfl
      refine last_ (i := 21) (N := none) #[true, true, true, true, true, true, true, true, true, true, true, true, true, true, true, true, true, true, true, true, true, true] rfl rfl (by kernel_rfl) (by decide) (fun K hK => ?_)
      refine skip_ (w1 := ?_) (by rfl) rfl ?_ ?_
      rotate_left
      · obtain ⟨⟨z0, z1, z2, z3, z4⟩, y0, y1, y2, y3, y4, _⟩ := box5 hk5
        go_simp
        rfl
      refine hK.out _ _ ?_
      clear hK K
      refine done_ (by kernel_rfl) ?_
      have han := hHN.out; have hbn := hHM.out
      clear hHN hHM
      have hk6 := set5_box hk5 (.slice SB sb.sets.length TC) (.slice A5 (nextL sb.next a.last b.first).length c5) (.slice A1 a.first.length c1) (.slice B2 b.last.length d2) (.bool false)
      have hks := set5_ks ⟨_, _, hk5⟩ (by decide) (by decide) (by decide) (by decide) (.slice SB sb.sets.length TC) (.slice A5 (nextL sb.next a.last b.first).length c5) (.slice A1 a.first.length c1) (.slice B2 b.last.length d2) (.bool false)
      have hB6 := set5_below hHeld hkl (.slice SB sb.sets.length TC) (.slice A5 (nextL sb.next a.last b.first).length c5) (.slice A1 a.first.length c1) (.slice B2 b.last.length d2) (.bool false)
      have hn6 := hn5.side hks
      obtain ⟨w6, hw6⟩ : ∃ w6, w6 = set5 w5 k (.slice SB sb.sets.length TC) (.slice A5 (nextL sb.next a.last b.first).length c5) (.slice A1 a.first.length c1) (.slice B2 b.last.length d2) (.bool false) := ⟨_, rfl⟩
      rw [← hw6] at hk6 hB6 hn6
      simp only [set5] at hw6
      rw [← hw6]
      clear hw6 hks hn5 hk5 hHeld
      obtain ⟨⟨p0, p1, p2, p3, p4⟩, _, _, _, _, _, pl⟩ := box5 (heap_aq hB6 K0.out)
      obtain ⟨⟨q0, q1, q2, q3, q4⟩, _, _, _, _, _, ql⟩ := box5 (heap_aq hB6 K1.out)
      obtain ⟨⟨r0, r1, r2, r3, r4⟩, t0, t1, t2, t3, t4, rl⟩ := box5 (heap_aq hB6 K2.out)
      obtain ⟨⟨z0, z1, z2, z3, z4⟩, y0, y1, y2, y3, y4, kl⟩ := box5 hk6
      have HK6 := Lib.hid hk6; have HB6 := Lib.hid hB6; have HN6 := Lib.hid hn6
      clear hk6 hB6 hn6
      go_wp2_with fail
      have hjn := join_any (S := Ty (w6) 3) (S' := Ty (w6) 3) (.slice A1 a.first.length c1) (.slice B1 b.first.length d1) a.first b.first sb.sets.length (w6) (IRT.below HA3.out HB6.out) (IRT.below HB3.out HB6.out) (by omega)
      rw [HJF.out] at hjn
      refine hjn.mono ?_
      rintro e w7 ⟨E6, e6, rfl, hj, hb1⟩
      have hB1 := HB6.out.trans (hb1.mono HB6.out.size)
      have hkx := heap_aq hb1 HK6.out
      have hksx := (KS.refl w7).setCell (r := k) ⟨_, _, hkx⟩ (by decide) (by decide) (by decide) (by decide) 2 (.slice E6 (mergeL a.first b.first).length e6)
      have HK8 := Lib.hid (heap_setCell_same _ k 2 (.slice E6 (mergeL a.first b.first).length e6) hkx)
      have HB8 := Lib.hid (hB1.setCell (p := ⟨k, 2, none⟩) hkl (.slice E6 (mergeL a.first b.first).length e6))
      have HN8 := Lib.hid ((HN6.out.below hb1).side hksx)
      have HJ8 := Lib.hid (IRT.keep hj hksx.keep3)
      obtain ⟨⟨p0, p1, p2, p3, p4⟩, _, _, _, _, _, pl⟩ := box5 (heap_aq hB1 K0.out)
      obtain ⟨⟨q0, q1, q2, q3, q4⟩, _, _, _, _, _, ql⟩ := box5 (heap_aq hB1 K1.out)
      obtain ⟨⟨r0, r1, r2, r3, r4⟩, t0, t1, t2, t3, t4, rl⟩ := box5 (heap_aq hB1 K2.out)
      obtain ⟨⟨z0, z1, z2, z3, z4⟩, y0, y1, y2, y3, y4, kl⟩ := box5 hkx
      clear hksx hkx hB1 hj hb1 hjn
      have hwr : WR ((w7.setCell ⟨k, 2, none⟩ (.slice E6 (mergeL a.first b.first).length e6))) (.agg #[(.slice SB sb.sets.length TC), (.slice A5 (nextL sb.next a.last b.first).length c5), (.slice E6 (mergeL a.first b.first).length e6), (.slice B2 b.last.length d2), .bool false]) (behindP a b) (behindS sb a b) :=
        ⟨SB, TC, A5, c5, _, _, _, _, by simp only [behindP, behindS, han, hbn]; rfl, own_keep HSB.out fun k hk _ => HB8.out.block k hk.lt, HN8.out, by simp only [behindP, han]; exact HJ8.out, by simp only [behindP, hbn]; exact (IRT.below HB4.out HB8.out)⟩
      obtain ⟨e1, e2, e3⟩ := w_end (w := w) (HX.out.trans (HB8.out.mono HX.out.size)) (heap_aq HB8.out K2.out) (by omega) hwr
      have E1 := Lib.hid e1; have E2 := Lib.hid e2; have E3 := Lib.hid e3
      clear e1 e2 e3 hwr
      go_wp2_with fail
      refine bodyPost_ret (ret_w rfl _ _ (w.heap.size + 1 + 1) _ _ _ _ _ (0, 0) rfl E1.out) rfl ?_
      exact ⟨_, rfl, E2.out, E3.out⟩
    | true =>
      rw [hbn] at K1
      have hHN := Lib.hid han; have hHM := Lib.hid hbn
      clear han hbn
      go_wp2_with fail
      refine start_ (n := 22) (S := fun w' => Below W.heap.size W w') (ds := [21]) #[false, false, false, false, false, false, false, false, false, false, false, false, false, false, false, false, false, false, false, false, false, false] (by kernel_rfl) rfl rfl ((Below.refl _ _).drew) (fun hHeld => ?_)
      refine pure_ (i := 0) (N := some 10) (v := ?_) (a' := ?_) #[true, false, false, false, false, false, false, false, false, false, false, false, false, false, false, false, false, false, false, false, false, false] rfl rfl (by kernel_rfl) (fun _ _ _ h => h) (Or.inl ⟨by rfl, ?_⟩) ?_ ?_
      rotate_left
      · intro w'
        go_simp
        with_reducible rfl
      rotate_left
      · simp only [Act.put, sA, sB, sC]
        rfl
      refine pure_ (i := 2) (N := some 12) (v := ?_) (a' := ?_) #[true, false, true, false, false, false, false, false, false, false, false, false, false, false, false, false, false, false, false, false, false, false] rfl rfl (by kernel_rfl) (fun _ _ _ h => h) (Or.inl ⟨by rfl, ?_⟩) ?_ ?_
      rotate_left
      · intro w'
        go_simp
        with_reducible rfl
      rotate_left
      · simp only [Act.put, sA, sB, sC]
        rfl
      refine pure_ (i := 4) (N := some 14) (v := ?_) (a' := ?_) #[true, false, true, false, true, false, false, false, false, false, false, false, false, false, false, false, false, false, false, false, false, false] rfl rfl (by kernel_rfl) (fun _ _ _ h => h) (Or.inl ⟨by rfl, ?_⟩) ?_ ?_
      rotate_left
      · intro w'
        go_simp
        with_reducible rfl
      rotate_left
      · simp only [Act.put, sA, sB, sC]
        rfl
      refine pure_ (i := 6) (N := some 16) (v := ?_) (a' := ?_) #[true, false, true, false, true, false, true, false, false, false, false, false, false, false, false, false, false, false, false, false, false, false] rfl rfl (by kernel_rfl) (fun _ _ _ h => h) (Or.inl ⟨by rfl, ?_⟩) ?_ ?_
      rotate_left
      · intro w'
        go_simp
        with_reducible rfl
      rotate_left
      · simp only [Act.put, sA, sB, sC]
        rfl
      refine pure_ (i := 9) (N := some 19) (v := ?_) (a' := ?_) #[true, false, true, false, true, false, true, false, false, true, false, false, false, false, false, false, false, false, false, false, false, false] rfl rfl (by kernel_rfl) (fun _ _ _ h => h) (Or.inl ⟨by rfl, ?_⟩) ?_ ?_
      rotate_left
      · intro w'
        go_simp
        with_reducible rfl
      rotate_left
      · simp only [Act.put, sA, sB, sC]
        rfl
      refine pure_ (i := 11) (N := some 21) (v := ?_) (a' := ?_) #[true, false, true, false, true, false, true, false, false, true, false, true, false, false, false, false, false, false, false, false, false, false] rfl rfl (by kernel_rfl) (fun _ _ _ h => h) (Or.inl ⟨by rfl, ?_⟩) ?_ ?_
      rotate_left
      · intro w'
        go_simp
        with_reducible rfl
      rotate_left
      · simp only [Act.put, sA, sB, sC]
        rfl
      refine pure_ (i := 13) (N := some 23) (v := ?_) (a' := ?_) #[true, false, true, false, true, false, true, false, false, true, false, true, false, true, false, false, false, false, false, false, false, false] rfl rfl (by kernel_rfl) (fun _ _ _ h => h) (Or.inl ⟨by rfl, ?_⟩) ?_ ?_
      rotate_left
      · intro w'
        go_simp
        with_reducible rfl
      rotate_left
      · simp only [Act.put, sA, sB, sC]
        rfl
      refine take_ (i := 1) (N := some 11) (v := ?_) (a' := ?_) #[true, true, true, false, true, false, true, false, false, true, false, true, false, true, false, false, false, false, false, false, false, false] rfl rfl (by kernel_rfl) (fun _ _ _ h => h) (Or.inl ⟨by rfl, ?_⟩) hHeld ?_ ?_
      rotate_left
      · intro w' sb; obtain ⟨⟨p0, p1, p2, p3, p4⟩, _, _, _, _, _, _⟩ := box5 (heap_aq sb K0.out); obtain ⟨⟨q0, q1, q2, q3, q4⟩, _, _, _, _, _, _⟩ := box5 (heap_aq sb K1.out)
        go_simp
        with_reducible rfl
      rotate_left
      · simp only [Act.put, sA, sB, sC]
        rfl
      refine take_ (i := 3) (N := some 13) (v := ?_) (a' := ?_) #[true, true, true, true, true, false, true, false, false, true, false, true, false, true, false, false, false, false, false, false, false, false] rfl rfl (by kernel_rfl) (fun _ _ _ h => h) (Or.inl ⟨by rfl, ?_⟩) hHeld ?_ ?_
      rotate_left
      · intro w' sb; obtain ⟨⟨p0, p1, p2, p3, p4⟩, _, _, _, _, _, _⟩ := box5 (heap_aq sb K0.out); obtain ⟨⟨q0, q1, q2, q3, q4⟩, _, _, _, _, _, _⟩ := box5 (heap_aq sb K1.out)
        go_simp
        with_reducible rfl
      rotate_left
      · simp only [Act.put, sA, sB, sC]
        rfl
      refine take_ (i := 5) (N := some 15) (v := ?_) (a' := ?_) #[true, true, true, true, true, true, true, false, false, true, false, true, false, true, false, false, false, false, false, false, false, false] rfl rfl (by kernel_rfl) (fun _ _ _ h => h) (Or.inl ⟨by rfl, ?_⟩) hHeld ?_ ?_
      rotate_left
      · intro w' sb; obtain ⟨⟨p0, p1, p2, p3, p4⟩, _, _, _, _, _, _⟩ := box5 (heap_aq sb K0.out); obtain ⟨⟨q0, q1, q2, q3, q4⟩, _, _, _, _, _, _⟩ := box5 (heap_aq sb K1.out)
        go_simp
        with_reducible rfl
      rotate_left
      · simp only [Act.put, sA, sB, sC]
        rfl
      refine take_ (i := 7) (N := some 17) (v := ?_) (a' := ?_) #[true, true, true, true, true, true, true, true, false, true, false, true, false, true, false, false, false, false, false, false, false, false] rfl rfl (by kernel_rfl) (fun _ _ _ h => h) (Or.inl ⟨by rfl, ?_⟩) hHeld ?_ ?_
      rotate_left
      · intro w' sb; obtain ⟨⟨p0, p1, p2, p3, p4⟩, _, _, _, _, _, _⟩ := box5 (heap_aq sb K0.out); obtain ⟨⟨q0, q1, q2, q3, q4⟩, _, _, _, _, _, _⟩ := box5 (heap_aq sb K1.out)
        go_simp
        with_reducible rfl
      rotate_left
      · simp only [Act.put, sA, sB, sC]
        rfl
      refine take_ (i := 10) (N := some 20) (v := ?_) (a' := ?_) #[true, true, true, true, true, true, true, true, false, true, true, true, false, true, false, false, false, false, false, false, false, false] rfl rfl (by kernel_rfl) (fun _ _ _ h => h) (Or.inl ⟨by rfl, ?_⟩) hHeld ?_ ?_
      rotate_left
      · intro w' sb; obtain ⟨⟨p0, p1, p2, p3, p4⟩, _, _, _, _, _, _⟩ := box5 (heap_aq sb K0.out); obtain ⟨⟨q0, q1, q2, q3, q4⟩, _, _, _, _, _, _⟩ := box5 (heap_aq sb K1.out)
        go_simp
        with_reducible rfl
      rotate_left
      · simp only [Act.put, sA, sB, sC]
        rfl
      refine take_ (i := 12) (N := some 22) (v := ?_) (a' := ?_) #[true, true, true, true, true, true, true, true, false, true, true, true, true, true, false, false, false, false, false, false, false, false] rfl rfl (by kernel_rfl) (fun _ _ _ h => h) (Or.inl ⟨by rfl, ?_⟩) hHeld ?_ ?_
      rotate_left
      · intro w' sb; obtain ⟨⟨p0, p1, p2, p3, p4⟩, _, _, _, _, _, _⟩ := box5 (heap_aq sb K0.out); obtain ⟨⟨q0, q1, q2, q3, q4⟩, _, _, _, _, _, _⟩ := box5 (heap_aq sb K1.out)
        go_simp
        with_reducible rfl
      rotate_left
      · simp only [Act.put, sA, sB, sC]
        rfl
      refine take_ (i := 14) (N := some 24) (v := ?_) (a' := ?_) #[true, true, true, true, true, true, true, true, false, true, true, true, true, true, true, false, false, false, false, false, false, false] rfl rfl (by kernel_rfl) (fun _ _ _ h => h) (Or.inl ⟨by rfl, ?_⟩) hHeld ?_ ?_
      rotate_left
      · intro w' sb; obtain ⟨⟨p0, p1, p2, p3, p4⟩, _, _, _, _, _, _⟩ := box5 (heap_aq sb K0.out); obtain ⟨⟨q0, q1, q2, q3, q4⟩, _, _, _, _, _, _⟩ := box5 (heap_aq sb K1.out)
        go_simp
        with_reducible rfl
      rotate_left
      · simp only [Act.put, sA, sB, sC]
        rfl
      refine join_ (σ := Nat × Option Addr × Nat) 1 #[true, true, true, true, true, true, true, true, true, true, true, true, true, true, true, true, true, true, true, true, true, false] (fun s => [(18, .slice s.2.1 (nextL sb.next a.last b.first).length s.2.2), (6, .pointer (some ⟨s.1, 0, none⟩)), (25, .bool true), (26, .pointer (some ⟨w.heap.size + 1, 4, none⟩)), (27, .bool true), (28, .bool true), (29, .agg #[.slice SB sb.sets.length TC, .slice s.2.1 (nextL sb.next a.last b.first).length s.2.2, .slice A1 a.first.length c1, .slice B2 b.last.length d2, .bool true])]) (fun s w' => Below W.heap.size W w' ∧ NXR 0 w' (.slice s.2.1 (nextL sb.next a.last b.first).length s.2.2) (nextL sb.next a.last b.first) ∧ w'.heap[s.1]? = some (Obj.cells #[.slice none 0 0, .slice none 0 0, .slice none 0 0, .slice none 0 0, .bool false] 56) ∧ W.heap.size ≤ s.1) ?_ ?_
      rotate_left
      · intro hJ
        refine two_ (i := 8) (j := 20) #[true, true, true, true, true, true, true, true, true, true, true, true, true, true, true, false, false, false, false, false, false, false] #[true, true, true, true, true, true, true, true, false, true, true, true, true, true, true, false, false, false, false, false, true, false] rfl rfl rfl rfl (by kernel_rfl) (by decide) (by decide) (fun K hK => ?_) (fun K hK => ?_)
        · refine goes_ Tryd.func43 (by kernel_rfl) rfl #[.slice NB sb.next.length MC, .slice A2 a.last.length c2, .slice B1 b.first.length d1] (by rfl) rfl rfl (by (try simp only [List.map_toArray, List.map_cons, List.map_nil]); rfl) ?_
          have hlk := (link_any (B := 0) (S := Ty W.drew 3) (S' := Ty W.drew 3) _ _ _ sb.next a.last b.first W.drew (HNB.out.below ((Below.refl W.heap.size W).drew)) (IRT.below HA4.out ((Below.refl W.heap.size W).drew)) (IRT.below HB3.out ((Below.refl W.heap.size W).drew)) (by omega))
          rw [HLN.out] at hlk
          refine hlk.mono ?_
          rintro e w4 ⟨A5, c5, rfl, hn4, hb4⟩
          refine ⟨_, rfl, ?_⟩
          refine hK.out _ _ (hHeld.trans (hb4.mono hHeld.size)) (fun hHeld => ?_)
          clear hK K
          refine norm_ (a' := ?_) ?_ ?_
          rotate_left
          · show Act.put _ (some 18) _ = _
            simp only [Act.put, sA, sB, sC]
            rfl
          refine pure_ (i := 15) (N := some 25) (v := ?_) (a' := ?_) #[true, true, true, true, true, true, true, true, true, true, true, true, true, true, true, true, false, false, false, false, false, false] rfl rfl (by kernel_rfl) (fun _ _ _ h => h) (Or.inl ⟨by rfl, ?_⟩) ?_ ?_
          rotate_left
          · intro w'
            go_simp
            with_reducible rfl
          rotate_left
          · simp only [Act.put, sA, sB, sC]
            rfl
          refine pure_ (i := 16) (N := some 26) (v := ?_) (a' := ?_) #[true, true, true, true, true, true, true, true, true, true, true, true, true, true, true, true, true, false, false, false, false, false] rfl rfl (by kernel_rfl) (fun _ _ _ h => h) (Or.inl ⟨by rfl, ?_⟩) ?_ ?_
          rotate_left
          · intro w'
            go_simp
            with_reducible rfl
          rotate_left
          · simp only [Act.put, sA, sB, sC]
            rfl
          refine take_ (i := 17) (N := some 27) (v := ?_) (a' := ?_) #[true, true, true, true, true, true, true, true, true, true, true, true, true, true, true, true, true, true, false, false, false, false] rfl rfl (by kernel_rfl) (fun _ _ _ h => h) (Or.inl ⟨by rfl, ?_⟩) hHeld ?_ ?_
          rotate_left
          · intro w' sb; obtain ⟨⟨p0, p1, p2, p3, p4⟩, _, _, _, _, _, _⟩ := box5 (heap_aq sb K0.out); obtain ⟨⟨q0, q1, q2, q3, q4⟩, _, _, _, _, _, _⟩ := box5 (heap_aq sb K1.out)
            go_simp
            with_reducible rfl
          rotate_left
          · simp only [Act.put, sA, sB, sC]
            rfl
          refine pure_ (i := 18) (N := some 28) (v := ?_) (a' := ?_) #[true, true, true, true, true, true, true, true, true, true, true, true, true, true, true, true, true, true, true, false, false, false] rfl rfl (by kernel_rfl) (fun _ _ _ h => h) (Or.inl ⟨by rfl, ?_⟩) ?_ ?_
          rotate_left
          · intro w'
            go_simp
            with_reducible rfl
          rotate_left
          · simp only [Act.put, sA, sB, sC]
            rfl
          refine pure_ (i := 19) (N := some 29) (v := ?_) (a' := ?_) #[true, true, true, true, true, true, true, true, true, true, true, true, true, true, true, true, true, true, true, true, false, false] rfl rfl (by kernel_rfl) (fun _ _ _ h => h) (Or.inl ⟨by rfl, ?_⟩) ?_ ?_
          rotate_left
          · intro w'
            go_simp
            with_reducible rfl
          rotate_left
          · simp only [Act.put, sA, sB, sC]
            rfl
          refine one_ (i := 20) (N := some 6) #[true, true, true, true, true, true, true, true, true, true, true, true, true, true, true, true, true, true, true, true, true, false] rfl rfl (by kernel_rfl) (by decide) (fun K hK => ?_)
          refine value_ (v := (.pointer (some ⟨w4.heap.size, 0, none⟩))) (w1 := (w4.alloc (Obj.cells #[.slice none 0 0, .slice none 0 0, .slice none 0 0, .slice none 0 0, .bool false] 56))) (by rfl) rfl (by first | rfl | (go_simp; done) | (go_simp; rfl)) ?_
          refine hK.out _ _ (hHeld.alloc hHeld.size _) (fun hHeld => ?_)
          clear hK K
          refine norm_ (a' := ?_) ?_ ?_
          rotate_left
          · show Act.put _ (some 6) _ = _
            simp only [Act.put, sA, sB, sC]
            rfl
          have hJ2 := hJ (w4.heap.size, A5, c5) _ ⟨hHeld, (hn4.lower (Nat.zero_le _)).below ((Below.refl _ _).alloc (Nat.le_refl _) _), heap_a0 _ _, hb4.size⟩
          simp only [putAll, Act.put, sA, sB, sC] at hJ2
          exact hJ2
        · refine value_ (v := (.pointer (some ⟨W.drew.heap.size, 0, none⟩))) (w1 := (W.drew.alloc (Obj.cells #[.slice none 0 0, .slice none 0 0, .slice none 0 0, .slice none 0 0, .bool false] 56))) (by rfl) rfl (by first | rfl | (go_simp; done) | (go_simp; rfl)) ?_
          refine hK.out _ _ (hHeld.alloc hHeld.size _) (fun hHeld => ?_)
          clear hK K
          refine norm_ (a' := ?_) ?_ ?_
          rotate_left
          · show Act.put _ (some 6) _ = _
            simp only [Act.put, sA, sB, sC]
            rfl
          refine one_ (i := 8) (N := some 18) #[true, true, true, true, true, true, true, true, true, true, true, true, true, true, true, false, false, false, false, false, true, false] rfl rfl (by kernel_rfl) (by decide) (fun K hK => ?_)
          refine goes_ Tryd.func43 (by kernel_rfl) rfl #[.slice NB sb.next.length MC, .slice A2 a.last.length c2, .slice B1 b.first.length d1] (by rfl) rfl rfl (by (try simp only [List.map_toArray, List.map_cons, List.map_nil]); rfl) ?_
          have hlk := (link_any (B := 0) (S := Ty (W.drew.alloc (Obj.cells #[.slice none 0 0, .slice none 0 0, .slice none 0 0, .slice none 0 0, .bool false] 56)) 3) (S' := Ty (W.drew.alloc (Obj.cells #[.slice none 0 0, .slice none 0 0, .slice none 0 0, .slice none 0 0, .bool false] 56)) 3) _ _ _ sb.next a.last b.first (W.drew.alloc (Obj.cells #[.slice none 0 0, .slice none 0 0, .slice none 0 0, .slice none 0 0, .bool false] 56)) (HNB.out.below hHeld) (IRT.below HA4.out hHeld) (IRT.below HB3.out hHeld) (by omega))
          rw [HLN.out] at hlk
          refine hlk.mono ?_
          rintro e w4 ⟨A5, c5, rfl, hn4, hb4⟩
          refine ⟨_, rfl, ?_⟩
          refine hK.out _ _ (hHeld.trans (hb4.mono hHeld.size)) (fun hHeld => ?_)
          clear hK K
          refine norm_ (a' := ?_) ?_ ?_
          rotate_left
          · show Act.put _ (some 18) _ = _
            simp only [Act.put, sA, sB, sC]
            rfl
          refine pure_ (i := 15) (N := some 25) (v := ?_) (a' := ?_) #[true, true, true, true, true, true, true, true, true, true, true, true, true, true, true, true, false, false, false, false, true, false] rfl rfl (by kernel_rfl) (fun _ _ _ h => h) (Or.inl ⟨by rfl, ?_⟩) ?_ ?_
          rotate_left
          · intro w'
            go_simp
            with_reducible rfl
          rotate_left
          · simp only [Act.put, sA, sB, sC]
            rfl
          refine pure_ (i := 16) (N := some 26) (v := ?_) (a' := ?_) #[true, true, true, true, true, true, true, true, true, true, true, true, true, true, true, true, true, false, false, false, true, false] rfl rfl (by kernel_rfl) (fun _ _ _ h => h) (Or.inl ⟨by rfl, ?_⟩) ?_ ?_
          rotate_left
          · intro w'
            go_simp
            with_reducible rfl
          rotate_left
          · simp only [Act.put, sA, sB, sC]
            rfl
          refine take_ (i := 17) (N := some 27) (v := ?_) (a' := ?_) #[true, true, true, true, true, true, true, true, true, true, true, true, true, true, true, true, true, true, false, false, true, false] rfl rfl (by kernel_rfl) (fun _ _ _ h => h) (Or.inl ⟨by rfl, ?_⟩) hHeld ?_ ?_
          rotate_left
          · intro w' sb; obtain ⟨⟨p0, p1, p2, p3, p4⟩, _, _, _, _, _, _⟩ := box5 (heap_aq sb K0.out); obtain ⟨⟨q0, q1, q2, q3, q4⟩, _, _, _, _, _, _⟩ := box5 (heap_aq sb K1.out)
            go_simp
            with_reducible rfl
          rotate_left
          · simp only [Act.put, sA, sB, sC]
            rfl
          refine pure_ (i := 18) (N := some 28) (v := ?_) (a' := ?_) #[true, true, true, true, true, true, true, true, true, true, true, true, true, true, true, true, true, true, true, false, true, false] rfl rfl (by kernel_rfl) (fun _ _ _ h => h) (Or.inl ⟨by rfl, ?_⟩) ?_ ?_
          rotate_left
          · intro w'
            go_simp
            with_reducible rfl
          rotate_left
          · simp only [Act.put, sA, sB, sC]
            rfl
          refine pure_ (i := 19) (N := some 29) (v := ?_) (a' := ?_) #[true, true, true, true, true, true, true, true, true, true, true, true, true, true, true, true, true, true, true, true, true, false] rfl rfl (by kernel_rfl) (fun _ _ _ h => h) (Or.inl ⟨by rfl, ?_⟩) ?_ ?_
          rotate_left
          · intro w'
            go_simp
            with_reducible rfl
          rotate_left
          · simp only [Act.put, sA, sB, sC]
            rfl
          have hJ2 := hJ (W.drew.heap.size, A5, c5) _ ⟨hHeld, hn4.lower (Nat.zero_le _), heap_aq hb4 (heap_a0 _ _), Nat.le_refl _⟩
          simp only [putAll, Act.put, sA, sB, sC] at hJ2
          exact hJ2
      rintro ⟨k, A5, c5⟩ w5 ⟨hHeld, hn5, hk5, hkl⟩
      refine norm_ (a' := ?_) ?_ ?_
      rotate_left
      · show putAll _ _ = _
        simp only [putAll, Act.put, sA, sB, sC]
        rfl
      refine last_ (i := 21) (N := none) #[true, true, true, true, true, true, true, true, true, true, true, true, true, true, true, true, true, true, true, true, true, true] rfl rfl (by kernel_rfl) (by decide) (fun K hK => ?_)
      refine skip_ (w1 := ?_) (by rfl) rfl ?_ ?_
      rotate_left
      · obtain ⟨⟨z0, z1, z2, z3, z4⟩, y0, y1, y2, y3, y4, _⟩ := box5 hk5
        go_simp
        rfl
      refine hK.out _ _ ?_
      clear hK K
      refine done_ (by kernel_rfl) ?_
      have han := hHN.out; have hbn := hHM.out
      clear hHN hHM
      have hk6 := set5_box hk5 (.slice SB sb.sets.length TC) (.slice A5 (nextL sb.next a.last b.first).length c5) (.slice A1 a.first.length c1) (.slice B2 b.last.length d2) (.bool true)
      have hks := set5_ks ⟨_, _, hk5⟩ (by decide) (by decide) (by decide) (by decide) (.slice SB sb.sets.length TC) (.slice A5 (nextL sb.next a.last b.first).length c5) (.slice A1 a.first.length c1) (.slice B2 b.last.length d2) (.bool true)
      have hB6 := set5_below hHeld hkl (.slice SB sb.sets.length TC) (.slice A5 (nextL sb.next a.last b.first).length c5) (.slice A1 a.first.length c1) (.slice B2 b.last.length d2) (.bool true)
      have hn6 := hn5.side hks
      obtain ⟨w6, hw6⟩ : ∃ w6, w6 = set5 w5 k (.slice SB sb.sets.length TC) (.slice A5 (nextL sb.next a.last b.first).length c5) (.slice A1 a.first.length c1) (.slice B2 b.last.length d2) (.bool true) := ⟨_, rfl⟩
      rw [← hw6] at hk6 hB6 hn6
      simp only [set5] at hw6
      rw [← hw6]
      clear hw6 hks hn5 hk5 hHeld
      obtain ⟨⟨p0, p1, p2, p3, p4⟩, _, _, _, _, _, pl⟩ := box5 (heap_aq hB6 K0.out)
      obtain ⟨⟨q0, q1, q2, q3, q4⟩, _, _, _, _, _, ql⟩ := box5 (heap_aq hB6 K1.out)
      obtain ⟨⟨r0, r1, r2, r3, r4⟩, t0, t1, t2, t3, t4, rl⟩ := box5 (heap_aq hB6 K2.out)
      obtain ⟨⟨z0, z1, z2, z3, z4⟩, y0, y1, y2, y3, y4, kl⟩ := box5 hk6
      have HK6 := Lib.hid hk6; have HB6 := Lib.hid hB6; have HN6 := Lib.hid hn6
      clear hk6 hB6 hn6
      go_wp2_with fail
      have hjn := join_any (S := Ty (w6) 3) (S' := Ty (w6) 3) (.slice A1 a.first.length c1) (.slice B1 b.first.length d1) a.first b.first sb.sets.length (w6) (IRT.below HA3.out HB6.out) (IRT.below HB3.out HB6.out) (by omega)
      rw [HJF.out] at hjn
      refine hjn.mono ?_
      rintro e w7 ⟨E6, e6, rfl, hj, hb1⟩
      have hB1 := HB6.out.trans (hb1.mono HB6.out.size)
      have hkx := heap_aq hb1 HK6.out
      have hksx := (KS.refl w7).setCell (r := k) ⟨_, _, hkx⟩ (by decide) (by decide) (by decide) (by decide) 2 (.slice E6 (mergeL a.first b.first).length e6)
      have HK8 := Lib.hid (heap_setCell_same _ k 2 (.slice E6 (mergeL a.first b.first).length e6) hkx)
      have HB8 := Lib.hid (hB1.setCell (p := ⟨k, 2, none⟩) hkl (.slice E6 (mergeL a.first b.first).length e6))
      have HN8 := Lib.hid ((HN6.out.below hb1).side hksx)
      have HJ8 := Lib.hid (IRT.keep hj hksx.keep3)
      obtain ⟨⟨p0, p1, p2, p3, p4⟩, _, _, _, _, _, pl⟩ := box5 (heap_aq hB1 K0.out)
      obtain ⟨⟨q0, q1, q2, q3, q4⟩, _, _, _, _, _, ql⟩ := box5 (heap_aq hB1 K1.out)
      obtain ⟨⟨r0, r1, r2, r3, r4⟩, t0, t1, t2, t3, t4, rl⟩ := box5 (heap_aq hB1 K2.out)
      obtain ⟨⟨z0, z1, z2, z3, z4⟩, y0, y1, y2, y3, y4, kl⟩ := box5 hkx
      clear hksx hkx hB1 hj hb1 hjn
      go_wp2_with fail
      have hjn := join_any (S := Ty ((w7.setCell ⟨k, 2, none⟩ (.slice E6 (mergeL a.first b.first).length e6))) 3) (S' := Ty ((w7.setCell ⟨k, 2, none⟩ (.slice E6 (mergeL a.first b.first).length e6))) 3) (.slice A2 a.last.length c2) (.slice B2 b.last.length d2) a.last b.last sb.sets.length ((w7.setCell ⟨k, 2, none⟩ (.slice E6 (mergeL a.first b.first).length e6))) (IRT.below HA4.out HB8.out) (IRT.below HB4.out HB8.out) (by omega)
      rw [HJL.out] at hjn
      refine hjn.mono ?_
      rintro e w9 ⟨E8, e8, rfl, hj, hb1⟩
      have hB1 := HB8.out.trans (hb1.mono HB8.out.size)
      have hkx := heap_aq hb1 HK8.out
      have hksx := (KS.refl w9).setCell (r := k) ⟨_, _, hkx⟩ (by decide) (by decide) (by decide) (by decide) 3 (.slice E8 (mergeL a.last b.last).length e8)
      have HK10 := Lib.hid (heap_setCell_same _ k 3 (.slice E8 (mergeL a.last b.last).length e8) hkx)
      have HB10 := Lib.hid (hB1.setCell (p := ⟨k, 3, none⟩) hkl (.slice E8 (mergeL a.last b.last).length e8))
      have HN10 := Lib.hid ((HN8.out.below hb1).side hksx)
      have HJ10 := Lib.hid (IRT.keep hj hksx.keep3)
      have HFF := Lib.hid (IRT.keep (IRT.below HJ8.out hb1) hksx.keep3)
      obtain ⟨⟨p0, p1, p2, p3, p4⟩, _, _, _, _, _, pl⟩ := box5 (heap_aq hB1 K0.out)
      obtain ⟨⟨q0, q1, q2, q3, q4⟩, _, _, _, _, _, ql⟩ := box5 (heap_aq hB1 K1.out)
      obtain ⟨⟨r0, r1, r2, r3, r4⟩, t0, t1, t2, t3, t4, rl⟩ := box5 (heap_aq hB1 K2.out)
      obtain ⟨⟨z0, z1, z2, z3, z4⟩, y0, y1, y2, y3, y4, kl⟩ := box5 hkx
      clear hksx hkx hB1 hj hb1 hjn
      have hwr : WR ((w9.setCell ⟨k, 3, none⟩ (.slice E8 (mergeL a.last b.last).length e8))) (.agg #[(.slice SB sb.sets.length TC), (.slice A5 (nextL sb.next a.last b.first).length c5), (.slice E6 (mergeL a.first b.first).length e6), (.slice E8 (mergeL a.last b.last).length e8), .bool true]) (behindP a b) (behindS sb a b) :=
        ⟨SB, TC, A5, c5, _, _, _, _, by simp only [behindP, behindS, han, hbn]; rfl, own_keep HSB.out fun k hk _ => HB10.out.block k hk.lt, HN10.out, by simp only [behindP, han]; exact HFF.out, by simp only [behindP, hbn]; exact HJ10.out⟩
      obtain ⟨e1, e2, e3⟩ := w_end (w := w) (HX.out.trans (HB10.out.mono HX.out.size)) (heap_aq HB10.out K2.out) (by omega) hwr
      have E1 := Lib.hid e1; have E2 := Lib.hid e2; have E3 := Lib.hid e3
      clear e1 e2 e3 hwr
      go_wp2_with fail
      refine bodyPost_ret (ret_w rfl _ _ (w.heap.size + 1 + 1) _ _ _ _ _ (0, 0) rfl E1.out) rfl ?_
      exact ⟨_, rfl, E2.out, E3.out⟩
end Go.Proofs.YtmcoaopcmjociaaDoor
