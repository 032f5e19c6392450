/- The reference's same and Same, at equal lists and equal spots. The reference's rest. The reference's write of a Cat. The reference's write of an Alt. -/
import Derived.Test.YtmcoaopcmjociaaDoorZo15
namespace Go.Proofs.YtmcoaopcmjociaaDoor
open Go Go.RowKit Go.Sort Go.Proofs.YtmcoaopcmjociaaDoorW.PrintLast

set_option maxRecDepth 100000 in
set_option maxHeartbeats 1000000 in
theorem same_true {S S' : Nat → Prop} (va vb : Value) (xs : List Int) (w : World) (ha : IR S w va xs) (hb : IR S' w vb xs) :
    Calls Tryd.prog 24 #[va, vb] w fun e w' => e = .returned (.bool true) ∧ Below w.heap.size w w' := by
  obtain ⟨A, c, rfl, hc, hcs⟩ := ha.form
  obtain ⟨A', c', rfl, hc', hcs'⟩ := hb.form
  have hl := ha.len
  have HC := Lib.hid hcs; have HC' := Lib.hid hcs'
  clear hcs hcs' ha hb
  go_enter Tryd.func24, Tryd.ntmps24
  go_wp2
  go_loopg [5] xs.length (fun g i wr => ∃ j : Nat, j + g = xs.length ∧ i = .int .i64 j ∧ Hid (Below w.heap.size w wr))
  case atStart => exact ⟨0, by omega, rfl, Lib.hid (Below.refl _ _)⟩
  case round =>
    obtain ⟨j, hj, rfl, hB⟩ := hrel
    have Hj := Lib.hid hj
    by_cases hlt : j < xs.length
    · obtain ⟨b, off, rfl, hS, hx⟩ := HC.out (by omega)
      obtain ⟨b', off', rfl, hS', hx'⟩ := HC'.out (by omega)
      have hxj := cell_keep hB.out (hx j hlt)
      have hxj' := cell_keep hB.out (hx' j hlt)
      obtain ⟨x, hxx⟩ : ∃ x, x = xs.getD j 0 := ⟨_, rfl⟩
      rw [← hxx] at hxj hxj'
      have Hx := Lib.hid hxj; have Hx' := Lib.hid hxj'; have Hlt := Lib.hid hlt
      clear hx hx' hxj hxj' hxx
      go_wp2_with fail
      refine start_ (n := 9) (S := fun w' => Below wr.heap.size wr w') (ds := []) #[false, false, false, false, false, false, false, false, false] (by kernel_rfl) rfl rfl ((Below.refl _ _).drew) (fun hHeld => ?_)
      refine pure_ (i := 0) (N := some 17) (v := ?_) (a' := ?_) #[true, false, false, false, false, false, false, false, false] rfl rfl (by kernel_rfl) (fun _ _ _ h => h) (Or.inl ⟨by rfl, ?_⟩) ?_ ?_
      rotate_left
      · intro w'
        go_simp
        with_reducible rfl
      rotate_left
      · simp only [Act.put, sA, sB, sC]
        rfl
      refine pure_ (i := 1) (N := some 18) (v := ?_) (a' := ?_) #[true, true, false, false, false, false, false, false, false] rfl rfl (by kernel_rfl) (fun _ _ _ h => h) (Or.inl ⟨by rfl, ?_⟩) ?_ ?_
      rotate_left
      · intro w'
        go_simp
        with_reducible rfl
      rotate_left
      · simp only [Act.put, sA, sB, sC]
        rfl
      refine pure_ (i := 2) (N := some 19) (v := ?_) (a' := ?_) #[true, true, true, false, false, false, false, false, false] rfl rfl (by kernel_rfl) (fun _ _ _ h => h) (Or.inl ⟨by rfl, ?_⟩) ?_ ?_
      rotate_left
      · intro w'
        go_simp
        with_reducible rfl
      rotate_left
      · simp only [Act.put, sA, sB, sC]
        rfl
      refine take_ (i := 3) (N := some 20) (v := ?_) (a' := ?_) #[true, true, true, true, false, false, false, false, false] rfl rfl (by kernel_rfl) (fun _ _ _ h => h) (Or.inl ⟨by rfl, ?_⟩) hHeld ?_ ?_
      rotate_left
      · intro w' sb; have u0 := cell_keep sb Hx.out; have u1 := cell_keep sb Hx'.out
        go_simp
        with_reducible rfl
      rotate_left
      · simp only [Act.put, sA, sB, sC]
        rfl
      refine pure_ (i := 4) (N := some 21) (v := ?_) (a' := ?_) #[true, true, true, true, true, false, false, false, false] rfl rfl (by kernel_rfl) (fun _ _ _ h => h) (Or.inl ⟨by rfl, ?_⟩) ?_ ?_
      rotate_left
      · intro w'
        go_simp
        with_reducible rfl
      rotate_left
      · simp only [Act.put, sA, sB, sC]
        rfl
      refine pure_ (i := 5) (N := some 22) (v := ?_) (a' := ?_) #[true, true, true, true, true, true, false, false, false] rfl rfl (by kernel_rfl) (fun _ _ _ h => h) (Or.inl ⟨by rfl, ?_⟩) ?_ ?_
      rotate_left
      · intro w'
        go_simp
        with_reducible rfl
      rotate_left
      · simp only [Act.put, sA, sB, sC]
        rfl
      refine pure_ (i := 6) (N := some 23) (v := ?_) (a' := ?_) #[true, true, true, true, true, true, true, false, false] rfl rfl (by kernel_rfl) (fun _ _ _ h => h) (Or.inl ⟨by rfl, ?_⟩) ?_ ?_
      rotate_left
      · intro w'
        go_simp
        with_reducible rfl
      rotate_left
      · simp only [Act.put, sA, sB, sC]
        rfl
      refine take_ (i := 7) (N := some 24) (v := ?_) (a' := ?_) #[true, true, true, true, true, true, true, true, false] rfl rfl (by kernel_rfl) (fun _ _ _ h => h) (Or.inl ⟨by rfl, ?_⟩) hHeld ?_ ?_
      rotate_left
      · intro w' sb; have u0 := cell_keep sb Hx.out; have u1 := cell_keep sb Hx'.out
        go_simp
        with_reducible rfl
      rotate_left
      · simp only [Act.put, sA, sB, sC]
        rfl
      refine pure_ (i := 8) (N := some 25) (v := ?_) (a' := ?_) #[true, true, true, true, true, true, true, true, true] rfl rfl (by kernel_rfl) (fun _ _ _ h => h) (Or.inl ⟨by rfl, ?_⟩) ?_ ?_
      rotate_left
      · intro w'
        go_simp
        with_reducible rfl
      rotate_left
      · simp only [Act.put, sA, sB, sC]
        rfl
      refine done_ (by kernel_rfl) ?_
      have HB1 := Lib.hid (hB.out.trans (hHeld.mono hB.out.size))
      clear hHeld
      go_wp2_with fail
      have hj := Hj.out
      have hlt := Hlt.out
      go_roundg (gk - 1)
      case measure => omega
      case rel => exact ⟨j + 1, by omega, by go_num, HB1⟩
    · go_wp2_with fail
      go_ret
      exact ⟨ret_bool rfl, hB.out⟩

theorem cells4_get : ∀ (ss : List S4) (i : Nat) (h : i < ss.length), (cells4 ss)[i * 4]? = some (.int .u64 ss[i].1) ∧ (cells4 ss)[i * 4 + 1]? = some (.int .u64 ss[i].2.1) ∧ (cells4 ss)[i * 4 + 2]? = some (.int .u64 ss[i].2.2.1) ∧ (cells4 ss)[i * 4 + 3]? = some (.int .u64 ss[i].2.2.2)
  | [], i, h => by simp at h
  | (a, b, c, d) :: ss, 0, h => by simp [cells4]
  | (a, b, c, d) :: ss, i + 1, h => by
    have ih := cells4_get ss i (by simpa using h)
    simp only [show (i + 1) * 4 = i * 4 + 4 by omega]
    simpa [cells4] using ih
theorem sets_get {B : Nat} {w : World} {A : Option Addr} {c n : Nat} {ss : List S4} (h : w.ownsRow B 24 4 (.slice A n c) n (cells4 ss)) (hn : ss.length = n) (i : Nat) (hi : i < ss.length) :
    ∃ g, A = some ⟨g, 0, none⟩ ∧ w.cell? ⟨g, i * 4, none⟩ = some (.int .u64 ss[i].1) ∧ w.cell? ⟨g, i * 4 + 1, none⟩ = some (.int .u64 ss[i].2.1) ∧ w.cell? ⟨g, i * 4 + 2, none⟩ = some (.int .u64 ss[i].2.2.1) ∧ w.cell? ⟨g, i * 4 + 3, none⟩ = some (.int .u64 ss[i].2.2.2) := by
  obtain ⟨h1, h2⟩ := h
  rcases h2 with ⟨he, h0⟩ | ⟨g, cap, cur, he, hg, hh, hc, hm, hs, ht⟩
  · omega
  · injection he with hA _ _
    subst hA
    have hget : ∀ j u, j < n * 4 → (cells4 ss)[j]? = some u → w.cell? ⟨g, j, none⟩ = some u := by
      intro j u hj hu
      rw [cell_of_row w g j cur _ _ hh, ← hu, ← ht, List.getElem?_take, if_pos hj]
      simp
    obtain ⟨g0, g1, g2, g3⟩ := cells4_get ss i hi
    exact ⟨g, rfl, hget _ _ (by omega) g0, hget _ _ (by omega) g1, hget _ _ (by omega) g2, hget _ _ (by omega) g3⟩
theorem neqSame (w : World) (a0 a1 a2 a3 : Int) : (binOp .neq 24 (.agg #[.int .u64 a0, .int .u64 a1, .int .u64 a2, .int .u64 a3]) (.agg #[.int .u64 a0, .int .u64 a1, .int .u64 a2, .int .u64 a3])).run Tryd.prog w = .ok (.bool false) w := by
  have h := setSize
  cases hi : Tryd.prog.info? 22 with
  | none => rw [hi] at h; simp at h
  | some i =>
    have := run_neq_set w Tryd.underlying24 Tryd.underlying22 hi (by rw [hi] at h; simpa using h) a0 a1 a2 a3 a0 a1 a2 a3
    simpa using this

set_option maxRecDepth 100000 in
set_option maxHeartbeats 4000000 in
theorem same_spots (va vb : Value) (p : Part) (s : St) (w : World) (ha : SpotsIn w va p s) (hb : SpotsIn w vb p s) (hsl : s.sets.length ≤ 1048576) (hnl : s.next.length ≤ 1048576) :
    Calls Tryd.prog 11 #[va, vb] w fun e w' => e = .returned (.bool true) ∧ Below w.heap.size w w' := by
  obtain ⟨Sv, fv, lv, Nv, vs, rfl, ha1, ha2, ha3, ha4, ha5⟩ := ha
  obtain ⟨SA, SC, rfl⟩ := own_shape ha1
  obtain ⟨NA, NC, rfl⟩ := own_shape ha2
  obtain ⟨A1, c1, rfl, _⟩ := ha4.form
  obtain ⟨A2, c2, rfl, _⟩ := ha5.form
  obtain ⟨Tv, gv, mv, Mv, us, rfl, hb1, hb2, hb3, hb4, hb5⟩ := hb
  obtain ⟨TA, TC, rfl⟩ := own_shape hb1
  obtain ⟨MA, MC, rfl⟩ := own_shape hb2
  obtain ⟨B1, d1, rfl, _⟩ := hb4.form
  obtain ⟨B2, d2, rfl, _⟩ := hb5.form
  have hNa : NXR 0 w (.slice NA s.next.length NC) s.next := ⟨vs, ha2, ha3⟩
  have hNb : NXR 0 w (.slice MA s.next.length MC) s.next := ⟨us, hb2, hb3⟩
  have hw2 := ((Below.refl w.heap.size w).alloc (Nat.le_refl _) (Obj.cells #[.slice SA s.sets.length SC, .bool p.none, .slice A1 p.first.length c1, .slice A2 p.last.length c2, .slice NA s.next.length NC] 35)).alloc (by simp) (Obj.cells #[.slice TA s.sets.length TC, .bool p.none, .slice B1 p.first.length d1, .slice B2 p.last.length d2, .slice MA s.next.length MC] 35)
  have k0 := heap_a1 (o' := (Obj.cells #[.slice TA s.sets.length TC, .bool p.none, .slice B1 p.first.length d1, .slice B2 p.last.length d2, .slice MA s.next.length MC] 35)) (heap_a0 w (Obj.cells #[.slice SA s.sets.length SC, .bool p.none, .slice A1 p.first.length c1, .slice A2 p.last.length c2, .slice NA s.next.length NC] 35))
  have k1 := heap_aB w (Obj.cells #[.slice SA s.sets.length SC, .bool p.none, .slice A1 p.first.length c1, .slice A2 p.last.length c2, .slice NA s.next.length NC] 35) (Obj.cells #[.slice TA s.sets.length TC, .bool p.none, .slice B1 p.first.length d1, .slice B2 p.last.length d2, .slice MA s.next.length MC] 35)
  have h1 := same_true _ _ p.first _ (IRT.below ha4 hw2) (IRT.below hb4 hw2)
  have HSa := Lib.hid (own_keep ha1 fun k hk _ => hw2.block k hk.lt); have HSb := Lib.hid (own_keep hb1 fun k hk _ => hw2.block k hk.lt)
  have HNa := Lib.hid (hNa.below hw2); have HNb := Lib.hid (hNb.below hw2); have HLa := Lib.hid (IRT.below ha5 hw2); have HLb := Lib.hid (IRT.below hb5 hw2)
  have K0 := Lib.hid k0; have K1 := Lib.hid k1; have HW2 := Lib.hid hw2; have H1 := Lib.hid h1
  clear ha1 ha2 ha3 ha4 ha5 hb1 hb2 hb3 hb4 hb5 hNa hNb hw2 k0 k1 h1
  go_enter Tryd.func11, Tryd.ntmps11
  go_wp2_with fail
  refine H1.out.mono ?_
  rintro e w1 ⟨rfl, hB1⟩
  have h2 := Lib.hid (same_true _ _ p.last _ (IRT.below HLa.out hB1) (IRT.below HLb.out hB1))
  obtain ⟨⟨p0, p1, p2, p3, p4⟩, _, _, _, _, _, pl⟩ := box5 (heap_aq hB1 K0.out)
  obtain ⟨⟨q0, q1, q2, q3, q4⟩, _, _, _, _, _, ql⟩ := box5 (heap_aq hB1 K1.out)
  have HB1 := Lib.hid hB1
  clear hB1
  go_wp2_with fail
  refine h2.out.mono ?_
  rintro e w2 ⟨rfl, hB2⟩
  obtain ⟨X, hX⟩ : ∃ X, X = ((w.alloc (Obj.cells #[.slice SA s.sets.length SC, .bool p.none, .slice A1 p.first.length c1, .slice A2 p.last.length c2, .slice NA s.next.length NC] 35)).alloc (Obj.cells #[.slice TA s.sets.length TC, .bool p.none, .slice B1 p.first.length d1, .slice B2 p.last.length d2, .slice MA s.next.length MC] 35)) := ⟨_, rfl⟩
  rw [← hX] at HSa HSb HNa HNb K0 K1 HW2 HB1
  clear hX HLa HLb H1 h2
  have HB2 := Lib.hid (HB1.out.trans (hB2.mono HB1.out.size))
  clear hB2 HB1
  go_wp2_with fail
  go_loopg [5] s.sets.length (fun g i wr => ∃ j : Nat, j + g = s.sets.length ∧ i = .int .i64 j ∧ Hid (Below X.heap.size X wr))
  case atStart => exact ⟨0, by omega, rfl, HB2⟩
  case round =>
    obtain ⟨j, hj, rfl, hB⟩ := hrel
    have Hj := Lib.hid hj
    obtain ⟨⟨p0, p1, p2, p3, p4⟩, _, _, _, _, _, pl⟩ := box5 (heap_aq hB.out K0.out)
    obtain ⟨⟨q0, q1, q2, q3, q4⟩, _, _, _, _, _, ql⟩ := box5 (heap_aq hB.out K1.out)
    by_cases hlt : j < s.sets.length
    · obtain ⟨g1, rfl, x0, x1, x2, x3⟩ := sets_get (own_keep HSa.out fun k hk _ => hB.out.block k hk.lt) rfl j hlt
      obtain ⟨g2, rfl, y0, y1, y2, y3⟩ := sets_get (own_keep HSb.out fun k hk _ => hB.out.block k hk.lt) rfl j hlt
      obtain ⟨S4j, hS4⟩ : ∃ S4j, S4j = s.sets[j] := ⟨_, rfl⟩
      rw [← hS4] at x0 x1 x2 x3 y0 y1 y2 y3
      clear hS4
      have HXY := Lib.hid (And.intro x0 (And.intro x1 (And.intro x2 (And.intro x3 (And.intro y0 (And.intro y1 (And.intro y2 y3)))))))
      have Hlt := Lib.hid hlt
      have hneq := neqSame
      clear x0 x1 x2 x3 y0 y1 y2 y3
      go_wp2_with fail
      refine start_ (n := 11) (S := fun w' => Below wr.heap.size wr w') (ds := []) #[false, false, false, false, false, false, false, false, false, false, false] (by kernel_rfl) rfl rfl ((Below.refl _ _).drew) (fun hHeld => ?_)
      refine pure_ (i := 0) (N := some 53) (v := ?_) (a' := ?_) #[true, false, false, false, false, false, false, false, false, false, false] rfl rfl (by kernel_rfl) (fun _ _ _ h => h) (Or.inl ⟨by rfl, ?_⟩) ?_ ?_
      rotate_left
      · intro w'
        go_simp
        with_reducible rfl
      rotate_left
      · simp only [Act.put, sA, sB, sC]
        rfl
      refine take_ (i := 1) (N := some 54) (v := ?_) (a' := ?_) #[true, true, false, false, false, false, false, false, false, false, false] rfl rfl (by kernel_rfl) (fun _ _ _ h => h) (Or.inl ⟨by rfl, ?_⟩) hHeld ?_ ?_
      rotate_left
      · intro w' sb; obtain ⟨⟨p0, p1, p2, p3, p4⟩, _, _, _, _, _, _⟩ := box5 (heap_aq sb (heap_aq hB.out K0.out)); obtain ⟨⟨q0, q1, q2, q3, q4⟩, _, _, _, _, _, _⟩ := box5 (heap_aq sb (heap_aq hB.out K1.out)); obtain ⟨x0, x1, x2, x3, y0, y1, y2, y3⟩ := HXY.out; replace x0 := cell_keep sb x0; replace x1 := cell_keep sb x1; replace x2 := cell_keep sb x2; replace x3 := cell_keep sb x3; replace y0 := cell_keep sb y0; replace y1 := cell_keep sb y1; replace y2 := cell_keep sb y2; replace y3 := cell_keep sb y3
        go_simp
        with_reducible rfl
      rotate_left
      · simp only [Act.put, sA, sB, sC]
        rfl
      refine pure_ (i := 2) (N := some 55) (v := ?_) (a' := ?_) #[true, true, true, false, false, false, false, false, false, false, false] rfl rfl (by kernel_rfl) (fun _ _ _ h => h) (Or.inl ⟨by rfl, ?_⟩) ?_ ?_
      rotate_left
      · intro w'
        go_simp
        with_reducible rfl
      rotate_left
      · simp only [Act.put, sA, sB, sC]
        rfl
      refine pure_ (i := 3) (N := some 56) (v := ?_) (a' := ?_) #[true, true, true, true, false, false, false, false, false, false, false] rfl rfl (by kernel_rfl) (fun _ _ _ h => h) (Or.inl ⟨by rfl, ?_⟩) ?_ ?_
      rotate_left
      · intro w'
        go_simp
        with_reducible rfl
      rotate_left
      · simp only [Act.put, sA, sB, sC]
        rfl
      refine take_ (i := 4) (N := some 57) (v := ?_) (a' := ?_) #[true, true, true, true, true, false, false, false, false, false, false] rfl rfl (by kernel_rfl) (fun _ _ _ h => h) (Or.inl ⟨by rfl, ?_⟩) hHeld ?_ ?_
      rotate_left
      · intro w' sb; obtain ⟨⟨p0, p1, p2, p3, p4⟩, _, _, _, _, _, _⟩ := box5 (heap_aq sb (heap_aq hB.out K0.out)); obtain ⟨⟨q0, q1, q2, q3, q4⟩, _, _, _, _, _, _⟩ := box5 (heap_aq sb (heap_aq hB.out K1.out)); obtain ⟨x0, x1, x2, x3, y0, y1, y2, y3⟩ := HXY.out; replace x0 := cell_keep sb x0; replace x1 := cell_keep sb x1; replace x2 := cell_keep sb x2; replace x3 := cell_keep sb x3; replace y0 := cell_keep sb y0; replace y1 := cell_keep sb y1; replace y2 := cell_keep sb y2; replace y3 := cell_keep sb y3
        go_simp
        with_reducible rfl
      rotate_left
      · simp only [Act.put, sA, sB, sC]
        rfl
      refine pure_ (i := 5) (N := some 58) (v := ?_) (a' := ?_) #[true, true, true, true, true, true, false, false, false, false, false] rfl rfl (by kernel_rfl) (fun _ _ _ h => h) (Or.inl ⟨by rfl, ?_⟩) ?_ ?_
      rotate_left
      · intro w'
        go_simp
        with_reducible rfl
      rotate_left
      · simp only [Act.put, sA, sB, sC]
        rfl
      refine take_ (i := 6) (N := some 59) (v := ?_) (a' := ?_) #[true, true, true, true, true, true, true, false, false, false, false] rfl rfl (by kernel_rfl) (fun _ _ _ h => h) (Or.inl ⟨by rfl, ?_⟩) hHeld ?_ ?_
      rotate_left
      · intro w' sb; obtain ⟨⟨p0, p1, p2, p3, p4⟩, _, _, _, _, _, _⟩ := box5 (heap_aq sb (heap_aq hB.out K0.out)); obtain ⟨⟨q0, q1, q2, q3, q4⟩, _, _, _, _, _, _⟩ := box5 (heap_aq sb (heap_aq hB.out K1.out)); obtain ⟨x0, x1, x2, x3, y0, y1, y2, y3⟩ := HXY.out; replace x0 := cell_keep sb x0; replace x1 := cell_keep sb x1; replace x2 := cell_keep sb x2; replace x3 := cell_keep sb x3; replace y0 := cell_keep sb y0; replace y1 := cell_keep sb y1; replace y2 := cell_keep sb y2; replace y3 := cell_keep sb y3
        go_simp
        with_reducible rfl
      rotate_left
      · simp only [Act.put, sA, sB, sC]
        rfl
      refine pure_ (i := 7) (N := some 60) (v := ?_) (a' := ?_) #[true, true, true, true, true, true, true, true, false, false, false] rfl rfl (by kernel_rfl) (fun _ _ _ h => h) (Or.inl ⟨by rfl, ?_⟩) ?_ ?_
      rotate_left
      · intro w'
        go_simp
        with_reducible rfl
      rotate_left
      · simp only [Act.put, sA, sB, sC]
        rfl
      refine pure_ (i := 8) (N := some 61) (v := ?_) (a' := ?_) #[true, true, true, true, true, true, true, true, true, false, false] rfl rfl (by kernel_rfl) (fun _ _ _ h => h) (Or.inl ⟨by rfl, ?_⟩) ?_ ?_
      rotate_left
      · intro w'
        go_simp
        with_reducible rfl
      rotate_left
      · simp only [Act.put, sA, sB, sC]
        rfl
      refine take_ (i := 9) (N := some 62) (v := ?_) (a' := ?_) #[true, true, true, true, true, true, true, true, true, true, false] rfl rfl (by kernel_rfl) (fun _ _ _ h => h) (Or.inl ⟨by rfl, ?_⟩) hHeld ?_ ?_
      rotate_left
      · intro w' sb; obtain ⟨⟨p0, p1, p2, p3, p4⟩, _, _, _, _, _, _⟩ := box5 (heap_aq sb (heap_aq hB.out K0.out)); obtain ⟨⟨q0, q1, q2, q3, q4⟩, _, _, _, _, _, _⟩ := box5 (heap_aq sb (heap_aq hB.out K1.out)); obtain ⟨x0, x1, x2, x3, y0, y1, y2, y3⟩ := HXY.out; replace x0 := cell_keep sb x0; replace x1 := cell_keep sb x1; replace x2 := cell_keep sb x2; replace x3 := cell_keep sb x3; replace y0 := cell_keep sb y0; replace y1 := cell_keep sb y1; replace y2 := cell_keep sb y2; replace y3 := cell_keep sb y3
        go_simp
        with_reducible rfl
      rotate_left
      · simp only [Act.put, sA, sB, sC]
        rfl
      refine pure_ (i := 10) (N := some 63) (v := ?_) (a' := ?_) #[true, true, true, true, true, true, true, true, true, true, true] rfl rfl (by kernel_rfl) (fun _ _ _ h => h) (Or.inl ⟨by rfl, ?_⟩) ?_ ?_
      rotate_left
      · intro w'
        go_simp
        with_reducible rfl
      rotate_left
      · simp only [Act.put, sA, sB, sC]
        rfl
      refine done_ (by kernel_rfl) ?_
      have HB1 := Lib.hid (hB.out.trans (hHeld.mono hB.out.size))
      clear hHeld
      go_wp2_with fail
      have hj := Hj.out
      have hlt := Hlt.out
      go_roundg (gk - 1)
      case measure => omega
      case rel => exact ⟨j + 1, by omega, by go_num, HB1⟩
    · go_wp2_with fail
      go_loopg [6] s.next.length (fun g i wr => ∃ j : Nat, j + g = s.next.length ∧ i = .int .i64 j ∧ Hid (Below X.heap.size X wr))
      case atStart => exact ⟨0, by omega, rfl, hB⟩
      case round =>
        obtain ⟨j, hj, rfl, hB⟩ := hrel
        have Hj := Lib.hid hj
        obtain ⟨⟨p0, p1, p2, p3, p4⟩, _, _, _, _, _, pl⟩ := box5 (heap_aq hB.out K0.out)
        obtain ⟨⟨q0, q1, q2, q3, q4⟩, _, _, _, _, _, ql⟩ := box5 (heap_aq hB.out K1.out)
        by_cases hlt : j < s.next.length
        · obtain ⟨g1, u1, rfl, x0, x1⟩ := (HNa.out.below hB.out).get j hlt
          obtain ⟨g2, u2, rfl, y0, y1⟩ := (HNb.out.below hB.out).get j hlt
          have HX0 := Lib.hid x0; have HX1 := Lib.hid x1; have HY0 := Lib.hid y0; have HY1 := Lib.hid y1; have Hlt := Lib.hid hlt
          clear x0 x1 y0 y1
          go_wp2_with fail
          refine start_ (n := 12) (S := fun w' => Below wr.heap.size wr w') (ds := []) #[false, false, false, false, false, false, false, false, false, false, false, false] (by kernel_rfl) rfl rfl ((Below.refl _ _).drew) (fun hHeld => ?_)
          refine pure_ (i := 0) (N := some 71) (v := ?_) (a' := ?_) #[true, false, false, false, false, false, false, false, false, false, false, false] rfl rfl (by kernel_rfl) (fun _ _ _ h => h) (Or.inl ⟨by rfl, ?_⟩) ?_ ?_
          rotate_left
          · intro w'
            go_simp
            with_reducible rfl
          rotate_left
          · simp only [Act.put, sA, sB, sC]
            rfl
          refine take_ (i := 1) (N := some 72) (v := ?_) (a' := ?_) #[true, true, false, false, false, false, false, false, false, false, false, false] rfl rfl (by kernel_rfl) (fun _ _ _ h => h) (Or.inl ⟨by rfl, ?_⟩) hHeld ?_ ?_
          rotate_left
          · intro w' sb; obtain ⟨⟨p0, p1, p2, p3, p4⟩, _, _, _, _, _, _⟩ := box5 (heap_aq sb (heap_aq hB.out K0.out)); obtain ⟨⟨q0, q1, q2, q3, q4⟩, _, _, _, _, _, _⟩ := box5 (heap_aq sb (heap_aq hB.out K1.out)); have x0 := cell_keep sb HX0.out; have y0 := cell_keep sb HY0.out
            go_simp
            with_reducible rfl
          rotate_left
          · simp only [Act.put, sA, sB, sC]
            rfl
          refine pure_ (i := 2) (N := some 73) (v := ?_) (a' := ?_) #[true, true, true, false, false, false, false, false, false, false, false, false] rfl rfl (by kernel_rfl) (fun _ _ _ h => h) (Or.inl ⟨by rfl, ?_⟩) ?_ ?_
          rotate_left
          · intro w'
            go_simp
            with_reducible rfl
          rotate_left
          · simp only [Act.put, sA, sB, sC]
            rfl
          refine pure_ (i := 3) (N := some 74) (v := ?_) (a' := ?_) #[true, true, true, true, false, false, false, false, false, false, false, false] rfl rfl (by kernel_rfl) (fun _ _ _ h => h) (Or.inl ⟨by rfl, ?_⟩) ?_ ?_
          rotate_left
          · intro w'
            go_simp
            with_reducible rfl
          rotate_left
          · simp only [Act.put, sA, sB, sC]
            rfl
          refine take_ (i := 4) (N := some 75) (v := ?_) (a' := ?_) #[true, true, true, true, true, false, false, false, false, false, false, false] rfl rfl (by kernel_rfl) (fun _ _ _ h => h) (Or.inl ⟨by rfl, ?_⟩) hHeld ?_ ?_
          rotate_left
          · intro w' sb; obtain ⟨⟨p0, p1, p2, p3, p4⟩, _, _, _, _, _, _⟩ := box5 (heap_aq sb (heap_aq hB.out K0.out)); obtain ⟨⟨q0, q1, q2, q3, q4⟩, _, _, _, _, _, _⟩ := box5 (heap_aq sb (heap_aq hB.out K1.out)); have x0 := cell_keep sb HX0.out; have y0 := cell_keep sb HY0.out
            go_simp
            with_reducible rfl
          rotate_left
          · simp only [Act.put, sA, sB, sC]
            rfl
          refine pure_ (i := 5) (N := some 76) (v := ?_) (a' := ?_) #[true, true, true, true, true, true, false, false, false, false, false, false] rfl rfl (by kernel_rfl) (fun _ _ _ h => h) (Or.inl ⟨by rfl, ?_⟩) ?_ ?_
          rotate_left
          · intro w'
            go_simp
            with_reducible rfl
          rotate_left
          · simp only [Act.put, sA, sB, sC]
            rfl
          refine take_ (i := 6) (N := some 77) (v := ?_) (a' := ?_) #[true, true, true, true, true, true, true, false, false, false, false, false] rfl rfl (by kernel_rfl) (fun _ _ _ h => h) (Or.inl ⟨by rfl, ?_⟩) hHeld ?_ ?_
          rotate_left
          · intro w' sb; obtain ⟨⟨p0, p1, p2, p3, p4⟩, _, _, _, _, _, _⟩ := box5 (heap_aq sb (heap_aq hB.out K0.out)); obtain ⟨⟨q0, q1, q2, q3, q4⟩, _, _, _, _, _, _⟩ := box5 (heap_aq sb (heap_aq hB.out K1.out)); have x0 := cell_keep sb HX0.out; have y0 := cell_keep sb HY0.out
            go_simp
            with_reducible rfl
          rotate_left
          · simp only [Act.put, sA, sB, sC]
            rfl
          refine pure_ (i := 7) (N := some 78) (v := ?_) (a' := ?_) #[true, true, true, true, true, true, true, true, false, false, false, false] rfl rfl (by kernel_rfl) (fun _ _ _ h => h) (Or.inl ⟨by rfl, ?_⟩) ?_ ?_
          rotate_left
          · intro w'
            go_simp
            with_reducible rfl
          rotate_left
          · simp only [Act.put, sA, sB, sC]
            rfl
          refine pure_ (i := 8) (N := some 79) (v := ?_) (a' := ?_) #[true, true, true, true, true, true, true, true, true, false, false, false] rfl rfl (by kernel_rfl) (fun _ _ _ h => h) (Or.inl ⟨by rfl, ?_⟩) ?_ ?_
          rotate_left
          · intro w'
            go_simp
            with_reducible rfl
          rotate_left
          · simp only [Act.put, sA, sB, sC]
            rfl
          refine take_ (i := 9) (N := some 80) (v := ?_) (a' := ?_) #[true, true, true, true, true, true, true, true, true, true, false, false] rfl rfl (by kernel_rfl) (fun _ _ _ h => h) (Or.inl ⟨by rfl, ?_⟩) hHeld ?_ ?_
          rotate_left
          · intro w' sb; obtain ⟨⟨p0, p1, p2, p3, p4⟩, _, _, _, _, _, _⟩ := box5 (heap_aq sb (heap_aq hB.out K0.out)); obtain ⟨⟨q0, q1, q2, q3, q4⟩, _, _, _, _, _, _⟩ := box5 (heap_aq sb (heap_aq hB.out K1.out)); have x0 := cell_keep sb HX0.out; have y0 := cell_keep sb HY0.out
            go_simp
            with_reducible rfl
          rotate_left
          · simp only [Act.put, sA, sB, sC]
            rfl
          refine one_ (i := 10) (N := some 81) #[true, true, true, true, true, true, true, true, true, true, true, false] rfl rfl (by kernel_rfl) (by decide) (fun K hK => ?_)
          refine goes_ Tryd.func24 (by kernel_rfl) rfl #[u1, u2] (by rfl) rfl rfl (by (try simp only [List.map_toArray, List.map_cons, List.map_nil]); rfl) ?_
          refine (same_true u1 u2 _ _ (IRT.below HX1.out hHeld) (IRT.below HY1.out hHeld)).mono ?_
          rintro e w3 ⟨rfl, hb3⟩
          refine ⟨_, rfl, ?_⟩
          refine hK.out _ _ (hHeld.trans (hb3.mono hHeld.size)) (fun hHeld => ?_)
          clear hK K
          refine norm_ (a' := ?_) ?_ ?_
          rotate_left
          · show Act.put _ (some 81) _ = _
            simp only [Act.put, sA, sB, sC]
            rfl
          refine pure_ (i := 11) (N := some 82) (v := ?_) (a' := ?_) #[true, true, true, true, true, true, true, true, true, true, true, true] rfl rfl (by kernel_rfl) (fun _ _ _ h => h) (Or.inl ⟨by rfl, ?_⟩) ?_ ?_
          rotate_left
          · intro w'
            go_simp
            with_reducible rfl
          rotate_left
          · simp only [Act.put, sA, sB, sC]
            rfl
          refine done_ (by kernel_rfl) ?_
          have HB1 := Lib.hid (hB.out.trans (hHeld.mono hB.out.size))
          clear hHeld
          go_wp2_with fail
          have hj := Hj.out
          have hlt := Hlt.out
          go_roundg (gk - 1)
          case measure => omega
          case rel => exact ⟨j + 1, by omega, by go_num, HB1⟩
        · go_wp2_with fail
          go_ret
          exact ⟨ret_bool rfl, HW2.out.trans (hB.out.mono HW2.out.size)⟩
end Go.Proofs.YtmcoaopcmjociaaDoor

namespace Go.Proofs.YtmcoaopcmjociaaDoor
open Go Go.RowKit Go.Sort Go.Proofs.YtmcoaopcmjociaaDoorW.PrintLast

/-- What the reference's writing comes to. -/
def RWrote (w : World) (p : Part) (s : St) (e : Ending) (w' : World) : Prop := ∃ v, e = .returned v ∧ WR w' v p s ∧ Below w.heap.size w w'
/-- The contract of the reference's write for a tree. -/
def RWriteOK (w0 : World) (T : Tree) (A : Option Addr) (c : Nat) : Prop := ∀ (s : St) (p : Part) (v : Value) (w : World), Below w0.heap.size w0 w → WR w v p s → GoodSt s → s.sets.length + spotsN T ≤ 512 →
  Calls Tryd.prog 23 #[T.val A c, v] w (RWrote w (writeT T s).1 (writeT T s).2)

set_option maxRecDepth 100000 in
set_option maxHeartbeats 4000000 in
theorem rrest_any (w0 : World) (t : Tree) (A : Option Addr) (c : Nat) (ht : t.right = true) (hwr : RWriteOK w0 t A c) : ∀ (n : Nat) (s : St) (p : Part) (v : Value) (w : World), n ≤ 512 → Below w0.heap.size w0 w → WR w v p s → GoodSt s → s.sets.length + spotsN t * n ≤ 512 →
    Calls Tryd.prog 42 #[t.val A c, v, .int .i64 n] w (RWrote w (restF (writeT t) n s).1 (restF (writeT t) n s).2) := by
  intro n
  induction n with
  | zero =>
    intro s p v w hn h0 hv hgs hf
    obtain ⟨SA, SC, NA, NC, A1, c1, A2, c2, rfl, hv1, hv2, hv3, hv4⟩ := hv
    have hb3 := below_a3 w (Obj.cells #[.int .i64 t.kind, .int .u64 t.s0, .int .u64 t.s1, .int .u64 t.s2, .int .u64 t.s3, .slice A t.kids.length c, .int .i64 t.mn, .int .i64 t.mx] 27) (Obj.cells #[.slice SA s.sets.length SC, .slice NA s.next.length NC, .slice A1 p.first.length c1, .slice A2 p.last.length c2, .bool p.none] 56) (Obj.cells #[.slice SA s.sets.length SC, .slice NA s.next.length NC, .slice none 0 0, .slice none 0 0, .bool true] 56)
    have k2 := heap_a2 w (Obj.cells #[.int .i64 t.kind, .int .u64 t.s0, .int .u64 t.s1, .int .u64 t.s2, .int .u64 t.s3, .slice A t.kids.length c, .int .i64 t.mn, .int .i64 t.mx] 27) (Obj.cells #[.slice SA s.sets.length SC, .slice NA s.next.length NC, .slice A1 p.first.length c1, .slice A2 p.last.length c2, .bool p.none] 56) (Obj.cells #[.slice SA s.sets.length SC, .slice NA s.next.length NC, .slice none 0 0, .slice none 0 0, .bool true] 56)
    have Hb := Lib.hid hb3; have K2 := Lib.hid k2; have H1 := Lib.hid hv1; have H2 := Lib.hid hv2
    clear hb3 k2 hv1 hv2 hv3 hv4 h0 hgs hf
    go_enter Tryd.func42, Tryd.ntmps42
    go_wp2_with fail
    refine bodyPost_ret (ret_w rfl _ _ (w.heap.size + 1 + 1) _ _ _ _ _ (0, 0) rfl K2.out) rfl ?_
    exact ⟨_, rfl, ⟨SA, SC, NA, NC, none, 0, none, 0, rfl, own_keep H1.out fun k hk _ => Hb.out.block k hk.lt, H2.out.below Hb.out, IR.nil _ _, IR.nil _ _⟩, Hb.out⟩
  | succ n ih =>
    intro s p v w hn h0 hv hgs hf
    have hmul : spotsN t * (n + 1) = spotsN t * n + spotsN t := Nat.mul_succ _ _
    obtain ⟨SA, SC, NA, NC, A1, c1, A2, c2, hvv, hv1, hv2, hv3, hv4⟩ := id hv
    subst hvv
    have hb3 := below_a3 w (Obj.cells #[.int .i64 t.kind, .int .u64 t.s0, .int .u64 t.s1, .int .u64 t.s2, .int .u64 t.s3, .slice A t.kids.length c, .int .i64 t.mn, .int .i64 t.mx] 27) (Obj.cells #[.slice SA s.sets.length SC, .slice NA s.next.length NC, .slice A1 p.first.length c1, .slice A2 p.last.length c2, .bool p.none] 56) (Obj.cells #[.slice none 0 0, .slice none 0 0, .slice none 0 0, .slice none 0 0, .bool false] 56)
    have k0 := heap_a1 (o' := (Obj.cells #[.slice none 0 0, .slice none 0 0, .slice none 0 0, .slice none 0 0, .bool false] 56)) (heap_a1 (o' := (Obj.cells #[.slice SA s.sets.length SC, .slice NA s.next.length NC, .slice A1 p.first.length c1, .slice A2 p.last.length c2, .bool p.none] 56)) (heap_a0 w (Obj.cells #[.int .i64 t.kind, .int .u64 t.s0, .int .u64 t.s1, .int .u64 t.s2, .int .u64 t.s3, .slice A t.kids.length c, .int .i64 t.mn, .int .i64 t.mx] 27)))
    have k2 := heap_a2 w (Obj.cells #[.int .i64 t.kind, .int .u64 t.s0, .int .u64 t.s1, .int .u64 t.s2, .int .u64 t.s3, .slice A t.kids.length c, .int .i64 t.mn, .int .i64 t.mx] 27) (Obj.cells #[.slice SA s.sets.length SC, .slice NA s.next.length NC, .slice A1 p.first.length c1, .slice A2 p.last.length c2, .bool p.none] 56) (Obj.cells #[.slice none 0 0, .slice none 0 0, .slice none 0 0, .slice none 0 0, .bool false] 56)
    have hfit := h0.size
    have hq := writeT_adds t ht s hgs
    have hcall := hwr s p _ _ (h0.trans (hb3.mono hfit)) (hv.below hb3) hgs (by omega)
    have hrs : restF (writeT t) (n + 1) s = ({ behindP (writeT t s).1 (restF (writeT t) n (writeT t s).2).1 with none := true }, behindS (restF (writeT t) n (writeT t s).2).2 (writeT t s).1 (restF (writeT t) n (writeT t s).2).1) := rfl
    rw [hrs]
    have hra := restF_adds (writeT_adds t ht) n (writeT t s).2 hq.1
    obtain ⟨q, hqq⟩ : ∃ q, q = writeT t s := ⟨_, rfl⟩
    rw [← hqq] at hq hcall hra ⊢
    obtain ⟨q, s2⟩ := q
    simp only at hq hcall hra ⊢
    obtain ⟨r, hrr⟩ : ∃ r, r = restF (writeT t) n s2 := ⟨_, rfl⟩
    have hih := ih s2 q
    rw [← hrr] at hra hih ⊢
    obtain ⟨r, s3⟩ := r
    simp only at hra hih ⊢
    have Hq := Lib.hid hq; have Hra := Lib.hid hra; have Hih := Lib.hid hih; have Hcall := Lib.hid hcall; have K0 := Lib.hid k0; have K2 := Lib.hid k2; have Hb3 := Lib.hid hb3; have H0 := Lib.hid h0
    have hwp : IntKind.i64.wrap (n : Int) = (n : Int) := IntWalk.i64_in _ (by omega)
    have Hwp := Lib.hid hwp
    have hnl : ¬ ((n + 1 : Nat) : Int) < 1 := by omega
    obtain ⟨m0, m1, m2, m3, m4, m5, m6, m7, _⟩ := box8' k0
    clear hq hra hih hcall k0 k2 hb3 h0 hwp hqq hrr hrs hwr ih hgs hv hv1 hv2 hv3 hv4
    go_enter Tryd.func42, Tryd.ntmps42
    go_wp2_with fail
    refine Hcall.out.mono ?_
    rintro e w1 ⟨v1, rfl, hq1, hB1⟩
    obtain ⟨SB, TC, NB, MC, B1, d1, B2, d2, rfl, hb1, hb2, hb3, hb4⟩ := id hq1
    have K01 := Lib.hid (heap_aq hB1 K0.out)
    have K21 := Lib.hid (heap_aq hB1 K2.out)
    have Hq1 := Lib.hid hq1
    have hB1w := Hb3.out.trans (hB1.mono Hb3.out.size)
    have HB1w := Lib.hid hB1w
    clear hB1 hB1w hq1 hb1 hb2 hb3 hb4
    go_wp2_with fail
    have hbq := (Below.refl w1.heap.size w1).alloc (Nat.le_refl _) (Obj.cells #[.slice SB s2.sets.length TC, .slice NB s2.next.length MC, .slice B1 q.first.length d1, .slice B2 q.last.length d2, .bool q.none] 56)
    have hkq := heap_a0 w1 (Obj.cells #[.slice SB s2.sets.length TC, .slice NB s2.next.length MC, .slice B1 q.first.length d1, .slice B2 q.last.length d2, .bool q.none] 56)
    obtain ⟨W, hW⟩ : ∃ W, W = w1.alloc (Obj.cells #[.slice SB s2.sets.length TC, .slice NB s2.next.length MC, .slice B1 q.first.length d1, .slice B2 q.last.length d2, .bool q.none] 56) := ⟨_, rfl⟩
    rw [← hW] at hbq hkq ⊢
    clear hW
    have Hbq := Lib.hid hbq; have Kq := Lib.hid hkq; have K0W := Lib.hid (heap_aq hbq K01.out); have K2W := Lib.hid (heap_aq hbq K21.out); have HqW := Lib.hid (Hq1.out.below hbq)
    have hWs : w.heap.size + 1 + 1 < W.heap.size := (Array.getElem?_eq_some_iff.1 K2W.out).1
    have hWq : w1.heap.size < W.heap.size := (Array.getElem?_eq_some_iff.1 hkq).1
    clear hbq hkq
    refine start_ (n := 9) (S := fun w' => Below W.heap.size W w') (ds := [8]) #[false, false, false, false, false, false, false, false, false] (by kernel_rfl) rfl rfl ((Below.refl _ _).drew) (fun hHeld => ?_)
    refine take_ (i := 0) (N := some 19) (v := ?_) (a' := ?_) #[true, false, false, false, false, false, false, false, false] rfl rfl (by kernel_rfl) (fun _ _ _ h => h) (Or.inl ⟨by rfl, ?_⟩) hHeld ?_ ?_
    rotate_left
    · intro w' sb; obtain ⟨⟨p0, p1, p2, p3, p4⟩, _, _, _, _, _, _⟩ := box5 (heap_aq sb Kq.out); obtain ⟨m0, m1, m2, m3, m4, m5, m6, m7, _⟩ := box8' (heap_aq sb K0W.out)
      go_simp
      with_reducible rfl
    rotate_left
    · simp only [Act.put, sA, sB, sC]
      rfl
    refine take_ (i := 1) (N := some 20) (v := ?_) (a' := ?_) #[true, true, false, false, false, false, false, false, false] rfl rfl (by kernel_rfl) (fun _ _ _ h => h) (Or.inl ⟨by rfl, ?_⟩) hHeld ?_ ?_
    rotate_left
    · intro w' sb; obtain ⟨⟨p0, p1, p2, p3, p4⟩, _, _, _, _, _, _⟩ := box5 (heap_aq sb Kq.out); obtain ⟨m0, m1, m2, m3, m4, m5, m6, m7, _⟩ := box8' (heap_aq sb K0W.out)
      go_simp
      with_reducible rfl
    rotate_left
    · simp only [Act.put, sA, sB, sC]
      rfl
    refine take_ (i := 2) (N := some 21) (v := ?_) (a' := ?_) #[true, true, true, false, false, false, false, false, false] rfl rfl (by kernel_rfl) (fun _ _ _ h => h) (Or.inl ⟨by rfl, ?_⟩) hHeld ?_ ?_
    rotate_left
    · intro w' sb; obtain ⟨⟨p0, p1, p2, p3, p4⟩, _, _, _, _, _, _⟩ := box5 (heap_aq sb Kq.out); obtain ⟨m0, m1, m2, m3, m4, m5, m6, m7, _⟩ := box8' (heap_aq sb K0W.out)
      go_simp
      with_reducible rfl
    rotate_left
    · simp only [Act.put, sA, sB, sC]
      rfl
    refine pure_ (i := 3) (N := some 22) (v := ?_) (a' := ?_) #[true, true, true, true, false, false, false, false, false] rfl rfl (by kernel_rfl) (fun _ _ _ h => h) (Or.inl ⟨by rfl, ?_⟩) ?_ ?_
    rotate_left
    · intro w'
      go_simp
      with_reducible rfl
    rotate_left
    · simp only [Act.put, sA, sB, sC]
      rfl
    refine pure_ (i := 4) (N := some 23) (v := (.int .i64 n)) (a' := ?_) #[true, true, true, true, true, false, false, false, false] rfl rfl (by kernel_rfl) (fun _ _ _ h => h) (Or.inl ⟨by rfl, ?_⟩) ?_ ?_
    · intro w'
      go_simp
      exact Hwp.out
    rotate_left
    · simp only [Act.put, sA, sB, sC]
      rfl
    refine join_ (σ := Nat × Value × Value) 1 #[true, true, true, true, true, true, true, true, false] (fun s => [(24, s.2.1), (25, s.2.2), (8, .pointer (some ⟨s.1, 0, none⟩))]) (fun s w' => Below W.heap.size W w' ∧ WR w' s.2.2 (behindP q r) (behindS s3 q r) ∧ w'.heap[s.1]? = some (Obj.cells #[.slice none 0 0, .slice none 0 0, .slice none 0 0, .slice none 0 0, .bool false] 56) ∧ W.heap.size ≤ s.1) ?_ ?_
    rotate_left
    · intro hJ
      refine two_ (i := 5) (j := 7) #[true, true, true, true, true, true, false, false, false] #[true, true, true, true, true, false, false, true, false] rfl rfl rfl rfl (by kernel_rfl) (by decide) (by decide) (fun K hK => ?_) (fun K hK => ?_)
      · refine goes_ Tryd.func42 (by kernel_rfl) rfl #[(.agg #[.int .i64 t.kind, .int .u64 t.s0, .int .u64 t.s1, .int .u64 t.s2, .int .u64 t.s3, .slice A t.kids.length c, .int .i64 t.mn, .int .i64 t.mx]), .agg #[.slice SB s2.sets.length TC, .slice NB s2.next.length MC, .slice B1 q.first.length d1, .slice B2 q.last.length d2, .bool q.none], .int .i64 n] (by rfl) rfl rfl (by (try simp only [List.map_toArray, List.map_cons, List.map_nil]); rfl) ?_
        refine (Hih.out _ _ (by omega) ((H0.out.trans (HB1w.out.mono hfit)).trans ((Hbq.out.trans (hHeld.mono Hbq.out.size)).mono (Nat.le_trans hfit HB1w.out.size))) (HqW.out.below hHeld) Hq.out.1 (by have := Hq.out.2.2; omega)).mono ?_
        rintro e w2 ⟨v2, rfl, hr2, hb2⟩
        refine ⟨_, rfl, ?_⟩
        refine hK.out _ _ (hHeld.trans (hb2.mono hHeld.size)) (fun hHeld => ?_)
        clear hK K
        refine norm_ (a' := ?_) ?_ ?_
        rotate_left
        · show Act.put _ (some 24) _ = _
          simp only [Act.put, sA, sB, sC]
          rfl
        refine two_ (i := 6) (j := 7) #[true, true, true, true, true, true, true, false, false] #[true, true, true, true, true, true, false, true, false] rfl rfl rfl rfl (by kernel_rfl) (by decide) (by decide) (fun K hK => ?_) (fun K hK => ?_)
        · refine goes_ Tryd.func41 (by kernel_rfl) rfl #[.agg #[.slice SB s2.sets.length TC, .slice NB s2.next.length MC, .slice B1 q.first.length d1, .slice B2 q.last.length d2, .bool q.none], v2] (by rfl) rfl rfl (by (try simp only [List.map_toArray, List.map_cons, List.map_nil]); rfl) ?_
          refine (rbehind_any _ v2 q r s2 s3 _ (HqW.out.below hHeld) hr2 Hra.out.1 (by have := Hq.out.2.2; have := Hra.out.2.2; omega) (Hq.out.2.1.mono (by have := Hra.out.2.2; omega)) Hra.out.2.1).mono ?_
          rintro e w3 ⟨v3, rfl, hp3, hb3⟩
          refine ⟨_, rfl, ?_⟩
          refine hK.out _ _ (hHeld.trans (hb3.mono hHeld.size)) (fun hHeld => ?_)
          clear hK K
          refine norm_ (a' := ?_) ?_ ?_
          rotate_left
          · show Act.put _ (some 25) _ = _
            simp only [Act.put, sA, sB, sC]
            rfl
          have hr2 := hr2.below hb3
          refine one_ (i := 7) (N := some 8) #[true, true, true, true, true, true, true, true, false] rfl rfl (by kernel_rfl) (by decide) (fun K hK => ?_)
          refine value_ (v := (.pointer (some ⟨w3.heap.size, 0, none⟩))) (w1 := (w3.alloc (Obj.cells #[.slice none 0 0, .slice none 0 0, .slice none 0 0, .slice none 0 0, .bool false] 56))) (by rfl) rfl (by first | rfl | (go_simp; done) | (go_simp; rfl)) ?_
          have hkge := hHeld.size
          have hbox := heap_a0 w3 (Obj.cells #[.slice none 0 0, .slice none 0 0, .slice none 0 0, .slice none 0 0, .bool false] 56)
          have hbal := (Below.refl w3.heap.size w3).alloc (Nat.le_refl _) (Obj.cells #[.slice none 0 0, .slice none 0 0, .slice none 0 0, .slice none 0 0, .bool false] 56)
          refine hK.out _ _ (hHeld.alloc hHeld.size _) (fun hHeld => ?_)
          clear hK K
          refine norm_ (a' := ?_) ?_ ?_
          rotate_left
          · show Act.put _ (some 8) _ = _
            simp only [Act.put, sA, sB, sC]
            rfl
          have hr2 := hr2.below hbal
          have hp3 := hp3.below hbal
          have hJ2 := hJ (w3.heap.size, v2, v3) _ ⟨hHeld, hp3, hbox, hkge⟩
          simp only [putAll, Act.put, sA, sB, sC] at hJ2
          exact hJ2
        · refine value_ (v := (.pointer (some ⟨w2.heap.size, 0, none⟩))) (w1 := (w2.alloc (Obj.cells #[.slice none 0 0, .slice none 0 0, .slice none 0 0, .slice none 0 0, .bool false] 56))) (by rfl) rfl (by first | rfl | (go_simp; done) | (go_simp; rfl)) ?_
          have hkge := hHeld.size
          have hbox := heap_a0 w2 (Obj.cells #[.slice none 0 0, .slice none 0 0, .slice none 0 0, .slice none 0 0, .bool false] 56)
          have hbal := (Below.refl w2.heap.size w2).alloc (Nat.le_refl _) (Obj.cells #[.slice none 0 0, .slice none 0 0, .slice none 0 0, .slice none 0 0, .bool false] 56)
          refine hK.out _ _ (hHeld.alloc hHeld.size _) (fun hHeld => ?_)
          clear hK K
          refine norm_ (a' := ?_) ?_ ?_
          rotate_left
          · show Act.put _ (some 8) _ = _
            simp only [Act.put, sA, sB, sC]
            rfl
          have hr2 := hr2.below hbal
          refine one_ (i := 6) (N := some 25) #[true, true, true, true, true, true, true, true, false] rfl rfl (by kernel_rfl) (by decide) (fun K hK => ?_)
          refine goes_ Tryd.func41 (by kernel_rfl) rfl #[.agg #[.slice SB s2.sets.length TC, .slice NB s2.next.length MC, .slice B1 q.first.length d1, .slice B2 q.last.length d2, .bool q.none], v2] (by rfl) rfl rfl (by (try simp only [List.map_toArray, List.map_cons, List.map_nil]); rfl) ?_
          refine (rbehind_any _ v2 q r s2 s3 _ (HqW.out.below hHeld) hr2 Hra.out.1 (by have := Hq.out.2.2; have := Hra.out.2.2; omega) (Hq.out.2.1.mono (by have := Hra.out.2.2; omega)) Hra.out.2.1).mono ?_
          rintro e w3 ⟨v3, rfl, hp3, hb3⟩
          refine ⟨_, rfl, ?_⟩
          refine hK.out _ _ (hHeld.trans (hb3.mono hHeld.size)) (fun hHeld => ?_)
          clear hK K
          refine norm_ (a' := ?_) ?_ ?_
          rotate_left
          · show Act.put _ (some 25) _ = _
            simp only [Act.put, sA, sB, sC]
            rfl
          have hr2 := hr2.below hb3
          have hbox := heap_aq hb3 hbox
          have hJ2 := hJ (w2.heap.size, v2, v3) _ ⟨hHeld, hp3, hbox, hkge⟩
          simp only [putAll, Act.put, sA, sB, sC] at hJ2
          exact hJ2
      · refine value_ (v := (.pointer (some ⟨W.drew.heap.size, 0, none⟩))) (w1 := (W.drew.alloc (Obj.cells #[.slice none 0 0, .slice none 0 0, .slice none 0 0, .slice none 0 0, .bool false] 56))) (by rfl) rfl (by first | rfl | (go_simp; done) | (go_simp; rfl)) ?_
        have hkge := hHeld.size
        have hbox := heap_a0 W.drew (Obj.cells #[.slice none 0 0, .slice none 0 0, .slice none 0 0, .slice none 0 0, .bool false] 56)
        have hbal := (Below.refl W.drew.heap.size W.drew).alloc (Nat.le_refl _) (Obj.cells #[.slice none 0 0, .slice none 0 0, .slice none 0 0, .slice none 0 0, .bool false] 56)
        refine hK.out _ _ (hHeld.alloc hHeld.size _) (fun hHeld => ?_)
        clear hK K
        refine norm_ (a' := ?_) ?_ ?_
        rotate_left
        · show Act.put _ (some 8) _ = _
          simp only [Act.put, sA, sB, sC]
          rfl
        refine one_ (i := 5) (N := some 24) #[true, true, true, true, true, true, false, true, false] rfl rfl (by kernel_rfl) (by decide) (fun K hK => ?_)
        refine goes_ Tryd.func42 (by kernel_rfl) rfl #[(.agg #[.int .i64 t.kind, .int .u64 t.s0, .int .u64 t.s1, .int .u64 t.s2, .int .u64 t.s3, .slice A t.kids.length c, .int .i64 t.mn, .int .i64 t.mx]), .agg #[.slice SB s2.sets.length TC, .slice NB s2.next.length MC, .slice B1 q.first.length d1, .slice B2 q.last.length d2, .bool q.none], .int .i64 n] (by rfl) rfl rfl (by (try simp only [List.map_toArray, List.map_cons, List.map_nil]); rfl) ?_
        refine (Hih.out _ _ (by omega) ((H0.out.trans (HB1w.out.mono hfit)).trans ((Hbq.out.trans (hHeld.mono Hbq.out.size)).mono (Nat.le_trans hfit HB1w.out.size))) (HqW.out.below hHeld) Hq.out.1 (by have := Hq.out.2.2; omega)).mono ?_
        rintro e w2 ⟨v2, rfl, hr2, hb2⟩
        refine ⟨_, rfl, ?_⟩
        refine hK.out _ _ (hHeld.trans (hb2.mono hHeld.size)) (fun hHeld => ?_)
        clear hK K
        refine norm_ (a' := ?_) ?_ ?_
        rotate_left
        · show Act.put _ (some 24) _ = _
          simp only [Act.put, sA, sB, sC]
          rfl
        have hbox := heap_aq hb2 hbox
        refine one_ (i := 6) (N := some 25) #[true, true, true, true, true, true, true, true, false] rfl rfl (by kernel_rfl) (by decide) (fun K hK => ?_)
        refine goes_ Tryd.func41 (by kernel_rfl) rfl #[.agg #[.slice SB s2.sets.length TC, .slice NB s2.next.length MC, .slice B1 q.first.length d1, .slice B2 q.last.length d2, .bool q.none], v2] (by rfl) rfl rfl (by (try simp only [List.map_toArray, List.map_cons, List.map_nil]); rfl) ?_
        refine (rbehind_any _ v2 q r s2 s3 _ (HqW.out.below hHeld) hr2 Hra.out.1 (by have := Hq.out.2.2; have := Hra.out.2.2; omega) (Hq.out.2.1.mono (by have := Hra.out.2.2; omega)) Hra.out.2.1).mono ?_
        rintro e w3 ⟨v3, rfl, hp3, hb3⟩
        refine ⟨_, rfl, ?_⟩
        refine hK.out _ _ (hHeld.trans (hb3.mono hHeld.size)) (fun hHeld => ?_)
        clear hK K
        refine norm_ (a' := ?_) ?_ ?_
        rotate_left
        · show Act.put _ (some 25) _ = _
          simp only [Act.put, sA, sB, sC]
          rfl
        have hr2 := hr2.below hb3
        have hbox := heap_aq hb3 hbox
        have hJ2 := hJ (W.drew.heap.size, v2, v3) _ ⟨hHeld, hp3, hbox, hkge⟩
        simp only [putAll, Act.put, sA, sB, sC] at hJ2
        exact hJ2
    rintro ⟨k, v2, v3⟩ w5 ⟨hHeld, hp5, hk5, hkl⟩
    obtain ⟨SC3, TC3, NC3, MC3, E1, e1, E2, e2, rfl, _, _, _, _⟩ := id hp5
    refine norm_ (a' := ?_) ?_ ?_
    rotate_left
    · show putAll _ _ = _
      simp only [putAll, Act.put, sA, sB, sC]
      rfl
    refine last_ (i := 8) (N := none) #[true, true, true, true, true, true, true, true, true] rfl rfl (by kernel_rfl) (by decide) (fun K hK => ?_)
    refine skip_ (w1 := ?_) (by rfl) rfl ?_ ?_
    rotate_left
    · obtain ⟨⟨z0, z1, z2, z3, z4⟩, y0, y1, y2, y3, y4, _⟩ := box5 hk5
      go_simp
      rfl
    refine hK.out _ _ ?_
    clear hK K
    refine done_ (by kernel_rfl) ?_
    have hk6 := set5_box hk5 (.slice SC3 (behindS s3 q r).sets.length TC3) (.slice NC3 (behindS s3 q r).next.length MC3) (.slice E1 (behindP q r).first.length e1) (.slice E2 (behindP q r).last.length e2) (.bool (behindP q r).none)
    have hks := set5_ks ⟨_, _, hk5⟩ (by decide) (by decide) (by decide) (by decide) (.slice SC3 (behindS s3 q r).sets.length TC3) (.slice NC3 (behindS s3 q r).next.length MC3) (.slice E1 (behindP q r).first.length e1) (.slice E2 (behindP q r).last.length e2) (.bool (behindP q r).none)
    have hB6 := set5_below hHeld hkl (.slice SC3 (behindS s3 q r).sets.length TC3) (.slice NC3 (behindS s3 q r).next.length MC3) (.slice E1 (behindP q r).first.length e1) (.slice E2 (behindP q r).last.length e2) (.bool (behindP q r).none)
    have hp6 := hp5.side hks
    obtain ⟨w6, hw6⟩ : ∃ w6, w6 = set5 w5 k (.slice SC3 (behindS s3 q r).sets.length TC3) (.slice NC3 (behindS s3 q r).next.length MC3) (.slice E1 (behindP q r).first.length e1) (.slice E2 (behindP q r).last.length e2) (.bool (behindP q r).none) := ⟨_, rfl⟩
    rw [← hw6] at hk6 hB6 hp6
    simp only [set5] at hw6
    rw [← hw6]
    clear hw6 hks hp5 hk5 hHeld
    obtain ⟨⟨z0, z1, z2, z3, z4⟩, y0, y1, y2, y3, y4, kl⟩ := box5 hk6
    obtain ⟨⟨r0, r1, r2, r3, r4⟩, t0, t1, t2, t3, t4, rl⟩ := box5 (heap_aq hB6 K2W.out)
    have hks7 := (KS.refl w6).setCell (r := k) ⟨_, _, hk6⟩ (by decide) (by decide) (by decide) (by decide) 4 (.bool true)
    have hp7 : WR (w6.setCell ⟨k, 4, none⟩ (.bool true)) (.agg #[.slice SC3 (behindS s3 q r).sets.length TC3, .slice NC3 (behindS s3 q r).next.length MC3, .slice E1 (behindP q r).first.length e1, .slice E2 (behindP q r).last.length e2, .bool true]) { behindP q r with none := true } (behindS s3 q r) := by
      obtain ⟨_, _, _, _, _, _, _, _, he, h1, h2, h3, h4⟩ := hp6.side hks7
      simp only [Value.agg.injEq, Array.mk.injEq, List.cons.injEq, Value.slice.injEq, and_true, true_and] at he
      obtain ⟨⟨rfl, rfl⟩, ⟨rfl, rfl⟩, ⟨rfl, rfl⟩, rfl, rfl⟩ := he
      exact ⟨_, _, _, _, _, _, _, _, rfl, h1, h2, h3, h4⟩
    have hB7 := hB6.setCell (p := ⟨k, 4, none⟩) hkl (.bool true)
    obtain ⟨e1, e2, e3⟩ := w_end (w := w) ((HB1w.out.trans (Hbq.out.mono HB1w.out.size)).trans (hB7.mono (Nat.le_trans HB1w.out.size Hbq.out.size))) (heap_aq hB7 K2W.out) (by omega) hp7
    have E1' := Lib.hid e1; have E2' := Lib.hid e2; have E3' := Lib.hid e3
    clear e1 e2 e3 hp7 hB7 hks7 hp6 hB6 hk6
    go_wp2_with fail
    refine bodyPost_ret (ret_w rfl _ _ (w.heap.size + 1 + 1) _ _ _ _ _ (0, 0) rfl E1'.out) rfl ?_
    exact ⟨_, rfl, E2'.out, E3'.out⟩
end Go.Proofs.YtmcoaopcmjociaaDoor

namespace Go.Proofs.YtmcoaopcmjociaaDoor
open Go Go.RowKit Go.Sort Go.Proofs.YtmcoaopcmjociaaDoorW.PrintLast

abbrev nodeO (k s0 s1 s2 s3 : Int) (A : Option Addr) (n c : Nat) (mn mx : Int) : Obj := .cells #[.int .i64 k, .int .u64 s0, .int .u64 s1, .int .u64 s2, .int .u64 s3, .slice A n c, .int .i64 mn, .int .i64 mx] 27
theorem box_a3 (w : World) (o1 o2 o3 o4 : Obj) : ((((w.alloc o1).alloc o2).alloc o3).alloc o4).heap[w.heap.size + 1 + 1 + 1]? = some o4 := (box_a4 w o1 o2 o3 o4).2.2.2
theorem below_a3' (w : World) (o1 o2 o3 o4 : Obj) : Below (w.heap.size + 1 + 1 + 1) (((w.alloc o1).alloc o2).alloc o3) ((((w.alloc o1).alloc o2).alloc o3).alloc o4) := by
  have := (Below.refl (((w.alloc o1).alloc o2).alloc o3).heap.size (((w.alloc o1).alloc o2).alloc o3)).alloc (Nat.le_refl _) o4
  simpa using this
theorem size_a3 (w : World) (o1 o2 o3 : Obj) : (((w.alloc o1).alloc o2).alloc o3).heap.size = w.heap.size + 1 + 1 + 1 := by simp

set_option maxRecDepth 100000 in
set_option maxHeartbeats 4000000 in
theorem rwrite_cat (w0 : World) (d : Nat) (s0 s1 s2 s3 : Int) (l : List Tree) (mn mx : Int) (A : Option Addr) (c : Nat) (hr : ∀ t ∈ l, t.right = true) (hkids : KidsIn w0 (d + 1) l A)
    (ih : ∀ (t : Tree) (A : Option Addr) (c : Nat), t.right = true → KidsIn w0 d t.kids A → RWriteOK w0 t A c) : RWriteOK w0 (.node 2 s0 s1 s2 s3 l mn mx) A c := by
  intro s p0 v w h0 hv hgs hf
  have hsp : spotsN (.node 2 s0 s1 s2 s3 l mn mx) = spotsNs l := by simp [spotsN]
  have hwr : writeT (.node 2 s0 s1 s2 s3 l mn mx) s = writeCat l emptyP s := by simp [writeT]
  rw [hsp] at hf
  rw [hwr]
  clear hsp hwr
  simp only [Tree.val, Tree.kind, Tree.s0, Tree.s1, Tree.s2, Tree.s3, Tree.kids, Tree.mn, Tree.mx]
  obtain ⟨SA, SC, NA, NC, A1, c1, A2, c2, hvv, hv1, hv2, _, _⟩ := id hv
  subst hvv
  have hl := hkids.1
  obtain ⟨X, hX⟩ : ∃ X, X = ((w.alloc (nodeO 2 s0 s1 s2 s3 A l.length c mn mx)).alloc (Obj.cells #[.slice SA s.sets.length SC, .slice NA s.next.length NC, .slice A1 p0.first.length c1, .slice A2 p0.last.length c2, .bool p0.none] 56)).alloc (Obj.cells #[.slice none 0 0, .slice none 0 0, .slice none 0 0, .slice none 0 0, .bool false] 56) := ⟨_, rfl⟩
  have hb3 := below_a3 w (nodeO 2 s0 s1 s2 s3 A l.length c mn mx) (Obj.cells #[.slice SA s.sets.length SC, .slice NA s.next.length NC, .slice A1 p0.first.length c1, .slice A2 p0.last.length c2, .bool p0.none] 56) (Obj.cells #[.slice none 0 0, .slice none 0 0, .slice none 0 0, .slice none 0 0, .bool false] 56)
  have hs3 := size_a3 w (nodeO 2 s0 s1 s2 s3 A l.length c mn mx) (Obj.cells #[.slice SA s.sets.length SC, .slice NA s.next.length NC, .slice A1 p0.first.length c1, .slice A2 p0.last.length c2, .bool p0.none] 56) (Obj.cells #[.slice none 0 0, .slice none 0 0, .slice none 0 0, .slice none 0 0, .bool false] 56)
  have k0 := heap_a1 (o' := (Obj.cells #[.slice none 0 0, .slice none 0 0, .slice none 0 0, .slice none 0 0, .bool false] 56)) (heap_a1 (o' := (Obj.cells #[.slice SA s.sets.length SC, .slice NA s.next.length NC, .slice A1 p0.first.length c1, .slice A2 p0.last.length c2, .bool p0.none] 56)) (heap_a0 w (nodeO 2 s0 s1 s2 s3 A l.length c mn mx)))
  have k2 := heap_a2 w (nodeO 2 s0 s1 s2 s3 A l.length c mn mx) (Obj.cells #[.slice SA s.sets.length SC, .slice NA s.next.length NC, .slice A1 p0.first.length c1, .slice A2 p0.last.length c2, .bool p0.none] 56) (Obj.cells #[.slice none 0 0, .slice none 0 0, .slice none 0 0, .slice none 0 0, .bool false] 56)
  have hb4 := below_a3' w (nodeO 2 s0 s1 s2 s3 A l.length c mn mx) (Obj.cells #[.slice SA s.sets.length SC, .slice NA s.next.length NC, .slice A1 p0.first.length c1, .slice A2 p0.last.length c2, .bool p0.none] 56) (Obj.cells #[.slice none 0 0, .slice none 0 0, .slice none 0 0, .slice none 0 0, .bool false] 56) (Obj.cells #[.slice SA s.sets.length SC, .slice NA s.next.length NC, .slice none 0 0, .slice none 0 0, .bool true] 56)
  have k3 := box_a3 w (nodeO 2 s0 s1 s2 s3 A l.length c mn mx) (Obj.cells #[.slice SA s.sets.length SC, .slice NA s.next.length NC, .slice A1 p0.first.length c1, .slice A2 p0.last.length c2, .bool p0.none] 56) (Obj.cells #[.slice none 0 0, .slice none 0 0, .slice none 0 0, .slice none 0 0, .bool false] 56) (Obj.cells #[.slice SA s.sets.length SC, .slice NA s.next.length NC, .slice none 0 0, .slice none 0 0, .bool true] 56)
  rw [← hX] at hb3 hs3 k0 k2 hb4 k3
  have hb5 := hb3.trans (hb4.mono (by omega))
  have hwr0 : WR (X.alloc (Obj.cells #[.slice SA s.sets.length SC, .slice NA s.next.length NC, .slice none 0 0, .slice none 0 0, .bool true] 56)) (.agg #[.slice SA s.sets.length SC, .slice NA s.next.length NC, .slice none 0 0, .slice none 0 0, .bool true]) emptyP s :=
    ⟨SA, SC, NA, NC, none, 0, none, 0, rfl, own_keep hv1 fun k hk _ => hb5.block k hk.lt, hv2.below hb5, IR.nil _ _, IR.nil _ _⟩
  have HX := Lib.hid hX; have H0 := Lib.hid h0; have HR := Lib.hid hr; have HKI := Lib.hid hkids; have IH := Lib.hid ih; have HGS := Lib.hid hgs; have K0 := Lib.hid k0; have K2 := Lib.hid k2; have K3 := Lib.hid k3; have HB3 := Lib.hid hb3; have HB4 := Lib.hid hb4; have HWR0 := Lib.hid hwr0; have HS3 := Lib.hid hs3
  have hfit := h0.size
  clear hX h0 hr hkids ih hgs k0 k2 k3 hb3 hb4 hb5 hwr0 hs3 hv hv1 hv2
  go_enter Tryd.func23, Tryd.ntmps23
  go_wp2_with fail
  rw [← HX.out]
  go_loopg [9] l.length (fun g i wr => ∃ j : Nat, j + g = l.length ∧ i = .int .i64 j ∧ Hid (∃ v0 v1 v2 v3 v4, wr.heap[w.heap.size + 1 + 1 + 1]? = some (.cells #[v0, v1, v2, v3, v4] 56 (0, 0)) ∧ WR wr (.agg #[v0, v1, v2, v3, v4]) (writeCat (l.take j) emptyP s).1 (writeCat (l.take j) emptyP s).2) ∧ Hid (Below (w.heap.size + 1 + 1 + 1) X wr))
  case atStart => exact ⟨0, by omega, rfl, Lib.hid ⟨_, _, _, _, _, K3.out, HWR0.out⟩, HB4⟩
  case round =>
    obtain ⟨j, hj, rfl, HP, HK⟩ := hrel
    have hj1 : j ≤ l.length := by omega
    have Hj := Lib.hid hj; clear hj
    have hadds := writeCat_adds (l.take j) (fun t ht => HR.out t (List.mem_of_mem_take ht)) emptyP s HGS.out (GoodPart.empty _ _)
    have hsn0 := fun (h : j < l.length) => (congrArg (fun x => writeCat x emptyP s) (Tree.take_snoc l j h)).trans (writeCat_snoc (l.take j) l[j] emptyP s)
    have hfull := fun (h : j = l.length) => (show writeCat l emptyP s = writeCat (l.take j) emptyP s by rw [h, List.take_length])
    obtain ⟨r, hrr⟩ : ∃ r, writeCat (l.take j) emptyP s = r := ⟨_, rfl⟩
    have hP := HP.out
    rw [hrr] at hP hadds hsn0 hfull
    obtain ⟨p, sj⟩ := r
    simp only at hP hadds hsn0
    obtain ⟨v0, v1, v2, v3, v4, hk3, hps⟩ := hP
    obtain ⟨QA, QC, RA, RC, D1, e1, D2, e2, hvv, _, _, _, _⟩ := id hps
    obtain ⟨rfl, rfl, rfl, rfl, rfl⟩ : v0 = _ ∧ v1 = _ ∧ v2 = _ ∧ v3 = _ ∧ v4 = _ := by simpa using hvv
    have hk0 := (HK.out.block w.heap.size (by omega)).trans K0.out
    have hk2 := (HK.out.block (w.heap.size + 1 + 1) (by omega)).trans K2.out
    have hsz : w.heap.size + 1 + 1 + 1 < wr.heap.size := (Array.getElem?_eq_some_iff.1 hk3).1
    clear hrr HP hvv
    by_cases hlt : j < l.length
    · have hfj := spotsNs_take l j hlt
      have hroom : sj.sets.length + spotsN l[j] ≤ 512 := by have := hadds.2.2; omega
      have hsn := hsn0 hlt
      have hB0 := H0.out.trans ((HB3.out.trans (HK.out.mono (by omega))).mono hfit)
      obtain ⟨ad, A', c', rfl, hc, hk⟩ := HKI.out.2 j l[j] (List.getElem?_eq_getElem hlt)
      have hc1 := hc.below hB0
      have hwrt := IH.out l[j] A' c' (HR.out _ (List.getElem_mem hlt)) hk sj
      have hq := writeT_adds l[j] (HR.out _ (List.getElem_mem hlt)) sj hadds.1
      obtain ⟨tj, htj⟩ : ∃ tj, tj = l[j] := ⟨_, rfl⟩
      rw [← htj] at hc1 hwrt hsn hq hroom
      have hqq : ∃ q, writeT tj sj = q := ⟨_, rfl⟩
      obtain ⟨q, hqq⟩ := hqq
      rw [hqq] at hsn hq hwrt
      obtain ⟨q, s2⟩ := q
      simp only at hsn hq hwrt
      have Hsn := Lib.hid hsn; have Hq := Lib.hid hq; have HWT := Lib.hid hwrt; have HC := Lib.hid hc1; have HB0 := Lib.hid hB0; have Hps := Lib.hid hps; have Kk0 := Lib.hid hk0; have Kk2 := Lib.hid hk2; have Kk3 := Lib.hid hk3; have Hadds := Lib.hid hadds; have Hroom := Lib.hid hroom; have Hlt := Lib.hid hlt
      obtain ⟨m0, m1, m2, m3, m4, m5, m6, m7, _⟩ := box8' hk0
      clear hsn hq hwrt hc1 hB0 hps hk0 hk2 hk3 hadds hroom hsn0 hfull htj hqq hc hk hfj
      go_wp2_with fail
      refine start_ (n := 9) (S := fun w' => Below wr.heap.size wr w') (ds := [8]) #[false, false, false, false, false, false, false, false, false] (by kernel_rfl) rfl rfl ((Below.refl _ _).drew) (fun hHeld => ?_)
      refine pure_ (i := 0) (N := some 115) (v := ?_) (a' := ?_) #[true, false, false, false, false, false, false, false, false] rfl rfl (by kernel_rfl) (fun _ _ _ h => h) (Or.inl ⟨by rfl, ?_⟩) ?_ ?_
      rotate_left
      · intro w'
        go_simp
        with_reducible rfl
      rotate_left
      · simp only [Act.put, sA, sB, sC]
        rfl
      refine take_ (i := 1) (N := some 116) (v := ?_) (a' := ?_) #[true, true, false, false, false, false, false, false, false] rfl rfl (by kernel_rfl) (fun _ _ _ h => h) (Or.inl ⟨by rfl, ?_⟩) hHeld ?_ ?_
      rotate_left
      · intro w' sb; obtain ⟨⟨p0, p1, p2, p3, p4⟩, _, _, _, _, _, _⟩ := box5 (heap_aq sb Kk3.out); obtain ⟨m0, m1, m2, m3, m4, m5, m6, m7, _⟩ := box8' (heap_aq sb Kk0.out); obtain ⟨c0, c1, c2, c3, c4, c5, c6, c7⟩ := HC.out.below sb
        go_simp
        with_reducible rfl
      rotate_left
      · simp only [Act.put, sA, sB, sC]
        rfl
      refine pure_ (i := 2) (N := some 117) (v := ?_) (a' := ?_) #[true, true, true, false, false, false, false, false, false] rfl rfl (by kernel_rfl) (fun _ _ _ h => h) (Or.inl ⟨by rfl, ?_⟩) ?_ ?_
      rotate_left
      · intro w'
        go_simp
        with_reducible rfl
      rotate_left
      · simp only [Act.put, sA, sB, sC]
        rfl
      refine pure_ (i := 3) (N := some 118) (v := ?_) (a' := ?_) #[true, true, true, true, false, false, false, false, false] rfl rfl (by kernel_rfl) (fun _ _ _ h => h) (Or.inl ⟨by rfl, ?_⟩) ?_ ?_
      rotate_left
      · intro w'
        go_simp
        with_reducible rfl
      rotate_left
      · simp only [Act.put, sA, sB, sC]
        rfl
      refine take_ (i := 4) (N := some 119) (v := ?_) (a' := ?_) #[true, true, true, true, true, false, false, false, false] rfl rfl (by kernel_rfl) (fun _ _ _ h => h) (Or.inl ⟨by rfl, ?_⟩) hHeld ?_ ?_
      rotate_left
      · intro w' sb; obtain ⟨⟨p0, p1, p2, p3, p4⟩, _, _, _, _, _, _⟩ := box5 (heap_aq sb Kk3.out); obtain ⟨m0, m1, m2, m3, m4, m5, m6, m7, _⟩ := box8' (heap_aq sb Kk0.out); obtain ⟨c0, c1, c2, c3, c4, c5, c6, c7⟩ := HC.out.below sb
        go_simp
        with_reducible rfl
      rotate_left
      · simp only [Act.put, sA, sB, sC]
        rfl
      refine take_ (i := 5) (N := some 120) (v := ?_) (a' := ?_) #[true, true, true, true, true, true, false, false, false] rfl rfl (by kernel_rfl) (fun _ _ _ h => h) (Or.inl ⟨by rfl, ?_⟩) hHeld ?_ ?_
      rotate_left
      · intro w' sb; obtain ⟨⟨p0, p1, p2, p3, p4⟩, _, _, _, _, _, _⟩ := box5 (heap_aq sb Kk3.out); obtain ⟨m0, m1, m2, m3, m4, m5, m6, m7, _⟩ := box8' (heap_aq sb Kk0.out); obtain ⟨c0, c1, c2, c3, c4, c5, c6, c7⟩ := HC.out.below sb
        go_simp
        with_reducible rfl
      rotate_left
      · simp only [Act.put, sA, sB, sC]
        rfl
      refine join_ (σ := Nat × Value) 1 #[true, true, true, true, true, true, true, true, false] (fun s => [(121, s.2), (10, .pointer (some ⟨s.1, 0, none⟩))]) (fun s w' => Below wr.heap.size wr w' ∧ WR w' s.2 q s2 ∧ w'.heap[s.1]? = some (Obj.cells #[.slice none 0 0, .slice none 0 0, .slice none 0 0, .slice none 0 0, .bool false] 56) ∧ wr.heap.size ≤ s.1) ?_ ?_
      rotate_left
      · intro hJ
        refine two_ (i := 6) (j := 7) #[true, true, true, true, true, true, true, false, false] #[true, true, true, true, true, true, false, true, false] rfl rfl rfl rfl (by kernel_rfl) (by decide) (by decide) (fun K hK => ?_) (fun K hK => ?_)
        · refine goes_ Tryd.func23 (by kernel_rfl) rfl #[(.agg #[.int .i64 tj.kind, .int .u64 tj.s0, .int .u64 tj.s1, .int .u64 tj.s2, .int .u64 tj.s3, .slice A' tj.kids.length c', .int .i64 tj.mn, .int .i64 tj.mx]), .agg #[.slice QA sj.sets.length QC, .slice RA sj.next.length RC, .slice D1 p.first.length e1, .slice D2 p.last.length e2, .bool p.none]] (by rfl) rfl rfl (by (try simp only [List.map_toArray, List.map_cons, List.map_nil]); rfl) ?_
          refine (HWT.out p _ _ (HB0.out.trans (hHeld.mono HB0.out.size)) (Hps.out.below hHeld) Hadds.out.1 Hroom.out).mono ?_
          rintro e w2 ⟨v2, rfl, hq2, hb2⟩
          refine ⟨_, rfl, ?_⟩
          refine hK.out _ _ (hHeld.trans (hb2.mono hHeld.size)) (fun hHeld => ?_)
          clear hK K
          refine norm_ (a' := ?_) ?_ ?_
          rotate_left
          · show Act.put _ (some 121) _ = _
            simp only [Act.put, sA, sB, sC]
            rfl
          refine one_ (i := 7) (N := some 10) #[true, true, true, true, true, true, true, true, false] rfl rfl (by kernel_rfl) (by decide) (fun K hK => ?_)
          refine value_ (v := (.pointer (some ⟨w2.heap.size, 0, none⟩))) (w1 := (w2.alloc (Obj.cells #[.slice none 0 0, .slice none 0 0, .slice none 0 0, .slice none 0 0, .bool false] 56))) (by rfl) rfl (by first | rfl | (go_simp; done) | (go_simp; rfl)) ?_
          have hkge := hHeld.size
          have hbox := heap_a0 w2 (Obj.cells #[.slice none 0 0, .slice none 0 0, .slice none 0 0, .slice none 0 0, .bool false] 56)
          have hbal := (Below.refl w2.heap.size w2).alloc (Nat.le_refl _) (Obj.cells #[.slice none 0 0, .slice none 0 0, .slice none 0 0, .slice none 0 0, .bool false] 56)
          refine hK.out _ _ (hHeld.alloc hHeld.size _) (fun hHeld => ?_)
          clear hK K
          refine norm_ (a' := ?_) ?_ ?_
          rotate_left
          · show Act.put _ (some 10) _ = _
            simp only [Act.put, sA, sB, sC]
            rfl
          have hq2 := hq2.below hbal
          have hJ2 := hJ (w2.heap.size, v2) _ ⟨hHeld, hq2, hbox, hkge⟩
          simp only [putAll, Act.put, sA, sB, sC] at hJ2
          exact hJ2
        · refine value_ (v := (.pointer (some ⟨wr.drew.heap.size, 0, none⟩))) (w1 := (wr.drew.alloc (Obj.cells #[.slice none 0 0, .slice none 0 0, .slice none 0 0, .slice none 0 0, .bool false] 56))) (by rfl) rfl (by first | rfl | (go_simp; done) | (go_simp; rfl)) ?_
          have hkge := hHeld.size
          have hbox := heap_a0 wr.drew (Obj.cells #[.slice none 0 0, .slice none 0 0, .slice none 0 0, .slice none 0 0, .bool false] 56)
          have hbal := (Below.refl wr.drew.heap.size wr.drew).alloc (Nat.le_refl _) (Obj.cells #[.slice none 0 0, .slice none 0 0, .slice none 0 0, .slice none 0 0, .bool false] 56)
          refine hK.out _ _ (hHeld.alloc hHeld.size _) (fun hHeld => ?_)
          clear hK K
          refine norm_ (a' := ?_) ?_ ?_
          rotate_left
          · show Act.put _ (some 10) _ = _
            simp only [Act.put, sA, sB, sC]
            rfl
          refine one_ (i := 6) (N := some 121) #[true, true, true, true, true, true, true, true, false] rfl rfl (by kernel_rfl) (by decide) (fun K hK => ?_)
          refine goes_ Tryd.func23 (by kernel_rfl) rfl #[(.agg #[.int .i64 tj.kind, .int .u64 tj.s0, .int .u64 tj.s1, .int .u64 tj.s2, .int .u64 tj.s3, .slice A' tj.kids.length c', .int .i64 tj.mn, .int .i64 tj.mx]), .agg #[.slice QA sj.sets.length QC, .slice RA sj.next.length RC, .slice D1 p.first.length e1, .slice D2 p.last.length e2, .bool p.none]] (by rfl) rfl rfl (by (try simp only [List.map_toArray, List.map_cons, List.map_nil]); rfl) ?_
          refine (HWT.out p _ _ (HB0.out.trans (hHeld.mono HB0.out.size)) (Hps.out.below hHeld) Hadds.out.1 Hroom.out).mono ?_
          rintro e w2 ⟨v2, rfl, hq2, hb2⟩
          refine ⟨_, rfl, ?_⟩
          refine hK.out _ _ (hHeld.trans (hb2.mono hHeld.size)) (fun hHeld => ?_)
          clear hK K
          refine norm_ (a' := ?_) ?_ ?_
          rotate_left
          · show Act.put _ (some 121) _ = _
            simp only [Act.put, sA, sB, sC]
            rfl
          have hbox := heap_aq hb2 hbox
          have hJ2 := hJ (wr.drew.heap.size, v2) _ ⟨hHeld, hq2, hbox, hkge⟩
          simp only [putAll, Act.put, sA, sB, sC] at hJ2
          exact hJ2
      rintro ⟨k, v2⟩ w5 ⟨hHeld, hq5, hk5, hkl⟩
      obtain ⟨SC3, TC3, NC3, MC3, E1, g1, E2, g2, rfl, _, _, _, _⟩ := id hq5
      refine norm_ (a' := ?_) ?_ ?_
      rotate_left
      · show putAll _ _ = _
        simp only [putAll, Act.put, sA, sB, sC]
        rfl
      refine last_ (i := 8) (N := none) #[true, true, true, true, true, true, true, true, true] rfl rfl (by kernel_rfl) (by decide) (fun K hK => ?_)
      refine skip_ (w1 := ?_) (by rfl) rfl ?_ ?_
      rotate_left
      · obtain ⟨⟨z0, z1, z2, z3, z4⟩, y0, y1, y2, y3, y4, _⟩ := box5 hk5
        go_simp
        rfl
      refine hK.out _ _ ?_
      clear hK K
      refine done_ (by kernel_rfl) ?_
      have hk6 := set5_box hk5 (.slice SC3 s2.sets.length TC3) (.slice NC3 s2.next.length MC3) (.slice E1 q.first.length g1) (.slice E2 q.last.length g2) (.bool q.none)
      have hks := set5_ks ⟨_, _, hk5⟩ (by decide) (by decide) (by decide) (by decide) (.slice SC3 s2.sets.length TC3) (.slice NC3 s2.next.length MC3) (.slice E1 q.first.length g1) (.slice E2 q.last.length g2) (.bool q.none)
      have hB6 := set5_below hHeld hkl (.slice SC3 s2.sets.length TC3) (.slice NC3 s2.next.length MC3) (.slice E1 q.first.length g1) (.slice E2 q.last.length g2) (.bool q.none)
      have hq6 := hq5.side hks
      obtain ⟨w6, hw6⟩ : ∃ w6, w6 = set5 w5 k (.slice SC3 s2.sets.length TC3) (.slice NC3 s2.next.length MC3) (.slice E1 q.first.length g1) (.slice E2 q.last.length g2) (.bool q.none) := ⟨_, rfl⟩
      rw [← hw6] at hk6 hB6 hq6
      simp only [set5] at hw6
      rw [← hw6]
      clear hw6 hks hq5 hk5 hHeld
      have hk36 := heap_aq hB6 Kk3.out
      have hk06 := heap_aq hB6 Kk0.out
      have hkk : w.heap.size + 1 + 1 + 1 < k := by omega
      obtain ⟨⟨z0, z1, z2, z3, z4⟩, _, _, _, _, _, kl⟩ := box5 hk6
      obtain ⟨⟨x0, x1, x2, x3, x4⟩, _, _, _, _, _, xl⟩ := box5 hk36
      obtain ⟨m0, m1, m2, m3, m4, m5, m6, m7, _⟩ := box8' hk06
      have Hq6 := Lib.hid hq6; have HB6 := Lib.hid hB6; have Hk36 := Lib.hid hk36; have Hp6 := Lib.hid (Hps.out.below hB6); have Hk6 := Lib.hid hk6
      clear hq6 hB6 hk36 hk06 hk6
      go_wp2_with fail
      refine (rbehind_any _ _ p q sj s2 w6 Hp6.out Hq6.out Hq.out.1 (by have := Hq.out.2.2; have := Hroom.out; omega) (Hadds.out.2.1.mono (by have := Hq.out.2.2; omega)) Hq.out.2.1).mono ?_
      rintro e w7 ⟨v7, rfl, hp7, hb7⟩
      obtain ⟨F1, f1, F2, f2, F3, f3, F4, f4, rfl, _, _, _, _⟩ := id hp7
      have hk37 := heap_aq hb7 Hk36.out
      obtain ⟨⟨x0, x1, x2, x3, x4⟩, t0, t1, t2, t3, t4, xl7⟩ := box5 hk37
      have hk8 := set5_box hk37 (.slice F1 (behindS s2 p q).sets.length f1) (.slice F2 (behindS s2 p q).next.length f2) (.slice F3 (behindP p q).first.length f3) (.slice F4 (behindP p q).last.length f4) (.bool (behindP p q).none)
      have hp8 := hp7.side (set5_ks ⟨_, _, hk37⟩ (by decide) (by decide) (by decide) (by decide) (.slice F1 (behindS s2 p q).sets.length f1) (.slice F2 (behindS s2 p q).next.length f2) (.slice F3 (behindP p q).first.length f3) (.slice F4 (behindP p q).last.length f4) (.bool (behindP p q).none))
      have hB8 := HK.out.trans ((set5_below ((HB6.out.trans (hb7.mono HB6.out.size)).mono (Nat.le_of_lt hsz)) (Nat.le_refl _) (.slice F1 (behindS s2 p q).sets.length f1) (.slice F2 (behindS s2 p q).next.length f2) (.slice F3 (behindP p q).first.length f3) (.slice F4 (behindP p q).last.length f4) (.bool (behindP p q).none)))
      have Hk8 := Lib.hid hk8; have Hp8 := Lib.hid hp8; have HB8 := Lib.hid hB8
      clear hk8 hp8 hB8 hk37 hp7 hb7
      go_wp2_with fail
      have hj := Hj.out
      have hlt := Hlt.out
      go_roundg (gk - 1)
      case measure => omega
      case rel => exact ⟨j + 1, by omega, by go_num, Lib.hid (by rw [Hsn.out]; exact ⟨_, _, _, _, _, Hk8.out, Hp8.out⟩), HB8⟩
    · obtain rfl : j = l.length := by omega
      have Hfull := Lib.hid (hfull rfl)
      obtain ⟨m0, m1, m2, m3, m4, m5, m6, m7, _⟩ := box8' hk0
      obtain ⟨⟨r0, r1, r2, r3, r4⟩, t0, t1, t2, t3, t4, rl⟩ := box5 hk2
      obtain ⟨⟨z0, z1, z2, z3, z4⟩, y0, y1, y2, y3, y4, kl⟩ := box5 hk3
      obtain ⟨f1, f2, f3⟩ := w_end (w := w) (HB3.out.trans (HK.out.mono (by omega))) hk2 (by omega) hps
      have E1 := Lib.hid f1; have E2 := Lib.hid f2; have E3 := Lib.hid f3
      clear f1 f2 f3 hk0 hk2 hk3 hps hfull hsn0 hadds
      go_wp2_with fail
      refine bodyPost_ret (ret_w rfl _ _ (w.heap.size + 1 + 1) _ _ _ _ _ (0, 0) rfl E1.out) rfl ?_
      rw [Hfull.out]
      exact ⟨_, rfl, E2.out, E3.out⟩
end Go.Proofs.YtmcoaopcmjociaaDoor

namespace Go.Proofs.YtmcoaopcmjociaaDoor
open Go Go.RowKit Go.Sort Go.Proofs.YtmcoaopcmjociaaDoorW.PrintLast

theorem WR.parts {w : World} {SA NA A1 A2 : Option Addr} {SC NC c1 c2 n1 n2 n3 n4 : Nat} {b : Bool} {p : Part} {s : St} (h : WR w (.agg #[.slice SA n1 SC, .slice NA n2 NC, .slice A1 n3 c1, .slice A2 n4 c2, .bool b]) p s) :
    w.ownsRow 0 24 4 (.slice SA s.sets.length SC) s.sets.length (cells4 s.sets) ∧ NXR 0 w (.slice NA s.next.length NC) s.next ∧ IRT w (.slice A1 p.first.length c1) p.first ∧ IRT w (.slice A2 p.last.length c2) p.last := by
  obtain ⟨_, _, _, _, _, _, _, _, he, h1, h2, h3, h4⟩ := h
  simp only [Value.agg.injEq, Array.mk.injEq, List.cons.injEq, Value.slice.injEq, and_true] at he
  obtain ⟨⟨rfl, _, rfl⟩, ⟨rfl, _, rfl⟩, ⟨rfl, _, rfl⟩, ⟨rfl, _, rfl⟩, _⟩ := he
  exact ⟨h1, h2, h3, h4⟩

set_option maxRecDepth 100000 in
set_option maxHeartbeats 4000000 in
theorem rwrite_alt (w0 : World) (d : Nat) (s0 s1 s2 s3 : Int) (l : List Tree) (mn mx : Int) (A : Option Addr) (c : Nat) (hr : ∀ t ∈ l, t.right = true) (hkids : KidsIn w0 (d + 1) l A)
    (ih : ∀ (t : Tree) (A : Option Addr) (c : Nat), t.right = true → KidsIn w0 d t.kids A → RWriteOK w0 t A c) : RWriteOK w0 (.node 3 s0 s1 s2 s3 l mn mx) A c := by
  intro s p0 v w h0 hv hgs hf
  have hsp : spotsN (.node 3 s0 s1 s2 s3 l mn mx) = spotsNs l := by simp [spotsN]
  have hwr : writeT (.node 3 s0 s1 s2 s3 l mn mx) s = writeAlt l ⟨[], [], false⟩ s := by simp [writeT]
  rw [hsp] at hf
  rw [hwr]
  clear hsp hwr
  simp only [Tree.val, Tree.kind, Tree.s0, Tree.s1, Tree.s2, Tree.s3, Tree.kids, Tree.mn, Tree.mx]
  obtain ⟨SA, SC, NA, NC, A1, c1, A2, c2, hvv, hv1, hv2, _, _⟩ := id hv
  subst hvv
  have hl := hkids.1
  obtain ⟨X, hX⟩ : ∃ X, X = ((w.alloc (nodeO 3 s0 s1 s2 s3 A l.length c mn mx)).alloc (Obj.cells #[.slice SA s.sets.length SC, .slice NA s.next.length NC, .slice A1 p0.first.length c1, .slice A2 p0.last.length c2, .bool p0.none] 56)).alloc (Obj.cells #[.slice none 0 0, .slice none 0 0, .slice none 0 0, .slice none 0 0, .bool false] 56) := ⟨_, rfl⟩
  have hb3 := below_a3 w (nodeO 3 s0 s1 s2 s3 A l.length c mn mx) (Obj.cells #[.slice SA s.sets.length SC, .slice NA s.next.length NC, .slice A1 p0.first.length c1, .slice A2 p0.last.length c2, .bool p0.none] 56) (Obj.cells #[.slice none 0 0, .slice none 0 0, .slice none 0 0, .slice none 0 0, .bool false] 56)
  have hs3 := size_a3 w (nodeO 3 s0 s1 s2 s3 A l.length c mn mx) (Obj.cells #[.slice SA s.sets.length SC, .slice NA s.next.length NC, .slice A1 p0.first.length c1, .slice A2 p0.last.length c2, .bool p0.none] 56) (Obj.cells #[.slice none 0 0, .slice none 0 0, .slice none 0 0, .slice none 0 0, .bool false] 56)
  have k0 := heap_a1 (o' := (Obj.cells #[.slice none 0 0, .slice none 0 0, .slice none 0 0, .slice none 0 0, .bool false] 56)) (heap_a1 (o' := (Obj.cells #[.slice SA s.sets.length SC, .slice NA s.next.length NC, .slice A1 p0.first.length c1, .slice A2 p0.last.length c2, .bool p0.none] 56)) (heap_a0 w (nodeO 3 s0 s1 s2 s3 A l.length c mn mx)))
  have k2 := heap_a2 w (nodeO 3 s0 s1 s2 s3 A l.length c mn mx) (Obj.cells #[.slice SA s.sets.length SC, .slice NA s.next.length NC, .slice A1 p0.first.length c1, .slice A2 p0.last.length c2, .bool p0.none] 56) (Obj.cells #[.slice none 0 0, .slice none 0 0, .slice none 0 0, .slice none 0 0, .bool false] 56)
  have hb4 := below_a3' w (nodeO 3 s0 s1 s2 s3 A l.length c mn mx) (Obj.cells #[.slice SA s.sets.length SC, .slice NA s.next.length NC, .slice A1 p0.first.length c1, .slice A2 p0.last.length c2, .bool p0.none] 56) (Obj.cells #[.slice none 0 0, .slice none 0 0, .slice none 0 0, .slice none 0 0, .bool false] 56) (Obj.cells #[.slice SA s.sets.length SC, .slice NA s.next.length NC, .slice none 0 0, .slice none 0 0, .bool false] 56)
  have k3 := box_a3 w (nodeO 3 s0 s1 s2 s3 A l.length c mn mx) (Obj.cells #[.slice SA s.sets.length SC, .slice NA s.next.length NC, .slice A1 p0.first.length c1, .slice A2 p0.last.length c2, .bool p0.none] 56) (Obj.cells #[.slice none 0 0, .slice none 0 0, .slice none 0 0, .slice none 0 0, .bool false] 56) (Obj.cells #[.slice SA s.sets.length SC, .slice NA s.next.length NC, .slice none 0 0, .slice none 0 0, .bool false] 56)
  rw [← hX] at hb3 hs3 k0 k2 hb4 k3
  have hb5 := hb3.trans (hb4.mono (by omega))
  have hwr0 : WR (X.alloc (Obj.cells #[.slice SA s.sets.length SC, .slice NA s.next.length NC, .slice none 0 0, .slice none 0 0, .bool false] 56)) (.agg #[.slice SA s.sets.length SC, .slice NA s.next.length NC, .slice none 0 0, .slice none 0 0, .bool false]) ⟨[], [], false⟩ s :=
    ⟨SA, SC, NA, NC, none, 0, none, 0, rfl, own_keep hv1 fun k hk _ => hb5.block k hk.lt, hv2.below hb5, IR.nil _ _, IR.nil _ _⟩
  have HX := Lib.hid hX; have H0 := Lib.hid h0; have HR := Lib.hid hr; have HKI := Lib.hid hkids; have IH := Lib.hid ih; have HGS := Lib.hid hgs; have K0 := Lib.hid k0; have K2 := Lib.hid k2; have K3 := Lib.hid k3; have HB3 := Lib.hid hb3; have HB4 := Lib.hid hb4; have HWR0 := Lib.hid hwr0; have HS3 := Lib.hid hs3
  have hfit := h0.size
  clear hX h0 hr hkids ih hgs k0 k2 k3 hb3 hb4 hb5 hwr0 hs3 hv hv1 hv2
  go_enter Tryd.func23, Tryd.ntmps23
  go_wp2_with fail
  rw [← HX.out]
  go_loopg [9] l.length (fun g i wr => ∃ j : Nat, j + g = l.length ∧ i = .int .i64 j ∧ Hid (∃ v0 v1 v2 v3 v4, wr.heap[w.heap.size + 1 + 1 + 1]? = some (.cells #[v0, v1, v2, v3, v4] 56 (0, 0)) ∧ WR wr (.agg #[v0, v1, v2, v3, v4]) (writeAlt (l.take j) ⟨[], [], false⟩ s).1 (writeAlt (l.take j) ⟨[], [], false⟩ s).2) ∧ Hid (Below (w.heap.size + 1 + 1 + 1) X wr))
  case atStart => exact ⟨0, by omega, rfl, Lib.hid ⟨_, _, _, _, _, K3.out, HWR0.out⟩, HB4⟩
  case round =>
    obtain ⟨j, hj, rfl, HP, HK⟩ := hrel
    have hj1 : j ≤ l.length := by omega
    have Hj := Lib.hid hj; clear hj
    have hadds := writeAlt_adds (l.take j) (fun t ht => HR.out t (List.mem_of_mem_take ht)) ⟨[], [], false⟩ s HGS.out (GoodPart.empty _ _)
    have hsn0 := fun (h : j < l.length) => (congrArg (fun x => writeAlt x ⟨[], [], false⟩ s) (Tree.take_snoc l j h)).trans (writeAlt_snoc (l.take j) l[j] ⟨[], [], false⟩ s)
    have hfull := fun (h : j = l.length) => (show writeAlt l ⟨[], [], false⟩ s = writeAlt (l.take j) ⟨[], [], false⟩ s by rw [h, List.take_length])
    obtain ⟨r, hrr⟩ : ∃ r, writeAlt (l.take j) ⟨[], [], false⟩ s = r := ⟨_, rfl⟩
    have hP := HP.out
    rw [hrr] at hP hadds hsn0 hfull
    obtain ⟨p, sj⟩ := r
    simp only at hP hadds hsn0
    obtain ⟨v0, v1, v2, v3, v4, hk3, hps⟩ := hP
    obtain ⟨QA, QC, RA, RC, D1, e1, D2, e2, hvv, _, _, _, _⟩ := id hps
    obtain ⟨rfl, rfl, rfl, rfl, rfl⟩ : v0 = _ ∧ v1 = _ ∧ v2 = _ ∧ v3 = _ ∧ v4 = _ := by simpa using hvv
    have hk0 := (HK.out.block w.heap.size (by omega)).trans K0.out
    have hk2 := (HK.out.block (w.heap.size + 1 + 1) (by omega)).trans K2.out
    have hsz : w.heap.size + 1 + 1 + 1 < wr.heap.size := (Array.getElem?_eq_some_iff.1 hk3).1
    clear hrr HP hvv
    by_cases hlt : j < l.length
    · have hfj := spotsNs_take l j hlt
      have hroom : sj.sets.length + spotsN l[j] ≤ 512 := by have := hadds.2.2; omega
      have hsn := hsn0 hlt
      have hB0 := H0.out.trans ((HB3.out.trans (HK.out.mono (by omega))).mono hfit)
      obtain ⟨ad, A', c', rfl, hc, hk⟩ := HKI.out.2 j l[j] (List.getElem?_eq_getElem hlt)
      have hc1 := hc.below hB0
      have hwrt := IH.out l[j] A' c' (HR.out _ (List.getElem_mem hlt)) hk sj
      have hq := writeT_adds l[j] (HR.out _ (List.getElem_mem hlt)) sj hadds.1
      obtain ⟨tj, htj⟩ : ∃ tj, tj = l[j] := ⟨_, rfl⟩
      rw [← htj] at hc1 hwrt hsn hq hroom
      have hqq : ∃ q, writeT tj sj = q := ⟨_, rfl⟩
      obtain ⟨q, hqq⟩ := hqq
      rw [hqq] at hsn hq hwrt
      obtain ⟨q, s2⟩ := q
      simp only at hsn hq hwrt
      have Hsn := Lib.hid hsn; have Hq := Lib.hid hq; have HWT := Lib.hid hwrt; have HC := Lib.hid hc1; have HB0 := Lib.hid hB0; have Hps := Lib.hid hps; have Kk0 := Lib.hid hk0; have Kk2 := Lib.hid hk2; have Kk3 := Lib.hid hk3; have Hadds := Lib.hid hadds; have Hroom := Lib.hid hroom; have Hlt := Lib.hid hlt
      obtain ⟨m0, m1, m2, m3, m4, m5, m6, m7, _⟩ := box8' hk0
      clear hsn hq hwrt hc1 hB0 hps hk0 hk2 hk3 hadds hroom hsn0 hfull htj hqq hc hk hfj
      go_wp2_with fail
      refine start_ (n := 9) (S := fun w' => Below wr.heap.size wr w') (ds := [8]) #[false, false, false, false, false, false, false, false, false] (by kernel_rfl) rfl rfl ((Below.refl _ _).drew) (fun hHeld => ?_)
      refine pure_ (i := 0) (N := some 115) (v := ?_) (a' := ?_) #[true, false, false, false, false, false, false, false, false] rfl rfl (by kernel_rfl) (fun _ _ _ h => h) (Or.inl ⟨by rfl, ?_⟩) ?_ ?_
      rotate_left
      · intro w'
        go_simp
        with_reducible rfl
      rotate_left
      · simp only [Act.put, sA, sB, sC]
        rfl
      refine take_ (i := 1) (N := some 116) (v := ?_) (a' := ?_) #[true, true, false, false, false, false, false, false, false] rfl rfl (by kernel_rfl) (fun _ _ _ h => h) (Or.inl ⟨by rfl, ?_⟩) hHeld ?_ ?_
      rotate_left
      · intro w' sb; obtain ⟨⟨p0, p1, p2, p3, p4⟩, _, _, _, _, _, _⟩ := box5 (heap_aq sb Kk3.out); obtain ⟨m0, m1, m2, m3, m4, m5, m6, m7, _⟩ := box8' (heap_aq sb Kk0.out); obtain ⟨c0, c1, c2, c3, c4, c5, c6, c7⟩ := HC.out.below sb
        go_simp
        with_reducible rfl
      rotate_left
      · simp only [Act.put, sA, sB, sC]
        rfl
      refine pure_ (i := 2) (N := some 117) (v := ?_) (a' := ?_) #[true, true, true, false, false, false, false, false, false] rfl rfl (by kernel_rfl) (fun _ _ _ h => h) (Or.inl ⟨by rfl, ?_⟩) ?_ ?_
      rotate_left
      · intro w'
        go_simp
        with_reducible rfl
      rotate_left
      · simp only [Act.put, sA, sB, sC]
        rfl
      refine pure_ (i := 3) (N := some 118) (v := ?_) (a' := ?_) #[true, true, true, true, false, false, false, false, false] rfl rfl (by kernel_rfl) (fun _ _ _ h => h) (Or.inl ⟨by rfl, ?_⟩) ?_ ?_
      rotate_left
      · intro w'
        go_simp
        with_reducible rfl
      rotate_left
      · simp only [Act.put, sA, sB, sC]
        rfl
      refine take_ (i := 4) (N := some 119) (v := ?_) (a' := ?_) #[true, true, true, true, true, false, false, false, false] rfl rfl (by kernel_rfl) (fun _ _ _ h => h) (Or.inl ⟨by rfl, ?_⟩) hHeld ?_ ?_
      rotate_left
      · intro w' sb; obtain ⟨⟨p0, p1, p2, p3, p4⟩, _, _, _, _, _, _⟩ := box5 (heap_aq sb Kk3.out); obtain ⟨m0, m1, m2, m3, m4, m5, m6, m7, _⟩ := box8' (heap_aq sb Kk0.out); obtain ⟨c0, c1, c2, c3, c4, c5, c6, c7⟩ := HC.out.below sb
        go_simp
        with_reducible rfl
      rotate_left
      · simp only [Act.put, sA, sB, sC]
        rfl
      refine take_ (i := 5) (N := some 120) (v := ?_) (a' := ?_) #[true, true, true, true, true, true, false, false, false] rfl rfl (by kernel_rfl) (fun _ _ _ h => h) (Or.inl ⟨by rfl, ?_⟩) hHeld ?_ ?_
      rotate_left
      · intro w' sb; obtain ⟨⟨p0, p1, p2, p3, p4⟩, _, _, _, _, _, _⟩ := box5 (heap_aq sb Kk3.out); obtain ⟨m0, m1, m2, m3, m4, m5, m6, m7, _⟩ := box8' (heap_aq sb Kk0.out); obtain ⟨c0, c1, c2, c3, c4, c5, c6, c7⟩ := HC.out.below sb
        go_simp
        with_reducible rfl
      rotate_left
      · simp only [Act.put, sA, sB, sC]
        rfl
      refine join_ (σ := Nat × Value) 1 #[true, true, true, true, true, true, true, true, false] (fun s => [(121, s.2), (10, .pointer (some ⟨s.1, 0, none⟩))]) (fun s w' => Below wr.heap.size wr w' ∧ WR w' s.2 q s2 ∧ w'.heap[s.1]? = some (Obj.cells #[.slice none 0 0, .slice none 0 0, .slice none 0 0, .slice none 0 0, .bool false] 56) ∧ wr.heap.size ≤ s.1) ?_ ?_
      rotate_left
      · intro hJ
        refine two_ (i := 6) (j := 7) #[true, true, true, true, true, true, true, false, false] #[true, true, true, true, true, true, false, true, false] rfl rfl rfl rfl (by kernel_rfl) (by decide) (by decide) (fun K hK => ?_) (fun K hK => ?_)
        · refine goes_ Tryd.func23 (by kernel_rfl) rfl #[(.agg #[.int .i64 tj.kind, .int .u64 tj.s0, .int .u64 tj.s1, .int .u64 tj.s2, .int .u64 tj.s3, .slice A' tj.kids.length c', .int .i64 tj.mn, .int .i64 tj.mx]), .agg #[.slice QA sj.sets.length QC, .slice RA sj.next.length RC, .slice D1 p.first.length e1, .slice D2 p.last.length e2, .bool p.none]] (by rfl) rfl rfl (by (try simp only [List.map_toArray, List.map_cons, List.map_nil]); rfl) ?_
          refine (HWT.out p _ _ (HB0.out.trans (hHeld.mono HB0.out.size)) (Hps.out.below hHeld) Hadds.out.1 Hroom.out).mono ?_
          rintro e w2 ⟨v2, rfl, hq2, hb2⟩
          refine ⟨_, rfl, ?_⟩
          refine hK.out _ _ (hHeld.trans (hb2.mono hHeld.size)) (fun hHeld => ?_)
          clear hK K
          refine norm_ (a' := ?_) ?_ ?_
          rotate_left
          · show Act.put _ (some 121) _ = _
            simp only [Act.put, sA, sB, sC]
            rfl
          refine one_ (i := 7) (N := some 10) #[true, true, true, true, true, true, true, true, false] rfl rfl (by kernel_rfl) (by decide) (fun K hK => ?_)
          refine value_ (v := (.pointer (some ⟨w2.heap.size, 0, none⟩))) (w1 := (w2.alloc (Obj.cells #[.slice none 0 0, .slice none 0 0, .slice none 0 0, .slice none 0 0, .bool false] 56))) (by rfl) rfl (by first | rfl | (go_simp; done) | (go_simp; rfl)) ?_
          have hkge := hHeld.size
          have hbox := heap_a0 w2 (Obj.cells #[.slice none 0 0, .slice none 0 0, .slice none 0 0, .slice none 0 0, .bool false] 56)
          have hbal := (Below.refl w2.heap.size w2).alloc (Nat.le_refl _) (Obj.cells #[.slice none 0 0, .slice none 0 0, .slice none 0 0, .slice none 0 0, .bool false] 56)
          refine hK.out _ _ (hHeld.alloc hHeld.size _) (fun hHeld => ?_)
          clear hK K
          refine norm_ (a' := ?_) ?_ ?_
          rotate_left
          · show Act.put _ (some 10) _ = _
            simp only [Act.put, sA, sB, sC]
            rfl
          have hq2 := hq2.below hbal
          have hJ2 := hJ (w2.heap.size, v2) _ ⟨hHeld, hq2, hbox, hkge⟩
          simp only [putAll, Act.put, sA, sB, sC] at hJ2
          exact hJ2
        · refine value_ (v := (.pointer (some ⟨wr.drew.heap.size, 0, none⟩))) (w1 := (wr.drew.alloc (Obj.cells #[.slice none 0 0, .slice none 0 0, .slice none 0 0, .slice none 0 0, .bool false] 56))) (by rfl) rfl (by first | rfl | (go_simp; done) | (go_simp; rfl)) ?_
          have hkge := hHeld.size
          have hbox := heap_a0 wr.drew (Obj.cells #[.slice none 0 0, .slice none 0 0, .slice none 0 0, .slice none 0 0, .bool false] 56)
          have hbal := (Below.refl wr.drew.heap.size wr.drew).alloc (Nat.le_refl _) (Obj.cells #[.slice none 0 0, .slice none 0 0, .slice none 0 0, .slice none 0 0, .bool false] 56)
          refine hK.out _ _ (hHeld.alloc hHeld.size _) (fun hHeld => ?_)
          clear hK K
          refine norm_ (a' := ?_) ?_ ?_
          rotate_left
          · show Act.put _ (some 10) _ = _
            simp only [Act.put, sA, sB, sC]
            rfl
          refine one_ (i := 6) (N := some 121) #[true, true, true, true, true, true, true, true, false] rfl rfl (by kernel_rfl) (by decide) (fun K hK => ?_)
          refine goes_ Tryd.func23 (by kernel_rfl) rfl #[(.agg #[.int .i64 tj.kind, .int .u64 tj.s0, .int .u64 tj.s1, .int .u64 tj.s2, .int .u64 tj.s3, .slice A' tj.kids.length c', .int .i64 tj.mn, .int .i64 tj.mx]), .agg #[.slice QA sj.sets.length QC, .slice RA sj.next.length RC, .slice D1 p.first.length e1, .slice D2 p.last.length e2, .bool p.none]] (by rfl) rfl rfl (by (try simp only [List.map_toArray, List.map_cons, List.map_nil]); rfl) ?_
          refine (HWT.out p _ _ (HB0.out.trans (hHeld.mono HB0.out.size)) (Hps.out.below hHeld) Hadds.out.1 Hroom.out).mono ?_
          rintro e w2 ⟨v2, rfl, hq2, hb2⟩
          refine ⟨_, rfl, ?_⟩
          refine hK.out _ _ (hHeld.trans (hb2.mono hHeld.size)) (fun hHeld => ?_)
          clear hK K
          refine norm_ (a' := ?_) ?_ ?_
          rotate_left
          · show Act.put _ (some 121) _ = _
            simp only [Act.put, sA, sB, sC]
            rfl
          have hbox := heap_aq hb2 hbox
          have hJ2 := hJ (wr.drew.heap.size, v2) _ ⟨hHeld, hq2, hbox, hkge⟩
          simp only [putAll, Act.put, sA, sB, sC] at hJ2
          exact hJ2
      rintro ⟨k, v2⟩ w5 ⟨hHeld, hq5, hk5, hkl⟩
      obtain ⟨SC3, TC3, NC3, MC3, E1, g1, E2, g2, rfl, _, _, _, _⟩ := id hq5
      refine norm_ (a' := ?_) ?_ ?_
      rotate_left
      · show putAll _ _ = _
        simp only [putAll, Act.put, sA, sB, sC]
        rfl
      refine last_ (i := 8) (N := none) #[true, true, true, true, true, true, true, true, true] rfl rfl (by kernel_rfl) (by decide) (fun K hK => ?_)
      refine skip_ (w1 := ?_) (by rfl) rfl ?_ ?_
      rotate_left
      · obtain ⟨⟨z0, z1, z2, z3, z4⟩, y0, y1, y2, y3, y4, _⟩ := box5 hk5
        go_simp
        rfl
      refine hK.out _ _ ?_
      clear hK K
      refine done_ (by kernel_rfl) ?_
      have hk6 := set5_box hk5 (.slice SC3 s2.sets.length TC3) (.slice NC3 s2.next.length MC3) (.slice E1 q.first.length g1) (.slice E2 q.last.length g2) (.bool q.none)
      have hks := set5_ks ⟨_, _, hk5⟩ (by decide) (by decide) (by decide) (by decide) (.slice SC3 s2.sets.length TC3) (.slice NC3 s2.next.length MC3) (.slice E1 q.first.length g1) (.slice E2 q.last.length g2) (.bool q.none)
      have hB6 := set5_below hHeld hkl (.slice SC3 s2.sets.length TC3) (.slice NC3 s2.next.length MC3) (.slice E1 q.first.length g1) (.slice E2 q.last.length g2) (.bool q.none)
      have hq6 := hq5.side hks
      obtain ⟨w6, hw6⟩ : ∃ w6, w6 = set5 w5 k (.slice SC3 s2.sets.length TC3) (.slice NC3 s2.next.length MC3) (.slice E1 q.first.length g1) (.slice E2 q.last.length g2) (.bool q.none) := ⟨_, rfl⟩
      rw [← hw6] at hk6 hB6 hq6
      simp only [set5] at hw6
      rw [← hw6]
      clear hw6 hks hq5 hk5 hHeld
      have hk36 := heap_aq hB6 Kk3.out
      have hk06 := heap_aq hB6 Kk0.out
      have hkk : w.heap.size + 1 + 1 + 1 < k := by omega
      obtain ⟨⟨z0, z1, z2, z3, z4⟩, _, _, _, _, _, kl⟩ := box5 hk6
      obtain ⟨⟨x0, x1, x2, x3, x4⟩, _, _, _, _, _, xl⟩ := box5 hk36
      obtain ⟨m0, m1, m2, m3, m4, m5, m6, m7, _⟩ := box8' hk06
      have Hq6 := Lib.hid hq6; have HB6 := Lib.hid hB6; have Hk36 := Lib.hid hk36; have Hp6 := Lib.hid (Hps.out.below hB6); have Hk6 := Lib.hid hk6
      clear hq6 hB6 hk36 hk06 hk6
      go_wp2_with fail
      have HJF := Lib.hid (joinL_merge (Hadds.out.2.1.mono (show sj.sets.length ≤ s2.sets.length by have := Hq.out.2.2; omega)).first Hq.out.2.1.first)
      have HJL := Lib.hid (joinL_merge (Hadds.out.2.1.mono (show sj.sets.length ≤ s2.sets.length by have := Hq.out.2.2; omega)).last Hq.out.2.1.last)
      have hs2 : s2.sets.length ≤ 512 := by have := Hq.out.2.2; have := Hroom.out; omega
      cases hpn : p.none with
      | false =>
        rw [hpn] at Hk36 Hp6
        have Hpn := Lib.hid hpn
        clear hpn
        refine start_ (n := 24) (S := fun w' => Below w6.heap.size w6 w') (ds := [23]) #[false, false, false, false, false, false, false, false, false, false, false, false, false, false, false, false, false, false, false, false, false, false, false, false] (by kernel_rfl) rfl rfl ((Below.refl _ _).drew) (fun hHeld => ?_)
        refine pure_ (i := 0) (N := some 131) (v := ?_) (a' := ?_) #[true, false, false, false, false, false, false, false, false, false, false, false, false, false, false, false, false, false, false, false, false, false, false, false] rfl rfl (by kernel_rfl) (fun _ _ _ h => h) (Or.inl ⟨by rfl, ?_⟩) ?_ ?_
        rotate_left
        · intro w'
          go_simp
          with_reducible rfl
        rotate_left
        · simp only [Act.put, sA, sB, sC]
          rfl
        refine pure_ (i := 2) (N := some 133) (v := ?_) (a' := ?_) #[true, false, true, false, false, false, false, false, false, false, false, false, false, false, false, false, false, false, false, false, false, false, false, false] rfl rfl (by kernel_rfl) (fun _ _ _ h => h) (Or.inl ⟨by rfl, ?_⟩) ?_ ?_
        rotate_left
        · intro w'
          go_simp
          with_reducible rfl
        rotate_left
        · simp only [Act.put, sA, sB, sC]
          rfl
        refine pure_ (i := 4) (N := some 135) (v := ?_) (a' := ?_) #[true, false, true, false, true, false, false, false, false, false, false, false, false, false, false, false, false, false, false, false, false, false, false, false] rfl rfl (by kernel_rfl) (fun _ _ _ h => h) (Or.inl ⟨by rfl, ?_⟩) ?_ ?_
        rotate_left
        · intro w'
          go_simp
          with_reducible rfl
        rotate_left
        · simp only [Act.put, sA, sB, sC]
          rfl
        refine pure_ (i := 6) (N := some 137) (v := ?_) (a' := ?_) #[true, false, true, false, true, false, true, false, false, false, false, false, false, false, false, false, false, false, false, false, false, false, false, false] rfl rfl (by kernel_rfl) (fun _ _ _ h => h) (Or.inl ⟨by rfl, ?_⟩) ?_ ?_
        rotate_left
        · intro w'
          go_simp
          with_reducible rfl
        rotate_left
        · simp only [Act.put, sA, sB, sC]
          rfl
        refine pure_ (i := 8) (N := some 139) (v := ?_) (a' := ?_) #[true, false, true, false, true, false, true, false, true, false, false, false, false, false, false, false, false, false, false, false, false, false, false, false] rfl rfl (by kernel_rfl) (fun _ _ _ h => h) (Or.inl ⟨by rfl, ?_⟩) ?_ ?_
        rotate_left
        · intro w'
          go_simp
          with_reducible rfl
        rotate_left
        · simp only [Act.put, sA, sB, sC]
          rfl
        refine pure_ (i := 10) (N := some 141) (v := ?_) (a' := ?_) #[true, false, true, false, true, false, true, false, true, false, true, false, false, false, false, false, false, false, false, false, false, false, false, false] rfl rfl (by kernel_rfl) (fun _ _ _ h => h) (Or.inl ⟨by rfl, ?_⟩) ?_ ?_
        rotate_left
        · intro w'
          go_simp
          with_reducible rfl
        rotate_left
        · simp only [Act.put, sA, sB, sC]
          rfl
        refine pure_ (i := 12) (N := some 143) (v := ?_) (a' := ?_) #[true, false, true, false, true, false, true, false, true, false, true, false, true, false, false, false, false, false, false, false, false, false, false, false] rfl rfl (by kernel_rfl) (fun _ _ _ h => h) (Or.inl ⟨by rfl, ?_⟩) ?_ ?_
        rotate_left
        · intro w'
          go_simp
          with_reducible rfl
        rotate_left
        · simp only [Act.put, sA, sB, sC]
          rfl
        refine pure_ (i := 14) (N := some 145) (v := ?_) (a' := ?_) #[true, false, true, false, true, false, true, false, true, false, true, false, true, false, true, false, false, false, false, false, false, false, false, false] rfl rfl (by kernel_rfl) (fun _ _ _ h => h) (Or.inl ⟨by rfl, ?_⟩) ?_ ?_
        rotate_left
        · intro w'
          go_simp
          with_reducible rfl
        rotate_left
        · simp only [Act.put, sA, sB, sC]
          rfl
        refine pure_ (i := 16) (N := some 147) (v := ?_) (a' := ?_) #[true, false, true, false, true, false, true, false, true, false, true, false, true, false, true, false, true, false, false, false, false, false, false, false] rfl rfl (by kernel_rfl) (fun _ _ _ h => h) (Or.inl ⟨by rfl, ?_⟩) ?_ ?_
        rotate_left
        · intro w'
          go_simp
          with_reducible rfl
        rotate_left
        · simp only [Act.put, sA, sB, sC]
          rfl
        refine take_ (i := 1) (N := some 132) (v := ?_) (a' := ?_) #[true, true, true, false, true, false, true, false, true, false, true, false, true, false, true, false, true, false, false, false, false, false, false, false] rfl rfl (by kernel_rfl) (fun _ _ _ h => h) (Or.inl ⟨by rfl, ?_⟩) hHeld ?_ ?_
        rotate_left
        · intro w' sb; obtain ⟨⟨p0, p1, p2, p3, p4⟩, _, _, _, _, _, _⟩ := box5 (heap_aq sb Hk36.out); obtain ⟨⟨q0, q1, q2, q3, q4⟩, _, _, _, _, _, _⟩ := box5 (heap_aq sb Hk6.out)
          go_simp
          with_reducible rfl
        rotate_left
        · simp only [Act.put, sA, sB, sC]
          rfl
        refine take_ (i := 3) (N := some 134) (v := ?_) (a' := ?_) #[true, true, true, true, true, false, true, false, true, false, true, false, true, false, true, false, true, false, false, false, false, false, false, false] rfl rfl (by kernel_rfl) (fun _ _ _ h => h) (Or.inl ⟨by rfl, ?_⟩) hHeld ?_ ?_
        rotate_left
        · intro w' sb; obtain ⟨⟨p0, p1, p2, p3, p4⟩, _, _, _, _, _, _⟩ := box5 (heap_aq sb Hk36.out); obtain ⟨⟨q0, q1, q2, q3, q4⟩, _, _, _, _, _, _⟩ := box5 (heap_aq sb Hk6.out)
          go_simp
          with_reducible rfl
        rotate_left
        · simp only [Act.put, sA, sB, sC]
          rfl
        refine take_ (i := 5) (N := some 136) (v := ?_) (a' := ?_) #[true, true, true, true, true, true, true, false, true, false, true, false, true, false, true, false, true, false, false, false, false, false, false, false] rfl rfl (by kernel_rfl) (fun _ _ _ h => h) (Or.inl ⟨by rfl, ?_⟩) hHeld ?_ ?_
        rotate_left
        · intro w' sb; obtain ⟨⟨p0, p1, p2, p3, p4⟩, _, _, _, _, _, _⟩ := box5 (heap_aq sb Hk36.out); obtain ⟨⟨q0, q1, q2, q3, q4⟩, _, _, _, _, _, _⟩ := box5 (heap_aq sb Hk6.out)
          go_simp
          with_reducible rfl
        rotate_left
        · simp only [Act.put, sA, sB, sC]
          rfl
        refine take_ (i := 7) (N := some 138) (v := ?_) (a' := ?_) #[true, true, true, true, true, true, true, true, true, false, true, false, true, false, true, false, true, false, false, false, false, false, false, false] rfl rfl (by kernel_rfl) (fun _ _ _ h => h) (Or.inl ⟨by rfl, ?_⟩) hHeld ?_ ?_
        rotate_left
        · intro w' sb; obtain ⟨⟨p0, p1, p2, p3, p4⟩, _, _, _, _, _, _⟩ := box5 (heap_aq sb Hk36.out); obtain ⟨⟨q0, q1, q2, q3, q4⟩, _, _, _, _, _, _⟩ := box5 (heap_aq sb Hk6.out)
          go_simp
          with_reducible rfl
        rotate_left
        · simp only [Act.put, sA, sB, sC]
          rfl
        refine take_ (i := 11) (N := some 142) (v := ?_) (a' := ?_) #[true, true, true, true, true, true, true, true, true, false, true, true, true, false, true, false, true, false, false, false, false, false, false, false] rfl rfl (by kernel_rfl) (fun _ _ _ h => h) (Or.inl ⟨by rfl, ?_⟩) hHeld ?_ ?_
        rotate_left
        · intro w' sb; obtain ⟨⟨p0, p1, p2, p3, p4⟩, _, _, _, _, _, _⟩ := box5 (heap_aq sb Hk36.out); obtain ⟨⟨q0, q1, q2, q3, q4⟩, _, _, _, _, _, _⟩ := box5 (heap_aq sb Hk6.out)
          go_simp
          with_reducible rfl
        rotate_left
        · simp only [Act.put, sA, sB, sC]
          rfl
        refine take_ (i := 13) (N := some 144) (v := ?_) (a' := ?_) #[true, true, true, true, true, true, true, true, true, false, true, true, true, true, true, false, true, false, false, false, false, false, false, false] rfl rfl (by kernel_rfl) (fun _ _ _ h => h) (Or.inl ⟨by rfl, ?_⟩) hHeld ?_ ?_
        rotate_left
        · intro w' sb; obtain ⟨⟨p0, p1, p2, p3, p4⟩, _, _, _, _, _, _⟩ := box5 (heap_aq sb Hk36.out); obtain ⟨⟨q0, q1, q2, q3, q4⟩, _, _, _, _, _, _⟩ := box5 (heap_aq sb Hk6.out)
          go_simp
          with_reducible rfl
        rotate_left
        · simp only [Act.put, sA, sB, sC]
          rfl
        refine take_ (i := 17) (N := some 148) (v := ?_) (a' := ?_) #[true, true, true, true, true, true, true, true, true, false, true, true, true, true, true, false, true, true, false, false, false, false, false, false] rfl rfl (by kernel_rfl) (fun _ _ _ h => h) (Or.inl ⟨by rfl, ?_⟩) hHeld ?_ ?_
        rotate_left
        · intro w' sb; obtain ⟨⟨p0, p1, p2, p3, p4⟩, _, _, _, _, _, _⟩ := box5 (heap_aq sb Hk36.out); obtain ⟨⟨q0, q1, q2, q3, q4⟩, _, _, _, _, _, _⟩ := box5 (heap_aq sb Hk6.out)
          go_simp
          with_reducible rfl
        rotate_left
        · simp only [Act.put, sA, sB, sC]
          rfl
        refine one_ (i := 9) (N := some 140) #[true, true, true, true, true, true, true, true, true, true, true, true, true, true, true, false, true, true, false, false, false, false, false, false] rfl rfl (by kernel_rfl) (by decide) (fun K hK => ?_)
        refine goes_ Tryd.func44 (by kernel_rfl) rfl #[.slice D1 p.first.length e1, .slice E1 q.first.length g1, .int .i64 s2.sets.length] (by rfl) rfl rfl (by (try simp only [List.map_toArray, List.map_cons, List.map_nil]); rfl) ?_
        have hjn := join_any (S := Ty w6.drew 3) (S' := Ty w6.drew 3) (.slice D1 p.first.length e1) (.slice E1 q.first.length g1) p.first q.first s2.sets.length w6.drew (IRT.below Hp6.out.parts.2.2.1 hHeld) (IRT.below Hq6.out.parts.2.2.1 hHeld) (by omega)
        rw [HJF.out] at hjn
        refine hjn.mono ?_
        rintro e w7 ⟨F3, f3, rfl, hF3, hb7⟩
        clear hjn
        refine ⟨_, rfl, ?_⟩
        refine hK.out _ _ (hHeld.trans (hb7.mono hHeld.size)) (fun hHeld => ?_)
        clear hK K
        refine norm_ (a' := ?_) ?_ ?_
        rotate_left
        · show Act.put _ (some 140) _ = _
          simp only [Act.put, sA, sB, sC]
          rfl
        refine one_ (i := 15) (N := some 146) #[true, true, true, true, true, true, true, true, true, true, true, true, true, true, true, true, true, true, false, false, false, false, false, false] rfl rfl (by kernel_rfl) (by decide) (fun K hK => ?_)
        refine goes_ Tryd.func44 (by kernel_rfl) rfl #[.slice D2 p.last.length e2, .slice E2 q.last.length g2, .int .i64 s2.sets.length] (by rfl) rfl rfl (by (try simp only [List.map_toArray, List.map_cons, List.map_nil]); rfl) ?_
        have hjn := join_any (S := Ty w7 3) (S' := Ty w7 3) (.slice D2 p.last.length e2) (.slice E2 q.last.length g2) p.last q.last s2.sets.length w7 (IRT.below Hp6.out.parts.2.2.2 hHeld) (IRT.below Hq6.out.parts.2.2.2 hHeld) (by omega)
        rw [HJL.out] at hjn
        refine hjn.mono ?_
        rintro e w8 ⟨F4, f4, rfl, hF4, hb8⟩
        clear hjn
        refine ⟨_, rfl, ?_⟩
        refine hK.out _ _ (hHeld.trans (hb8.mono hHeld.size)) (fun hHeld => ?_)
        clear hK K
        refine norm_ (a' := ?_) ?_ ?_
        rotate_left
        · show Act.put _ (some 146) _ = _
          simp only [Act.put, sA, sB, sC]
          rfl
        refine pure_ (i := 18) (N := some 149) (v := ?_) (a' := ?_) #[true, true, true, true, true, true, true, true, true, true, true, true, true, true, true, true, true, true, true, false, false, false, false, false] rfl rfl (by kernel_rfl) (fun _ _ _ h => h) (Or.inl ⟨by rfl, ?_⟩) ?_ ?_
        rotate_left
        · intro w'
          go_simp
          with_reducible rfl
        rotate_left
        · simp only [Act.put, sA, sB, sC]
          rfl
        refine pure_ (i := 19) (N := some 150) (v := ?_) (a' := ?_) #[true, true, true, true, true, true, true, true, true, true, true, true, true, true, true, true, true, true, true, true, false, false, false, false] rfl rfl (by kernel_rfl) (fun _ _ _ h => h) (Or.inl ⟨by rfl, ?_⟩) ?_ ?_
        rotate_left
        · intro w'
          go_simp
          with_reducible rfl
        rotate_left
        · simp only [Act.put, sA, sB, sC]
          rfl
        refine take_ (i := 20) (N := some 151) (v := ?_) (a' := ?_) #[true, true, true, true, true, true, true, true, true, true, true, true, true, true, true, true, true, true, true, true, true, false, false, false] rfl rfl (by kernel_rfl) (fun _ _ _ h => h) (Or.inl ⟨by rfl, ?_⟩) hHeld ?_ ?_
        rotate_left
        · intro w' sb; obtain ⟨⟨p0, p1, p2, p3, p4⟩, _, _, _, _, _, _⟩ := box5 (heap_aq sb Hk36.out); obtain ⟨⟨q0, q1, q2, q3, q4⟩, _, _, _, _, _, _⟩ := box5 (heap_aq sb Hk6.out)
          go_simp
          with_reducible rfl
        rotate_left
        · simp only [Act.put, sA, sB, sC]
          rfl
        refine pure_ (i := 21) (N := some 152) (v := ?_) (a' := ?_) #[true, true, true, true, true, true, true, true, true, true, true, true, true, true, true, true, true, true, true, true, true, true, false, false] rfl rfl (by kernel_rfl) (fun _ _ _ h => h) (Or.inl ⟨by rfl, ?_⟩) ?_ ?_
        rotate_left
        · intro w'
          go_simp
          with_reducible rfl
        rotate_left
        · simp only [Act.put, sA, sB, sC]
          rfl
        refine pure_ (i := 22) (N := some 153) (v := ?_) (a' := ?_) #[true, true, true, true, true, true, true, true, true, true, true, true, true, true, true, true, true, true, true, true, true, true, true, false] rfl rfl (by kernel_rfl) (fun _ _ _ h => h) (Or.inl ⟨by rfl, ?_⟩) ?_ ?_
        rotate_left
        · intro w'
          go_simp
          with_reducible rfl
        rotate_left
        · simp only [Act.put, sA, sB, sC]
          rfl
        refine last_ (i := 23) (N := none) #[true, true, true, true, true, true, true, true, true, true, true, true, true, true, true, true, true, true, true, true, true, true, true, true] rfl rfl (by kernel_rfl) (by decide) (fun K hK => ?_)
        refine skip_ (w1 := ?_) (by rfl) rfl ?_ ?_
        rotate_left
        · obtain ⟨⟨p0, p1, p2, p3, p4⟩, y0, y1, y2, y3, y4, _⟩ := box5 (heap_aq hHeld Hk36.out)
          go_simp
          rfl
        refine hK.out _ _ ?_
        clear hK K
        refine done_ (by kernel_rfl) ?_
        have hk38 := heap_aq hHeld Hk36.out
        have hqp := (Hq6.out.below hHeld).parts
        have hp7 : WR w8 (.agg #[.slice SC3 s2.sets.length TC3, .slice NC3 s2.next.length MC3, .slice F3 (mergeL p.first q.first).length f3, .slice F4 (mergeL p.last q.last).length f4, .bool q.none]) ⟨mergeL p.first q.first, mergeL p.last q.last, q.none⟩ s2 := ⟨_, _, _, _, _, _, _, _, rfl, hqp.1, hqp.2.1, IRT.below hF3 hb8, hF4⟩
        have hk8 := set5_box hk38 (.slice SC3 s2.sets.length TC3) (.slice NC3 s2.next.length MC3) (.slice F3 (mergeL p.first q.first).length f3) (.slice F4 (mergeL p.last q.last).length f4) (.bool q.none)
        have hp8 := hp7.side (set5_ks ⟨_, _, hk38⟩ (by decide) (by decide) (by decide) (by decide) (.slice SC3 s2.sets.length TC3) (.slice NC3 s2.next.length MC3) (.slice F3 (mergeL p.first q.first).length f3) (.slice F4 (mergeL p.last q.last).length f4) (.bool q.none))
        have hB8 := HK.out.trans ((set5_below ((HB6.out.trans (hHeld.mono HB6.out.size)).mono (Nat.le_of_lt hsz)) (Nat.le_refl _) (.slice SC3 s2.sets.length TC3) (.slice NC3 s2.next.length MC3) (.slice F3 (mergeL p.first q.first).length f3) (.slice F4 (mergeL p.last q.last).length f4) (.bool q.none)))
        have Hk8 := Lib.hid hk8; have Hp8 := Lib.hid hp8; have HB8 := Lib.hid hB8
        clear hk8 hp8 hB8 hk38 hp7 hb7 hb8 hqp hHeld hF3 hF4
        go_wp2_with fail
        have hj := Hj.out
        have hlt := Hlt.out
        have hpn := Hpn.out
        go_roundg (gk - 1)
        case measure => omega
        case rel => exact ⟨j + 1, by omega, by go_num, Lib.hid (by rw [Hsn.out, hpn]; exact ⟨_, _, _, _, _, Hk8.out, Hp8.out⟩), HB8⟩
      | true =>
        rw [hpn] at Hk36 Hp6
        have Hpn := Lib.hid hpn
        clear hpn
        refine start_ (n := 24) (S := fun w' => Below w6.heap.size w6 w') (ds := [23]) #[false, false, false, false, false, false, false, false, false, false, false, false, false, false, false, false, false, false, false, false, false, false, false, false] (by kernel_rfl) rfl rfl ((Below.refl _ _).drew) (fun hHeld => ?_)
        refine pure_ (i := 0) (N := some 131) (v := ?_) (a' := ?_) #[true, false, false, false, false, false, false, false, false, false, false, false, false, false, false, false, false, false, false, false, false, false, false, false] rfl rfl (by kernel_rfl) (fun _ _ _ h => h) (Or.inl ⟨by rfl, ?_⟩) ?_ ?_
        rotate_left
        · intro w'
          go_simp
          with_reducible rfl
        rotate_left
        · simp only [Act.put, sA, sB, sC]
          rfl
        refine pure_ (i := 2) (N := some 133) (v := ?_) (a' := ?_) #[true, false, true, false, false, false, false, false, false, false, false, false, false, false, false, false, false, false, false, false, false, false, false, false] rfl rfl (by kernel_rfl) (fun _ _ _ h => h) (Or.inl ⟨by rfl, ?_⟩) ?_ ?_
        rotate_left
        · intro w'
          go_simp
          with_reducible rfl
        rotate_left
        · simp only [Act.put, sA, sB, sC]
          rfl
        refine pure_ (i := 4) (N := some 135) (v := ?_) (a' := ?_) #[true, false, true, false, true, false, false, false, false, false, false, false, false, false, false, false, false, false, false, false, false, false, false, false] rfl rfl (by kernel_rfl) (fun _ _ _ h => h) (Or.inl ⟨by rfl, ?_⟩) ?_ ?_
        rotate_left
        · intro w'
          go_simp
          with_reducible rfl
        rotate_left
        · simp only [Act.put, sA, sB, sC]
          rfl
        refine pure_ (i := 6) (N := some 137) (v := ?_) (a' := ?_) #[true, false, true, false, true, false, true, false, false, false, false, false, false, false, false, false, false, false, false, false, false, false, false, false] rfl rfl (by kernel_rfl) (fun _ _ _ h => h) (Or.inl ⟨by rfl, ?_⟩) ?_ ?_
        rotate_left
        · intro w'
          go_simp
          with_reducible rfl
        rotate_left
        · simp only [Act.put, sA, sB, sC]
          rfl
        refine pure_ (i := 8) (N := some 139) (v := ?_) (a' := ?_) #[true, false, true, false, true, false, true, false, true, false, false, false, false, false, false, false, false, false, false, false, false, false, false, false] rfl rfl (by kernel_rfl) (fun _ _ _ h => h) (Or.inl ⟨by rfl, ?_⟩) ?_ ?_
        rotate_left
        · intro w'
          go_simp
          with_reducible rfl
        rotate_left
        · simp only [Act.put, sA, sB, sC]
          rfl
        refine pure_ (i := 10) (N := some 141) (v := ?_) (a' := ?_) #[true, false, true, false, true, false, true, false, true, false, true, false, false, false, false, false, false, false, false, false, false, false, false, false] rfl rfl (by kernel_rfl) (fun _ _ _ h => h) (Or.inl ⟨by rfl, ?_⟩) ?_ ?_
        rotate_left
        · intro w'
          go_simp
          with_reducible rfl
        rotate_left
        · simp only [Act.put, sA, sB, sC]
          rfl
        refine pure_ (i := 12) (N := some 143) (v := ?_) (a' := ?_) #[true, false, true, false, true, false, true, false, true, false, true, false, true, false, false, false, false, false, false, false, false, false, false, false] rfl rfl (by kernel_rfl) (fun _ _ _ h => h) (Or.inl ⟨by rfl, ?_⟩) ?_ ?_
        rotate_left
        · intro w'
          go_simp
          with_reducible rfl
        rotate_left
        · simp only [Act.put, sA, sB, sC]
          rfl
        refine pure_ (i := 14) (N := some 145) (v := ?_) (a' := ?_) #[true, false, true, false, true, false, true, false, true, false, true, false, true, false, true, false, false, false, false, false, false, false, false, false] rfl rfl (by kernel_rfl) (fun _ _ _ h => h) (Or.inl ⟨by rfl, ?_⟩) ?_ ?_
        rotate_left
        · intro w'
          go_simp
          with_reducible rfl
        rotate_left
        · simp only [Act.put, sA, sB, sC]
          rfl
        refine pure_ (i := 16) (N := some 147) (v := ?_) (a' := ?_) #[true, false, true, false, true, false, true, false, true, false, true, false, true, false, true, false, true, false, false, false, false, false, false, false] rfl rfl (by kernel_rfl) (fun _ _ _ h => h) (Or.inl ⟨by rfl, ?_⟩) ?_ ?_
        rotate_left
        · intro w'
          go_simp
          with_reducible rfl
        rotate_left
        · simp only [Act.put, sA, sB, sC]
          rfl
        refine take_ (i := 1) (N := some 132) (v := ?_) (a' := ?_) #[true, true, true, false, true, false, true, false, true, false, true, false, true, false, true, false, true, false, false, false, false, false, false, false] rfl rfl (by kernel_rfl) (fun _ _ _ h => h) (Or.inl ⟨by rfl, ?_⟩) hHeld ?_ ?_
        rotate_left
        · intro w' sb; obtain ⟨⟨p0, p1, p2, p3, p4⟩, _, _, _, _, _, _⟩ := box5 (heap_aq sb Hk36.out); obtain ⟨⟨q0, q1, q2, q3, q4⟩, _, _, _, _, _, _⟩ := box5 (heap_aq sb Hk6.out)
          go_simp
          with_reducible rfl
        rotate_left
        · simp only [Act.put, sA, sB, sC]
          rfl
        refine take_ (i := 3) (N := some 134) (v := ?_) (a' := ?_) #[true, true, true, true, true, false, true, false, true, false, true, false, true, false, true, false, true, false, false, false, false, false, false, false] rfl rfl (by kernel_rfl) (fun _ _ _ h => h) (Or.inl ⟨by rfl, ?_⟩) hHeld ?_ ?_
        rotate_left
        · intro w' sb; obtain ⟨⟨p0, p1, p2, p3, p4⟩, _, _, _, _, _, _⟩ := box5 (heap_aq sb Hk36.out); obtain ⟨⟨q0, q1, q2, q3, q4⟩, _, _, _, _, _, _⟩ := box5 (heap_aq sb Hk6.out)
          go_simp
          with_reducible rfl
        rotate_left
        · simp only [Act.put, sA, sB, sC]
          rfl
        refine take_ (i := 5) (N := some 136) (v := ?_) (a' := ?_) #[true, true, true, true, true, true, true, false, true, false, true, false, true, false, true, false, true, false, false, false, false, false, false, false] rfl rfl (by kernel_rfl) (fun _ _ _ h => h) (Or.inl ⟨by rfl, ?_⟩) hHeld ?_ ?_
        rotate_left
        · intro w' sb; obtain ⟨⟨p0, p1, p2, p3, p4⟩, _, _, _, _, _, _⟩ := box5 (heap_aq sb Hk36.out); obtain ⟨⟨q0, q1, q2, q3, q4⟩, _, _, _, _, _, _⟩ := box5 (heap_aq sb Hk6.out)
          go_simp
          with_reducible rfl
        rotate_left
        · simp only [Act.put, sA, sB, sC]
          rfl
        refine take_ (i := 7) (N := some 138) (v := ?_) (a' := ?_) #[true, true, true, true, true, true, true, true, true, false, true, false, true, false, true, false, true, false, false, false, false, false, false, false] rfl rfl (by kernel_rfl) (fun _ _ _ h => h) (Or.inl ⟨by rfl, ?_⟩) hHeld ?_ ?_
        rotate_left
        · intro w' sb; obtain ⟨⟨p0, p1, p2, p3, p4⟩, _, _, _, _, _, _⟩ := box5 (heap_aq sb Hk36.out); obtain ⟨⟨q0, q1, q2, q3, q4⟩, _, _, _, _, _, _⟩ := box5 (heap_aq sb Hk6.out)
          go_simp
          with_reducible rfl
        rotate_left
        · simp only [Act.put, sA, sB, sC]
          rfl
        refine take_ (i := 11) (N := some 142) (v := ?_) (a' := ?_) #[true, true, true, true, true, true, true, true, true, false, true, true, true, false, true, false, true, false, false, false, false, false, false, false] rfl rfl (by kernel_rfl) (fun _ _ _ h => h) (Or.inl ⟨by rfl, ?_⟩) hHeld ?_ ?_
        rotate_left
        · intro w' sb; obtain ⟨⟨p0, p1, p2, p3, p4⟩, _, _, _, _, _, _⟩ := box5 (heap_aq sb Hk36.out); obtain ⟨⟨q0, q1, q2, q3, q4⟩, _, _, _, _, _, _⟩ := box5 (heap_aq sb Hk6.out)
          go_simp
          with_reducible rfl
        rotate_left
        · simp only [Act.put, sA, sB, sC]
          rfl
        refine take_ (i := 13) (N := some 144) (v := ?_) (a' := ?_) #[true, true, true, true, true, true, true, true, true, false, true, true, true, true, true, false, true, false, false, false, false, false, false, false] rfl rfl (by kernel_rfl) (fun _ _ _ h => h) (Or.inl ⟨by rfl, ?_⟩) hHeld ?_ ?_
        rotate_left
        · intro w' sb; obtain ⟨⟨p0, p1, p2, p3, p4⟩, _, _, _, _, _, _⟩ := box5 (heap_aq sb Hk36.out); obtain ⟨⟨q0, q1, q2, q3, q4⟩, _, _, _, _, _, _⟩ := box5 (heap_aq sb Hk6.out)
          go_simp
          with_reducible rfl
        rotate_left
        · simp only [Act.put, sA, sB, sC]
          rfl
        refine take_ (i := 17) (N := some 148) (v := ?_) (a' := ?_) #[true, true, true, true, true, true, true, true, true, false, true, true, true, true, true, false, true, true, false, false, false, false, false, false] rfl rfl (by kernel_rfl) (fun _ _ _ h => h) (Or.inl ⟨by rfl, ?_⟩) hHeld ?_ ?_
        rotate_left
        · intro w' sb; obtain ⟨⟨p0, p1, p2, p3, p4⟩, _, _, _, _, _, _⟩ := box5 (heap_aq sb Hk36.out); obtain ⟨⟨q0, q1, q2, q3, q4⟩, _, _, _, _, _, _⟩ := box5 (heap_aq sb Hk6.out)
          go_simp
          with_reducible rfl
        rotate_left
        · simp only [Act.put, sA, sB, sC]
          rfl
        refine one_ (i := 9) (N := some 140) #[true, true, true, true, true, true, true, true, true, true, true, true, true, true, true, false, true, true, false, false, false, false, false, false] rfl rfl (by kernel_rfl) (by decide) (fun K hK => ?_)
        refine goes_ Tryd.func44 (by kernel_rfl) rfl #[.slice D1 p.first.length e1, .slice E1 q.first.length g1, .int .i64 s2.sets.length] (by rfl) rfl rfl (by (try simp only [List.map_toArray, List.map_cons, List.map_nil]); rfl) ?_
        have hjn := join_any (S := Ty w6.drew 3) (S' := Ty w6.drew 3) (.slice D1 p.first.length e1) (.slice E1 q.first.length g1) p.first q.first s2.sets.length w6.drew (IRT.below Hp6.out.parts.2.2.1 hHeld) (IRT.below Hq6.out.parts.2.2.1 hHeld) (by omega)
        rw [HJF.out] at hjn
        refine hjn.mono ?_
        rintro e w7 ⟨F3, f3, rfl, hF3, hb7⟩
        clear hjn
        refine ⟨_, rfl, ?_⟩
        refine hK.out _ _ (hHeld.trans (hb7.mono hHeld.size)) (fun hHeld => ?_)
        clear hK K
        refine norm_ (a' := ?_) ?_ ?_
        rotate_left
        · show Act.put _ (some 140) _ = _
          simp only [Act.put, sA, sB, sC]
          rfl
        refine one_ (i := 15) (N := some 146) #[true, true, true, true, true, true, true, true, true, true, true, true, true, true, true, true, true, true, false, false, false, false, false, false] rfl rfl (by kernel_rfl) (by decide) (fun K hK => ?_)
        refine goes_ Tryd.func44 (by kernel_rfl) rfl #[.slice D2 p.last.length e2, .slice E2 q.last.length g2, .int .i64 s2.sets.length] (by rfl) rfl rfl (by (try simp only [List.map_toArray, List.map_cons, List.map_nil]); rfl) ?_
        have hjn := join_any (S := Ty w7 3) (S' := Ty w7 3) (.slice D2 p.last.length e2) (.slice E2 q.last.length g2) p.last q.last s2.sets.length w7 (IRT.below Hp6.out.parts.2.2.2 hHeld) (IRT.below Hq6.out.parts.2.2.2 hHeld) (by omega)
        rw [HJL.out] at hjn
        refine hjn.mono ?_
        rintro e w8 ⟨F4, f4, rfl, hF4, hb8⟩
        clear hjn
        refine ⟨_, rfl, ?_⟩
        refine hK.out _ _ (hHeld.trans (hb8.mono hHeld.size)) (fun hHeld => ?_)
        clear hK K
        refine norm_ (a' := ?_) ?_ ?_
        rotate_left
        · show Act.put _ (some 146) _ = _
          simp only [Act.put, sA, sB, sC]
          rfl
        refine pure_ (i := 18) (N := some 149) (v := ?_) (a' := ?_) #[true, true, true, true, true, true, true, true, true, true, true, true, true, true, true, true, true, true, true, false, false, false, false, false] rfl rfl (by kernel_rfl) (fun _ _ _ h => h) (Or.inl ⟨by rfl, ?_⟩) ?_ ?_
        rotate_left
        · intro w'
          go_simp
          with_reducible rfl
        rotate_left
        · simp only [Act.put, sA, sB, sC]
          rfl
        refine pure_ (i := 19) (N := some 150) (v := ?_) (a' := ?_) #[true, true, true, true, true, true, true, true, true, true, true, true, true, true, true, true, true, true, true, true, false, false, false, false] rfl rfl (by kernel_rfl) (fun _ _ _ h => h) (Or.inr ⟨by rfl, ?_⟩) ?_ ?_
        rotate_left
        · rfl
        rotate_left
        · simp only [Act.put, sA, sB, sC]
          rfl
        refine pure_ (i := 20) (N := some 151) (v := ?_) (a' := ?_) #[true, true, true, true, true, true, true, true, true, true, true, true, true, true, true, true, true, true, true, true, true, false, false, false] rfl rfl (by kernel_rfl) (fun _ _ _ h => h) (Or.inr ⟨by rfl, ?_⟩) ?_ ?_
        rotate_left
        · rfl
        rotate_left
        · simp only [Act.put, sA, sB, sC]
          rfl
        refine pure_ (i := 21) (N := some 152) (v := ?_) (a' := ?_) #[true, true, true, true, true, true, true, true, true, true, true, true, true, true, true, true, true, true, true, true, true, true, false, false] rfl rfl (by kernel_rfl) (fun _ _ _ h => h) (Or.inl ⟨by rfl, ?_⟩) ?_ ?_
        rotate_left
        · intro w'
          go_simp
          with_reducible rfl
        rotate_left
        · simp only [Act.put, sA, sB, sC]
          rfl
        refine pure_ (i := 22) (N := some 153) (v := ?_) (a' := ?_) #[true, true, true, true, true, true, true, true, true, true, true, true, true, true, true, true, true, true, true, true, true, true, true, false] rfl rfl (by kernel_rfl) (fun _ _ _ h => h) (Or.inl ⟨by rfl, ?_⟩) ?_ ?_
        rotate_left
        · intro w'
          go_simp
          with_reducible rfl
        rotate_left
        · simp only [Act.put, sA, sB, sC]
          rfl
        refine last_ (i := 23) (N := none) #[true, true, true, true, true, true, true, true, true, true, true, true, true, true, true, true, true, true, true, true, true, true, true, true] rfl rfl (by kernel_rfl) (by decide) (fun K hK => ?_)
        refine skip_ (w1 := ?_) (by rfl) rfl ?_ ?_
        rotate_left
        · obtain ⟨⟨p0, p1, p2, p3, p4⟩, y0, y1, y2, y3, y4, _⟩ := box5 (heap_aq hHeld Hk36.out)
          go_simp
          rfl
        refine hK.out _ _ ?_
        clear hK K
        refine done_ (by kernel_rfl) ?_
        have hk38 := heap_aq hHeld Hk36.out
        have hqp := (Hq6.out.below hHeld).parts
        have hp7 : WR w8 (.agg #[.slice SC3 s2.sets.length TC3, .slice NC3 s2.next.length MC3, .slice F3 (mergeL p.first q.first).length f3, .slice F4 (mergeL p.last q.last).length f4, .bool true]) ⟨mergeL p.first q.first, mergeL p.last q.last, true⟩ s2 := ⟨_, _, _, _, _, _, _, _, rfl, hqp.1, hqp.2.1, IRT.below hF3 hb8, hF4⟩
        have hk8 := set5_box hk38 (.slice SC3 s2.sets.length TC3) (.slice NC3 s2.next.length MC3) (.slice F3 (mergeL p.first q.first).length f3) (.slice F4 (mergeL p.last q.last).length f4) (.bool true)
        have hp8 := hp7.side (set5_ks ⟨_, _, hk38⟩ (by decide) (by decide) (by decide) (by decide) (.slice SC3 s2.sets.length TC3) (.slice NC3 s2.next.length MC3) (.slice F3 (mergeL p.first q.first).length f3) (.slice F4 (mergeL p.last q.last).length f4) (.bool true))
        have hB8 := HK.out.trans ((set5_below ((HB6.out.trans (hHeld.mono HB6.out.size)).mono (Nat.le_of_lt hsz)) (Nat.le_refl _) (.slice SC3 s2.sets.length TC3) (.slice NC3 s2.next.length MC3) (.slice F3 (mergeL p.first q.first).length f3) (.slice F4 (mergeL p.last q.last).length f4) (.bool true)))
        have Hk8 := Lib.hid hk8; have Hp8 := Lib.hid hp8; have HB8 := Lib.hid hB8
        clear hk8 hp8 hB8 hk38 hp7 hb7 hb8 hqp hHeld hF3 hF4
        go_wp2_with fail
        have hj := Hj.out
        have hlt := Hlt.out
        have hpn := Hpn.out
        go_roundg (gk - 1)
        case measure => omega
        case rel => exact ⟨j + 1, by omega, by go_num, Lib.hid (by rw [Hsn.out, hpn]; exact ⟨_, _, _, _, _, Hk8.out, Hp8.out⟩), HB8⟩
    · obtain rfl : j = l.length := by omega
      have Hfull := Lib.hid (hfull rfl)
      obtain ⟨m0, m1, m2, m3, m4, m5, m6, m7, _⟩ := box8' hk0
      obtain ⟨⟨r0, r1, r2, r3, r4⟩, t0, t1, t2, t3, t4, rl⟩ := box5 hk2
      obtain ⟨⟨z0, z1, z2, z3, z4⟩, y0, y1, y2, y3, y4, kl⟩ := box5 hk3
      obtain ⟨f1, f2, f3⟩ := w_end (w := w) (HB3.out.trans (HK.out.mono (by omega))) hk2 (by omega) hps
      have E1 := Lib.hid f1; have E2 := Lib.hid f2; have E3 := Lib.hid f3
      clear f1 f2 f3 hk0 hk2 hk3 hps hfull hsn0 hadds
      go_wp2_with fail
      refine bodyPost_ret (ret_w rfl _ _ (w.heap.size + 1 + 1) _ _ _ _ _ (0, 0) rfl E1.out) rfl ?_
      rw [Hfull.out]
      exact ⟨_, rfl, E2.out, E3.out⟩
end Go.Proofs.YtmcoaopcmjociaaDoor
