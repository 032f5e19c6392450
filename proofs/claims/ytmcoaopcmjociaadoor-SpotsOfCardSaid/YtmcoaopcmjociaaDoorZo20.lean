/- The law SpotsOf, walked. -/
import Derived.Test.YtmcoaopcmjociaaDoorZo12
import Derived.Test.YtmcoaopcmjociaaDoorZo17
import Derived.Test.YtmcoaopcmjociaaDoorZo19
namespace Go.Proofs.YtmcoaopcmjociaaDoor
open Go Go.RowKit Go.Sort Go.Proofs.YtmcoaopcmjociaaDoorW.PrintLast

theorem of_small (T : Tree) : (ofF T).1.2.sets.length ≤ 512 ∧ (ofF T).1.2.next.length ≤ 512 := by
  unfold ofF
  cases hr : T.right with
  | false => simp [emptySt]
  | true =>
    by_cases hc : T.cnt > 512
    · rw [if_neg (by simp), if_pos hc]; simp [emptySt]
    · rw [if_neg (by simp), if_neg hc]
      obtain ⟨h1, _, h3⟩ := writeT_adds T hr emptySt good_empty
      have h4 := cnt_spots T hr
      have h5 : emptySt.sets.length = 0 := rfl
      simp only
      rw [h1.len]
      omega

theorem SpotsIn.shape {w : World} {v : Value} {p : Part} {s : St} (h : SpotsIn w v p s) : ∃ SA SC A1 c1 A2 c2 NA NC, v = .agg #[.slice SA s.sets.length SC, .bool p.none, .slice A1 p.first.length c1, .slice A2 p.last.length c2, .slice NA s.next.length NC] := by
  obtain ⟨Sv, fv, lv, Nv, vs, rfl, hs, hn, _, hf, hl⟩ := h
  obtain ⟨SA, SC, rfl⟩ := own_shape hs
  obtain ⟨NA, NC, rfl⟩ := own_shape hn
  obtain ⟨A1, c1, rfl, _⟩ := hf.form
  obtain ⟨A2, c2, rfl, _⟩ := hl.form
  exact ⟨SA, SC, A1, c1, A2, c2, NA, NC, rfl⟩

set_option maxRecDepth 100000 in
set_option maxHeartbeats 4000000 in
theorem spotsOf_walk (d : Nat) (T : Tree) (A : Option Addr) (c : Nat) (w : World) (hk : KidsIn w d T.kids A) :
    Calls Tryd.prog 3 #[T.val A c] w fun e w' => e = .returned (.bool true) ∧ Below w.heap.size w w' := by
  have hb1 := (Below.refl w.heap.size w).alloc (Nat.le_refl _) (Obj.cells #[.int .i64 T.kind, .int .u64 T.s0, .int .u64 T.s1, .int .u64 T.s2, .int .u64 T.s3, .slice A T.kids.length c, .int .i64 T.mn, .int .i64 T.mx] 27)
  have k0 := heap_a0 w (Obj.cells #[.int .i64 T.kind, .int .u64 T.s0, .int .u64 T.s1, .int .u64 T.s2, .int .u64 T.s3, .slice A T.kids.length c, .int .i64 T.mn, .int .i64 T.mx] 27)
  have HG := Lib.hid (great_any d T A c _ (hk.below hb1))
  have HK := Lib.hid hk; have HB1 := Lib.hid hb1; have K0 := Lib.hid k0
  clear hk hb1 k0
  obtain ⟨cn, hcn⟩ : ∃ cn, cn = T.count := ⟨_, rfl⟩
  have HCN := Lib.hid hcn
  clear hcn
  go_enter Tryd.func3, Tryd.ntmps3
  go_wp2_with fail
  refine HG.out.mono ?_
  rintro e w1 ⟨⟨b, rfl⟩, hB1⟩
  have HBW1 := Lib.hid (HB1.out.trans (hB1.mono HB1.out.size)); have K1 := Lib.hid (heap_aq hB1 K0.out)
  obtain ⟨m0, m1, m2, m3, m4, m5, m6, m7, _⟩ := box8' K1.out
  clear hB1
  cases b with
  | true =>
    go_wp2_with fail
    obtain ⟨W, rfl⟩ : ∃ W, W = w1 := ⟨_, rfl⟩
    have HBW := HBW1; have HBOX := K1
    refine start_ (n := 9) (S := fun w' => Below W.heap.size W w') (ds := []) #[false, false, false, false, false, false, false, false, false] (by kernel_rfl) rfl rfl ((Below.refl _ _).drew) (fun hHeld => ?_)
    refine take_ (i := 0) (N := some 19) (v := ?_) (a' := ?_) #[true, false, false, false, false, false, false, false, false] rfl rfl (by kernel_rfl) (fun _ _ _ h => h) (Or.inl ⟨by rfl, ?_⟩) hHeld ?_ ?_
    rotate_left
    · intro w' sb; obtain ⟨m0, m1, m2, m3, m4, m5, m6, m7, _⟩ := box8' (heap_aq' sb HBOX.out)
      go_simp
      with_reducible rfl
    rotate_left
    · simp only [Act.put, sA, sB, sC]
      rfl
    refine take_ (i := 2) (N := some 21) (v := ?_) (a' := ?_) #[true, false, true, false, false, false, false, false, false] rfl rfl (by kernel_rfl) (fun _ _ _ h => h) (Or.inl ⟨by rfl, ?_⟩) hHeld ?_ ?_
    rotate_left
    · intro w' sb; obtain ⟨m0, m1, m2, m3, m4, m5, m6, m7, _⟩ := box8' (heap_aq' sb HBOX.out)
      go_simp
      with_reducible rfl
    rotate_left
    · simp only [Act.put, sA, sB, sC]
      rfl
    refine one_ (i := 1) (N := some 20) #[true, true, true, false, false, false, false, false, false] rfl rfl (by kernel_rfl) (by decide) (fun K hK => ?_)
    refine goes_ Tryd.func6 (by kernel_rfl) rfl #[(.agg #[.int .i64 T.kind, .int .u64 T.s0, .int .u64 T.s1, .int .u64 T.s2, .int .u64 T.s3, .slice A T.kids.length c, .int .i64 T.mn, .int .i64 T.mx])] (by rfl) rfl rfl (by first | rfl | (simp only [List.map_toArray, List.map_cons, List.map_nil]; rfl)) ?_
    refine (countOf_any d T A c _ ((HK.out.below HBW.out).below hHeld)).mono ?_
    rintro e w1 ⟨rfl, hb1⟩
    refine ⟨_, rfl, ?_⟩
    refine hK.out _ _ (hHeld.trans (hb1.mono hHeld.size)) (fun hHeld => ?_)
    clear hK K
    refine norm_ (a' := ?_) ?_ ?_
    rotate_left
    · show Act.put _ (some 20) _ = _
      simp only [Act.put, sA, sB, sC]
      rfl
    refine one_ (i := 3) (N := some 22) #[true, true, true, true, false, false, false, false, false] rfl rfl (by kernel_rfl) (by decide) (fun K hK => ?_)
    refine goes_ Tryd.func7 (by kernel_rfl) rfl #[(.agg #[.int .i64 T.kind, .int .u64 T.s0, .int .u64 T.s1, .int .u64 T.s2, .int .u64 T.s3, .slice A T.kids.length c, .int .i64 T.mn, .int .i64 T.mx])] (by rfl) rfl rfl (by first | rfl | (simp only [List.map_toArray, List.map_cons, List.map_nil]; rfl)) ?_
    refine (rCount_any d T A c _ ((HK.out.below HBW.out).below hHeld)).mono ?_
    rintro e w1 ⟨rfl, hb1⟩
    refine ⟨_, rfl, ?_⟩
    refine hK.out _ _ (hHeld.trans (hb1.mono hHeld.size)) (fun hHeld => ?_)
    clear hK K
    refine norm_ (a' := ?_) ?_ ?_
    rotate_left
    · show Act.put _ (some 22) _ = _
      simp only [Act.put, sA, sB, sC]
      rfl
    refine pure_ (i := 4) (N := some 23) (v := ?_) (a' := ?_) #[true, true, true, true, true, false, false, false, false] rfl rfl (by kernel_rfl) (fun _ _ _ h => h) (Or.inl ⟨by rfl, ?_⟩) ?_ ?_
    rotate_left
    · intro w'
      go_simp
      with_reducible rfl
    rotate_left
    · simp only [Act.put, sA, sB, sC]
      rfl
    refine pure_ (i := 5) (N := some 24) (v := ?_) (a' := ?_) #[true, true, true, true, true, true, false, false, false] rfl rfl (by kernel_rfl) (fun _ _ _ h => h) (Or.inl ⟨by rfl, ?_⟩) ?_ ?_
    rotate_left
    · intro w'
      go_simp
      with_reducible rfl
    rotate_left
    · simp only [Act.put, sA, sB, sC]
      rfl
    refine one_ (i := 6) (N := some 25) #[true, true, true, true, true, true, true, false, false] rfl rfl (by kernel_rfl) (by decide) (fun K hK => ?_)
    refine goes_ Tryd.func8 (by kernel_rfl) rfl #[] (by rfl) rfl rfl (by simp) ?_
    refine (works_any _).mono ?_
    rintro e w1 ⟨rfl, hb1⟩
    refine ⟨_, rfl, ?_⟩
    refine hK.out _ _ (hHeld.trans (hb1.mono hHeld.size)) (fun hHeld => ?_)
    clear hK K
    refine norm_ (a' := ?_) ?_ ?_
    rotate_left
    · show Act.put _ (some 25) _ = _
      simp only [Act.put, sA, sB, sC]
      rfl
    refine pure_ (i := 7) (N := some 26) (v := ?_) (a' := ?_) #[true, true, true, true, true, true, true, true, false] rfl rfl (by kernel_rfl) (fun _ _ _ h => h) (Or.inl ⟨by rfl, ?_⟩) ?_ ?_
    rotate_left
    · intro w'
      go_simp
      with_reducible rfl
    rotate_left
    · simp only [Act.put, sA, sB, sC]
      rfl
    refine pure_ (i := 8) (N := some 2) (v := ?_) (a' := ?_) #[true, true, true, true, true, true, true, true, true] rfl rfl (by kernel_rfl) (fun _ _ _ h => h) (Or.inl ⟨by rfl, ?_⟩) ?_ ?_
    rotate_left
    · intro w'
      go_simp
      with_reducible rfl
    rotate_left
    · simp only [Act.put, sA, sB, sC]
      rfl
    refine done_ (by kernel_rfl) ?_
    have HBE := Lib.hid (HBW.out.trans (hHeld.mono HBW.out.size))
    clear hHeld
    go_wp2_with fail
    go_ret
    exact ⟨rfl, HBE.out⟩
  | false =>
    have hc := countOf_any d T A c w1 (HK.out.below HBW1.out)
    rw [← HCN.out] at hc
    have HC := Lib.hid hc
    clear hc
    go_wp2_with fail
    refine HC.out.mono ?_
    rintro e w2 ⟨rfl, hB2⟩
    have HBW2 := Lib.hid (HBW1.out.trans (hB2.mono HBW1.out.size)); have K2 := Lib.hid (heap_aq hB2 K1.out)
    obtain ⟨m0, m1, m2, m3, m4, m5, m6, m7, _⟩ := box8' K2.out
    clear hB2
    by_cases h40 : cn > 40
    · have hc := countOf_any d T A c w2 (HK.out.below HBW2.out)
      rw [← HCN.out] at hc
      have HC := Lib.hid hc
      clear hc
      go_wp2_with fail
      refine HC.out.mono ?_
      rintro e w3 ⟨rfl, hB3⟩
      have HBW3 := Lib.hid (HBW2.out.trans (hB3.mono HBW2.out.size)); have K3 := Lib.hid (heap_aq hB3 K2.out)
      obtain ⟨m0, m1, m2, m3, m4, m5, m6, m7, _⟩ := box8' K3.out
      clear hB3
      by_cases h513 : cn < 513
      · go_wp2_with fail
        obtain ⟨W, rfl⟩ : ∃ W, W = w3 := ⟨_, rfl⟩
        have HBW := HBW3; have HBOX := K3
        refine start_ (n := 9) (S := fun w' => Below W.heap.size W w') (ds := []) #[false, false, false, false, false, false, false, false, false] (by kernel_rfl) rfl rfl ((Below.refl _ _).drew) (fun hHeld => ?_)
        refine take_ (i := 0) (N := some 19) (v := ?_) (a' := ?_) #[true, false, false, false, false, false, false, false, false] rfl rfl (by kernel_rfl) (fun _ _ _ h => h) (Or.inl ⟨by rfl, ?_⟩) hHeld ?_ ?_
        rotate_left
        · intro w' sb; obtain ⟨m0, m1, m2, m3, m4, m5, m6, m7, _⟩ := box8' (heap_aq' sb HBOX.out)
          go_simp
          with_reducible rfl
        rotate_left
        · simp only [Act.put, sA, sB, sC]
          rfl
        refine take_ (i := 2) (N := some 21) (v := ?_) (a' := ?_) #[true, false, true, false, false, false, false, false, false] rfl rfl (by kernel_rfl) (fun _ _ _ h => h) (Or.inl ⟨by rfl, ?_⟩) hHeld ?_ ?_
        rotate_left
        · intro w' sb; obtain ⟨m0, m1, m2, m3, m4, m5, m6, m7, _⟩ := box8' (heap_aq' sb HBOX.out)
          go_simp
          with_reducible rfl
        rotate_left
        · simp only [Act.put, sA, sB, sC]
          rfl
        refine one_ (i := 1) (N := some 20) #[true, true, true, false, false, false, false, false, false] rfl rfl (by kernel_rfl) (by decide) (fun K hK => ?_)
        refine goes_ Tryd.func6 (by kernel_rfl) rfl #[(.agg #[.int .i64 T.kind, .int .u64 T.s0, .int .u64 T.s1, .int .u64 T.s2, .int .u64 T.s3, .slice A T.kids.length c, .int .i64 T.mn, .int .i64 T.mx])] (by rfl) rfl rfl (by first | rfl | (simp only [List.map_toArray, List.map_cons, List.map_nil]; rfl)) ?_
        refine (countOf_any d T A c _ ((HK.out.below HBW.out).below hHeld)).mono ?_
        rintro e w1 ⟨rfl, hb1⟩
        refine ⟨_, rfl, ?_⟩
        refine hK.out _ _ (hHeld.trans (hb1.mono hHeld.size)) (fun hHeld => ?_)
        clear hK K
        refine norm_ (a' := ?_) ?_ ?_
        rotate_left
        · show Act.put _ (some 20) _ = _
          simp only [Act.put, sA, sB, sC]
          rfl
        refine one_ (i := 3) (N := some 22) #[true, true, true, true, false, false, false, false, false] rfl rfl (by kernel_rfl) (by decide) (fun K hK => ?_)
        refine goes_ Tryd.func7 (by kernel_rfl) rfl #[(.agg #[.int .i64 T.kind, .int .u64 T.s0, .int .u64 T.s1, .int .u64 T.s2, .int .u64 T.s3, .slice A T.kids.length c, .int .i64 T.mn, .int .i64 T.mx])] (by rfl) rfl rfl (by first | rfl | (simp only [List.map_toArray, List.map_cons, List.map_nil]; rfl)) ?_
        refine (rCount_any d T A c _ ((HK.out.below HBW.out).below hHeld)).mono ?_
        rintro e w1 ⟨rfl, hb1⟩
        refine ⟨_, rfl, ?_⟩
        refine hK.out _ _ (hHeld.trans (hb1.mono hHeld.size)) (fun hHeld => ?_)
        clear hK K
        refine norm_ (a' := ?_) ?_ ?_
        rotate_left
        · show Act.put _ (some 22) _ = _
          simp only [Act.put, sA, sB, sC]
          rfl
        refine pure_ (i := 4) (N := some 23) (v := ?_) (a' := ?_) #[true, true, true, true, true, false, false, false, false] rfl rfl (by kernel_rfl) (fun _ _ _ h => h) (Or.inl ⟨by rfl, ?_⟩) ?_ ?_
        rotate_left
        · intro w'
          go_simp
          with_reducible rfl
        rotate_left
        · simp only [Act.put, sA, sB, sC]
          rfl
        refine pure_ (i := 5) (N := some 24) (v := ?_) (a' := ?_) #[true, true, true, true, true, true, false, false, false] rfl rfl (by kernel_rfl) (fun _ _ _ h => h) (Or.inl ⟨by rfl, ?_⟩) ?_ ?_
        rotate_left
        · intro w'
          go_simp
          with_reducible rfl
        rotate_left
        · simp only [Act.put, sA, sB, sC]
          rfl
        refine one_ (i := 6) (N := some 25) #[true, true, true, true, true, true, true, false, false] rfl rfl (by kernel_rfl) (by decide) (fun K hK => ?_)
        refine goes_ Tryd.func8 (by kernel_rfl) rfl #[] (by rfl) rfl rfl (by simp) ?_
        refine (works_any _).mono ?_
        rintro e w1 ⟨rfl, hb1⟩
        refine ⟨_, rfl, ?_⟩
        refine hK.out _ _ (hHeld.trans (hb1.mono hHeld.size)) (fun hHeld => ?_)
        clear hK K
        refine norm_ (a' := ?_) ?_ ?_
        rotate_left
        · show Act.put _ (some 25) _ = _
          simp only [Act.put, sA, sB, sC]
          rfl
        refine pure_ (i := 7) (N := some 26) (v := ?_) (a' := ?_) #[true, true, true, true, true, true, true, true, false] rfl rfl (by kernel_rfl) (fun _ _ _ h => h) (Or.inl ⟨by rfl, ?_⟩) ?_ ?_
        rotate_left
        · intro w'
          go_simp
          with_reducible rfl
        rotate_left
        · simp only [Act.put, sA, sB, sC]
          rfl
        refine pure_ (i := 8) (N := some 2) (v := ?_) (a' := ?_) #[true, true, true, true, true, true, true, true, true] rfl rfl (by kernel_rfl) (fun _ _ _ h => h) (Or.inl ⟨by rfl, ?_⟩) ?_ ?_
        rotate_left
        · intro w'
          go_simp
          with_reducible rfl
        rotate_left
        · simp only [Act.put, sA, sB, sC]
          rfl
        refine done_ (by kernel_rfl) ?_
        have HBE := Lib.hid (HBW.out.trans (hHeld.mono HBW.out.size))
        clear hHeld
        go_wp2_with fail
        go_ret
        exact ⟨rfl, HBE.out⟩
      · skip
        obtain ⟨⟨⟨pp, ps⟩, er⟩, hof⟩ : ∃ q, q = ofF T := ⟨_, rfl⟩
        have hsm := of_small T
        rw [← hof] at hsm
        simp only at hsm
        obtain ⟨hsm1, hsm2⟩ := hsm
        have ho1 := of_any d T A c w3 (HK.out.below HBW3.out)
        rw [← hof] at ho1
        simp only at ho1
        have HOF := Lib.hid hof
        have HO1 := Lib.hid ho1
        clear hof ho1
        go_wp2_with fail
        refine HO1.out.mono ?_
        rintro e u1 ⟨v1, rfl, hs1, hBu1⟩
        obtain ⟨SA, SC, A1, c1, A2, c2, NA, NC, rfl⟩ := hs1.shape
        have hbp := (Below.refl u1.heap.size u1).alloc (Nat.le_refl _) (Obj.cells #[.slice SA ps.sets.length SC, .bool pp.none, .slice A1 pp.first.length c1, .slice A2 pp.last.length c2, .slice NA ps.next.length NC] 35)
        have HBU1 := Lib.hid (HBW3.out.trans ((hBu1.trans (hbp.mono hBu1.size)).mono HBW3.out.size))
        have HS1 := Lib.hid (hs1.below hbp)
        have HKU := Lib.hid (heap_aq hbp (heap_aq hBu1 K3.out))
        have HPA := Lib.hid (heap_a0 u1 (Obj.cells #[.slice SA ps.sets.length SC, .bool pp.none, .slice A1 pp.first.length c1, .slice A2 pp.last.length c2, .slice NA ps.next.length NC] 35))
        obtain ⟨m0, m1, m2, m3, m4, m5, m6, m7, _⟩ := box8' HKU.out
        have ho2 := rof_any rwrite_one d T A c _ (HK.out.below HBU1.out)
        rw [← HOF.out] at ho2
        simp only at ho2
        have HO2 := Lib.hid ho2
        obtain ⟨m0', m1', m2', m3', m4', m5', m6', m7', hlu⟩ := box8' (heap_aq hBu1 K3.out)
        clear hs1 hbp hBu1 ho2
        go_wp2_with fail
        refine HO2.out.mono ?_
        rintro e u2 ⟨v2, rfl, hs2, hBu2⟩
        obtain ⟨TA, TC, B1, d1, B2, d2, MA, MC, rfl⟩ := hs2.shape
        have hbq := (Below.refl u2.heap.size u2).alloc (Nat.le_refl _) (Obj.cells #[.slice TA ps.sets.length TC, .bool pp.none, .slice B1 pp.first.length d1, .slice B2 pp.last.length d2, .slice MA ps.next.length MC] 35)
        have HBW := Lib.hid (HBU1.out.trans ((hBu2.trans (hbq.mono hBu2.size)).mono HBU1.out.size))
        have HA := Lib.hid ((HS1.out.below hBu2).below hbq)
        have HB := Lib.hid (hs2.below hbq)
        have HBOX := Lib.hid (heap_aq hbq (heap_aq hBu2 HKU.out))
        have HPA := Lib.hid (heap_aq hbq (heap_aq hBu2 HPA.out))
        have HPB := Lib.hid (heap_a0 u2 (Obj.cells #[.slice TA ps.sets.length TC, .bool pp.none, .slice B1 pp.first.length d1, .slice B2 pp.last.length d2, .slice MA ps.next.length MC] 35))
        obtain ⟨W, hW⟩ : ∃ W, W = u2.alloc (Obj.cells #[.slice TA ps.sets.length TC, .bool pp.none, .slice B1 pp.first.length d1, .slice B2 pp.last.length d2, .slice MA ps.next.length MC] 35) := ⟨_, rfl⟩
        have hW' := Lib.hid hW
        rw [← hW] at HBW HA HB HBOX HPA HPB
        clear hs2 hbq hBu2 HS1 HKU HBU1 HO1 HO2 m0 m1 m2 m3 m4 m5 m6 m7 m0' m1' m2' m3' m4' m5' m6' m7' hW
        go_wp2_with fail
        rw [← hW'.out]
        refine start_ (n := 19) (S := fun w' => Below W.heap.size W w') (ds := []) #[false, false, false, false, false, false, false, false, false, false, false, false, false, false, false, false, false, false, false] (by kernel_rfl) rfl rfl ((Below.refl _ _).drew) (fun hHeld => ?_)
        refine take_ (i := 0) (N := some 37) (v := ?_) (a' := ?_) #[true, false, false, false, false, false, false, false, false, false, false, false, false, false, false, false, false, false, false] rfl rfl (by kernel_rfl) (fun _ _ _ h => h) (Or.inl ⟨by rfl, ?_⟩) hHeld ?_ ?_
        rotate_left
        · intro w' sb; obtain ⟨m0, m1, m2, m3, m4, m5, m6, m7, _⟩ := box8' (heap_aq' sb HBOX.out); obtain ⟨x0, x1, x2, x3, x4⟩ := box5m (heap_aq' sb HPA.out); obtain ⟨y0, y1, y2, y3, y4⟩ := box5m (heap_aq' sb HPB.out)
          go_simp
          with_reducible rfl
        rotate_left
        · simp only [Act.put, sA, sB, sC]
          rfl
        refine take_ (i := 2) (N := some 39) (v := ?_) (a' := ?_) #[true, false, true, false, false, false, false, false, false, false, false, false, false, false, false, false, false, false, false] rfl rfl (by kernel_rfl) (fun _ _ _ h => h) (Or.inl ⟨by rfl, ?_⟩) hHeld ?_ ?_
        rotate_left
        · intro w' sb; obtain ⟨m0, m1, m2, m3, m4, m5, m6, m7, _⟩ := box8' (heap_aq' sb HBOX.out); obtain ⟨x0, x1, x2, x3, x4⟩ := box5m (heap_aq' sb HPA.out); obtain ⟨y0, y1, y2, y3, y4⟩ := box5m (heap_aq' sb HPB.out)
          go_simp
          with_reducible rfl
        rotate_left
        · simp only [Act.put, sA, sB, sC]
          rfl
        refine one_ (i := 1) (N := some 38) #[true, true, true, false, false, false, false, false, false, false, false, false, false, false, false, false, false, false, false] rfl rfl (by kernel_rfl) (by decide) (fun K hK => ?_)
        refine goes_ Tryd.func6 (by kernel_rfl) rfl #[(.agg #[.int .i64 T.kind, .int .u64 T.s0, .int .u64 T.s1, .int .u64 T.s2, .int .u64 T.s3, .slice A T.kids.length c, .int .i64 T.mn, .int .i64 T.mx])] (by rfl) rfl rfl (by first | rfl | (simp only [List.map_toArray, List.map_cons, List.map_nil]; rfl)) ?_
        refine (countOf_any d T A c _ ((HK.out.below HBW.out).below hHeld)).mono ?_
        rintro e w1 ⟨rfl, hb1⟩
        refine ⟨_, rfl, ?_⟩
        refine hK.out _ _ (hHeld.trans (hb1.mono hHeld.size)) (fun hHeld => ?_)
        clear hK K
        refine norm_ (a' := ?_) ?_ ?_
        rotate_left
        · show Act.put _ (some 38) _ = _
          simp only [Act.put, sA, sB, sC]
          rfl
        refine one_ (i := 3) (N := some 40) #[true, true, true, true, false, false, false, false, false, false, false, false, false, false, false, false, false, false, false] rfl rfl (by kernel_rfl) (by decide) (fun K hK => ?_)
        refine goes_ Tryd.func7 (by kernel_rfl) rfl #[(.agg #[.int .i64 T.kind, .int .u64 T.s0, .int .u64 T.s1, .int .u64 T.s2, .int .u64 T.s3, .slice A T.kids.length c, .int .i64 T.mn, .int .i64 T.mx])] (by rfl) rfl rfl (by first | rfl | (simp only [List.map_toArray, List.map_cons, List.map_nil]; rfl)) ?_
        refine (rCount_any d T A c _ ((HK.out.below HBW.out).below hHeld)).mono ?_
        rintro e w1 ⟨rfl, hb1⟩
        refine ⟨_, rfl, ?_⟩
        refine hK.out _ _ (hHeld.trans (hb1.mono hHeld.size)) (fun hHeld => ?_)
        clear hK K
        refine norm_ (a' := ?_) ?_ ?_
        rotate_left
        · show Act.put _ (some 40) _ = _
          simp only [Act.put, sA, sB, sC]
          rfl
        refine pure_ (i := 4) (N := some 41) (v := ?_) (a' := ?_) #[true, true, true, true, true, false, false, false, false, false, false, false, false, false, false, false, false, false, false] rfl rfl (by kernel_rfl) (fun _ _ _ h => h) (Or.inl ⟨by rfl, ?_⟩) ?_ ?_
        rotate_left
        · intro w'
          go_simp
          with_reducible rfl
        rotate_left
        · simp only [Act.put, sA, sB, sC]
          rfl
        refine pure_ (i := 5) (N := some 42) (v := ?_) (a' := ?_) #[true, true, true, true, true, true, false, false, false, false, false, false, false, false, false, false, false, false, false] rfl rfl (by kernel_rfl) (fun _ _ _ h => h) (Or.inl ⟨by rfl, ?_⟩) ?_ ?_
        rotate_left
        · intro w'
          go_simp
          with_reducible rfl
        rotate_left
        · simp only [Act.put, sA, sB, sC]
          rfl
        refine take_ (i := 6) (N := some 43) (v := ?_) (a' := ?_) #[true, true, true, true, true, true, true, false, false, false, false, false, false, false, false, false, false, false, false] rfl rfl (by kernel_rfl) (fun _ _ _ h => h) (Or.inl ⟨by rfl, ?_⟩) hHeld ?_ ?_
        rotate_left
        · intro w' sb; obtain ⟨m0, m1, m2, m3, m4, m5, m6, m7, _⟩ := box8' (heap_aq' sb HBOX.out); obtain ⟨x0, x1, x2, x3, x4⟩ := box5m (heap_aq' sb HPA.out); obtain ⟨y0, y1, y2, y3, y4⟩ := box5m (heap_aq' sb HPB.out)
          go_simp
          with_reducible rfl
        rotate_left
        · simp only [Act.put, sA, sB, sC]
          rfl
        refine take_ (i := 7) (N := some 44) (v := ?_) (a' := ?_) #[true, true, true, true, true, true, true, true, false, false, false, false, false, false, false, false, false, false, false] rfl rfl (by kernel_rfl) (fun _ _ _ h => h) (Or.inl ⟨by rfl, ?_⟩) hHeld ?_ ?_
        rotate_left
        · intro w' sb; obtain ⟨m0, m1, m2, m3, m4, m5, m6, m7, _⟩ := box8' (heap_aq' sb HBOX.out); obtain ⟨x0, x1, x2, x3, x4⟩ := box5m (heap_aq' sb HPA.out); obtain ⟨y0, y1, y2, y3, y4⟩ := box5m (heap_aq' sb HPB.out)
          go_simp
          with_reducible rfl
        rotate_left
        · simp only [Act.put, sA, sB, sC]
          rfl
        refine one_ (i := 8) (N := some 45) #[true, true, true, true, true, true, true, true, true, false, false, false, false, false, false, false, false, false, false] rfl rfl (by kernel_rfl) (by decide) (fun K hK => ?_)
        refine goes_ Tryd.func11 (by kernel_rfl) rfl #[(.agg #[.slice SA ps.sets.length SC, .bool pp.none, .slice A1 pp.first.length c1, .slice A2 pp.last.length c2, .slice NA ps.next.length NC]), (.agg #[.slice TA ps.sets.length TC, .bool pp.none, .slice B1 pp.first.length d1, .slice B2 pp.last.length d2, .slice MA ps.next.length MC])] (by rfl) rfl rfl (by first | rfl | (simp only [List.map_toArray, List.map_cons, List.map_nil]; rfl)) ?_
        refine (same_spots _ _ pp ps _ (HA.out.below hHeld) (HB.out.below hHeld) (by omega) (by omega)).mono ?_
        rintro e w1 ⟨rfl, hb1⟩
        refine ⟨_, rfl, ?_⟩
        refine hK.out _ _ (hHeld.trans (hb1.mono hHeld.size)) (fun hHeld => ?_)
        clear hK K
        refine norm_ (a' := ?_) ?_ ?_
        rotate_left
        · show Act.put _ (some 45) _ = _
          simp only [Act.put, sA, sB, sC]
          rfl
        refine pure_ (i := 9) (N := some 46) (v := ?_) (a' := ?_) #[true, true, true, true, true, true, true, true, true, true, false, false, false, false, false, false, false, false, false] rfl rfl (by kernel_rfl) (fun _ _ _ h => h) (Or.inl ⟨by rfl, ?_⟩) ?_ ?_
        rotate_left
        · intro w'
          go_simp
          with_reducible rfl
        rotate_left
        · simp only [Act.put, sA, sB, sC]
          rfl
        refine pure_ (i := 10) (N := some 47) (v := ?_) (a' := ?_) #[true, true, true, true, true, true, true, true, true, true, true, false, false, false, false, false, false, false, false] rfl rfl (by kernel_rfl) (fun _ _ _ h => h) (Or.inl ⟨by rfl, ?_⟩) ?_ ?_
        rotate_left
        · intro w'
          go_simp
          with_reducible rfl
        rotate_left
        · simp only [Act.put, sA, sB, sC]
          rfl
        refine pure_ (i := 11) (N := some 48) (v := ?_) (a' := ?_) #[true, true, true, true, true, true, true, true, true, true, true, true, false, false, false, false, false, false, false] rfl rfl (by kernel_rfl) (fun _ _ _ h => h) (Or.inl ⟨by rfl, ?_⟩) ?_ ?_
        rotate_left
        · intro w'
          go_simp
          with_reducible rfl
        rotate_left
        · simp only [Act.put, sA, sB, sC]
          rfl
        refine pure_ (i := 12) (N := some 49) (v := ?_) (a' := ?_) #[true, true, true, true, true, true, true, true, true, true, true, true, true, false, false, false, false, false, false] rfl rfl (by kernel_rfl) (fun _ _ _ h => h) (Or.inl ⟨by rfl, ?_⟩) ?_ ?_
        rotate_left
        · intro w'
          go_simp
          with_reducible rfl
        rotate_left
        · simp only [Act.put, sA, sB, sC]
          rfl
        refine pure_ (i := 13) (N := some 50) (v := ?_) (a' := ?_) #[true, true, true, true, true, true, true, true, true, true, true, true, true, true, false, false, false, false, false] rfl rfl (by kernel_rfl) (fun _ _ _ h => h) (Or.inl ⟨by rfl, ?_⟩) ?_ ?_
        rotate_left
        · intro w'
          go_simp
          with_reducible rfl
        rotate_left
        · simp only [Act.put, sA, sB, sC]
          rfl
        refine pure_ (i := 14) (N := some 51) (v := ?_) (a' := ?_) #[true, true, true, true, true, true, true, true, true, true, true, true, true, true, true, false, false, false, false] rfl rfl (by kernel_rfl) (fun _ _ _ h => h) (Or.inl ⟨by rfl, ?_⟩) ?_ ?_
        rotate_left
        · intro w'
          go_simp
          with_reducible rfl
        rotate_left
        · simp only [Act.put, sA, sB, sC]
          rfl
        refine pure_ (i := 15) (N := some 52) (v := ?_) (a' := ?_) #[true, true, true, true, true, true, true, true, true, true, true, true, true, true, true, true, false, false, false] rfl rfl (by kernel_rfl) (fun _ _ _ h => h) (Or.inl ⟨by rfl, ?_⟩) ?_ ?_
        rotate_left
        · intro w'
          go_simp
          with_reducible rfl
        rotate_left
        · simp only [Act.put, sA, sB, sC]
          rfl
        refine one_ (i := 16) (N := some 53) #[true, true, true, true, true, true, true, true, true, true, true, true, true, true, true, true, true, false, false] rfl rfl (by kernel_rfl) (by decide) (fun K hK => ?_)
        refine goes_ Tryd.func8 (by kernel_rfl) rfl #[] (by rfl) rfl rfl (by simp) ?_
        refine (works_any _).mono ?_
        rintro e w1 ⟨rfl, hb1⟩
        refine ⟨_, rfl, ?_⟩
        refine hK.out _ _ (hHeld.trans (hb1.mono hHeld.size)) (fun hHeld => ?_)
        clear hK K
        refine norm_ (a' := ?_) ?_ ?_
        rotate_left
        · show Act.put _ (some 53) _ = _
          simp only [Act.put, sA, sB, sC]
          rfl
        refine pure_ (i := 17) (N := some 54) (v := ?_) (a' := ?_) #[true, true, true, true, true, true, true, true, true, true, true, true, true, true, true, true, true, true, false] rfl rfl (by kernel_rfl) (fun _ _ _ h => h) (Or.inl ⟨by rfl, ?_⟩) ?_ ?_
        rotate_left
        · intro w'
          go_simp
          with_reducible rfl
        rotate_left
        · simp only [Act.put, sA, sB, sC]
          rfl
        refine pure_ (i := 18) (N := some 2) (v := ?_) (a' := ?_) #[true, true, true, true, true, true, true, true, true, true, true, true, true, true, true, true, true, true, true] rfl rfl (by kernel_rfl) (fun _ _ _ h => h) (Or.inl ⟨by rfl, ?_⟩) ?_ ?_
        rotate_left
        · intro w'
          go_simp
          with_reducible rfl
        rotate_left
        · simp only [Act.put, sA, sB, sC]
          rfl
        refine done_ (by kernel_rfl) ?_
        have HBE := Lib.hid (HBW.out.trans (hHeld.mono HBW.out.size))
        clear hHeld
        go_wp2_with fail
        go_ret
        exact ⟨rfl, HBE.out⟩
    · skip
      obtain ⟨⟨⟨pp, ps⟩, er⟩, hof⟩ : ∃ q, q = ofF T := ⟨_, rfl⟩
      have hsm := of_small T
      rw [← hof] at hsm
      simp only at hsm
      obtain ⟨hsm1, hsm2⟩ := hsm
      have ho1 := of_any d T A c w2 (HK.out.below HBW2.out)
      rw [← hof] at ho1
      simp only at ho1
      have HOF := Lib.hid hof
      have HO1 := Lib.hid ho1
      clear hof ho1
      go_wp2_with fail
      refine HO1.out.mono ?_
      rintro e u1 ⟨v1, rfl, hs1, hBu1⟩
      obtain ⟨SA, SC, A1, c1, A2, c2, NA, NC, rfl⟩ := hs1.shape
      have hbp := (Below.refl u1.heap.size u1).alloc (Nat.le_refl _) (Obj.cells #[.slice SA ps.sets.length SC, .bool pp.none, .slice A1 pp.first.length c1, .slice A2 pp.last.length c2, .slice NA ps.next.length NC] 35)
      have HBU1 := Lib.hid (HBW2.out.trans ((hBu1.trans (hbp.mono hBu1.size)).mono HBW2.out.size))
      have HS1 := Lib.hid (hs1.below hbp)
      have HKU := Lib.hid (heap_aq hbp (heap_aq hBu1 K2.out))
      have HPA := Lib.hid (heap_a0 u1 (Obj.cells #[.slice SA ps.sets.length SC, .bool pp.none, .slice A1 pp.first.length c1, .slice A2 pp.last.length c2, .slice NA ps.next.length NC] 35))
      obtain ⟨m0, m1, m2, m3, m4, m5, m6, m7, _⟩ := box8' HKU.out
      have ho2 := rof_any rwrite_one d T A c _ (HK.out.below HBU1.out)
      rw [← HOF.out] at ho2
      simp only at ho2
      have HO2 := Lib.hid ho2
      obtain ⟨m0', m1', m2', m3', m4', m5', m6', m7', hlu⟩ := box8' (heap_aq hBu1 K2.out)
      clear hs1 hbp hBu1 ho2
      go_wp2_with fail
      refine HO2.out.mono ?_
      rintro e u2 ⟨v2, rfl, hs2, hBu2⟩
      obtain ⟨TA, TC, B1, d1, B2, d2, MA, MC, rfl⟩ := hs2.shape
      have hbq := (Below.refl u2.heap.size u2).alloc (Nat.le_refl _) (Obj.cells #[.slice TA ps.sets.length TC, .bool pp.none, .slice B1 pp.first.length d1, .slice B2 pp.last.length d2, .slice MA ps.next.length MC] 35)
      have HBW := Lib.hid (HBU1.out.trans ((hBu2.trans (hbq.mono hBu2.size)).mono HBU1.out.size))
      have HA := Lib.hid ((HS1.out.below hBu2).below hbq)
      have HB := Lib.hid (hs2.below hbq)
      have HBOX := Lib.hid (heap_aq hbq (heap_aq hBu2 HKU.out))
      have HPA := Lib.hid (heap_aq hbq (heap_aq hBu2 HPA.out))
      have HPB := Lib.hid (heap_a0 u2 (Obj.cells #[.slice TA ps.sets.length TC, .bool pp.none, .slice B1 pp.first.length d1, .slice B2 pp.last.length d2, .slice MA ps.next.length MC] 35))
      obtain ⟨W, hW⟩ : ∃ W, W = u2.alloc (Obj.cells #[.slice TA ps.sets.length TC, .bool pp.none, .slice B1 pp.first.length d1, .slice B2 pp.last.length d2, .slice MA ps.next.length MC] 35) := ⟨_, rfl⟩
      have hW' := Lib.hid hW
      rw [← hW] at HBW HA HB HBOX HPA HPB
      clear hs2 hbq hBu2 HS1 HKU HBU1 HO1 HO2 m0 m1 m2 m3 m4 m5 m6 m7 m0' m1' m2' m3' m4' m5' m6' m7' hW
      go_wp2_with fail
      rw [← hW'.out]
      refine start_ (n := 19) (S := fun w' => Below W.heap.size W w') (ds := []) #[false, false, false, false, false, false, false, false, false, false, false, false, false, false, false, false, false, false, false] (by kernel_rfl) rfl rfl ((Below.refl _ _).drew) (fun hHeld => ?_)
      refine take_ (i := 0) (N := some 37) (v := ?_) (a' := ?_) #[true, false, false, false, false, false, false, false, false, false, false, false, false, false, false, false, false, false, false] rfl rfl (by kernel_rfl) (fun _ _ _ h => h) (Or.inl ⟨by rfl, ?_⟩) hHeld ?_ ?_
      rotate_left
      · intro w' sb; obtain ⟨m0, m1, m2, m3, m4, m5, m6, m7, _⟩ := box8' (heap_aq' sb HBOX.out); obtain ⟨x0, x1, x2, x3, x4⟩ := box5m (heap_aq' sb HPA.out); obtain ⟨y0, y1, y2, y3, y4⟩ := box5m (heap_aq' sb HPB.out)
        go_simp
        with_reducible rfl
      rotate_left
      · simp only [Act.put, sA, sB, sC]
        rfl
      refine take_ (i := 2) (N := some 39) (v := ?_) (a' := ?_) #[true, false, true, false, false, false, false, false, false, false, false, false, false, false, false, false, false, false, false] rfl rfl (by kernel_rfl) (fun _ _ _ h => h) (Or.inl ⟨by rfl, ?_⟩) hHeld ?_ ?_
      rotate_left
      · intro w' sb; obtain ⟨m0, m1, m2, m3, m4, m5, m6, m7, _⟩ := box8' (heap_aq' sb HBOX.out); obtain ⟨x0, x1, x2, x3, x4⟩ := box5m (heap_aq' sb HPA.out); obtain ⟨y0, y1, y2, y3, y4⟩ := box5m (heap_aq' sb HPB.out)
        go_simp
        with_reducible rfl
      rotate_left
      · simp only [Act.put, sA, sB, sC]
        rfl
      refine one_ (i := 1) (N := some 38) #[true, true, true, false, false, false, false, false, false, false, false, false, false, false, false, false, false, false, false] rfl rfl (by kernel_rfl) (by decide) (fun K hK => ?_)
      refine goes_ Tryd.func6 (by kernel_rfl) rfl #[(.agg #[.int .i64 T.kind, .int .u64 T.s0, .int .u64 T.s1, .int .u64 T.s2, .int .u64 T.s3, .slice A T.kids.length c, .int .i64 T.mn, .int .i64 T.mx])] (by rfl) rfl rfl (by first | rfl | (simp only [List.map_toArray, List.map_cons, List.map_nil]; rfl)) ?_
      refine (countOf_any d T A c _ ((HK.out.below HBW.out).below hHeld)).mono ?_
      rintro e w1 ⟨rfl, hb1⟩
      refine ⟨_, rfl, ?_⟩
      refine hK.out _ _ (hHeld.trans (hb1.mono hHeld.size)) (fun hHeld => ?_)
      clear hK K
      refine norm_ (a' := ?_) ?_ ?_
      rotate_left
      · show Act.put _ (some 38) _ = _
        simp only [Act.put, sA, sB, sC]
        rfl
      refine one_ (i := 3) (N := some 40) #[true, true, true, true, false, false, false, false, false, false, false, false, false, false, false, false, false, false, false] rfl rfl (by kernel_rfl) (by decide) (fun K hK => ?_)
      refine goes_ Tryd.func7 (by kernel_rfl) rfl #[(.agg #[.int .i64 T.kind, .int .u64 T.s0, .int .u64 T.s1, .int .u64 T.s2, .int .u64 T.s3, .slice A T.kids.length c, .int .i64 T.mn, .int .i64 T.mx])] (by rfl) rfl rfl (by first | rfl | (simp only [List.map_toArray, List.map_cons, List.map_nil]; rfl)) ?_
      refine (rCount_any d T A c _ ((HK.out.below HBW.out).below hHeld)).mono ?_
      rintro e w1 ⟨rfl, hb1⟩
      refine ⟨_, rfl, ?_⟩
      refine hK.out _ _ (hHeld.trans (hb1.mono hHeld.size)) (fun hHeld => ?_)
      clear hK K
      refine norm_ (a' := ?_) ?_ ?_
      rotate_left
      · show Act.put _ (some 40) _ = _
        simp only [Act.put, sA, sB, sC]
        rfl
      refine pure_ (i := 4) (N := some 41) (v := ?_) (a' := ?_) #[true, true, true, true, true, false, false, false, false, false, false, false, false, false, false, false, false, false, false] rfl rfl (by kernel_rfl) (fun _ _ _ h => h) (Or.inl ⟨by rfl, ?_⟩) ?_ ?_
      rotate_left
      · intro w'
        go_simp
        with_reducible rfl
      rotate_left
      · simp only [Act.put, sA, sB, sC]
        rfl
      refine pure_ (i := 5) (N := some 42) (v := ?_) (a' := ?_) #[true, true, true, true, true, true, false, false, false, false, false, false, false, false, false, false, false, false, false] rfl rfl (by kernel_rfl) (fun _ _ _ h => h) (Or.inl ⟨by rfl, ?_⟩) ?_ ?_
      rotate_left
      · intro w'
        go_simp
        with_reducible rfl
      rotate_left
      · simp only [Act.put, sA, sB, sC]
        rfl
      refine take_ (i := 6) (N := some 43) (v := ?_) (a' := ?_) #[true, true, true, true, true, true, true, false, false, false, false, false, false, false, false, false, false, false, false] rfl rfl (by kernel_rfl) (fun _ _ _ h => h) (Or.inl ⟨by rfl, ?_⟩) hHeld ?_ ?_
      rotate_left
      · intro w' sb; obtain ⟨m0, m1, m2, m3, m4, m5, m6, m7, _⟩ := box8' (heap_aq' sb HBOX.out); obtain ⟨x0, x1, x2, x3, x4⟩ := box5m (heap_aq' sb HPA.out); obtain ⟨y0, y1, y2, y3, y4⟩ := box5m (heap_aq' sb HPB.out)
        go_simp
        with_reducible rfl
      rotate_left
      · simp only [Act.put, sA, sB, sC]
        rfl
      refine take_ (i := 7) (N := some 44) (v := ?_) (a' := ?_) #[true, true, true, true, true, true, true, true, false, false, false, false, false, false, false, false, false, false, false] rfl rfl (by kernel_rfl) (fun _ _ _ h => h) (Or.inl ⟨by rfl, ?_⟩) hHeld ?_ ?_
      rotate_left
      · intro w' sb; obtain ⟨m0, m1, m2, m3, m4, m5, m6, m7, _⟩ := box8' (heap_aq' sb HBOX.out); obtain ⟨x0, x1, x2, x3, x4⟩ := box5m (heap_aq' sb HPA.out); obtain ⟨y0, y1, y2, y3, y4⟩ := box5m (heap_aq' sb HPB.out)
        go_simp
        with_reducible rfl
      rotate_left
      · simp only [Act.put, sA, sB, sC]
        rfl
      refine one_ (i := 8) (N := some 45) #[true, true, true, true, true, true, true, true, true, false, false, false, false, false, false, false, false, false, false] rfl rfl (by kernel_rfl) (by decide) (fun K hK => ?_)
      refine goes_ Tryd.func11 (by kernel_rfl) rfl #[(.agg #[.slice SA ps.sets.length SC, .bool pp.none, .slice A1 pp.first.length c1, .slice A2 pp.last.length c2, .slice NA ps.next.length NC]), (.agg #[.slice TA ps.sets.length TC, .bool pp.none, .slice B1 pp.first.length d1, .slice B2 pp.last.length d2, .slice MA ps.next.length MC])] (by rfl) rfl rfl (by first | rfl | (simp only [List.map_toArray, List.map_cons, List.map_nil]; rfl)) ?_
      refine (same_spots _ _ pp ps _ (HA.out.below hHeld) (HB.out.below hHeld) (by omega) (by omega)).mono ?_
      rintro e w1 ⟨rfl, hb1⟩
      refine ⟨_, rfl, ?_⟩
      refine hK.out _ _ (hHeld.trans (hb1.mono hHeld.size)) (fun hHeld => ?_)
      clear hK K
      refine norm_ (a' := ?_) ?_ ?_
      rotate_left
      · show Act.put _ (some 45) _ = _
        simp only [Act.put, sA, sB, sC]
        rfl
      refine pure_ (i := 9) (N := some 46) (v := ?_) (a' := ?_) #[true, true, true, true, true, true, true, true, true, true, false, false, false, false, false, false, false, false, false] rfl rfl (by kernel_rfl) (fun _ _ _ h => h) (Or.inl ⟨by rfl, ?_⟩) ?_ ?_
      rotate_left
      · intro w'
        go_simp
        with_reducible rfl
      rotate_left
      · simp only [Act.put, sA, sB, sC]
        rfl
      refine pure_ (i := 10) (N := some 47) (v := ?_) (a' := ?_) #[true, true, true, true, true, true, true, true, true, true, true, false, false, false, false, false, false, false, false] rfl rfl (by kernel_rfl) (fun _ _ _ h => h) (Or.inl ⟨by rfl, ?_⟩) ?_ ?_
      rotate_left
      · intro w'
        go_simp
        with_reducible rfl
      rotate_left
      · simp only [Act.put, sA, sB, sC]
        rfl
      refine pure_ (i := 11) (N := some 48) (v := ?_) (a' := ?_) #[true, true, true, true, true, true, true, true, true, true, true, true, false, false, false, false, false, false, false] rfl rfl (by kernel_rfl) (fun _ _ _ h => h) (Or.inl ⟨by rfl, ?_⟩) ?_ ?_
      rotate_left
      · intro w'
        go_simp
        with_reducible rfl
      rotate_left
      · simp only [Act.put, sA, sB, sC]
        rfl
      refine pure_ (i := 12) (N := some 49) (v := ?_) (a' := ?_) #[true, true, true, true, true, true, true, true, true, true, true, true, true, false, false, false, false, false, false] rfl rfl (by kernel_rfl) (fun _ _ _ h => h) (Or.inl ⟨by rfl, ?_⟩) ?_ ?_
      rotate_left
      · intro w'
        go_simp
        with_reducible rfl
      rotate_left
      · simp only [Act.put, sA, sB, sC]
        rfl
      refine pure_ (i := 13) (N := some 50) (v := ?_) (a' := ?_) #[true, true, true, true, true, true, true, true, true, true, true, true, true, true, false, false, false, false, false] rfl rfl (by kernel_rfl) (fun _ _ _ h => h) (Or.inl ⟨by rfl, ?_⟩) ?_ ?_
      rotate_left
      · intro w'
        go_simp
        with_reducible rfl
      rotate_left
      · simp only [Act.put, sA, sB, sC]
        rfl
      refine pure_ (i := 14) (N := some 51) (v := ?_) (a' := ?_) #[true, true, true, true, true, true, true, true, true, true, true, true, true, true, true, false, false, false, false] rfl rfl (by kernel_rfl) (fun _ _ _ h => h) (Or.inl ⟨by rfl, ?_⟩) ?_ ?_
      rotate_left
      · intro w'
        go_simp
        with_reducible rfl
      rotate_left
      · simp only [Act.put, sA, sB, sC]
        rfl
      refine pure_ (i := 15) (N := some 52) (v := ?_) (a' := ?_) #[true, true, true, true, true, true, true, true, true, true, true, true, true, true, true, true, false, false, false] rfl rfl (by kernel_rfl) (fun _ _ _ h => h) (Or.inl ⟨by rfl, ?_⟩) ?_ ?_
      rotate_left
      · intro w'
        go_simp
        with_reducible rfl
      rotate_left
      · simp only [Act.put, sA, sB, sC]
        rfl
      refine one_ (i := 16) (N := some 53) #[true, true, true, true, true, true, true, true, true, true, true, true, true, true, true, true, true, false, false] rfl rfl (by kernel_rfl) (by decide) (fun K hK => ?_)
      refine goes_ Tryd.func8 (by kernel_rfl) rfl #[] (by rfl) rfl rfl (by simp) ?_
      refine (works_any _).mono ?_
      rintro e w1 ⟨rfl, hb1⟩
      refine ⟨_, rfl, ?_⟩
      refine hK.out _ _ (hHeld.trans (hb1.mono hHeld.size)) (fun hHeld => ?_)
      clear hK K
      refine norm_ (a' := ?_) ?_ ?_
      rotate_left
      · show Act.put _ (some 53) _ = _
        simp only [Act.put, sA, sB, sC]
        rfl
      refine pure_ (i := 17) (N := some 54) (v := ?_) (a' := ?_) #[true, true, true, true, true, true, true, true, true, true, true, true, true, true, true, true, true, true, false] rfl rfl (by kernel_rfl) (fun _ _ _ h => h) (Or.inl ⟨by rfl, ?_⟩) ?_ ?_
      rotate_left
      · intro w'
        go_simp
        with_reducible rfl
      rotate_left
      · simp only [Act.put, sA, sB, sC]
        rfl
      refine pure_ (i := 18) (N := some 2) (v := ?_) (a' := ?_) #[true, true, true, true, true, true, true, true, true, true, true, true, true, true, true, true, true, true, true] rfl rfl (by kernel_rfl) (fun _ _ _ h => h) (Or.inl ⟨by rfl, ?_⟩) ?_ ?_
      rotate_left
      · intro w'
        go_simp
        with_reducible rfl
      rotate_left
      · simp only [Act.put, sA, sB, sC]
        rfl
      refine done_ (by kernel_rfl) ?_
      have HBE := Lib.hid (HBW.out.trans (hHeld.mono HBW.out.size))
      clear hHeld
      go_wp2_with fail
      go_ret
      exact ⟨rfl, HBE.out⟩
end Go.Proofs.YtmcoaopcmjociaaDoor
