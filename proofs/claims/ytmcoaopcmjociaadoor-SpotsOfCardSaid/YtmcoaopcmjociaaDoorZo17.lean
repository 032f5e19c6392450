/- The reference's write of a Rep. The reference's write of every tree, Of and Count. -/
import Derived.Test.YtmcoaopcmjociaaDoorZo16
import Derived.Test.YtmcoaopcmjociaaDoorZo18
namespace Go.Proofs.YtmcoaopcmjociaaDoor
open Go Go.RowKit Go.Sort Go.Proofs.YtmcoaopcmjociaaDoorW.PrintLast

/-- The cells of a kid, its address told. -/
def KidAt (w : World) (b o : Nat) (T : Tree) (A : Option Addr) (c : Nat) : Prop :=
  w.cell? ⟨b, o, none⟩ = some (.int .i64 T.kind) ∧ w.cell? ⟨b, o + 1, none⟩ = some (.int .u64 T.s0) ∧ w.cell? ⟨b, o + 2, none⟩ = some (.int .u64 T.s1) ∧ w.cell? ⟨b, o + 3, none⟩ = some (.int .u64 T.s2) ∧
  w.cell? ⟨b, o + 4, none⟩ = some (.int .u64 T.s3) ∧ w.cell? ⟨b, o + 5, none⟩ = some (.slice A T.kids.length c) ∧ w.cell? ⟨b, o + 6, none⟩ = some (.int .i64 T.mn) ∧ w.cell? ⟨b, o + 7, none⟩ = some (.int .i64 T.mx)
theorem KidAt.below {w w' : World} (hb : Below w.heap.size w w') {b o : Nat} {T : Tree} {A : Option Addr} {c : Nat} (h : KidAt w b o T A c) : KidAt w' b o T A c := by
  obtain ⟨h0, h1, h2, h3, h4, h5, h6, h7⟩ := h
  exact ⟨cell_keep hb h0, cell_keep hb h1, cell_keep hb h2, cell_keep hb h3, cell_keep hb h4, cell_keep hb h5, cell_keep hb h6, cell_keep hb h7⟩

set_option maxRecDepth 100000 in
set_option maxHeartbeats 4000000 in
theorem rwrite_rep (w0 : World) (d : Nat) (s0 s1 s2 s3 : Int) (t : Tree) (mn mx : Int) (A : Option Addr) (c : Nat) (hr : t.right = true) (hm0 : 0 ≤ mn) (hm1 : mn ≤ 16) (hmx : mx = -1 ∨ (1 ≤ mx ∧ mn ≤ mx ∧ mx ≤ 16)) (hkids : KidsIn w0 (d + 1) [t] A)
    (ih : ∀ (t : Tree) (A : Option Addr) (c : Nat), t.right = true → KidsIn w0 d t.kids A → RWriteOK w0 t A c) : RWriteOK w0 (.node 4 s0 s1 s2 s3 [t] mn mx) A c := by
  intro s p0 v w h0 hv hgs hf
  have hsp : spotsN (.node 4 s0 s1 s2 s3 [t] mn mx) = if mx = -1 then spotsN t * (mn.toNat + 1) else spotsN t * mx.toNat := by simp [spotsN, spotsNs]
  have hwr : writeT (.node 4 s0 s1 s2 s3 [t] mn mx) s = oftenF t.cnt (writeT t) mn mx s := by simp [writeT, writeRep]
  rw [hsp] at hf
  rw [hwr]
  clear hsp hwr
  simp only [Tree.val, Tree.kind, Tree.s0, Tree.s1, Tree.s2, Tree.s3, Tree.kids, Tree.mn, Tree.mx, List.length_cons, List.length_nil, Nat.zero_add]
  obtain ⟨SA, SC, NA, NC, A1, c1, A2, c2, hvv, hv1, hv2, _, _⟩ := id hv
  subst hvv
  obtain ⟨ad, A', c', rfl, hc, hk⟩ := hkids.2 0 t rfl
  obtain ⟨ab, ao, asp⟩ := ad
  obtain rfl : asp = none := by
    have h := hc.1
    simp only [Addr.add, Nat.zero_mul, if_true] at h
    cases asp with
    | none => rfl
    | some x => exact (cell?_spot h).elim
  have hkid : KidAt w0 ab ao t A' c' := by
    obtain ⟨c0, c1, c2, c3, c4, c5, c6, c7⟩ := hc
    simp only [Addr.add, Nat.zero_mul, if_true] at c0 c1 c2 c3 c4 c5 c6 c7
    exact ⟨c0, c1, c2, c3, c4, c5, c6, c7⟩
  have hwrt := ih t A' c' hr hk
  obtain ⟨X, hX⟩ : ∃ X, X = ((w.alloc (nodeO 4 s0 s1 s2 s3 (some ⟨ab, ao, none⟩) 1 c mn mx)).alloc (Obj.cells #[.slice SA s.sets.length SC, .slice NA s.next.length NC, .slice A1 p0.first.length c1, .slice A2 p0.last.length c2, .bool p0.none] 56)).alloc (Obj.cells #[.slice none 0 0, .slice none 0 0, .slice none 0 0, .slice none 0 0, .bool false] 56) := ⟨_, rfl⟩
  have hb3 := below_a3 w (nodeO 4 s0 s1 s2 s3 (some ⟨ab, ao, none⟩) 1 c mn mx) (Obj.cells #[.slice SA s.sets.length SC, .slice NA s.next.length NC, .slice A1 p0.first.length c1, .slice A2 p0.last.length c2, .bool p0.none] 56) (Obj.cells #[.slice none 0 0, .slice none 0 0, .slice none 0 0, .slice none 0 0, .bool false] 56)
  have hs3 := size_a3 w (nodeO 4 s0 s1 s2 s3 (some ⟨ab, ao, none⟩) 1 c mn mx) (Obj.cells #[.slice SA s.sets.length SC, .slice NA s.next.length NC, .slice A1 p0.first.length c1, .slice A2 p0.last.length c2, .bool p0.none] 56) (Obj.cells #[.slice none 0 0, .slice none 0 0, .slice none 0 0, .slice none 0 0, .bool false] 56)
  have k0 := heap_a1 (o' := (Obj.cells #[.slice none 0 0, .slice none 0 0, .slice none 0 0, .slice none 0 0, .bool false] 56)) (heap_a1 (o' := (Obj.cells #[.slice SA s.sets.length SC, .slice NA s.next.length NC, .slice A1 p0.first.length c1, .slice A2 p0.last.length c2, .bool p0.none] 56)) (heap_a0 w (nodeO 4 s0 s1 s2 s3 (some ⟨ab, ao, none⟩) 1 c mn mx)))
  have k2 := heap_a2 w (nodeO 4 s0 s1 s2 s3 (some ⟨ab, ao, none⟩) 1 c mn mx) (Obj.cells #[.slice SA s.sets.length SC, .slice NA s.next.length NC, .slice A1 p0.first.length c1, .slice A2 p0.last.length c2, .bool p0.none] 56) (Obj.cells #[.slice none 0 0, .slice none 0 0, .slice none 0 0, .slice none 0 0, .bool false] 56)
  have hb4 := below_a3' w (nodeO 4 s0 s1 s2 s3 (some ⟨ab, ao, none⟩) 1 c mn mx) (Obj.cells #[.slice SA s.sets.length SC, .slice NA s.next.length NC, .slice A1 p0.first.length c1, .slice A2 p0.last.length c2, .bool p0.none] 56) (Obj.cells #[.slice none 0 0, .slice none 0 0, .slice none 0 0, .slice none 0 0, .bool false] 56) (Obj.cells #[.slice SA s.sets.length SC, .slice NA s.next.length NC, .slice none 0 0, .slice none 0 0, .bool true] 56)
  have k3 := box_a3 w (nodeO 4 s0 s1 s2 s3 (some ⟨ab, ao, none⟩) 1 c mn mx) (Obj.cells #[.slice SA s.sets.length SC, .slice NA s.next.length NC, .slice A1 p0.first.length c1, .slice A2 p0.last.length c2, .bool p0.none] 56) (Obj.cells #[.slice none 0 0, .slice none 0 0, .slice none 0 0, .slice none 0 0, .bool false] 56) (Obj.cells #[.slice SA s.sets.length SC, .slice NA s.next.length NC, .slice none 0 0, .slice none 0 0, .bool true] 56)
  rw [← hX] at hb3 hs3 k0 k2 hb4 k3
  have hb5 := hb3.trans (hb4.mono (by omega))
  have hwr0 : WR (X.alloc (Obj.cells #[.slice SA s.sets.length SC, .slice NA s.next.length NC, .slice none 0 0, .slice none 0 0, .bool true] 56)) (.agg #[.slice SA s.sets.length SC, .slice NA s.next.length NC, .slice none 0 0, .slice none 0 0, .bool true]) emptyP s :=
    ⟨SA, SC, NA, NC, none, 0, none, 0, rfl, own_keep hv1 fun k hk _ => hb5.block k hk.lt, hv2.below hb5, IR.nil _ _, IR.nil _ _⟩
  have hcount := rcount_any d t A' c' (X.alloc (Obj.cells #[.slice SA s.sets.length SC, .slice NA s.next.length NC, .slice none 0 0, .slice none 0 0, .bool true] 56)) hr (hk.below (h0.trans (hb5.mono h0.size)))
  have HX := Lib.hid hX; have H0 := Lib.hid h0; have HR := Lib.hid hr; have HKID := Lib.hid hkid; have HWT := Lib.hid hwrt; have Hcount := Lib.hid hcount; have Hmx := Lib.hid hmx; have Hf := Lib.hid hf; have HGS := Lib.hid hgs; have K0 := Lib.hid k0; have K2 := Lib.hid k2; have K3 := Lib.hid k3; have HB3 := Lib.hid hb3; have HB4 := Lib.hid hb4; have HWR0 := Lib.hid hwr0; have HS3 := Lib.hid hs3
  have hfit := h0.size
  have hkx := hkid.below (h0.trans (hb5.mono h0.size))
  rw [hX] at hkx
  obtain ⟨kc0, kc1, kc2, kc3, kc4, kc5, kc6, kc7⟩ := hkx
  have HB5 := Lib.hid hb5
  clear hX h0 hr hkids ih hgs hcount hkid hwrt hmx hf hc hk k0 k2 k3 hb3 hb4 hb5 hwr0 hs3 hv hv1 hv2
  go_enter Tryd.func23, Tryd.ntmps23
  go_wp2_with fail
  rw [← HX.out]
  refine Hcount.out.mono ?_
  rintro e w1 ⟨rfl, hB1⟩
  have hk31 := heap_aq hB1 K3.out
  have hXs : (X.alloc (Obj.cells #[.slice SA s.sets.length SC, .slice NA s.next.length NC, .slice none 0 0, .slice none 0 0, .bool true] 56)).heap.size = w.heap.size + 1 + 1 + 1 + 1 := by simp [HS3.out]
  have hK1 : Below (w.heap.size + 1 + 1 + 1) X w1 := HB4.out.trans (hB1.mono (by omega))
  have hk01 := (hK1.block w.heap.size (by omega)).trans K0.out
  have hk21 := (hK1.block (w.heap.size + 1 + 1) (by omega)).trans K2.out
  obtain ⟨m0, m1, m2, m3, m4, m5, m6, m7, _⟩ := box8' hk01
  obtain ⟨⟨r0, r1, r2, r3, r4⟩, t0, t1, t2, t3, t4, rl⟩ := box5 hk21
  obtain ⟨⟨z0, z1, z2, z3, z4⟩, y0, y1, y2, y3, y4, kl⟩ := box5 hk31
  have hwr1 := HWR0.out.below hB1
  cases hc0 : (t.cnt == 0) with
  | true =>
    have hc1 : t.cnt = 0 := by simpa using hc0
    have Hof := Lib.hid (show oftenF t.cnt (writeT t) mn mx s = (emptyP, s) by simp [oftenF, hc1])
    obtain ⟨f1, f2, f3⟩ := w_end (w := w) (HB5.out.trans (hB1.mono (by omega))) hk21 (by omega) hwr1
    have E1 := Lib.hid f1; have E2 := Lib.hid f2; have E3 := Lib.hid f3
    clear f1 f2 f3 hk01 hk21 hk31 hwr1 hB1 hK1 hXs kc0 kc1 kc2 kc3 kc4 kc5 kc6 kc7 hc1
    go_wp2_with fail
    refine bodyPost_ret (ret_w rfl _ _ (w.heap.size + 1 + 1) _ _ _ _ _ (0, 0) rfl E1.out) rfl ?_
    rw [Hof.out]
    exact ⟨_, rfl, E2.out, E3.out⟩
  | false =>
    have hc1 : t.cnt ≠ 0 := by simpa using hc0
    obtain ⟨m, hm⟩ : ∃ m : Nat, mn = (m : Int) := ⟨mn.toNat, by omega⟩
    subst hm
    have Hrel0 := Lib.hid (show ∃ v0 v1 v2 v3 v4, w1.heap[w.heap.size + 1 + 1 + 1]? = some (.cells #[v0, v1, v2, v3, v4] 56 (0, 0)) ∧ WR w1 (.agg #[v0, v1, v2, v3, v4]) (manyF (writeT t) 0 emptyP s).1 (manyF (writeT t) 0 emptyP s).2 from ⟨_, _, _, _, _, hk31, hwr1⟩)
    have HK1 := Lib.hid hK1
    have Hc1 := Lib.hid hc1
    clear hk01 hk21 hk31 hwr1 hB1 hK1 hXs kc0 kc1 kc2 kc3 kc4 kc5 kc6 kc7 hc1
    go_wp2_with fail
    go_loopg [7] m (fun g i wr => ∃ j : Nat, j + g = m ∧ i = .int .i64 j ∧ Hid (∃ v0 v1 v2 v3 v4, wr.heap[w.heap.size + 1 + 1 + 1]? = some (.cells #[v0, v1, v2, v3, v4] 56 (0, 0)) ∧ WR wr (.agg #[v0, v1, v2, v3, v4]) (manyF (writeT t) j emptyP s).1 (manyF (writeT t) j emptyP s).2) ∧ Hid (Below (w.heap.size + 1 + 1 + 1) X wr))
    case atStart => exact ⟨0, by omega, rfl, Hrel0, HK1⟩
    case round =>
      obtain ⟨j, hj, rfl, HP, HK⟩ := hrel
      have Hj := Lib.hid hj
      have hadds := manyF_adds (writeT_adds t HR.out) j emptyP s HGS.out (GoodPart.empty _ _)
      have hsn0 := manyF_snoc (writeT t) j emptyP s
      have hofc : oftenF t.cnt (writeT t) j mx s = (if mx = -1 then
            (behindP (manyF (writeT t) j emptyP s).1 { (writeT t (manyF (writeT t) j emptyP s).2).1 with none := true }, behindS (loopS (writeT t (manyF (writeT t) j emptyP s).2).2 (writeT t (manyF (writeT t) j emptyP s).2).1) (manyF (writeT t) j emptyP s).1 { (writeT t (manyF (writeT t) j emptyP s).2).1 with none := true })
          else (behindP (manyF (writeT t) j emptyP s).1 (restF (writeT t) (mx - j).toNat (manyF (writeT t) j emptyP s).2).1, behindS (restF (writeT t) (mx - j).toNat (manyF (writeT t) j emptyP s).2).2 (manyF (writeT t) j emptyP s).1 (restF (writeT t) (mx - j).toNat (manyF (writeT t) j emptyP s).2).1)) := by simp [oftenF, Hc1.out]
      obtain ⟨r, hrr⟩ : ∃ r, manyF (writeT t) j emptyP s = r := ⟨_, rfl⟩
      have hP := HP.out
      rw [hrr] at hP hadds hsn0 hofc
      obtain ⟨p, sj⟩ := r
      simp only at hP hadds hsn0 hofc
      obtain ⟨v0, v1, v2, v3, v4, hk3, hps⟩ := hP
      obtain ⟨QA, QC, RA, RC, D1, e1, D2, e2, hvv, _, _, _, _⟩ := id hps
      obtain ⟨rfl, rfl, rfl, rfl, rfl⟩ : v0 = _ ∧ v1 = _ ∧ v2 = _ ∧ v3 = _ ∧ v4 = _ := by simpa using hvv
      have hk0 := (HK.out.block w.heap.size (by omega)).trans K0.out
      have hk2 := (HK.out.block (w.heap.size + 1 + 1) (by omega)).trans K2.out
      have hsz : w.heap.size + 1 + 1 + 1 < wr.heap.size := (Array.getElem?_eq_some_iff.1 hk3).1
      have hB0 := H0.out.trans ((HB3.out.trans (HK.out.mono (by omega))).mono hfit)
      have hkid := HKID.out.below hB0
      have hlr := hadds.2.2
      have hroom := often_room Hmx.out Hf.out
      obtain ⟨m0, m1, m2, m3, m4, m5, m6, m7, _⟩ := box8' hk0
      have HB0 := Lib.hid hB0; have Hps := Lib.hid hps; have Kk0 := Lib.hid hk0; have Kk2 := Lib.hid hk2; have Kk3 := Lib.hid hk3; have HKIDr := Lib.hid hkid
      clear hB0 hps hk0 hk2 hk3 hkid hrr HP hvv
      by_cases hlt : j < m
      · have hr1 := hroom.1 j hlt
        rw [← hlr] at hr1
        have hqq : ∃ q, writeT t sj = q := ⟨_, rfl⟩
        obtain ⟨q, hqq⟩ := hqq
        have hq := writeT_adds t HR.out sj hadds.1
        have hwrt := HWT.out sj
        have hsn := hsn0
        rw [hqq] at hsn hq hwrt
        obtain ⟨q, s2⟩ := q
        simp only at hsn hq hwrt
        have Hsn := Lib.hid hsn; have Hq := Lib.hid hq; have HWTr := Lib.hid hwrt; have Hroom := Lib.hid hr1; have Hadds := Lib.hid hadds; have Hlt := Lib.hid hlt
        clear hsn hq hwrt hr1 hroom hadds hsn0 hofc hqq hlr
        go_wp2_with fail
        refine start_ (n := 9) (S := fun w' => Below wr.heap.size wr w') (ds := [8]) #[false, false, false, false, false, false, false, false, false] (by kernel_rfl) rfl rfl ((Below.refl _ _).drew) (fun hHeld => ?_)
        refine pure_ (i := 1) (N := some 67) (v := ?_) (a' := ?_) #[false, true, false, false, false, false, false, false, false] rfl rfl (by kernel_rfl) (fun _ _ _ h => h) (Or.inl ⟨by rfl, ?_⟩) ?_ ?_
        rotate_left
        · intro w'
          go_simp
          with_reducible rfl
        rotate_left
        · simp only [Act.put, sA, sB, sC]
          rfl
        refine take_ (i := 2) (N := some 68) (v := ?_) (a' := ?_) #[false, true, true, false, false, false, false, false, false] rfl rfl (by kernel_rfl) (fun _ _ _ h => h) (Or.inl ⟨by rfl, ?_⟩) hHeld ?_ ?_
        rotate_left
        · intro w' sb; obtain ⟨⟨p0, p1, p2, p3, p4⟩, _, _, _, _, _, _⟩ := box5 (heap_aq sb Kk3.out); obtain ⟨m0, m1, m2, m3, m4, m5, m6, m7, _⟩ := box8' (heap_aq sb Kk0.out); obtain ⟨c0, c1, c2, c3, c4, c5, c6, c7⟩ := HKIDr.out.below sb
          go_simp
          with_reducible rfl
        rotate_left
        · simp only [Act.put, sA, sB, sC]
          rfl
        refine pure_ (i := 3) (N := some 69) (v := ?_) (a' := ?_) #[false, true, true, true, false, false, false, false, false] rfl rfl (by kernel_rfl) (fun _ _ _ h => h) (Or.inl ⟨by rfl, ?_⟩) ?_ ?_
        rotate_left
        · intro w'
          go_simp
          with_reducible rfl
        rotate_left
        · simp only [Act.put, sA, sB, sC]
          rfl
        refine take_ (i := 4) (N := some 70) (v := ?_) (a' := ?_) #[false, true, true, true, true, false, false, false, false] rfl rfl (by kernel_rfl) (fun _ _ _ h => h) (Or.inl ⟨by rfl, ?_⟩) hHeld ?_ ?_
        rotate_left
        · intro w' sb; obtain ⟨⟨p0, p1, p2, p3, p4⟩, _, _, _, _, _, _⟩ := box5 (heap_aq sb Kk3.out); obtain ⟨m0, m1, m2, m3, m4, m5, m6, m7, _⟩ := box8' (heap_aq sb Kk0.out); obtain ⟨c0, c1, c2, c3, c4, c5, c6, c7⟩ := HKIDr.out.below sb
          go_simp
          with_reducible rfl
        rotate_left
        · simp only [Act.put, sA, sB, sC]
          rfl
        refine take_ (i := 0) (N := some 66) (v := ?_) (a' := ?_) #[true, true, true, true, true, false, false, false, false] rfl rfl (by kernel_rfl) (fun _ _ _ h => h) (Or.inl ⟨by rfl, ?_⟩) hHeld ?_ ?_
        rotate_left
        · intro w' sb; obtain ⟨⟨p0, p1, p2, p3, p4⟩, _, _, _, _, _, _⟩ := box5 (heap_aq sb Kk3.out); obtain ⟨m0, m1, m2, m3, m4, m5, m6, m7, _⟩ := box8' (heap_aq sb Kk0.out); obtain ⟨c0, c1, c2, c3, c4, c5, c6, c7⟩ := HKIDr.out.below sb
          go_simp
          with_reducible rfl
        rotate_left
        · simp only [Act.put, sA, sB, sC]
          rfl
        refine take_ (i := 5) (N := some 71) (v := ?_) (a' := ?_) #[true, true, true, true, true, true, false, false, false] rfl rfl (by kernel_rfl) (fun _ _ _ h => h) (Or.inl ⟨by rfl, ?_⟩) hHeld ?_ ?_
        rotate_left
        · intro w' sb; obtain ⟨⟨p0, p1, p2, p3, p4⟩, _, _, _, _, _, _⟩ := box5 (heap_aq sb Kk3.out); obtain ⟨m0, m1, m2, m3, m4, m5, m6, m7, _⟩ := box8' (heap_aq sb Kk0.out); obtain ⟨c0, c1, c2, c3, c4, c5, c6, c7⟩ := HKIDr.out.below sb
          go_simp
          with_reducible rfl
        rotate_left
        · simp only [Act.put, sA, sB, sC]
          rfl
        refine one_ (i := 6) (N := some 72) #[true, true, true, true, true, true, true, false, false] rfl rfl (by kernel_rfl) (by decide) (fun K hK => ?_)
        refine goes_ Tryd.func23 (by kernel_rfl) rfl #[(.agg #[.int .i64 t.kind, .int .u64 t.s0, .int .u64 t.s1, .int .u64 t.s2, .int .u64 t.s3, .slice A' t.kids.length c', .int .i64 t.mn, .int .i64 t.mx]), .agg #[.slice QA sj.sets.length QC, .slice RA sj.next.length RC, .slice D1 p.first.length e1, .slice D2 p.last.length e2, .bool p.none]] (by rfl) rfl rfl (by (try simp only [List.map_toArray, List.map_cons, List.map_nil]); rfl) ?_
        refine (HWTr.out p _ _ (HB0.out.trans (hHeld.mono HB0.out.size)) (Hps.out.below hHeld) Hadds.out.1 Hroom.out).mono ?_
        rintro e w2 ⟨v2, rfl, hq2, hb2⟩
        refine ⟨_, rfl, ?_⟩
        refine hK.out _ _ (hHeld.trans (hb2.mono hHeld.size)) (fun hHeld => ?_)
        clear hK K
        refine norm_ (a' := ?_) ?_ ?_
        rotate_left
        · show Act.put _ (some 72) _ = _
          simp only [Act.put, sA, sB, sC]
          rfl
        refine one_ (i := 7) (N := some 73) #[true, true, true, true, true, true, true, true, false] rfl rfl (by kernel_rfl) (by decide) (fun K hK => ?_)
        refine goes_ Tryd.func41 (by kernel_rfl) rfl #[.agg #[.slice QA sj.sets.length QC, .slice RA sj.next.length RC, .slice D1 p.first.length e1, .slice D2 p.last.length e2, .bool p.none], v2] (by rfl) rfl rfl (by (try simp only [List.map_toArray, List.map_cons, List.map_nil]); rfl) ?_
        refine (rbehind_any _ v2 p q sj s2 _ (Hps.out.below hHeld) hq2 Hq.out.1 (by have := Hq.out.2.2; have := Hroom.out; omega) (Hadds.out.2.1.mono (by have := Hq.out.2.2; omega)) Hq.out.2.1).mono ?_
        rintro e w3 ⟨v3, rfl, hp3, hb3⟩
        obtain ⟨F1, f1, F2, f2, F3, f3, F4, f4, rfl, _, _, _, _⟩ := id hp3
        refine ⟨_, rfl, ?_⟩
        refine hK.out _ _ (hHeld.trans (hb3.mono hHeld.size)) (fun hHeld => ?_)
        clear hK K
        refine norm_ (a' := ?_) ?_ ?_
        rotate_left
        · show Act.put _ (some 73) _ = _
          simp only [Act.put, sA, sB, sC]
          rfl
        refine last_ (i := 8) (N := none) #[true, true, true, true, true, true, true, true, true] rfl rfl (by kernel_rfl) (by decide) (fun K hK => ?_)
        refine skip_ (w1 := ?_) (by rfl) rfl ?_ ?_
        rotate_left
        · obtain ⟨⟨p0, p1, p2, p3, p4⟩, y0, y1, y2, y3, y4, _⟩ := box5 (heap_aq hHeld Kk3.out)
          go_simp
          rfl
        refine hK.out _ _ ?_
        clear hK K
        refine done_ (by kernel_rfl) ?_
        have hk38 := heap_aq hHeld Kk3.out
        have hk8 := set5_box hk38 (.slice F1 (behindS s2 p q).sets.length f1) (.slice F2 (behindS s2 p q).next.length f2) (.slice F3 (behindP p q).first.length f3) (.slice F4 (behindP p q).last.length f4) (.bool (behindP p q).none)
        have hp8 := hp3.side (set5_ks ⟨_, _, hk38⟩ (by decide) (by decide) (by decide) (by decide) (.slice F1 (behindS s2 p q).sets.length f1) (.slice F2 (behindS s2 p q).next.length f2) (.slice F3 (behindP p q).first.length f3) (.slice F4 (behindP p q).last.length f4) (.bool (behindP p q).none))
        have hB8 := HK.out.trans (set5_below (hHeld.mono (Nat.le_of_lt hsz)) (Nat.le_refl _) (.slice F1 (behindS s2 p q).sets.length f1) (.slice F2 (behindS s2 p q).next.length f2) (.slice F3 (behindP p q).first.length f3) (.slice F4 (behindP p q).last.length f4) (.bool (behindP p q).none))
        have Hk8 := Lib.hid hk8; have Hp8 := Lib.hid hp8; have HB8 := Lib.hid hB8
        clear hk8 hp8 hB8 hk38 hp3 hb2 hb3 hq2 hHeld
        go_wp2_with fail
        have hj := Hj.out
        have hlt := Hlt.out
        go_roundg (gk - 1)
        case measure => omega
        case rel => exact ⟨j + 1, by omega, by go_num, Lib.hid (by rw [Hsn.out]; exact ⟨_, _, _, _, _, Hk8.out, Hp8.out⟩), HB8⟩
      · obtain rfl : j = m := by omega
        have Hadds := Lib.hid hadds
        obtain ⟨-, hroom1, hroom2⟩ := hroom
        rw [← hlr] at hroom1 hroom2
        have hmx := Hmx.out
        have Kres := Lib.hid (box5 Kk2.out)
        cases hmm : (mx != -1) with
        | true =>
          have hmq : mx ≠ -1 := by simpa using hmm
          rw [if_neg hmq] at hofc
          have hr3 := hroom2 hmq
          obtain ⟨n, hn⟩ : ∃ n : Nat, mx - j = (n : Int) := ⟨(mx - j).toNat, by omega⟩
          have hnn : (mx - j).toNat = n := by omega
          have hn5 : n ≤ 512 := by omega
          have hwrap : IntKind.i64.wrap (mx - j) = (n : Int) := by rw [hn]; exact IntWalk.i64_in _ (by omega)
          simp only [hnn] at hofc hr3
          have hq := restF_adds (writeT_adds t HR.out) n sj hadds.1
          have hall := rrest_any w0 t A' c' HR.out HWT.out n sj p
          have hqq : ∃ q, restF (writeT t) n sj = q := ⟨_, rfl⟩
          obtain ⟨q, hqq⟩ := hqq
          rw [hqq] at hq hall hofc
          obtain ⟨q, s2⟩ := q
          simp only at hq hall hofc
          have Hof := Lib.hid hofc; have Hq := Lib.hid hq; have Hall := Lib.hid hall; have Hr3 := Lib.hid hr3; have Hwrap := Lib.hid hwrap
          clear hofc hq hall hr3 hroom1 hroom2 hadds hsn0 hqq hlr hn hnn hwrap hmq
          go_wp2_with fail
          refine start_ (n := 14) (S := fun w' => Below wr.heap.size wr w') (ds := [13]) #[false, false, false, false, false, false, false, false, false, false, false, false, false, false] (by kernel_rfl) rfl rfl ((Below.refl _ _).drew) (fun hHeld => ?_)
          refine pure_ (i := 1) (N := some 78) (v := ?_) (a' := ?_) #[false, true, false, false, false, false, false, false, false, false, false, false, false, false] rfl rfl (by kernel_rfl) (fun _ _ _ h => h) (Or.inl ⟨by rfl, ?_⟩) ?_ ?_
          rotate_left
          · intro w'
            go_simp
            with_reducible rfl
          rotate_left
          · simp only [Act.put, sA, sB, sC]
            rfl
          refine take_ (i := 2) (N := some 79) (v := ?_) (a' := ?_) #[false, true, true, false, false, false, false, false, false, false, false, false, false, false] rfl rfl (by kernel_rfl) (fun _ _ _ h => h) (Or.inl ⟨by rfl, ?_⟩) hHeld ?_ ?_
          rotate_left
          · intro w' sb; obtain ⟨⟨p0, p1, p2, p3, p4⟩, _, _, _, _, _, _⟩ := box5 (heap_aq sb Kk3.out); obtain ⟨m0, m1, m2, m3, m4, m5, m6, m7, _⟩ := box8' (heap_aq sb Kk0.out); obtain ⟨c0, c1, c2, c3, c4, c5, c6, c7⟩ := HKIDr.out.below sb
            go_simp
            with_reducible rfl
          rotate_left
          · simp only [Act.put, sA, sB, sC]
            rfl
          refine pure_ (i := 3) (N := some 80) (v := ?_) (a' := ?_) #[false, true, true, true, false, false, false, false, false, false, false, false, false, false] rfl rfl (by kernel_rfl) (fun _ _ _ h => h) (Or.inl ⟨by rfl, ?_⟩) ?_ ?_
          rotate_left
          · intro w'
            go_simp
            with_reducible rfl
          rotate_left
          · simp only [Act.put, sA, sB, sC]
            rfl
          refine take_ (i := 4) (N := some 81) (v := ?_) (a' := ?_) #[false, true, true, true, true, false, false, false, false, false, false, false, false, false] rfl rfl (by kernel_rfl) (fun _ _ _ h => h) (Or.inl ⟨by rfl, ?_⟩) hHeld ?_ ?_
          rotate_left
          · intro w' sb; obtain ⟨⟨p0, p1, p2, p3, p4⟩, _, _, _, _, _, _⟩ := box5 (heap_aq sb Kk3.out); obtain ⟨m0, m1, m2, m3, m4, m5, m6, m7, _⟩ := box8' (heap_aq sb Kk0.out); obtain ⟨c0, c1, c2, c3, c4, c5, c6, c7⟩ := HKIDr.out.below sb
            go_simp
            with_reducible rfl
          rotate_left
          · simp only [Act.put, sA, sB, sC]
            rfl
          refine take_ (i := 0) (N := some 77) (v := ?_) (a' := ?_) #[true, true, true, true, true, false, false, false, false, false, false, false, false, false] rfl rfl (by kernel_rfl) (fun _ _ _ h => h) (Or.inl ⟨by rfl, ?_⟩) hHeld ?_ ?_
          rotate_left
          · intro w' sb; obtain ⟨⟨p0, p1, p2, p3, p4⟩, _, _, _, _, _, _⟩ := box5 (heap_aq sb Kk3.out); obtain ⟨m0, m1, m2, m3, m4, m5, m6, m7, _⟩ := box8' (heap_aq sb Kk0.out); obtain ⟨c0, c1, c2, c3, c4, c5, c6, c7⟩ := HKIDr.out.below sb
            go_simp
            with_reducible rfl
          rotate_left
          · simp only [Act.put, sA, sB, sC]
            rfl
          refine take_ (i := 5) (N := some 82) (v := ?_) (a' := ?_) #[true, true, true, true, true, true, false, false, false, false, false, false, false, false] rfl rfl (by kernel_rfl) (fun _ _ _ h => h) (Or.inl ⟨by rfl, ?_⟩) hHeld ?_ ?_
          rotate_left
          · intro w' sb; obtain ⟨⟨p0, p1, p2, p3, p4⟩, _, _, _, _, _, _⟩ := box5 (heap_aq sb Kk3.out); obtain ⟨m0, m1, m2, m3, m4, m5, m6, m7, _⟩ := box8' (heap_aq sb Kk0.out); obtain ⟨c0, c1, c2, c3, c4, c5, c6, c7⟩ := HKIDr.out.below sb
            go_simp
            with_reducible rfl
          rotate_left
          · simp only [Act.put, sA, sB, sC]
            rfl
          refine pure_ (i := 6) (N := some 83) (v := ?_) (a' := ?_) #[true, true, true, true, true, true, true, false, false, false, false, false, false, false] rfl rfl (by kernel_rfl) (fun _ _ _ h => h) (Or.inl ⟨by rfl, ?_⟩) ?_ ?_
          rotate_left
          · intro w'
            go_simp
            with_reducible rfl
          rotate_left
          · simp only [Act.put, sA, sB, sC]
            rfl
          refine take_ (i := 7) (N := some 84) (v := ?_) (a' := ?_) #[true, true, true, true, true, true, true, true, false, false, false, false, false, false] rfl rfl (by kernel_rfl) (fun _ _ _ h => h) (Or.inl ⟨by rfl, ?_⟩) hHeld ?_ ?_
          rotate_left
          · intro w' sb; obtain ⟨⟨p0, p1, p2, p3, p4⟩, _, _, _, _, _, _⟩ := box5 (heap_aq sb Kk3.out); obtain ⟨m0, m1, m2, m3, m4, m5, m6, m7, _⟩ := box8' (heap_aq sb Kk0.out); obtain ⟨c0, c1, c2, c3, c4, c5, c6, c7⟩ := HKIDr.out.below sb
            go_simp
            with_reducible rfl
          rotate_left
          · simp only [Act.put, sA, sB, sC]
            rfl
          refine pure_ (i := 8) (N := some 85) (v := ?_) (a' := ?_) #[true, true, true, true, true, true, true, true, true, false, false, false, false, false] rfl rfl (by kernel_rfl) (fun _ _ _ h => h) (Or.inl ⟨by rfl, ?_⟩) ?_ ?_
          rotate_left
          · intro w'
            go_simp
            with_reducible rfl
          rotate_left
          · simp only [Act.put, sA, sB, sC]
            rfl
          refine take_ (i := 9) (N := some 86) (v := ?_) (a' := ?_) #[true, true, true, true, true, true, true, true, true, true, false, false, false, false] rfl rfl (by kernel_rfl) (fun _ _ _ h => h) (Or.inl ⟨by rfl, ?_⟩) hHeld ?_ ?_
          rotate_left
          · intro w' sb; obtain ⟨⟨p0, p1, p2, p3, p4⟩, _, _, _, _, _, _⟩ := box5 (heap_aq sb Kk3.out); obtain ⟨m0, m1, m2, m3, m4, m5, m6, m7, _⟩ := box8' (heap_aq sb Kk0.out); obtain ⟨c0, c1, c2, c3, c4, c5, c6, c7⟩ := HKIDr.out.below sb
            go_simp
            with_reducible rfl
          rotate_left
          · simp only [Act.put, sA, sB, sC]
            rfl
          refine pure_ (i := 10) (N := some 87) (v := (.int .i64 n)) (a' := ?_) #[true, true, true, true, true, true, true, true, true, true, true, false, false, false] rfl rfl (by kernel_rfl) (fun _ _ _ h => h) (Or.inl ⟨by rfl, ?_⟩) ?_ ?_
          · intro w'
            go_simp
            exact Hwrap.out
          rotate_left
          · simp only [Act.put, sA, sB, sC]
            rfl
          refine one_ (i := 11) (N := some 88) #[true, true, true, true, true, true, true, true, true, true, true, true, false, false] rfl rfl (by kernel_rfl) (by decide) (fun K hK => ?_)
          refine goes_ Tryd.func42 (by kernel_rfl) rfl #[(.agg #[.int .i64 t.kind, .int .u64 t.s0, .int .u64 t.s1, .int .u64 t.s2, .int .u64 t.s3, .slice A' t.kids.length c', .int .i64 t.mn, .int .i64 t.mx]), .agg #[.slice QA sj.sets.length QC, .slice RA sj.next.length RC, .slice D1 p.first.length e1, .slice D2 p.last.length e2, .bool p.none], .int .i64 n] (by rfl) rfl rfl (by (try simp only [List.map_toArray, List.map_cons, List.map_nil]); rfl) ?_
          refine (Hall.out _ _ hn5 (HB0.out.trans (hHeld.mono HB0.out.size)) (Hps.out.below hHeld) Hadds.out.1 (by have := Hr3.out; omega)).mono ?_
          rintro e w2 ⟨v2, rfl, hq2, hb2⟩
          refine ⟨_, rfl, ?_⟩
          refine hK.out _ _ (hHeld.trans (hb2.mono hHeld.size)) (fun hHeld => ?_)
          clear hK K
          refine norm_ (a' := ?_) ?_ ?_
          rotate_left
          · show Act.put _ (some 88) _ = _
            simp only [Act.put, sA, sB, sC]
            rfl
          refine one_ (i := 12) (N := some 89) #[true, true, true, true, true, true, true, true, true, true, true, true, true, false] rfl rfl (by kernel_rfl) (by decide) (fun K hK => ?_)
          refine goes_ Tryd.func41 (by kernel_rfl) rfl #[.agg #[.slice QA sj.sets.length QC, .slice RA sj.next.length RC, .slice D1 p.first.length e1, .slice D2 p.last.length e2, .bool p.none], v2] (by rfl) rfl rfl (by (try simp only [List.map_toArray, List.map_cons, List.map_nil]); rfl) ?_
          refine (rbehind_any _ v2 p q sj s2 _ (Hps.out.below hHeld) hq2 Hq.out.1 (by have := Hq.out.2.2; have := Hr3.out; omega) (Hadds.out.2.1.mono (by have := Hq.out.2.2; omega)) Hq.out.2.1).mono ?_
          rintro e w3 ⟨v3, rfl, hp3, hb3⟩
          obtain ⟨F1, f1, F2, f2, F3, f3, F4, f4, rfl, _, _, _, _⟩ := id hp3
          refine ⟨_, rfl, ?_⟩
          refine hK.out _ _ (hHeld.trans (hb3.mono hHeld.size)) (fun hHeld => ?_)
          clear hK K
          refine norm_ (a' := ?_) ?_ ?_
          rotate_left
          · show Act.put _ (some 89) _ = _
            simp only [Act.put, sA, sB, sC]
            rfl
          refine last_ (i := 13) (N := none) #[true, true, true, true, true, true, true, true, true, true, true, true, true, true] rfl rfl (by kernel_rfl) (by decide) (fun K hK => ?_)
          refine skip_ (w1 := ?_) (by rfl) rfl ?_ ?_
          rotate_left
          · obtain ⟨⟨p0, p1, p2, p3, p4⟩, y0, y1, y2, y3, y4, _⟩ := box5 (heap_aq hHeld Kk2.out)
            go_simp
            rfl
          refine hK.out _ _ ?_
          clear hK K
          refine done_ (by kernel_rfl) ?_
          obtain ⟨f1', f2', f3'⟩ := w_end (w := w) ((HB3.out.trans (HK.out.mono (by omega))).trans (hHeld.mono (by omega))) (heap_aq hHeld Kk2.out) (by omega) hp3
          have E1 := Lib.hid f1'; have E2 := Lib.hid f2'; have E3 := Lib.hid f3'
          clear f1' f2' f3' hp3 hb2 hb3 hq2 hHeld
          go_wp2_with fail
          refine bodyPost_ret (ret_w rfl _ _ (w.heap.size + 1 + 1) _ _ _ _ _ (0, 0) rfl E1.out) rfl ?_
          rw [Hof.out]
          exact ⟨_, rfl, E2.out, E3.out⟩
        | false =>
          have hmq : mx = -1 := by simpa using hmm
          rw [if_pos hmq] at hofc
          have hr2 := hroom1 hmq
          have hq := writeT_adds t HR.out sj hadds.1
          have hwrt := HWT.out sj
          have hqq : ∃ q, writeT t sj = q := ⟨_, rfl⟩
          obtain ⟨q, hqq⟩ := hqq
          rw [hqq] at hq hwrt hofc
          obtain ⟨q, s2⟩ := q
          simp only at hq hwrt hofc
          have Hof := Lib.hid hofc; have Hq := Lib.hid hq; have HWTr := Lib.hid hwrt; have Hroom := Lib.hid hr2
          clear hofc hq hwrt hr2 hroom1 hroom2 hadds hsn0 hqq hlr hmq
          go_wp2_with fail
          refine start_ (n := 8) (S := fun w' => Below wr.heap.size wr w') (ds := [7]) #[false, false, false, false, false, false, false, false] (by kernel_rfl) rfl rfl ((Below.refl _ _).drew) (fun hHeld => ?_)
          refine pure_ (i := 0) (N := some 90) (v := ?_) (a' := ?_) #[true, false, false, false, false, false, false, false] rfl rfl (by kernel_rfl) (fun _ _ _ h => h) (Or.inl ⟨by rfl, ?_⟩) ?_ ?_
          rotate_left
          · intro w'
            go_simp
            with_reducible rfl
          rotate_left
          · simp only [Act.put, sA, sB, sC]
            rfl
          refine take_ (i := 1) (N := some 91) (v := ?_) (a' := ?_) #[true, true, false, false, false, false, false, false] rfl rfl (by kernel_rfl) (fun _ _ _ h => h) (Or.inl ⟨by rfl, ?_⟩) hHeld ?_ ?_
          rotate_left
          · intro w' sb; obtain ⟨⟨p0, p1, p2, p3, p4⟩, _, _, _, _, _, _⟩ := box5 (heap_aq sb Kk3.out); obtain ⟨m0, m1, m2, m3, m4, m5, m6, m7, _⟩ := box8' (heap_aq sb Kk0.out); obtain ⟨c0, c1, c2, c3, c4, c5, c6, c7⟩ := HKIDr.out.below sb
            go_simp
            with_reducible rfl
          rotate_left
          · simp only [Act.put, sA, sB, sC]
            rfl
          refine pure_ (i := 2) (N := some 92) (v := ?_) (a' := ?_) #[true, true, true, false, false, false, false, false] rfl rfl (by kernel_rfl) (fun _ _ _ h => h) (Or.inl ⟨by rfl, ?_⟩) ?_ ?_
          rotate_left
          · intro w'
            go_simp
            with_reducible rfl
          rotate_left
          · simp only [Act.put, sA, sB, sC]
            rfl
          refine take_ (i := 3) (N := some 93) (v := ?_) (a' := ?_) #[true, true, true, true, false, false, false, false] rfl rfl (by kernel_rfl) (fun _ _ _ h => h) (Or.inl ⟨by rfl, ?_⟩) hHeld ?_ ?_
          rotate_left
          · intro w' sb; obtain ⟨⟨p0, p1, p2, p3, p4⟩, _, _, _, _, _, _⟩ := box5 (heap_aq sb Kk3.out); obtain ⟨m0, m1, m2, m3, m4, m5, m6, m7, _⟩ := box8' (heap_aq sb Kk0.out); obtain ⟨c0, c1, c2, c3, c4, c5, c6, c7⟩ := HKIDr.out.below sb
            go_simp
            with_reducible rfl
          rotate_left
          · simp only [Act.put, sA, sB, sC]
            rfl
          refine take_ (i := 4) (N := some 94) (v := ?_) (a' := ?_) #[true, true, true, true, true, false, false, false] rfl rfl (by kernel_rfl) (fun _ _ _ h => h) (Or.inl ⟨by rfl, ?_⟩) hHeld ?_ ?_
          rotate_left
          · intro w' sb; obtain ⟨⟨p0, p1, p2, p3, p4⟩, _, _, _, _, _, _⟩ := box5 (heap_aq sb Kk3.out); obtain ⟨m0, m1, m2, m3, m4, m5, m6, m7, _⟩ := box8' (heap_aq sb Kk0.out); obtain ⟨c0, c1, c2, c3, c4, c5, c6, c7⟩ := HKIDr.out.below sb
            go_simp
            with_reducible rfl
          rotate_left
          · simp only [Act.put, sA, sB, sC]
            rfl
          refine join_ (σ := Nat × Value) 1 #[true, true, true, true, true, true, true, false] (fun s => [(95, s.2), (8, .pointer (some ⟨s.1, 0, none⟩))]) (fun s w' => Below wr.heap.size wr w' ∧ WR w' s.2 q s2 ∧ w'.heap[s.1]? = some (Obj.cells #[.slice none 0 0, .slice none 0 0, .slice none 0 0, .slice none 0 0, .bool false] 56) ∧ wr.heap.size ≤ s.1) ?_ ?_
          rotate_left
          · intro hJ
            refine two_ (i := 5) (j := 6) #[true, true, true, true, true, true, false, false] #[true, true, true, true, true, false, true, false] rfl rfl rfl rfl (by kernel_rfl) (by decide) (by decide) (fun K hK => ?_) (fun K hK => ?_)
            · refine goes_ Tryd.func23 (by kernel_rfl) rfl #[(.agg #[.int .i64 t.kind, .int .u64 t.s0, .int .u64 t.s1, .int .u64 t.s2, .int .u64 t.s3, .slice A' t.kids.length c', .int .i64 t.mn, .int .i64 t.mx]), .agg #[.slice QA sj.sets.length QC, .slice RA sj.next.length RC, .slice D1 p.first.length e1, .slice D2 p.last.length e2, .bool p.none]] (by rfl) rfl rfl (by (try simp only [List.map_toArray, List.map_cons, List.map_nil]); rfl) ?_
              refine (HWTr.out p _ _ (HB0.out.trans (hHeld.mono HB0.out.size)) (Hps.out.below hHeld) Hadds.out.1 Hroom.out).mono ?_
              rintro e w2 ⟨v2, rfl, hq2, hb2⟩
              refine ⟨_, rfl, ?_⟩
              refine hK.out _ _ (hHeld.trans (hb2.mono hHeld.size)) (fun hHeld => ?_)
              clear hK K
              refine norm_ (a' := ?_) ?_ ?_
              rotate_left
              · show Act.put _ (some 95) _ = _
                simp only [Act.put, sA, sB, sC]
                rfl
              refine one_ (i := 6) (N := some 8) #[true, true, true, true, true, true, true, false] rfl rfl (by kernel_rfl) (by decide) (fun K hK => ?_)
              refine value_ (v := (.pointer (some ⟨w2.heap.size, 0, none⟩))) (w1 := (w2.alloc (Obj.cells #[.slice none 0 0, .slice none 0 0, .slice none 0 0, .slice none 0 0, .bool false] 56))) (by rfl) rfl (by first | rfl | (go_simp; done) | (go_simp; rfl)) ?_
              have hkge := hHeld.size
              have hbox := heap_a0 w2 (Obj.cells #[.slice none 0 0, .slice none 0 0, .slice none 0 0, .slice none 0 0, .bool false] 56)
              have hbal := (Below.refl w2.heap.size w2).alloc (Nat.le_refl _) (Obj.cells #[.slice none 0 0, .slice none 0 0, .slice none 0 0, .slice none 0 0, .bool false] 56)
              refine hK.out _ _ (hHeld.alloc hHeld.size _) (fun hHeld => ?_)
              clear hK K
              refine norm_ (a' := ?_) ?_ ?_
              rotate_left
              · show Act.put _ (some 8) _ = _
                simp only [Act.put, sA, sB, sC]
                rfl
              have hq2 := hq2.below hbal
              have hJ2 := hJ (w2.heap.size, v2) _ ⟨hHeld, hq2, hbox, hkge⟩
              simp only [putAll, Act.put, sA, sB, sC] at hJ2
              exact hJ2
            · refine value_ (v := (.pointer (some ⟨wr.drew.heap.size, 0, none⟩))) (w1 := (wr.drew.alloc (Obj.cells #[.slice none 0 0, .slice none 0 0, .slice none 0 0, .slice none 0 0, .bool false] 56))) (by rfl) rfl (by first | rfl | (go_simp; done) | (go_simp; rfl)) ?_
              have hkge := hHeld.size
              have hbox := heap_a0 wr.drew (Obj.cells #[.slice none 0 0, .slice none 0 0, .slice none 0 0, .slice none 0 0, .bool false] 56)
              have hbal := (Below.refl wr.drew.heap.size wr.drew).alloc (Nat.le_refl _) (Obj.cells #[.slice none 0 0, .slice none 0 0, .slice none 0 0, .slice none 0 0, .bool false] 56)
              refine hK.out _ _ (hHeld.alloc hHeld.size _) (fun hHeld => ?_)
              clear hK K
              refine norm_ (a' := ?_) ?_ ?_
              rotate_left
              · show Act.put _ (some 8) _ = _
                simp only [Act.put, sA, sB, sC]
                rfl
              refine one_ (i := 5) (N := some 95) #[true, true, true, true, true, true, true, false] rfl rfl (by kernel_rfl) (by decide) (fun K hK => ?_)
              refine goes_ Tryd.func23 (by kernel_rfl) rfl #[(.agg #[.int .i64 t.kind, .int .u64 t.s0, .int .u64 t.s1, .int .u64 t.s2, .int .u64 t.s3, .slice A' t.kids.length c', .int .i64 t.mn, .int .i64 t.mx]), .agg #[.slice QA sj.sets.length QC, .slice RA sj.next.length RC, .slice D1 p.first.length e1, .slice D2 p.last.length e2, .bool p.none]] (by rfl) rfl rfl (by (try simp only [List.map_toArray, List.map_cons, List.map_nil]); rfl) ?_
              refine (HWTr.out p _ _ (HB0.out.trans (hHeld.mono HB0.out.size)) (Hps.out.below hHeld) Hadds.out.1 Hroom.out).mono ?_
              rintro e w2 ⟨v2, rfl, hq2, hb2⟩
              refine ⟨_, rfl, ?_⟩
              refine hK.out _ _ (hHeld.trans (hb2.mono hHeld.size)) (fun hHeld => ?_)
              clear hK K
              refine norm_ (a' := ?_) ?_ ?_
              rotate_left
              · show Act.put _ (some 95) _ = _
                simp only [Act.put, sA, sB, sC]
                rfl
              have hbox := heap_aq hb2 hbox
              have hJ2 := hJ (wr.drew.heap.size, v2) _ ⟨hHeld, hq2, hbox, hkge⟩
              simp only [putAll, Act.put, sA, sB, sC] at hJ2
              exact hJ2
          rintro ⟨k, v2⟩ w5 ⟨hHeld, hq5, hk5, hkl⟩
          obtain ⟨SC3, TC3, NC3, MC3, E1, g1, E2, g2, rfl, _, _, _, _⟩ := id hq5
          refine norm_ (a' := ?_) ?_ ?_
          rotate_left
          · show putAll _ _ = _
            simp only [putAll, Act.put, sA, sB, sC]
            rfl
          refine last_ (i := 7) (N := none) #[true, true, true, true, true, true, true, true] rfl rfl (by kernel_rfl) (by decide) (fun K hK => ?_)
          refine skip_ (w1 := ?_) (by rfl) rfl ?_ ?_
          rotate_left
          · obtain ⟨⟨z0, z1, z2, z3, z4⟩, y0, y1, y2, y3, y4, _⟩ := box5 hk5
            go_simp
            rfl
          refine hK.out _ _ ?_
          clear hK K
          refine done_ (by kernel_rfl) ?_
          have hk6 := set5_box hk5 (.slice SC3 s2.sets.length TC3) (.slice NC3 s2.next.length MC3) (.slice E1 q.first.length g1) (.slice E2 q.last.length g2) (.bool q.none)
          have hks := set5_ks ⟨_, _, hk5⟩ (by decide) (by decide) (by decide) (by decide) (.slice SC3 s2.sets.length TC3) (.slice NC3 s2.next.length MC3) (.slice E1 q.first.length g1) (.slice E2 q.last.length g2) (.bool q.none)
          have hB6 := set5_below hHeld hkl (.slice SC3 s2.sets.length TC3) (.slice NC3 s2.next.length MC3) (.slice E1 q.first.length g1) (.slice E2 q.last.length g2) (.bool q.none)
          have hq6 := hq5.side hks
          obtain ⟨w6, hw6⟩ : ∃ w6, w6 = set5 w5 k (.slice SC3 s2.sets.length TC3) (.slice NC3 s2.next.length MC3) (.slice E1 q.first.length g1) (.slice E2 q.last.length g2) (.bool q.none) := ⟨_, rfl⟩
          rw [← hw6] at hk6 hB6 hq6
          simp only [set5] at hw6
          rw [← hw6]
          clear hw6 hks hq5 hk5 hHeld
          have hkk : w.heap.size + 1 + 1 + 1 < k := by omega
          have hs2 : s2.sets.length ≤ 512 := by have := Hq.out.2.2; have := Hroom.out; omega
          have hs2n : s2.next.length ≤ 512 := by rw [Hq.out.1.len]; exact hs2
          obtain ⟨⟨z0, z1, z2, z3, z4⟩, y0, y1, y2, y3, y4, kl6⟩ := box5 hk6
          have hln := Hq.out.1.len
          have hlink := link_any (B := 0) (S := Ty w6 3) (S' := Ty w6 3) _ _ _ s2.next q.last q.first w6 hq6.parts.2.1 hq6.parts.2.2.2 hq6.parts.2.2.1 (by omega)
          rw [linkL_next (nx := s2.next) (of := q.last) (sp := q.first) (by rw [hln]; exact Hq.out.1.good) (by rw [hln]; exact Hq.out.2.1.last) (by rw [hln]; exact Hq.out.2.1.first)] at hlink
          have Hlink := Lib.hid hlink; have Hq6 := Lib.hid hq6; have HB6 := Lib.hid hB6; have Hk6 := Lib.hid hk6
          clear hlink hq6 hB6 hk6 hln
          go_wp2_with fail
          refine Hlink.out.mono ?_
          rintro e w7 ⟨L1, l1, rfl, hn7, hb7⟩
          have hk7 := heap_aq hb7 Hk6.out
          obtain ⟨⟨z0, z1, z2, z3, z4⟩, y0, y1, y2, y3, y4, kl7⟩ := box5 hk7
          have hB7 := HB6.out.trans (hb7.mono HB6.out.size)
          have hksa := ((KS.refl w7).setCell (r := k) ⟨_, _, hk7⟩ (by decide) (by decide) (by decide) (by decide) 1 (.slice L1 (loopS s2 q).next.length l1)).setCell (r := k) ((Ty.set ⟨_, _, hk7⟩ _ _)) (by decide) (by decide) (by decide) (by decide) 4 (.bool true)
          have hk8 := heap_setCell_same _ k 4 (.bool true) (heap_setCell_same _ k 1 (.slice L1 (loopS s2 q).next.length l1) hk7)
          have hB8 := (hB7.setCell (p := ⟨k, 1, none⟩) hkl (.slice L1 (loopS s2 q).next.length l1)).setCell (p := ⟨k, 4, none⟩) hkl (.bool true)
          have hqp := (Hq6.out.below hb7).side hksa
          have hq8 : WR ((w7.setCell ⟨k, 1, none⟩ (.slice L1 (loopS s2 q).next.length l1)).setCell ⟨k, 4, none⟩ (.bool true)) (.agg #[.slice SC3 s2.sets.length TC3, .slice L1 (loopS s2 q).next.length l1, .slice E1 q.first.length g1, .slice E2 q.last.length g2, .bool true]) { q with none := true } (loopS s2 q) :=
            ⟨_, _, _, _, _, _, _, _, rfl, hqp.parts.1, (hn7.lower (Nat.zero_le _)).side hksa, hqp.parts.2.2.1, hqp.parts.2.2.2⟩
          have hk38 := heap_aq hB8 Kk3.out
          have hk28 := heap_aq hB8 Kk2.out
          have hp8 := Hps.out.below hB8
          obtain ⟨⟨x0, x1, x2, x3, x4⟩, _, _, _, _, _, xl⟩ := box5 (heap_aq hB7 Kk3.out)
          have Hk8 := Lib.hid hk8; have HB8 := Lib.hid hB8; have Hq8 := Lib.hid hq8; have Hp8 := Lib.hid hp8; have Hk28 := Lib.hid hk28
          clear hk7 hB7 hksa hk8 hB8 hqp hq8 hk38 hp8 hk28 hn7 hb7
          go_wp2_with fail
          have hgl : GoodSt (loopS s2 q) := Hq.out.1.nextS Hq.out.2.1.first
          refine (rbehind_any _ _ p { q with none := true } sj (loopS s2 q) _ Hp8.out Hq8.out hgl hs2 (Hadds.out.2.1.mono (show sj.sets.length ≤ s2.sets.length by have := Hq.out.2.2; omega)) ⟨Hq.out.2.1.first, Hq.out.2.1.last⟩).mono ?_
          rintro e w9 ⟨v9, rfl, hp9, hb9⟩
          obtain ⟨F1, f1, F2, f2, F3, f3, F4, f4, rfl, _, _, _, _⟩ := id hp9
          have hk29 := heap_aq hb9 Hk28.out
          obtain ⟨⟨r0, r1, r2, r3, r4⟩, t0, t1, t2, t3, t4, rl⟩ := box5 hk29
          obtain ⟨f1', f2', f3'⟩ := w_end (w := w) (((HB3.out.trans (HK.out.mono (by omega))).trans (HB8.out.mono (by omega))).trans (hb9.mono (Nat.le_trans (by omega) HB8.out.size))) hk29 (by omega) hp9
          have E1' := Lib.hid f1'; have E2' := Lib.hid f2'; have E3' := Lib.hid f3'
          clear f1' f2' f3' hp9 hb9 hk29
          go_wp2_with fail
          refine bodyPost_ret (ret_w rfl _ _ (w.heap.size + 1 + 1) _ _ _ _ _ (0, 0) rfl E1'.out) rfl ?_
          rw [Hof.out]
          exact ⟨_, rfl, E2'.out, E3'.out⟩
end Go.Proofs.YtmcoaopcmjociaaDoor

namespace Go.Proofs.YtmcoaopcmjociaaDoor
open Go Go.RowKit Go.Sort

/-- The contract of write for a One: shown in its own text. -/
def ROne : Prop := ∀ (w0 : World) (s0 s1 s2 s3 mn mx : Int) (A : Option Addr) (c : Nat), RWriteOK w0 (.node 1 s0 s1 s2 s3 [] mn mx) A c

theorem rwrite_all (hone : ROne) (w0 : World) : ∀ (d : Nat) (T : Tree) (A : Option Addr) (c : Nat), T.right = true → KidsIn w0 d T.kids A → RWriteOK w0 T A c := by
  intro d
  induction d with
  | zero => intro T A c _ h; exact h.elim
  | succ d ih =>
    intro T A c hr hk
    obtain ⟨k, s0, s1, s2, s3, l, mn, mx⟩ := T
    rcases Tree.right_kind hr with rfl | rfl | rfl | rfl
    · have := Tree.right_one hr rfl
      subst this
      exact hone w0 s0 s1 s2 s3 mn mx A c
    · exact rwrite_cat w0 d s0 s1 s2 s3 l mn mx A c (Tree.right_kids hr) hk ih
    · exact rwrite_alt w0 d s0 s1 s2 s3 l mn mx A c (Tree.right_kids hr) hk ih
    · obtain ⟨h1, h2, h3, h4⟩ := Tree.right_rep hr rfl
      match l, h1 with
      | [t], _ => exact rwrite_rep w0 d s0 s1 s2 s3 t mn mx A c (Tree.right_kids hr t (by simp)) h2 h3 h4 hk ih

theorem rCount_any (d : Nat) (T : Tree) (A : Option Addr) (c : Nat) (w : World) (h : KidsIn w d T.kids A) :
    Calls Tryd.prog 7 #[T.val A c] w fun e w' => e = .returned (.int .i64 T.count) ∧ Below w.heap.size w w' := by
  have hb := (Below.refl w.heap.size w).alloc (Nat.le_refl _) (Obj.cells #[.int .i64 T.kind, .int .u64 T.s0, .int .u64 T.s1, .int .u64 T.s2, .int .u64 T.s3, .slice A T.kids.length c, .int .i64 T.mn, .int .i64 T.mx] 27)
  have hk := heap_a0 w (Obj.cells #[.int .i64 T.kind, .int .u64 T.s0, .int .u64 T.s1, .int .u64 T.s2, .int .u64 T.s3, .slice A T.kids.length c, .int .i64 T.mn, .int .i64 T.mx] 27)
  have hr := Lib.hid (rright_any d T A c _ (h.below hb))
  have Hb := Lib.hid hb; have HK := Lib.hid hk; have HKI := Lib.hid (h.below hb)
  clear hb h hk
  go_enter Tryd.func7, Tryd.ntmps7
  go_wp2_with fail
  refine hr.out.mono ?_
  rintro e w1 ⟨rfl, hb1⟩
  have Hb1 := Lib.hid (Hb.out.trans (hb1.mono Hb.out.size))
  obtain ⟨m0, m1, m2, m3, m4, m5, m6, m7, _⟩ := box8' (heap_aq hb1 HK.out)
  have HK1 := Lib.hid (HKI.out.below hb1)
  clear hb1
  cases hrt : T.right with
  | false =>
    go_wp2_with fail
    refine bodyPost_ret (results_tmp rfl _ _ _) rfl ?_
    exact ⟨by simp [Tree.count, hrt], Hb1.out⟩
  | true =>
    have hc := Lib.hid (rcount_any d T A c w1 hrt HK1.out)
    have Hrt := Lib.hid hrt
    clear hrt
    go_wp2_with fail
    refine hc.out.mono ?_
    rintro e w2 ⟨rfl, hb2⟩
    have Hb2 := Lib.hid (Hb1.out.trans (hb2.mono Hb1.out.size))
    clear hb2
    go_wp2_with fail
    refine bodyPost_ret (results_tmp rfl _ _ _) rfl ?_
    exact ⟨by simp [Tree.count, Hrt.out], Hb2.out⟩

set_option maxRecDepth 100000 in
set_option maxHeartbeats 4000000 in
theorem rof_any (hone : ROne) (d : Nat) (T : Tree) (A : Option Addr) (c : Nat) (w : World) (hk : KidsIn w d T.kids A) :
    Calls Tryd.prog 10 #[T.val A c] w fun e w' => ∃ v, e = .returned (.tuple #[v, .int .i64 (ofF T).2]) ∧ SpotsIn w' v (ofF T).1.1 (ofF T).1.2 ∧ Below w.heap.size w w' := by
  have hb2 := ((Below.refl w.heap.size w).alloc (Nat.le_refl _) (Obj.cells #[.int .i64 T.kind, .int .u64 T.s0, .int .u64 T.s1, .int .u64 T.s2, .int .u64 T.s3, .slice A T.kids.length c, .int .i64 T.mn, .int .i64 T.mx] 27)).alloc (by simp) (Obj.cells #[.slice none 0 0, .bool false, .slice none 0 0, .slice none 0 0, .slice none 0 0] 35)
  have hx1 := heap_a1 (o' := (Obj.cells #[.slice none 0 0, .bool false, .slice none 0 0, .slice none 0 0, .slice none 0 0] 35)) (heap_a0 w (Obj.cells #[.int .i64 T.kind, .int .u64 T.s0, .int .u64 T.s1, .int .u64 T.s2, .int .u64 T.s3, .slice A T.kids.length c, .int .i64 T.mn, .int .i64 T.mx] 27))
  have hx2 := heap_aB w (Obj.cells #[.int .i64 T.kind, .int .u64 T.s0, .int .u64 T.s1, .int .u64 T.s2, .int .u64 T.s3, .slice A T.kids.length c, .int .i64 T.mn, .int .i64 T.mx] 27) (Obj.cells #[.slice none 0 0, .bool false, .slice none 0 0, .slice none 0 0, .slice none 0 0] 35)
  have hright := rright_any d T A c _ (hk.below hb2)
  have Hb2 := Lib.hid hb2; have Hx1 := Lib.hid hx1; have Hx2 := Lib.hid hx2; have Hright := Lib.hid hright; have HK := Lib.hid (hk.below hb2); have HONE := Lib.hid hone
  clear hb2 hx1 hx2 hright hk hone
  go_enter Tryd.func10, Tryd.ntmps10
  go_wp2_with fail
  refine Hright.out.mono ?_
  rintro e w1 ⟨rfl, hB1⟩
  have hx11 := heap_aq hB1 Hx1.out
  have hx21 := heap_aq hB1 Hx2.out
  obtain ⟨K0, K1, K2, K3, K4, K5, K6, K7, hkl⟩ := box8' hx11
  have hB1w := Hb2.out.trans (hB1.mono Hb2.out.size)
  obtain ⟨⟨R0, R1, R2, R3, R4⟩, Z0, Z1, Z2, Z3, Z4, hrl⟩ := box5 hx21
  cases hr : T.right with
  | false =>
    obtain ⟨e1, e2, e3⟩ := spots_end hB1w hx21 (by omega) (spots_nil w1)
    have E1 := Lib.hid e1; have E2 := Lib.hid e2; have E3 := Lib.hid e3
    have Hof := Lib.hid (show ofF T = ((⟨[], [], false⟩, emptySt), 7) by simp [ofF, hr])
    clear e1 e2 e3 hx11 hx21 hB1 hB1w
    go_wp2_with fail
    refine bodyPost_ret (ret_spots rfl _ _ (w.heap.size + 1) _ _ _ _ _ (0, 0) rfl E1.out) rfl ?_
    rw [Hof.out]
    exact ⟨_, rfl, E2.out, E3.out⟩
  | true =>
    have hcount := rcount_any d T A c w1 hr (HK.out.below hB1)
    have Hcount := Lib.hid hcount; have HB1 := Lib.hid hB1; have HB1w := Lib.hid hB1w; have Hx11 := Lib.hid hx11; have Hx21 := Lib.hid hx21; have Hr := Lib.hid hr
    clear hcount hB1 hB1w hx11 hx21 hr
    go_wp2_with fail
    refine Hcount.out.mono ?_
    rintro e w2 ⟨rfl, hB2⟩
    have hx12 := heap_aq hB2 Hx11.out
    have hx22 := heap_aq hB2 Hx21.out
    obtain ⟨K0, K1, K2, K3, K4, K5, K6, K7, hkl2⟩ := box8' hx12
    obtain ⟨⟨R0, R1, R2, R3, R4⟩, Z0, Z1, Z2, Z3, Z4, hrl2⟩ := box5 hx22
    have hB2w := HB1w.out.trans (hB2.mono HB1w.out.size)
    by_cases hc : T.cnt > 512
    · obtain ⟨e1, e2, e3⟩ := spots_end hB2w hx22 (by omega) (spots_nil w2)
      have E1 := Lib.hid e1; have E2 := Lib.hid e2; have E3 := Lib.hid e3
      have Hof := Lib.hid (show ofF T = ((⟨[], [], false⟩, emptySt), 16) by simp [ofF, Hr.out, hc])
      clear e1 e2 e3 hx12 hx22 hB2 hB2w
      go_wp2_with fail
      refine bodyPost_ret (ret_spots rfl _ _ (w.heap.size + 1) _ _ _ _ _ (0, 0) rfl E1.out) rfl ?_
      rw [Hof.out]
      exact ⟨_, rfl, E2.out, E3.out⟩
    · have Hof := Lib.hid (show ofF T = (writeT T emptySt, 0) by simp [ofF, Hr.out, hc])
      have hcs := cnt_spots T Hr.out
      have hwrite := rwrite_all HONE.out w2 d T A c Hr.out ((HK.out.below HB1.out).below hB2) emptySt ⟨[], [], false⟩ (.agg #[.slice none 0 0, .slice none 0 0, .slice none 0 0, .slice none 0 0, .bool false]) w2 (Below.refl _ _)
        ⟨none, 0, none, 0, none, 0, none, 0, rfl, ⟨by simp [cells4, emptySt], .inl ⟨rfl, rfl⟩⟩, NXR.nil _ _, IR.nil _ _, IR.nil _ _⟩ good_empty (by show 0 + _ ≤ 512; omega)
      obtain ⟨q, hpq⟩ : ∃ q, q = writeT T emptySt := ⟨_, rfl⟩
      have hof := Hof.out
      rw [← hpq] at hwrite hof
      obtain ⟨p, s⟩ := q
      simp only at hwrite
      have Hof := Lib.hid hof; have Hwrite := Lib.hid hwrite; have Hx22 := Lib.hid hx22; have HB2w := Lib.hid hB2w
      clear hof hwrite hpq hcs hx12 hx22 hB2w hB2
      go_wp2_with fail
      refine Hwrite.out.mono ?_
      rintro e w3 ⟨v3, rfl, hp3, hB3⟩
      obtain ⟨SA, SC, NA, NC, A1, c1, A2, c2, rfl, h1, h2, h3, h4⟩ := hp3
      have hspn : SpotsIn w3 (.agg #[.slice SA s.sets.length SC, .bool p.none, .slice A1 p.first.length c1, .slice A2 p.last.length c2, .slice NA s.next.length NC]) p s := by
        obtain ⟨vs, n1, n2⟩ := h2
        exact ⟨_, _, _, _, vs, rfl, h1, n1, n2, h3, h4⟩
      have hx3 := heap_aq hB3 Hx22.out
      obtain ⟨e1, e2, e3⟩ := spots_end (HB2w.out.trans (hB3.mono HB2w.out.size)) hx3 (by omega) hspn
      obtain ⟨⟨R0, R1, R2, R3, R4⟩, Z0, Z1, Z2, Z3, Z4, hrl3⟩ := box5 hx3
      have E1 := Lib.hid (heap_a1 (o' := (Obj.cells #[.slice SA s.sets.length SC, .slice NA s.next.length NC, .slice A1 p.first.length c1, .slice A2 p.last.length c2, .bool p.none] 56)) e1)
      have E2 := Lib.hid (e2.below ((Below.refl _ _).alloc (Nat.le_refl _) (Obj.cells #[.slice SA s.sets.length SC, .slice NA s.next.length NC, .slice A1 p.first.length c1, .slice A2 p.last.length c2, .bool p.none] 56)))
      have E3 := Lib.hid (e3.alloc e3.size (Obj.cells #[.slice SA s.sets.length SC, .slice NA s.next.length NC, .slice A1 p.first.length c1, .slice A2 p.last.length c2, .bool p.none] 56))
      clear e1 e2 e3 hspn hx3 hB3 h1 h2 h3 h4
      go_wp2_with fail
      refine bodyPost_ret (ret_spots rfl _ _ (w.heap.size + 1) _ _ _ _ _ (0, 0) rfl E1.out) rfl ?_
      rw [Hof.out]
      exact ⟨_, rfl, E2.out, E3.out⟩
end Go.Proofs.YtmcoaopcmjociaaDoor
