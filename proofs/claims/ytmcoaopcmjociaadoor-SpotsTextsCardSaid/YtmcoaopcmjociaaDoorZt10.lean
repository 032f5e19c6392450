/- spots.Of. The chapter's example: its pattern is read; its spots. spots.Right of spots that read. Plain law: reading a text along spots. No program in sight. spots.Right. Rows of sets, place by place. Plain law: where a pattern's texts end that begin at marked places. No program in sight. -/
import Derived.Test.YtmcoaopcmjociaaDoorZt6
import Derived.Test.YtmcoaopcmjociaaDoorZt9
import Derived.Test.YtmcoaopcmjociaaDoorZt2
import Derived.Laws.ResultCell
import Derived.Test.YtmcoaopcmjociaaDoorZt8
import Derived.Deep.QuietTactic
import Derived.BigQuiet
import Derived.Outline
import Derived.Test.YtmcoaopcmjociaaDoorZt1
namespace Go.Proofs.YtmcoaopcmjociaaDoor
open Go Go.RowKit Go.Sort Go.Proofs.YtmcoaopcmjociaaDoorW.PrintLast

/-- A copy of a list that reads. -/
theorem clone_any {v : Value} {xs : List Int} {w : World} (h : IRT w v xs) :
    Calls Tryd.prog 22 #[v] w fun e w' => ∃ A c, e = .returned (.slice A xs.length c) ∧ IRT w' (.slice A xs.length c) xs ∧ Below w.heap.size w w' := by
  obtain ⟨A, c, rfl, hl, hc⟩ := h.form
  have hb := h.len
  cases xs with
  | nil =>
    cases A with
    | none => exact (Tryd.slices_Clone_int_nil _ c w).mono fun e w' ⟨he, hw⟩ => ⟨none, 0, by rw [he]; rfl, IR.nil _ _, by rw [hw]; exact Below.refl _ _⟩
    | some a =>
      refine (Tryd.slices_Clone_int_zero a c w).mono ?_
      rintro e w' ⟨v', rfl, ho, _, hb'⟩
      have hi : IRT w' v' [] := IRT.own ho (by simp)
      obtain ⟨A', c', rfl, _⟩ := hi.form
      exact ⟨A', c', rfl, hi, hb'⟩
  | cons x xs =>
    obtain ⟨b, off, rfl, _, hcs⟩ := hc (by simp)
    refine (Tryd.slices_Clone_int b off _ c (x :: xs) w (Nat.le_refl _) (by omega) hcs).mono ?_
    rintro e w' ⟨v', rfl, ho, _, hb'⟩
    rw [List.take_length] at ho
    have hi : IRT w' v' (x :: xs) := IRT.own ho hb
    obtain ⟨A', c', rfl, _⟩ := hi.form
    exact ⟨A', c', rfl, hi, hb'⟩

def emptySt : St := ⟨[], []⟩
/-- What spots.Of comes to. -/
def ofF (T : Tree) : (Part × St) × Int := if T.right = false then ((⟨[], [], false⟩, emptySt), 7) else if T.cnt > 512 then ((⟨[], [], false⟩, emptySt), 16) else (writeT T emptySt, 0)
/-- A pattern's spots, by value. -/
def SpotsIn (w : World) (v : Value) (p : Part) (s : St) : Prop := ∃ Sv fv lv Nv vs, v = .agg #[Sv, .bool p.none, fv, lv, Nv] ∧ w.ownsRow 0 24 4 Sv s.sets.length (cells4 s.sets) ∧ w.ownsRow 0 32 1 Nv s.next.length vs ∧
  (∀ (i : Nat) (v : Value) (xs : List Int), vs[i]? = some v → s.next[i]? = some xs → IRT w v xs) ∧ IRT w fv p.first ∧ IRT w lv p.last
theorem SpotsIn.below {w w' : World} {v : Value} {p : Part} {s : St} (h : SpotsIn w v p s) (hb : Below w.heap.size w w') : SpotsIn w' v p s := by
  obtain ⟨Sv, fv, lv, Nv, vs, rfl, h1, h2, h3, h4, h5⟩ := h
  exact ⟨Sv, fv, lv, Nv, vs, rfl, own_keep h1 fun k hk _ => hb.block k hk.lt, own_keep h2 fun k hk _ => hb.block k hk.lt, fun i v xs a b => IRT.below (h3 i v xs a b) hb, IRT.below h4 hb, IRT.below h5 hb⟩
theorem spotsInfo : (Tryd.prog.info? 35).map (·.size) = some 5 := by kernel_rfl
theorem ret_spots {fn : Func} {p u : Tmp} (h : fn.results = #[.cell p 35, .tmp u]) (tmps : Array Value) (w : World) (g : Nat) (v0 v1 v2 v3 v4 : Value) (fr : Nat × Nat) (hp : tmps.getD p undef = .pointer (some ⟨g, 0, none⟩)) (hg : w.heap[g]? = some (.cells #[v0, v1, v2, v3, v4] 35 fr)) :
    (results fn tmps).run Tryd.prog w = .ok (.tuple #[.agg #[v0, v1, v2, v3, v4], tmps.getD u undef]) w := by
  have hp' : tmps[p]?.getD undef = .pointer (some ⟨g, 0, none⟩) := by simpa using hp
  simp [results, h, hp', asAddr, run_loadVar_row w g 35 35 _ fr _ hg Tryd.underlying35 rfl spotsInfo]

theorem box5 {w : World} {k : Nat} {v0 v1 v2 v3 v4 : Value} {t : TypeId} (h : w.heap[k]? = some (.cells #[v0, v1, v2, v3, v4] t (0, 0))) :
    (w.cell? ⟨k, 0, none⟩ = some v0 ∧ w.cell? ⟨k, 1, none⟩ = some v1 ∧ w.cell? ⟨k, 2, none⟩ = some v2 ∧ w.cell? ⟨k, 3, none⟩ = some v3 ∧ w.cell? ⟨k, 4, none⟩ = some v4) ∧
    w.frozen? ⟨k, 0, none⟩ = false ∧ w.frozen? ⟨k, 1, none⟩ = false ∧ w.frozen? ⟨k, 2, none⟩ = false ∧ w.frozen? ⟨k, 3, none⟩ = false ∧ w.frozen? ⟨k, 4, none⟩ = false ∧ k < w.heap.size :=
  ⟨⟨cell_of h rfl, cell_of h rfl, cell_of h rfl, cell_of h rfl, cell_of h rfl⟩, frozen_of h, frozen_of h, frozen_of h, frozen_of h, frozen_of h, (Array.getElem?_eq_some_iff.1 h).1⟩
abbrev set5 (w : World) (r : Nat) (v0 v1 v2 v3 v4 : Value) : World := ((((w.setCell ⟨r, 0, none⟩ v0).setCell ⟨r, 1, none⟩ v1).setCell ⟨r, 2, none⟩ v2).setCell ⟨r, 3, none⟩ v3).setCell ⟨r, 4, none⟩ v4
/-- The end of spots.Of: five stores into the result's box. -/
theorem spots_end {w w2 : World} (hB : Below w.heap.size w w2) {r : Nat} {x0 x1 x2 x3 x4 : Value} (hr : w2.heap[r]? = some (.cells #[x0, x1, x2, x3, x4] 35 (0, 0))) (hnew : w.heap.size ≤ r) {p : Part} {s : St} {v0 v1 v2 v3 v4 : Value} (hs : SpotsIn w2 (.agg #[v0, v1, v2, v3, v4]) p s) :
    (set5 w2 r v0 v1 v2 v3 v4).heap[r]? = some (.cells #[v0, v1, v2, v3, v4] 35 (0, 0)) ∧ SpotsIn (set5 w2 r v0 v1 v2 v3 v4) (.agg #[v0, v1, v2, v3, v4]) p s ∧ Below w.heap.size w (set5 w2 r v0 v1 v2 v3 v4) := by
  have ht : Ty w2 35 r := ⟨_, _, hr⟩
  have hks : KS w2 (set5 w2 r v0 v1 v2 v3 v4) := (((((KS.refl w2).setCell ht (by decide) (by decide) (by decide) (by decide) 0 v0).setCell (ht.set _ _) (by decide) (by decide) (by decide) (by decide) 1 v1).setCell ((ht.set _ _).set _ _) (by decide) (by decide) (by decide) (by decide) 2 v2).setCell (((ht.set _ _).set _ _).set _ _) (by decide) (by decide) (by decide) (by decide) 3 v3).setCell ((((ht.set _ _).set _ _).set _ _).set _ _) (by decide) (by decide) (by decide) (by decide) 4 v4
  refine ⟨heap_setCell_same _ r 4 v4 (heap_setCell_same _ r 3 v3 (heap_setCell_same _ r 2 v2 (heap_setCell_same _ r 1 v1 (heap_setCell_same _ r 0 v0 hr)))), ?_, ?_⟩
  · obtain ⟨Sv, fv, lv, Nv, vs, he, h1, h2, h3, h4, h5⟩ := hs
    exact ⟨Sv, fv, lv, Nv, vs, he, own_keep h1 fun k hk _ => hks.typed k _ hk (by simp), own_keep h2 fun k hk _ => hks.typed k _ hk (by simp), fun i v xs a b => IRT.keep (h3 i v xs a b) hks.keep3, IRT.keep h4 hks.keep3, IRT.keep h5 hks.keep3⟩
  · exact ((((hB.setCell hnew v0).setCell hnew v1).setCell hnew v2).setCell hnew v3).setCell hnew v4
theorem spots_nil (w : World) : SpotsIn w (.agg #[.slice none 0 0, .bool false, .slice none 0 0, .slice none 0 0, .slice none 0 0]) ⟨[], [], false⟩ emptySt :=
  ⟨_, _, _, _, [], rfl, ⟨by simp [cells4, emptySt], .inl ⟨rfl, rfl⟩⟩, ⟨by simp [emptySt], .inl ⟨rfl, rfl⟩⟩, fun i v xs h => by simp at h, IR.nil _ _, IR.nil _ _⟩

theorem good_empty : GoodSt emptySt := ⟨rfl, fun l h => by simp [emptySt] at h⟩
theorem keep50 {w : World} {r k : Nat} {cs : Array Value} {m : Nat × Nat} {t : TypeId} (hr : w.heap[r]? = some (.cells cs 50 m)) (hk : Ty w t k) (ht : t ≠ 50) (j : Nat) (v : Value) : (w.setCell ⟨r, j, none⟩ v).heap[k]? = w.heap[k]? := by
  refine Below.heap_setCell w ⟨r, j, none⟩ v k (fun h => ?_)
  obtain ⟨cs', m', hc⟩ := hk
  have h' : k = r := h
  rw [h', hr] at hc
  exact ht (Obj.cells.inj (Option.some.inj hc)).2.1.symm

set_option maxRecDepth 100000 in
set_option maxHeartbeats 4000000 in
theorem of_any (d : Nat) (T : Tree) (A : Option Addr) (c : Nat) (w : World) (hk : KidsIn w d T.kids A) :
    Calls Tryd.prog 9 #[T.val A c] w fun e w' => ∃ v, e = .returned (.tuple #[v, .int .i64 (ofF T).2]) ∧ SpotsIn w' v (ofF T).1.1 (ofF T).1.2 ∧ Below w.heap.size w w' := by
  have hb2 := ((Below.refl w.heap.size w).alloc (Nat.le_refl _) (Obj.cells #[.int .i64 T.kind, .int .u64 T.s0, .int .u64 T.s1, .int .u64 T.s2, .int .u64 T.s3, .slice A T.kids.length c, .int .i64 T.mn, .int .i64 T.mx] 27)).alloc (by simp) (Obj.cells #[.slice none 0 0, .bool false, .slice none 0 0, .slice none 0 0, .slice none 0 0] 35)
  have hx1 := heap_a1 (o' := (Obj.cells #[.slice none 0 0, .bool false, .slice none 0 0, .slice none 0 0, .slice none 0 0] 35)) (heap_a0 w (Obj.cells #[.int .i64 T.kind, .int .u64 T.s0, .int .u64 T.s1, .int .u64 T.s2, .int .u64 T.s3, .slice A T.kids.length c, .int .i64 T.mn, .int .i64 T.mx] 27))
  have hx2 := heap_aB w (Obj.cells #[.int .i64 T.kind, .int .u64 T.s0, .int .u64 T.s1, .int .u64 T.s2, .int .u64 T.s3, .slice A T.kids.length c, .int .i64 T.mn, .int .i64 T.mx] 27) (Obj.cells #[.slice none 0 0, .bool false, .slice none 0 0, .slice none 0 0, .slice none 0 0] 35)
  have hright := right_any d T A c _ (hk.below hb2)
  have Hb2 := Lib.hid hb2; have Hx1 := Lib.hid hx1; have Hx2 := Lib.hid hx2; have Hright := Lib.hid hright; have HK := Lib.hid (hk.below hb2)
  clear hb2 hx1 hx2 hright hk
  go_enter Tryd.func9, Tryd.ntmps9
  go_wp2_with fail
  refine Hright.out.mono ?_
  rintro e w1 ⟨rfl, hB1⟩
  have hx11 := heap_aq hB1 Hx1.out
  have hx21 := heap_aq hB1 Hx2.out
  obtain ⟨K0, K1, K2, K3, K4, K5, K6, K7, hkl⟩ := box8 hx11
  have hB1w := Hb2.out.trans (hB1.mono Hb2.out.size)
  obtain ⟨⟨R0, R1, R2, R3, R4⟩, Z0, Z1, Z2, Z3, Z4, hrl⟩ := box5 hx21
  cases hr : T.right with
  | false =>
    obtain ⟨e1, e2, e3⟩ := spots_end hB1w hx21 (by omega) (spots_nil w1)
    have E1 := Lib.hid e1; have E2 := Lib.hid e2; have E3 := Lib.hid e3
    have Hof := Lib.hid (show ofF T = ((⟨[], [], false⟩, emptySt), 7) by simp [ofF, hr])
    clear e1 e2 e3 hx11 hx21 hB1 hB1w
    go_wp2_with fail
    refine bodyPost_ret (ret_spots rfl _ _ (w.heap.size + 1) _ _ _ _ _ (0, 0) rfl E1.out) rfl ?_
    rw [Hof.out]
    exact ⟨_, rfl, E2.out, E3.out⟩
  | true =>
    have hcount := count_any d T A c w1 hr (HK.out.below hB1)
    have Hcount := Lib.hid hcount; have HB1 := Lib.hid hB1; have HB1w := Lib.hid hB1w; have Hx11 := Lib.hid hx11; have Hx21 := Lib.hid hx21; have Hr := Lib.hid hr
    clear hcount hB1 hB1w hx11 hx21 hr
    go_wp2_with fail
    refine Hcount.out.mono ?_
    rintro e w2 ⟨rfl, hB2⟩
    have hx12 := heap_aq hB2 Hx11.out
    have hx22 := heap_aq hB2 Hx21.out
    obtain ⟨K0, K1, K2, K3, K4, K5, K6, K7, hkl2⟩ := box8 hx12
    obtain ⟨⟨R0, R1, R2, R3, R4⟩, Z0, Z1, Z2, Z3, Z4, hrl2⟩ := box5 hx22
    have hB2w := HB1w.out.trans (hB2.mono HB1w.out.size)
    by_cases hc : T.cnt > 512
    · obtain ⟨e1, e2, e3⟩ := spots_end hB2w hx22 (by omega) (spots_nil w2)
      have E1 := Lib.hid e1; have E2 := Lib.hid e2; have E3 := Lib.hid e3
      have Hof := Lib.hid (show ofF T = ((⟨[], [], false⟩, emptySt), 16) by simp [ofF, Hr.out, hc])
      clear e1 e2 e3 hx12 hx22 hB2 hB2w
      go_wp2_with fail
      refine bodyPost_ret (ret_spots rfl _ _ (w.heap.size + 1) _ _ _ _ _ (0, 0) rfl E1.out) rfl ?_
      rw [Hof.out]
      exact ⟨_, rfl, E2.out, E3.out⟩
    · have Hof := Lib.hid (show ofF T = (writeT T emptySt, 0) by simp [ofF, Hr.out, hc])
      have Hx12 := Lib.hid hx12; have Hx22 := Lib.hid hx22; have HB2w := Lib.hid hB2w; have HB2 := Lib.hid hB2
      clear hx12 hx22 hB2w hB2
      have hw0 : WInv w2.heap.size w2.heap.size (w2.alloc (Obj.cells #[.slice none 0 0, .bool false, .slice none 0 0, .slice none 0 0, .slice none 0 0] 50)) emptySt :=
        ⟨.slice none 0 0, .slice none 0 0, [], Nat.le_refl _, by simp, heap_a0 _ _, ⟨by simp [cells4, emptySt], .inl ⟨rfl, rfl⟩⟩, ⟨by simp [emptySt], .inl ⟨rfl, rfl⟩⟩, fun i v xs h => by simp at h, good_empty, by simp [emptySt]⟩
      have hbw := (Below.refl w2.heap.size w2).alloc (Nat.le_refl _) (Obj.cells #[.slice none 0 0, .bool false, .slice none 0 0, .slice none 0 0, .slice none 0 0] 50)
      have hcs := cnt_spots T Hr.out
      have hwrite := write_any w2 w2.heap.size d T A c Hr.out ((HK.out.below HB1.out).below HB2.out) emptySt _ hbw hw0 (by show 0 + _ ≤ 512; omega)
      obtain ⟨p, hpq⟩ : ∃ p, p = writeT T emptySt := ⟨_, rfl⟩
      have hof := Hof.out
      rw [← hpq] at hwrite hof
      obtain ⟨p, s⟩ := p
      simp only at hwrite
      have Hof := Lib.hid hof; have Hwrite := Lib.hid hwrite; have Hbw := Lib.hid hbw
      clear hof hwrite hpq hw0 hcs hbw
      go_wp2_with fail
      refine Hwrite.out.mono ?_
      rintro e w3 ⟨A3, c3, A4, c4, rfl, hp3, hW3, hK3⟩
      obtain ⟨Sv, Nv, vs, hat⟩ := hW3
      obtain ⟨SA, SC, rfl⟩ := own_shape hat.sets
      obtain ⟨NA, NC, rfl⟩ := own_shape hat.next
      have hB3 : Below w2.heap.size w2 w3 := Hbw.out.trans hK3.below
      have hbp := (Below.refl w3.heap.size w3).alloc (Nat.le_refl _) (Obj.cells #[.slice A3 p.first.length c3, .slice A4 p.last.length c4, .bool p.none] 52)
      have hpb := heap_a0 w3 (Obj.cells #[.slice A3 p.first.length c3, .slice A4 p.last.length c4, .bool p.none] 52)
      have Hat := Lib.hid hat; have HB3 := Lib.hid hB3; have Hbp := Lib.hid hbp; have Hpb := Lib.hid hpb; have Hp3 := Lib.hid hp3
      clear hat hB3 hbp hpb hp3 hK3
      go_wp2_with fail
      obtain ⟨wp, hwp⟩ : ∃ wp, wp = w3.alloc (Obj.cells #[.slice A3 p.first.length c3, .slice A4 p.last.length c4, .bool p.none] 52) := ⟨_, rfl⟩
      have hbp := Hbp.out
      have hpb := Hpb.out
      rw [← hwp] at hbp hpb ⊢
      clear hwp Hbp Hpb
      have Hatp := Lib.hid (Hat.out.below hbp)
      have Hps := Lib.hid (show PartSl wp p A3 c3 A4 c4 from ⟨IRT.below Hp3.out.1 hbp, IRT.below Hp3.out.2 hbp⟩)
      have HBp := Lib.hid (HB2w.out.trans ((HB3.out.mono HB2w.out.size).trans (hbp.mono (Nat.le_trans HB2w.out.size HB3.out.size))))
      have Hx2p := Lib.hid (heap_aq hbp (heap_aq HB3.out Hx22.out))
      have Hpb := Lib.hid hpb
      clear hbp hpb
      have hlt32 : w2.heap.size < w3.heap.size := (Array.getElem?_eq_some_iff.1 Hat.out.box).1
      refine start_ (n := 17) (S := fun w' => w'.heap[w3.heap.size]? = some (.cells #[.slice A3 p.first.length c3, .slice A4 p.last.length c4, .bool p.none] 52 (0, 0)) ∧ ∃ x y z, w'.heap[w2.heap.size]? = some (.cells #[.slice SA s.sets.length SC, x, y, z, .slice NA s.next.length NC] 50 (0, 0))) (ds := []) #[false, false, false, false, false, false, false, false, false, false, false, false, false, false, false, false, false] (by kernel_rfl) rfl rfl ⟨Hpb.out, _, _, _, Hatp.out.box⟩ (fun hHeld => ?_)
      refine pure_ (i := 0) (N := some 18) (v := ?_) (a' := ?_) #[true, false, false, false, false, false, false, false, false, false, false, false, false, false, false, false, false] rfl rfl (by kernel_rfl) (fun _ _ _ h => h) (Or.inl ⟨by rfl, ?_⟩) ?_ ?_
      rotate_left
      · intro w'
        go_simp
        with_reducible rfl
      rotate_left
      · simp only [Act.put, sA, sB, sC]
        rfl
      refine take_ (i := 1) (N := some 19) (v := ?_) (a' := ?_) #[true, true, false, false, false, false, false, false, false, false, false, false, false, false, false, false, false] rfl rfl (by kernel_rfl) (fun _ _ _ h => h) (Or.inl ⟨by rfl, ?_⟩) hHeld ?_ ?_
      rotate_left
      · rintro w' ⟨sp, _⟩; obtain ⟨u0, u1, u2, _, _, _, _⟩ := part3 sp
        go_simp
        with_reducible rfl
      rotate_left
      · simp only [Act.put, sA, sB, sC]
        rfl
      refine pure_ (i := 3) (N := some 21) (v := ?_) (a' := ?_) #[true, true, false, true, false, false, false, false, false, false, false, false, false, false, false, false, false] rfl rfl (by kernel_rfl) (fun _ _ _ h => h) (Or.inl ⟨by rfl, ?_⟩) ?_ ?_
      rotate_left
      · intro w'
        go_simp
        with_reducible rfl
      rotate_left
      · simp only [Act.put, sA, sB, sC]
        rfl
      refine take_ (i := 4) (N := some 22) (v := ?_) (a' := ?_) #[true, true, false, true, true, false, false, false, false, false, false, false, false, false, false, false, false] rfl rfl (by kernel_rfl) (fun _ _ _ h => h) (Or.inl ⟨by rfl, ?_⟩) hHeld ?_ ?_
      rotate_left
      · rintro w' ⟨sp, _⟩; obtain ⟨u0, u1, u2, _, _, _, _⟩ := part3 sp
        go_simp
        with_reducible rfl
      rotate_left
      · simp only [Act.put, sA, sB, sC]
        rfl
      refine pure_ (i := 6) (N := some 24) (v := ?_) (a' := ?_) #[true, true, false, true, true, false, true, false, false, false, false, false, false, false, false, false, false] rfl rfl (by kernel_rfl) (fun _ _ _ h => h) (Or.inl ⟨by rfl, ?_⟩) ?_ ?_
      rotate_left
      · intro w'
        go_simp
        with_reducible rfl
      rotate_left
      · simp only [Act.put, sA, sB, sC]
        rfl
      refine take_ (i := 7) (N := some 25) (v := ?_) (a' := ?_) #[true, true, false, true, true, false, true, true, false, false, false, false, false, false, false, false, false] rfl rfl (by kernel_rfl) (fun _ _ _ h => h) (Or.inl ⟨by rfl, ?_⟩) hHeld ?_ ?_
      rotate_left
      · rintro w' ⟨sp, _⟩; obtain ⟨u0, u1, u2, _, _, _, _⟩ := part3 sp
        go_simp
        with_reducible rfl
      rotate_left
      · simp only [Act.put, sA, sB, sC]
        rfl
      refine one_ (i := 2) (N := some 20) #[true, true, true, true, true, false, true, true, false, false, false, false, false, false, false, false, false] rfl rfl (by kernel_rfl) (by decide) (fun K hK => ?_)
      refine goes_ Tryd.func22 (by kernel_rfl) rfl #[.slice A3 p.first.length c3] (by rfl) rfl rfl (by (try simp only [List.map_toArray, List.map_cons, List.map_nil]); rfl) ?_
      refine (clone_any (w := wp.drew) (xs := p.first) (IRT.below Hps.out.1 ((Below.refl wp.heap.size wp).drew))).mono ?_
      rintro e w4 ⟨A5, c5, rfl, hf4, hB4⟩
      refine ⟨_, rfl, ?_⟩
      refine hK.out _ _ ⟨heap_aq hB4 hHeld.1, hHeld.2.elim fun x h => h.elim fun y h => h.elim fun z h => ⟨x, y, z, heap_aq hB4 h⟩⟩ (fun hHeld => ?_)
      clear hK K
      refine norm_ (a' := ?_) ?_ ?_
      rotate_left
      · show Act.put _ (some 20) _ = _
        simp only [Act.put, sA, sB, sC]
        rfl
      refine one_ (i := 5) (N := some 23) #[true, true, true, true, true, true, true, true, false, false, false, false, false, false, false, false, false] rfl rfl (by kernel_rfl) (by decide) (fun K hK => ?_)
      refine goes_ Tryd.func22 (by kernel_rfl) rfl #[.slice A4 p.last.length c4] (by rfl) rfl rfl (by (try simp only [List.map_toArray, List.map_cons, List.map_nil]); rfl) ?_
      refine (clone_any (w := w4) (xs := p.last) (IRT.below Hps.out.2 (((Below.refl wp.heap.size wp).drew).trans hB4))).mono ?_
      rintro e w5 ⟨A6, c6, rfl, hl5, hB5⟩
      refine ⟨_, rfl, ?_⟩
      refine hK.out _ _ ⟨heap_aq hB5 hHeld.1, hHeld.2.elim fun x h => h.elim fun y h => h.elim fun z h => ⟨x, y, z, heap_aq hB5 h⟩⟩ (fun hHeld => ?_)
      clear hK K
      refine norm_ (a' := ?_) ?_ ?_
      rotate_left
      · show Act.put _ (some 23) _ = _
        simp only [Act.put, sA, sB, sC]
        rfl
      refine pure_ (i := 8) (N := some 26) (v := ?_) (a' := ?_) #[true, true, true, true, true, true, true, true, true, false, false, false, false, false, false, false, false] rfl rfl (by kernel_rfl) (fun _ _ _ h => h) (Or.inl ⟨by rfl, ?_⟩) ?_ ?_
      rotate_left
      · intro w'
        go_simp
        with_reducible rfl
      rotate_left
      · simp only [Act.put, sA, sB, sC]
        rfl
      refine pure_ (i := 9) (N := some 27) (v := ?_) (a' := ?_) #[true, true, true, true, true, true, true, true, true, true, false, false, false, false, false, false, false] rfl rfl (by kernel_rfl) (fun _ _ _ h => h) (Or.inl ⟨by rfl, ?_⟩) ?_ ?_
      rotate_left
      · intro w'
        go_simp
        with_reducible rfl
      rotate_left
      · simp only [Act.put, sA, sB, sC]
        rfl
      refine one_ (i := 10) (N := none) #[true, true, true, true, true, true, true, true, true, true, true, false, false, false, false, false, false] rfl rfl (by kernel_rfl) (by decide) (fun K hK => ?_)
      refine skip_ (w1 := ?_) (by rfl) rfl ?_ ?_
      rotate_left
      · obtain ⟨x, y, z, hb⟩ := hHeld.2; obtain ⟨⟨q0, q1, q2, q3, q4⟩, z0, z1, z2, z3, z4, _⟩ := box5 hb
        go_simp
        rfl
      refine hK.out _ _ ⟨(Below.heap_setCell _ _ _ _ (by show w3.heap.size ≠ w2.heap.size; omega)).trans hHeld.1, hHeld.2.elim fun x h => h.elim fun y h => h.elim fun z h => ⟨x, _, z, heap_setCell_same _ _ 2 _ h⟩⟩ (fun hHeld => ?_)
      clear hK K
      refine pure_ (i := 11) (N := some 28) (v := ?_) (a' := ?_) #[true, true, true, true, true, true, true, true, true, true, true, true, false, false, false, false, false] rfl rfl (by kernel_rfl) (fun _ _ _ h => h) (Or.inl ⟨by rfl, ?_⟩) ?_ ?_
      rotate_left
      · intro w'
        go_simp
        with_reducible rfl
      rotate_left
      · simp only [Act.put, sA, sB, sC]
        rfl
      refine pure_ (i := 12) (N := some 29) (v := ?_) (a' := ?_) #[true, true, true, true, true, true, true, true, true, true, true, true, true, false, false, false, false] rfl rfl (by kernel_rfl) (fun _ _ _ h => h) (Or.inl ⟨by rfl, ?_⟩) ?_ ?_
      rotate_left
      · intro w'
        go_simp
        with_reducible rfl
      rotate_left
      · simp only [Act.put, sA, sB, sC]
        rfl
      refine one_ (i := 13) (N := none) #[true, true, true, true, true, true, true, true, true, true, true, true, true, true, false, false, false] rfl rfl (by kernel_rfl) (by decide) (fun K hK => ?_)
      refine skip_ (w1 := ?_) (by rfl) rfl ?_ ?_
      rotate_left
      · obtain ⟨x, y, z, hb⟩ := hHeld.2; obtain ⟨⟨q0, q1, q2, q3, q4⟩, z0, z1, z2, z3, z4, _⟩ := box5 hb
        go_simp
        rfl
      refine hK.out _ _ ⟨(Below.heap_setCell _ _ _ _ (by show w3.heap.size ≠ w2.heap.size; omega)).trans hHeld.1, hHeld.2.elim fun x h => h.elim fun y h => h.elim fun z h => ⟨x, y, _, heap_setCell_same _ _ 3 _ h⟩⟩ (fun hHeld => ?_)
      clear hK K
      refine pure_ (i := 14) (N := some 30) (v := ?_) (a' := ?_) #[true, true, true, true, true, true, true, true, true, true, true, true, true, true, true, false, false] rfl rfl (by kernel_rfl) (fun _ _ _ h => h) (Or.inl ⟨by rfl, ?_⟩) ?_ ?_
      rotate_left
      · intro w'
        go_simp
        with_reducible rfl
      rotate_left
      · simp only [Act.put, sA, sB, sC]
        rfl
      refine pure_ (i := 15) (N := some 31) (v := ?_) (a' := ?_) #[true, true, true, true, true, true, true, true, true, true, true, true, true, true, true, true, false] rfl rfl (by kernel_rfl) (fun _ _ _ h => h) (Or.inl ⟨by rfl, ?_⟩) ?_ ?_
      rotate_left
      · intro w'
        go_simp
        with_reducible rfl
      rotate_left
      · simp only [Act.put, sA, sB, sC]
        rfl
      refine one_ (i := 16) (N := none) #[true, true, true, true, true, true, true, true, true, true, true, true, true, true, true, true, true] rfl rfl (by kernel_rfl) (by decide) (fun K hK => ?_)
      refine skip_ (w1 := ?_) (by rfl) rfl ?_ ?_
      rotate_left
      · obtain ⟨x, y, z, hb⟩ := hHeld.2; obtain ⟨⟨q0, q1, q2, q3, q4⟩, z0, z1, z2, z3, z4, _⟩ := box5 hb
        go_simp
        rfl
      refine hK.out _ _ ⟨(Below.heap_setCell _ _ _ _ (by show w3.heap.size ≠ w2.heap.size; omega)).trans hHeld.1, hHeld.2.elim fun x h => h.elim fun y h => h.elim fun z h => ⟨_, y, z, heap_setCell_same _ _ 1 _ h⟩⟩ (fun hHeld => ?_)
      clear hK K
      refine done_ (by kernel_rfl) ?_
      have hB45 : Below wp.heap.size wp w5 := ((Below.refl wp.heap.size wp).drew).trans (hB4.trans (hB5.mono hB4.size))
      have hb5 := heap_aq hB45 Hatp.out.box
      have hb6 := heap_setCell_same _ _ 2 (.slice A5 p.first.length c5) hb5
      have hb7 := heap_setCell_same _ _ 3 (.slice A6 p.last.length c6) hb6
      have hb8 := heap_setCell_same _ _ 1 (.bool p.none) hb7
      have hkp : ∀ (t : TypeId) (k : Nat), Ty w5 t k → t ≠ 50 → (((w5.setCell ⟨w2.heap.size, 2, none⟩ (.slice A5 p.first.length c5)).setCell ⟨w2.heap.size, 3, none⟩ (.slice A6 p.last.length c6)).setCell ⟨w2.heap.size, 1, none⟩ (.bool p.none)).heap[k]? = w5.heap[k]? := fun t k hk ht =>
        (keep50 hb7 ((hk.set _ _).set _ _) ht 1 _).trans ((keep50 hb6 (hk.set _ _) ht 3 _).trans (keep50 hb5 hk ht 2 _))
      have hk3 : Keep3 w5 (((w5.setCell ⟨w2.heap.size, 2, none⟩ (.slice A5 p.first.length c5)).setCell ⟨w2.heap.size, 3, none⟩ (.slice A6 p.last.length c6)).setCell ⟨w2.heap.size, 1, none⟩ (.bool p.none)) := ⟨by simp, fun k hk => hkp _ k hk (by decide)⟩
      have hat5 := Hatp.out.below hB45
      have hs8 : SpotsIn (((w5.setCell ⟨w2.heap.size, 2, none⟩ (.slice A5 p.first.length c5)).setCell ⟨w2.heap.size, 3, none⟩ (.slice A6 p.last.length c6)).setCell ⟨w2.heap.size, 1, none⟩ (.bool p.none)) (.agg #[.slice SA s.sets.length SC, .bool p.none, .slice A5 p.first.length c5, .slice A6 p.last.length c6, .slice NA s.next.length NC]) p s :=
        ⟨_, _, _, _, vs, rfl, own_keep (ownsRow_lower hat5.sets (Nat.zero_le _)) fun k hk _ => hkp _ k hk (by decide), own_keep (ownsRow_lower hat5.next (Nat.zero_le _)) fun k hk _ => hkp _ k hk (by decide),
          fun i v xs a b => IRT.keep (hat5.each i v xs a b) hk3, IRT.keep (IRT.below hf4 hB5) hk3, IRT.keep hl5 hk3⟩
      have hBx : Below w.heap.size w (((w5.setCell ⟨w2.heap.size, 2, none⟩ (.slice A5 p.first.length c5)).setCell ⟨w2.heap.size, 3, none⟩ (.slice A6 p.last.length c6)).setCell ⟨w2.heap.size, 1, none⟩ (.bool p.none)) :=
        (((HBp.out.trans (hB45.mono HBp.out.size)).setCell HB2w.out.size _).setCell HB2w.out.size _).setCell HB2w.out.size _
      have hx8 := (hkp _ _ ⟨_, _, heap_aq hB45 Hx2p.out⟩ (by decide)).trans (heap_aq hB45 Hx2p.out)
      obtain ⟨w8, hw8⟩ : ∃ w8, w8 = (((w5.setCell ⟨w2.heap.size, 2, none⟩ (.slice A5 p.first.length c5)).setCell ⟨w2.heap.size, 3, none⟩ (.slice A6 p.last.length c6)).setCell ⟨w2.heap.size, 1, none⟩ (.bool p.none)) := ⟨_, rfl⟩
      rw [← hw8] at hb8 hs8 hBx hx8 ⊢
      clear hw8 hkp hk3 hb5 hb6 hb7 hat5 hB45 hf4 hl5 hB4 hB5 hHeld
      obtain ⟨⟨y0, y1, y2, y3, y4⟩, _, _, _, _, _, hyl⟩ := box5 hb8
      obtain ⟨⟨R0, R1, R2, R3, R4⟩, Z0, Z1, Z2, Z3, Z4, hrl8⟩ := box5 hx8
      obtain ⟨e1, e2, e3⟩ := spots_end hBx hx8 (by omega) hs8
      have E1 := Lib.hid e1; have E2 := Lib.hid e2; have E3 := Lib.hid e3
      clear e1 e2 e3 hb8 hs8 hBx hx8
      go_wp2_with fail
      refine bodyPost_ret (ret_spots rfl _ _ (w.heap.size + 1) _ _ _ _ _ (0, 0) rfl E1.out) rfl ?_
      rw [Hof.out]
      exact ⟨_, rfl, E2.out, E3.out⟩
end Go.Proofs.YtmcoaopcmjociaaDoor

namespace Go.Proofs.YtmcoaopcmjociaaDoor
open Go Go.RowKit

/-- The example's text: a(b|c)* -/
def exS : ByteArray := ⟨#[97, 40, 98, 124, 99, 41, 42]⟩
/-- The example's tree. -/
def exT : Tree := .node 2 0 0 0 0 [oneT 97, .node 4 0 0 0 0 [.node 3 0 0 0 0 [oneT 98, oneT 99] 0 0] 0 (-1)] 0 0
theorem exS_size : exS.size = 7 := rfl

theorem ex_cat1 (i : Nat) (b : Nat) (hi : i < 7) (hb : peekN exS i = b) (h1 : 97 ≤ b) (h2 : b ≤ 122) (he : peekN exS (i + 1) = 124 ∨ peekN exS (i + 1) = 41) : Reads 49 exS i 1 (oneT b) (i + 1) 2 := by
  have hs : exS.size ≤ 1048576 := by decide
  have hi' : i + 1 ≤ exS.size := by rw [exS_size]; omega
  have ha := atom_letter exS i 1 b 0 hs (by rw [exS_size]; omega) hb h1 h2
  have hp := piece_plain exS i (i + 1) 1 (oneT b) 1 hs hi' (by rcases he with h | h <;> rw [h] <;> decide) ha
  refine cat_any exS i (i + 1) 1 [oneT b] 1 hs (Cats.cons i (i + 1) (i + 1) _ _ (by omega) (by omega) (by omega) (by omega) hp (Cats.nil _ hi' (.inr he))) (by simp [oneT, Tree.kind]) (by simp)
theorem ex_alt : Reads 36 exS 2 1 (.node 3 0 0 0 0 [oneT 98, oneT 99] 0 0) 5 3 :=
  alt_any exS 2 3 5 1 (oneT 98) [oneT 99] 2 (by decide) (ex_cat1 2 98 (by omega) (by decide) (by omega) (by omega) (.inl (by decide))) (Bars.cons 3 5 5 _ _ (by decide) (by decide) (ex_cat1 4 99 (by omega) (by decide) (by omega) (by omega) (.inr (by decide))) (Bars.nil 5 (by decide) (by decide))) (by simp [oneT, Tree.kind]) (by decide)
theorem ex_reads : Reads 36 exS 0 0 exT 7 6 := by
  have hg := atom_group exS 1 5 0 _ 3 (by decide) (by decide) (by decide) (by decide) (by decide) (by decide) (by decide) ex_alt
  have hp := piece_star exS 1 6 0 _ 3 (by decide) (by decide) (by decide) hg
  have hq := piece_plain exS 0 1 0 (oneT 97) 4 (by decide) (by decide) (by decide) (atom_letter exS 0 0 97 3 (by decide) (by decide) (by decide) (by decide) (by decide))
  have hc := cat_any exS 0 7 0 [oneT 97, .node 4 0 0 0 0 [.node 3 0 0 0 0 [oneT 98, oneT 99] 0 0] 0 (-1)] 4 (by decide) (Cats.cons 0 1 7 _ _ (by decide) (by decide) (by decide) (by decide) hq (Cats.cons 1 7 7 _ _ (by decide) (by decide) (by decide) (by decide) hp (Cats.nil 7 (by decide) (.inl (by decide))))) (by simp [oneT, Tree.kind]) (by decide)
  exact alt_any exS 0 7 7 0 exT [] 5 (by decide) hc (Bars.nil 7 (by decide) (by decide)) (by simp [exT, Tree.kind]) (by decide)
theorem ex_parse (w : World) : Calls Tryd.prog 20 #[.string exS] w fun e w' => ∃ A c, e = .returned (.tuple #[exT.val A c, .agg #[.int .i64 0, .int .i64 0]]) ∧ KidsIn w' 6 exT.kids A ∧ Below w.heap.size w w' :=
  parse_any exS exT 6 w (by decide) ex_reads

/-- Merging, in a form that computes. -/
def insI (x : Int) : List Int → List Int
  | [] => [x]
  | y :: l => if x < y then x :: y :: l else if x = y then y :: l else y :: insI x l
theorem mem_insI (x z : Int) : ∀ l, z ∈ insI x l ↔ z = x ∨ z ∈ l
  | [] => by simp [insI]
  | y :: l => by
    unfold insI
    split
    · simp
    · split
      · rename_i h; subst h; simp
      · simp only [List.mem_cons, mem_insI x z l]
        constructor
        · rintro (h | h | h)
          · exact .inr (.inl h)
          · exact .inl h
          · exact .inr (.inr h)
        · rintro (h | h | h)
          · exact .inr (.inl h)
          · exact .inl h
          · exact .inr (.inr h)
theorem insI_sorted (x : Int) : ∀ l : List Int, l.Pairwise (· < ·) → (insI x l).Pairwise (· < ·)
  | [], _ => by simp [insI]
  | y :: l, h => by
    obtain ⟨h1, h2⟩ := List.pairwise_cons.1 h
    unfold insI
    split
    · rename_i hx
      refine List.pairwise_cons.2 ⟨fun z hz => ?_, h⟩
      rcases List.mem_cons.1 hz with rfl | hz
      · exact hx
      · have := h1 z hz; omega
    · split
      · exact h
      · refine List.pairwise_cons.2 ⟨fun z hz => ?_, insI_sorted x l h2⟩
        rcases (mem_insI x z l).1 hz with rfl | hz
        · omega
        · exact h1 z hz
def mI (a b : List Int) : List Int := (a ++ b).foldr insI []
theorem mergeL_mI (a b : List Int) : mergeL a b = mI a b := by
  refine rising_ext (mergeL_sorted a b) ?_ fun x => ?_
  · unfold mI
    generalize a ++ b = l
    induction l with
    | nil => simp
    | cons y l ih => exact insI_sorted y _ ih
  · rw [mem_mergeL, ← List.mem_append]
    unfold mI
    generalize a ++ b = l
    induction l with
    | nil => simp
    | cons y l ih => simp only [List.foldr_cons, mem_insI, List.mem_cons, ih]
theorem ex_of : ofF exT = ((⟨[0], [0, 1, 2], false⟩, ⟨[byteS 97, byteS 98, byteS 99], [[1, 2], [1, 2], [1, 2]]⟩), 0) := by
  have h1 : exT.right = true := by kernel_rfl
  have h2 : exT.cnt = 3 := by kernel_rfl
  have h3 : (Tree.node 3 0 0 0 0 [oneT 98, oneT 99] 0 0).cnt = 2 := by kernel_rfl
  unfold ofF
  rw [h1, h2, if_neg (by simp), if_neg (by omega)]
  congr 1
  simp [exT, writeT, writeCat, writeRep, oftenF, h3, manyF]
  simp [writeAlt, oneT, writeT, behindP, behindS, loopS, nextL, mergeL_mI, emptyP, emptySt, mI, insI]
end Go.Proofs.YtmcoaopcmjociaaDoor

namespace Go.Proofs.YtmcoaopcmjociaaDoor
open Go Go.RowKit Go.Sort

/-- A row of sets that reads. -/
def SetsR (w : World) (A : Option Addr) (ss : List S4) : Prop := ss.length ≤ 17592186044416 ∧ ∀ (i : Nat) (h : i < ss.length), ∃ b off, A = some ⟨b, off, none⟩ ∧
  w.cell? ⟨b, off + i * 4, none⟩ = some (.int .u64 ss[i].1) ∧ w.cell? ⟨b, off + i * 4 + 1, none⟩ = some (.int .u64 ss[i].2.1) ∧ w.cell? ⟨b, off + i * 4 + 2, none⟩ = some (.int .u64 ss[i].2.2.1) ∧ w.cell? ⟨b, off + i * 4 + 3, none⟩ = some (.int .u64 ss[i].2.2.2)
/-- A row of lists that reads. -/
def ListsR (w : World) (A : Option Addr) (ls : List (List Int)) : Prop := ls.length ≤ 17592186044416 ∧ ∀ (i : Nat) (h : i < ls.length), ∃ b off v, A = some ⟨b, off, none⟩ ∧ w.cell? ⟨b, off + i, none⟩ = some v ∧ IR (fun _ => True) w v ls[i]
/-- Spots that read. -/
def SpR (w : World) (v : Value) (p : Part) (s : St) : Prop := ∃ SA SC fv lv NA NC, v = .agg #[.slice SA s.sets.length SC, .bool p.none, fv, lv, .slice NA s.next.length NC] ∧ SetsR w SA s.sets ∧ ListsR w NA s.next ∧ IR (fun _ => True) w fv p.first ∧ IR (fun _ => True) w lv p.last
theorem SetsR.below {w w' : World} {A : Option Addr} {ss : List S4} (h : SetsR w A ss) (hb : Below w.heap.size w w') : SetsR w' A ss := ⟨h.1, fun i hi => by
  obtain ⟨b, off, hA, h0, h1, h2, h3⟩ := h.2 i hi
  exact ⟨b, off, hA, cell_keep hb h0, cell_keep hb h1, cell_keep hb h2, cell_keep hb h3⟩⟩
theorem ListsR.below {w w' : World} {A : Option Addr} {ls : List (List Int)} (h : ListsR w A ls) (hb : Below w.heap.size w w') : ListsR w' A ls := ⟨h.1, fun i hi => by
  obtain ⟨b, off, v, hA, h0, h1⟩ := h.2 i hi
  exact ⟨b, off, v, hA, cell_keep hb h0, h1.below hb⟩⟩
theorem SpR.below {w w' : World} {v : Value} {p : Part} {s : St} (h : SpR w v p s) (hb : Below w.heap.size w w') : SpR w' v p s := by
  obtain ⟨SA, SC, fv, lv, NA, NC, rfl, h1, h2, h3, h4⟩ := h
  exact ⟨SA, SC, fv, lv, NA, NC, rfl, h1.below hb, h2.below hb, h3.below hb, h4.below hb⟩

/-- Are numbers those of spots, rising? -/
def risingB (many : Int) : Int → List Int → Bool
  | _, [] => true
  | last, x :: l => if x ≤ last ∨ many ≤ x then false else risingB many x l
def rightB (p : Part) (s : St) : Bool := decide (s.sets.length ≤ 512) && decide (s.next.length = s.sets.length) && risingB s.sets.length (-1) p.first && risingB s.sets.length (-1) p.last && !s.next.any fun l => !risingB s.sets.length (-1) l

set_option maxRecDepth 100000 in
theorem rising_any {S : Nat → Prop} (va : Value) (xs : List Int) (many : Int) (w : World) (h : IR S w va xs) :
    Calls Tryd.prog 26 #[va, .int .i64 many] w fun e w' => e = .returned (.bool (risingB many (-1) xs)) ∧ w = w' := by
  have hl := h.len
  obtain ⟨A, c, rfl, hc, hcs⟩ := h.form
  have HC := Lib.hid hcs
  clear h hcs
  go_enter Tryd.func26, Tryd.ntmps26
  go_wp2_with fail
  go_loopg [5, 10] xs.length (fun g v i wr => ∃ (j : Nat) (last : Int), j + g = xs.length ∧ i = .int .i64 j ∧ v = .int .i64 last ∧ Hid (risingB many (-1) xs = risingB many last (xs.drop j)) ∧ wr = w)
  case atStart => exact ⟨0, -1, by omega, rfl, rfl, Lib.hid rfl, rfl⟩
  case round =>
    obtain ⟨j, last, hj, rfl, rfl, HI, rfl⟩ := hrel
    have Hj := Lib.hid hj
    by_cases hlt : j < xs.length
    · obtain ⟨b, off, rfl, _, hx⟩ := HC.out (by omega)
      have hxj := hx j hlt
      have hd := List.drop_eq_getElem_cons hlt
      rw [List.getD_eq_getElem?_getD, List.getElem?_eq_getElem hlt] at hxj
      simp only [Option.getD_some] at hxj
      have HD := Lib.hid hd
      obtain ⟨x, hxx⟩ : ∃ x, x = xs[j] := ⟨_, rfl⟩
      rw [← hxx] at hxj HD
      clear hx hd hxx hj
      by_cases h1 : x ≤ last
      · have hI : risingB many (-1) xs = false := by rw [HI.out, HD.out]; simp [risingB, h1]
        have HI2 := Lib.hid hI
        clear hI
        go_wp2_with fail
        go_ret
        exact ⟨by rw [HI2.out]; rfl, rfl⟩
      · by_cases h2 : many ≤ x
        · have hI : risingB many (-1) xs = false := by rw [HI.out, HD.out]; simp [risingB, h2]
          have HI2 := Lib.hid hI
          clear hI
          go_wp2_with fail
          go_ret
          exact ⟨by rw [HI2.out]; rfl, rfl⟩
        · have hI : risingB many (-1) xs = risingB many x (xs.drop (j + 1)) := by rw [HI.out, HD.out]; simp [risingB, h1, h2]
          have HI2 := Lib.hid hI
          clear hI
          go_wp2_with fail
          have hj := Hj.out
          go_roundg (gk - 1)
          case measure => omega
          case rel => exact ⟨j + 1, x, by omega, by go_num, rfl, HI2, rfl⟩
    · have hI : risingB many (-1) xs = true := by rw [HI.out, List.drop_eq_nil_of_le (by omega)]; rfl
      have HI2 := Lib.hid hI
      clear hI hj
      go_wp2_with fail
      go_ret
      exact ⟨by rw [HI2.out]; rfl, rfl⟩

set_option maxRecDepth 100000 in
theorem right1_any {S : Nat → Prop} (va : Value) (xs : List Int) (many : Int) (mb : Nat) (w : World) (h : IR S w va xs) (hm : w.cell? ⟨mb, 0, none⟩ = some (.int .i64 many)) :
    Calls Tryd.prog 28 #[va, .pointer (some ⟨mb, 0, none⟩)] w fun e w' => e = .returned (.bool (!risingB many (-1) xs)) ∧ w = w' := by
  have H := Lib.hid (rising_any va xs many w h)
  clear h
  go_enter Tryd.func28, Tryd.ntmps28
  go_wp2_with fail
  refine H.out.mono ?_
  rintro e w1 ⟨rfl, rfl⟩
  go_wp2_with fail
  go_ret
  exact ⟨rfl, rfl⟩

/-- An index that says whether there is one. -/
def IdxPost (b : Bool) (w : World) (e : Ending) (w' : World) : Prop := ∃ r : Int, (if b then 0 ≤ r else r = -1) ∧ e = .returned (.int .i64 r) ∧ w = w'

set_option maxRecDepth 100000 in
theorem index_lists (A : Option Addr) (c : Nat) (ls : List (List Int)) (many : Int) (mb : Nat) (w : World) (h : ListsR w A ls) (hm : w.cell? ⟨mb, 0, none⟩ = some (.int .i64 many)) :
    Calls Tryd.prog 45 #[.slice A ls.length c, .func (Fn.func 28) #[] #[.pointer (some ⟨mb, 0, none⟩)]] w (IdxPost (ls.any fun l => !risingB many (-1) l) w) := by
  have hl := h.1
  have H := Lib.hid h
  have HM := Lib.hid hm
  clear h hm
  go_enter Tryd.func45, Tryd.ntmps45
  go_wp2_with fail
  go_loopg [8] ls.length (fun g i wr => ∃ j : Nat, j + g = ls.length ∧ i = .int .i64 j ∧ Hid ((ls.any fun l => !risingB many (-1) l) = (ls.drop j).any fun l => !risingB many (-1) l) ∧ wr = w)
  case atStart => exact ⟨0, by omega, rfl, Lib.hid rfl, rfl⟩
  case round =>
    obtain ⟨j, hj, rfl, HI, rfl⟩ := hrel
    have Hj := Lib.hid hj
    by_cases hlt : j < ls.length
    · obtain ⟨b, off, v, rfl, hv, hir⟩ := H.out.2 j hlt
      have hd := List.drop_eq_getElem_cons hlt
      have HD := Lib.hid hd
      have HR := Lib.hid (right1_any v ls[j] many mb _ hir HM.out)
      clear hd hir hj
      go_wp2_with fail
      refine HR.out.mono ?_
      rintro e w1 ⟨rfl, rfl⟩
      cases hr : risingB many (-1) ls[j] with
      | false =>
        have hI : (ls.any fun l => !risingB many (-1) l) = true := by rw [HI.out, HD.out, List.any_cons, hr]; rfl
        have HI2 := Lib.hid hI
        clear hI hr
        go_wp2_with fail
        go_ret
        exact ⟨j, by rw [HI2.out]; simp, rfl, rfl⟩
      | true =>
        have hI : (ls.any fun l => !risingB many (-1) l) = (ls.drop (j + 1)).any fun l => !risingB many (-1) l := by rw [HI.out, HD.out, List.any_cons, hr]; rfl
        have HI2 := Lib.hid hI
        clear hI hr
        go_wp2_with fail
        have hj := Hj.out
        go_roundg (gk - 1)
        case measure => omega
        case rel => exact ⟨j + 1, by omega, by go_num, HI2, rfl⟩
    · have hI : (ls.any fun l => !risingB many (-1) l) = false := by rw [HI.out, List.drop_eq_nil_of_le (by omega)]; rfl
      have HI2 := Lib.hid hI
      clear hI hj
      go_wp2_with fail
      go_ret
      exact ⟨-1, by rw [HI2.out]; simp, rfl, rfl⟩

set_option maxRecDepth 100000 in
theorem contains_lists (A : Option Addr) (c : Nat) (ls : List (List Int)) (many : Int) (mb : Nat) (w : World) (h : ListsR w A ls) (hm : w.cell? ⟨mb, 0, none⟩ = some (.int .i64 many)) :
    Calls Tryd.prog 27 #[.slice A ls.length c, .func (Fn.func 28) #[] #[.pointer (some ⟨mb, 0, none⟩)]] w fun e w' => e = .returned (.bool (ls.any fun l => !risingB many (-1) l)) ∧ w = w' := by
  have H := Lib.hid (index_lists A c ls many mb w h hm)
  clear h hm
  go_enter Tryd.func27, Tryd.ntmps27
  go_wp2_with fail
  refine H.out.mono ?_
  rintro e w1 ⟨r, hr, rfl, rfl⟩
  cases hb : ls.any fun l => !risingB many (-1) l with
  | false =>
    rw [hb] at hr
    simp at hr
    subst hr
    have HB := Lib.hid hb
    clear hb
    go_wp2_with fail
    go_ret
    exact ⟨by rw [HB.out]; rfl, rfl⟩
  | true =>
    rw [hb] at hr
    simp at hr
    have hr2 : decide (0 ≤ r) = true := by simpa using hr
    have HB := Lib.hid hb
    clear hb
    go_wp2_with fail
    go_ret
    exact ⟨by rw [HB.out]; simp [hr], rfl⟩
end Go.Proofs.YtmcoaopcmjociaaDoor

namespace Go.Proofs.YtmcoaopcmjociaaDoor
open Go Go.RowKit Go.Sort

def keepB (s : St) (b : Nat) (k : Int) : Bool := hasB (s.sets.getD k.toNat (0, 0, 0, 0)) b
/-- Of open spots those that read a byte. -/
def thenL (s : St) (b : Nat) (ol : List Int) : List Int := ol.filter (keepB s b)
/-- May a spot come next of some? -/
def nextOf (s : St) (th : List Int) (m : Nat) : Bool := th.any fun k => (s.next.getD k.toNat []).contains (m : Int)
/-- The spots that are open next. -/
def openL (s : St) (th : List Int) : List Int := ((List.range s.sets.length).filter (nextOf s th)).map Int.ofNat
/-- Which spots may have been read last. -/
def runM (s : St) : List Nat → List Int → List Int
  | [], ol => ol
  | [b], ol => thenL s b ol
  | b :: c :: bs, ol => runM s (c :: bs) (openL s (thenL s b ol))
def matchB (p : Part) (s : St) (t : List Nat) : Bool := rightB p s && (if t = [] then p.none else p.last.any fun k => (runM s t p.first).contains k)

/-- The marks of a list, up to n. -/
def marksOf (n : Nat) (f : Nat → Bool) : List Bool := (List.range n).map f
theorem marksOf_len (n : Nat) (f : Nat → Bool) : (marksOf n f).length = n := by simp [marksOf]
theorem marksOf_get (n : Nat) (f : Nat → Bool) (i : Nat) (h : i < n) : (marksOf n f)[i]? = some (f i) := by simp [marksOf, h]
theorem marksOf_set (n : Nat) (f : Nat → Bool) (k : Nat) : (marksOf n f).set k true = marksOf n fun m => f m || decide (m = k) := by
  apply List.ext_getElem?
  intro i
  rcases Nat.lt_or_ge i n with h | h
  · rw [marksOf_get n _ i h]
    by_cases hk : k = i
    · subst hk
      rw [List.getElem?_set_self (by rw [marksOf_len]; exact h)]
      simp
    · rw [List.getElem?_set_ne hk, marksOf_get n _ i h]
      simp [Ne.symm hk]
  · rw [List.getElem?_eq_none (by rw [List.length_set, marksOf_len]; exact h), List.getElem?_eq_none (by rw [marksOf_len]; exact h)]
theorem marksOf_false (n : Nat) : marksOf n (fun _ => false) = List.replicate n false := by
  apply List.ext_getElem
  · simp [marksOf]
  · intro i h1 h2; simp [marksOf]
theorem marksOf_congr (n : Nat) {f g : Nat → Bool} (h : ∀ i, i < n → f i = g i) : marksOf n f = marksOf n g := by
  unfold marksOf
  exact List.map_congr_left fun i hi => h i (List.mem_range.1 hi)

theorem risingB_good (m : Nat) : ∀ (l : List Int) (a : Int), risingB m a l = true → (∀ x ∈ l, a < x ∧ x < m) ∧ l.Pairwise (· < ·)
  | [], a, _ => by simp
  | x :: l, a, h => by
    unfold risingB at h
    by_cases h1 : x ≤ a ∨ (m : Int) ≤ x
    · rw [if_pos h1] at h; cases h
    · rw [if_neg h1] at h
      obtain ⟨h2, h3⟩ := risingB_good m l x h
      refine ⟨fun y hy => ?_, List.pairwise_cons.2 ⟨fun y hy => (h2 y hy).1, h3⟩⟩
      rcases List.mem_cons.1 hy with rfl | hy
      · omega
      · have := h2 y hy; omega
theorem good_of_rising {m : Nat} {l : List Int} (h : risingB m (-1) l = true) : Good m l := by
  obtain ⟨h1, h2⟩ := risingB_good m l (-1) h
  exact ⟨h2, fun x hx => by have := h1 x hx; omega⟩
theorem rising_of_good' (m : Nat) : ∀ (l : List Int) (a : Int), l.Pairwise (· < ·) → (∀ x ∈ l, a < x ∧ x < m) → risingB m a l = true
  | [], a, _, _ => rfl
  | x :: l, a, h, hx => by
    obtain ⟨h1, h2⟩ := List.pairwise_cons.1 h
    have h3 := hx x (by simp)
    unfold risingB
    rw [if_neg (by omega)]
    exact rising_of_good' m l x h2 fun y hy => ⟨h1 y hy, (hx y (by simp [hy])).2⟩
theorem rising_of_good {m : Nat} {l : List Int} (h : Good m l) : risingB m (-1) l = true := rising_of_good' m l (-1) h.1 fun x hx => by have := h.2 x hx; omega
theorem right_parts {p : Part} {s : St} (h : rightB p s = true) : s.sets.length ≤ 512 ∧ s.next.length = s.sets.length ∧ Good s.sets.length p.first ∧ Good s.sets.length p.last ∧ ∀ l ∈ s.next, Good s.sets.length l := by
  unfold rightB at h
  simp only [Bool.and_eq_true, decide_eq_true_eq, Bool.not_eq_true'] at h
  obtain ⟨⟨⟨⟨h1, h2⟩, h3⟩, h4⟩, h5⟩ := h
  refine ⟨h1, h2, good_of_rising h3, good_of_rising h4, fun l hl => good_of_rising ?_⟩
  rw [List.any_eq_false] at h5
  simpa using h5 l hl
theorem right_of_good {p : Part} {s : St} (h1 : s.sets.length ≤ 512) (hs : GoodSt s) (hp : GoodPart s.sets.length p) : rightB p s = true := by
  unfold rightB
  simp only [Bool.and_eq_true, decide_eq_true_eq, Bool.not_eq_true']
  refine ⟨⟨⟨⟨h1, hs.len⟩, rising_of_good hp.first⟩, rising_of_good hp.last⟩, ?_⟩
  rw [List.any_eq_false]
  intro l hl
  simp [rising_of_good (hs.good l hl)]
theorem thenL_good {s : St} {m b : Nat} {ol : List Int} (h : Good m ol) : Good m (thenL s b ol) := ⟨h.1.sublist List.filter_sublist, fun x hx => h.2 x (List.mem_filter.1 hx).1⟩
theorem openL_good (s : St) (th : List Int) : Good s.sets.length (openL s th) := by
  refine ⟨?_, fun x hx => ?_⟩
  · unfold openL
    rw [List.pairwise_map]
    refine List.Pairwise.sublist List.filter_sublist ?_
    refine List.Pairwise.imp ?_ List.pairwise_lt_range
    intro a b h
    exact Int.ofNat_lt.2 h
  · obtain ⟨i, hi, rfl⟩ := List.mem_map.1 hx
    have := List.mem_range.1 (List.mem_filter.1 hi).1
    exact ⟨Int.natCast_nonneg _, Int.ofNat_lt.2 this⟩
/-- A step of reading. -/
theorem runM_step (s : St) (t : List Nat) (i : Nat) (h : i + 1 < t.length) (ol : List Int) : runM s (t.drop i) ol = runM s (t.drop (i + 1)) (openL s (thenL s t[i] ol)) := by
  rw [List.drop_eq_getElem_cons (show i < t.length by omega), List.drop_eq_getElem_cons h]
  rfl
theorem runM_last (s : St) (t : List Nat) (i : Nat) (h : i + 1 = t.length) (ol : List Int) : runM s (t.drop i) ol = thenL s (t[i]'(by omega)) ol := by
  rw [List.drop_eq_getElem_cons (show i < t.length by omega), List.drop_eq_nil_of_le (by omega)]
  rfl
theorem thenL_snoc (s : St) (b : Nat) (ol : List Int) (j : Nat) (h : j < ol.length) : thenL s b (ol.take (j + 1)) = thenL s b (ol.take j) ++ if keepB s b ol[j] then [ol[j]] else [] := by
  rw [List.take_succ_eq_append_getElem h]
  unfold thenL
  rw [List.filter_append]
  congr 1
  cases hk : keepB s b ol[j] <;> simp [List.filter, hk]
theorem nextOf_snoc (s : St) (th : List Int) (j : Nat) (h : j < th.length) (m : Nat) : nextOf s (th.take (j + 1)) m = (nextOf s (th.take j) m || (s.next.getD th[j].toNat []).contains (m : Int)) := by
  unfold nextOf
  rw [List.take_succ_eq_append_getElem h, List.any_append, List.any_cons, List.any_nil, Bool.or_false]
theorem contains_take (l : List Int) (i : Nat) (h : i < l.length) (m : Nat) (hp : 0 ≤ l[i]) : (l.take (i + 1)).contains (m : Int) = ((l.take i).contains (m : Int) || decide (m = l[i].toNat)) := by
  rw [List.take_succ_eq_append_getElem h, List.contains_append]
  congr 1
  rw [List.contains_cons]
  simp only [List.contains_nil, Bool.or_false]
  rw [Bool.eq_iff_iff]
  simp only [beq_iff_eq, decide_eq_true_eq]
  omega
theorem any_congr {α : Type} {l : List α} {f g : α → Bool} (h : ∀ x ∈ l, f x = g x) : l.any f = l.any g := by
  induction l with
  | nil => rfl
  | cons x l ih => rw [List.any_cons, List.any_cons, h x (by simp), ih fun y hy => h y (by simp [hy])]
theorem any_marks {n : Nat} {th l : List Int} (h : ∀ x ∈ l, 0 ≤ x ∧ x < n) : (l.any fun k => (marksOf n fun m => th.contains (m : Int)).getD k.toNat false) = l.any fun k => th.contains k := by
  refine any_congr fun x hx => ?_
  obtain ⟨h1, h2⟩ := h x hx
  rw [List.getD_eq_getElem?_getD, marksOf_get _ _ _ (by omega), Option.getD_some, Int.toNat_of_nonneg h1]
/-- A text's bytes. -/
def bytesN (t : ByteArray) : List Nat := t.data.toList.map UInt8.toNat
theorem bytesN_len (t : ByteArray) : (bytesN t).length = t.size := by simp [bytesN]
theorem bytesN_get (t : ByteArray) (i : Nat) (h : i < t.size) (h' : i < (bytesN t).length) : (bytesN t)[i] = t[i].toNat := by
  simp [bytesN]
  rfl
/-- The spots open next, up to m. -/
def openTo (s : St) (th : List Int) (m : Nat) : List Int := ((List.range m).filter (nextOf s th)).map Int.ofNat
theorem openTo_succ (s : St) (th : List Int) (m : Nat) : openTo s th (m + 1) = openTo s th m ++ if nextOf s th m then [(m : Int)] else [] := by
  unfold openTo
  rw [List.range_succ, List.filter_append, List.map_append]
  congr 1
  cases h : nextOf s th m <;> simp [List.filter, h]
theorem openTo_len (s : St) (th : List Int) (m : Nat) : (openTo s th m).length ≤ m := by
  unfold openTo
  rw [List.length_map]
  exact Nat.le_trans (List.length_filter_le _ _) (by simp)
theorem matchB_of {p : Part} {s : St} {t : List Nat} (h : rightB p s = true) (h0 : t ≠ []) : matchB p s t = p.last.any fun k => (runM s t p.first).contains k := by
  unfold matchB
  rw [h, if_neg h0, Bool.true_and]
end Go.Proofs.YtmcoaopcmjociaaDoor

namespace Go.Proofs.YtmcoaopcmjociaaDoor
open Go Go.RowKit Go.Sort

theorem box5m {w : World} {k : Nat} {v0 v1 v2 v3 v4 : Value} {t : TypeId} {m : Nat × Nat} (h : w.heap[k]? = some (.cells #[v0, v1, v2, v3, v4] t m)) :
    w.cell? ⟨k, 0, none⟩ = some v0 ∧ w.cell? ⟨k, 1, none⟩ = some v1 ∧ w.cell? ⟨k, 2, none⟩ = some v2 ∧ w.cell? ⟨k, 3, none⟩ = some v3 ∧ w.cell? ⟨k, 4, none⟩ = some v4 :=
  ⟨cell_of h rfl, cell_of h rfl, cell_of h rfl, cell_of h rfl, cell_of h rfl⟩

set_option maxRecDepth 100000 in
set_option maxHeartbeats 1000000 in
theorem spright_any (v : Value) (p : Part) (s : St) (w : World) (h : SpR w v p s) :
    Calls Tryd.prog 13 #[v] w fun e w' => e = .returned (.bool (rightB p s)) ∧ Below w.heap.size w w' := by
  obtain ⟨SA, SC, fv, lv, NA, NC, rfl, hS, hN, hF, hL⟩ := h
  obtain ⟨A1, c1, rfl, _, _⟩ := hF.form
  obtain ⟨A2, c2, rfl, _, _⟩ := hL.form
  have hsl := hS.1
  have hnl := hN.1
  have hb2 := ((Below.refl w.heap.size w).alloc (Nat.le_refl _) (Obj.cells #[.slice SA s.sets.length SC, .bool p.none, .slice A1 p.first.length c1, .slice A2 p.last.length c2, .slice NA s.next.length NC] 35)).alloc (by simp) (Obj.cells #[.int .i64 s.sets.length] 3)
  have k0 := heap_a1 (o' := (Obj.cells #[.int .i64 s.sets.length] 3)) (heap_a0 w (Obj.cells #[.slice SA s.sets.length SC, .bool p.none, .slice A1 p.first.length c1, .slice A2 p.last.length c2, .slice NA s.next.length NC] 35))
  have k1 := heap_aB w (Obj.cells #[.slice SA s.sets.length SC, .bool p.none, .slice A1 p.first.length c1, .slice A2 p.last.length c2, .slice NA s.next.length NC] 35) (Obj.cells #[.int .i64 s.sets.length] 3)
  obtain ⟨x0, x1, x2, x3, x4⟩ := box5m k0
  have y0 : ((w.alloc (Obj.cells #[.slice SA s.sets.length SC, .bool p.none, .slice A1 p.first.length c1, .slice A2 p.last.length c2, .slice NA s.next.length NC] 35)).alloc (Obj.cells #[.int .i64 s.sets.length] 3)).cell? ⟨w.heap.size + 1, 0, none⟩ = some (.int .i64 s.sets.length) := cell_of k1 rfl
  have H1 := Lib.hid (rising_any _ p.first s.sets.length ((w.alloc (Obj.cells #[.slice SA s.sets.length SC, .bool p.none, .slice A1 p.first.length c1, .slice A2 p.last.length c2, .slice NA s.next.length NC] 35)).alloc (Obj.cells #[.int .i64 s.sets.length] 3)) (hF.below hb2))
  have H2 := Lib.hid (rising_any _ p.last s.sets.length ((w.alloc (Obj.cells #[.slice SA s.sets.length SC, .bool p.none, .slice A1 p.first.length c1, .slice A2 p.last.length c2, .slice NA s.next.length NC] 35)).alloc (Obj.cells #[.int .i64 s.sets.length] 3)) (hL.below hb2))
  have H3 := Lib.hid (contains_lists NA NC s.next s.sets.length (w.heap.size + 1) ((w.alloc (Obj.cells #[.slice SA s.sets.length SC, .bool p.none, .slice A1 p.first.length c1, .slice A2 p.last.length c2, .slice NA s.next.length NC] 35)).alloc (Obj.cells #[.int .i64 s.sets.length] 3)) (hN.below hb2) y0)
  have HB := Lib.hid hb2
  obtain ⟨n, hn⟩ : ∃ n, n = s.sets.length := ⟨_, rfl⟩
  have hR : rightB p s = (decide (n ≤ 512) && decide (s.next.length = n) && risingB n (-1) p.first && risingB n (-1) p.last && !s.next.any fun l => !risingB n (-1) l) := by rw [hn]; rfl
  obtain ⟨b1, hb1⟩ : ∃ b, b = risingB n (-1) p.first := ⟨_, rfl⟩
  obtain ⟨b2, hb2'⟩ : ∃ b, b = risingB n (-1) p.last := ⟨_, rfl⟩
  obtain ⟨b3, hb3⟩ : ∃ b, b = s.next.any fun l => !risingB n (-1) l := ⟨_, rfl⟩
  obtain ⟨m, hm⟩ : ∃ m, m = s.next.length := ⟨_, rfl⟩
  rw [← hm] at hR hnl H3 HB
  rw [← hb1, ← hb2', ← hb3] at hR
  simp only [← hn, ← hm, ← hb1, ← hb2', ← hb3] at H1 H2 H3 HB hsl x0 x1 x2 x3 x4 y0 ⊢
  clear hn hm hb1 hb2' hb3 k0 k1 hb2 hS hN hF hL
  have HR := Lib.hid hR
  clear hR
  by_cases e1 : n ≤ 512
  · have d1 : decide ((512 : Int) < (n : Int)) = false := by simp; omega
    by_cases e2 : m = n
    · subst e2
      cases b1 with
      | false =>
        go_enter Tryd.func13, Tryd.ntmps13
        go_wp2_with fail
        refine H1.out.mono ?_
        rintro e w1 ⟨rfl, rfl⟩
        go_wp2_with fail
        go_ret
        exact ⟨by rw [HR.out]; simp, HB.out⟩
      | true =>
        cases b2 with
        | false =>
          go_enter Tryd.func13, Tryd.ntmps13
          go_wp2_with fail
          refine H1.out.mono ?_
          rintro e w1 ⟨rfl, rfl⟩
          go_wp2_with fail
          refine H2.out.mono ?_
          rintro e w1 ⟨rfl, rfl⟩
          go_wp2_with fail
          go_ret
          exact ⟨by rw [HR.out]; simp, HB.out⟩
        | true =>
          have hmf : ∀ (fn : Fn) (first cap : Array Value) (w : World), (Instr.makeFunc fn first cap).run Tryd.prog w = .ok (.func fn first cap) w := fun _ _ _ _ => rfl
          go_enter Tryd.func13, Tryd.ntmps13
          go_wp2_with fail
          refine H1.out.mono ?_
          rintro e w1 ⟨rfl, rfl⟩
          go_wp2_with fail
          refine H2.out.mono ?_
          rintro e w1 ⟨rfl, rfl⟩
          go_wp2_with fail
          refine H3.out.mono ?_
          rintro e w1 ⟨rfl, rfl⟩
          go_wp2_with fail
          go_ret
          exact ⟨by rw [HR.out]; simp [e1], HB.out⟩
    · have c3 : ((m : Int) != (n : Int)) = true := by simp; omega
      have HC2 := Lib.hid e2
      clear e2
      go_enter Tryd.func13, Tryd.ntmps13
      go_wp2_with fail
      go_ret
      exact ⟨by rw [HR.out]; simp [HC2.out], HB.out⟩
  · have d1 : decide ((512 : Int) < (n : Int)) = true := by simp; omega
    go_enter Tryd.func13, Tryd.ntmps13
    go_wp2_with fail
    go_ret
    exact ⟨by rw [HR.out]; simp [e1], HB.out⟩
end Go.Proofs.YtmcoaopcmjociaaDoor

namespace Go.Proofs.YtmcoaopcmjociaaDoor
open Go Go.RowKit Go.Sort

theorem cells4_get : ∀ (ss : List S4) (i : Nat) (h : i < ss.length), (cells4 ss)[i * 4]? = some (.int .u64 ss[i].1) ∧ (cells4 ss)[i * 4 + 1]? = some (.int .u64 ss[i].2.1) ∧ (cells4 ss)[i * 4 + 2]? = some (.int .u64 ss[i].2.2.1) ∧ (cells4 ss)[i * 4 + 3]? = some (.int .u64 ss[i].2.2.2)
  | [], i, h => by simp at h
  | (a, b, c, d) :: ss, 0, h => by simp [cells4]
  | (a, b, c, d) :: ss, i + 1, h => by
    have ih := cells4_get ss i (by simpa using h)
    simp only [show (i + 1) * 4 = i * 4 + 4 by omega]
    simpa [cells4] using ih
theorem sets_get {B : Nat} {w : World} {A : Option Addr} {c n : Nat} {ss : List S4} (h : w.ownsRow B 24 4 (.slice A n c) n (cells4 ss)) (hn : ss.length = n) (i : Nat) (hi : i < ss.length) :
    ∃ g, A = some ⟨g, 0, none⟩ ∧ w.cell? ⟨g, i * 4, none⟩ = some (.int .u64 ss[i].1) ∧ w.cell? ⟨g, i * 4 + 1, none⟩ = some (.int .u64 ss[i].2.1) ∧ w.cell? ⟨g, i * 4 + 2, none⟩ = some (.int .u64 ss[i].2.2.1) ∧ w.cell? ⟨g, i * 4 + 3, none⟩ = some (.int .u64 ss[i].2.2.2) := by
  obtain ⟨h1, h2⟩ := h
  rcases h2 with ⟨he, h0⟩ | ⟨g, cap, cur, he, hg, hh, hc, hm, hs, ht⟩
  · omega
  · injection he with hA _ _
    subst hA
    have hget : ∀ j u, j < n * 4 → (cells4 ss)[j]? = some u → w.cell? ⟨g, j, none⟩ = some u := by
      intro j u hj hu
      rw [cell_of_row w g j cur _ _ hh, ← hu, ← ht, List.getElem?_take, if_pos hj]
      simp
    obtain ⟨g0, g1, g2, g3⟩ := cells4_get ss i hi
    exact ⟨g, rfl, hget _ _ (by omega) g0, hget _ _ (by omega) g1, hget _ _ (by omega) g2, hget _ _ (by omega) g3⟩
end Go.Proofs.YtmcoaopcmjociaaDoor

namespace Go.Proofs.YtmcoaopcmjociaaDoor
open Go Go.RowKit Go.Sort

/-- A stretch of a text. -/
def seg (t : List Nat) (i j : Nat) : List Nat := (t.take j).drop i
theorem seg_self (t : List Nat) (i : Nat) : seg t i i = [] := by
  unfold seg
  exact List.drop_eq_nil_of_le (List.length_take_le _ _)
theorem seg_len (t : List Nat) (i j : Nat) (h : j ≤ t.length) : (seg t i j).length = j - i := by
  unfold seg
  rw [List.length_drop, List.length_take]
  omega
theorem seg_split (t : List Nat) (i k j : Nat) (h1 : i ≤ k) (h2 : k ≤ j) : seg t i j = seg t i k ++ seg t k j := by
  unfold seg
  rw [← List.take_append_drop (k - i) ((t.take j).drop i)]
  congr 1
  · rw [List.take_drop, List.take_take]
    congr 2
    omega
  · rw [List.drop_drop]
    congr 1
    omega
theorem seg_cut {t u v : List Nat} {i j : Nat} (h : seg t i j = u ++ v) (hi : i ≤ j) (hj : j ≤ t.length) : i + u.length ≤ j ∧ u = seg t i (i + u.length) ∧ v = seg t (i + u.length) j := by
  have hl := seg_len t i j hj
  have hl2 := congrArg List.length h
  rw [List.length_append, hl] at hl2
  have hk : i + u.length ≤ j := by omega
  have hs := seg_split t i (i + u.length) j (by omega) hk
  rw [h] at hs
  have := List.append_inj hs (by rw [seg_len _ _ _ (by omega)]; omega)
  exact ⟨hk, this.1, this.2⟩
theorem seg_one (t : List Nat) (j : Nat) (h : j < t.length) : seg t j (j + 1) = [t[j]] := by
  unfold seg
  rw [List.take_succ_eq_append_getElem h, List.drop_append_of_le_length (by rw [List.length_take]; omega), List.drop_eq_nil_of_le (by rw [List.length_take]; omega)]
  rfl

/-- Is a place marked behind a text of K that begins at a mark? -/
noncomputable def mvF (K : Lang) (t : List Nat) (f : Nat → Bool) (j : Nat) : Bool := @decide (∃ i, i ≤ j ∧ f i = true ∧ K (seg t i j)) (Classical.propDecidable _)
theorem mv_iff (K : Lang) (t : List Nat) (f : Nat → Bool) (j : Nat) : mvF K t f j = true ↔ ∃ i, i ≤ j ∧ f i = true ∧ K (seg t i j) := by
  unfold mvF
  exact @decide_eq_true_iff _ (Classical.propDecidable _)
theorem mv_congr {K K' : Lang} (h : ∀ u, K u ↔ K' u) (t : List Nat) (f : Nat → Bool) (j : Nat) : mvF K t f j = mvF K' t f j := by
  rw [Bool.eq_iff_iff, mv_iff, mv_iff]
  simp only [h]
theorem mv_eps (t : List Nat) (f : Nat → Bool) (j : Nat) (hj : j ≤ t.length) : mvF epsL t f j = f j := by
  rw [Bool.eq_iff_iff, mv_iff]
  constructor
  · rintro ⟨i, hi, hf, hs⟩
    have := congrArg List.length hs
    rw [seg_len _ _ _ hj] at this
    simp at this
    obtain rfl : i = j := by omega
    exact hf
  · intro hf
    exact ⟨j, Nat.le_refl _, hf, seg_self t j⟩
theorem mv_cat (A B : Lang) (t : List Nat) (f : Nat → Bool) (j : Nat) (hj : j ≤ t.length) : mvF (catL A B) t f j = mvF B t (mvF A t f) j := by
  rw [Bool.eq_iff_iff, mv_iff, mv_iff]
  constructor
  · rintro ⟨i, hi, hf, u, v, hs, ha, hb⟩
    obtain ⟨h1, h2, h3⟩ := seg_cut hs hi hj
    exact ⟨i + u.length, h1, (mv_iff _ _ _ _).2 ⟨i, by omega, hf, by rw [← h2]; exact ha⟩, by rw [← h3]; exact hb⟩
  · rintro ⟨k, hk, hm, hb⟩
    obtain ⟨i, hi, hf, ha⟩ := (mv_iff _ _ _ _).1 hm
    exact ⟨i, by omega, hf, _, _, seg_split t i k j hi hk, ha, hb⟩
theorem mv_or (A B : Lang) (t : List Nat) (f : Nat → Bool) (j : Nat) : mvF (fun u => A u ∨ B u) t f j = (mvF A t f j || mvF B t f j) := by
  rw [Bool.eq_iff_iff, Bool.or_eq_true, mv_iff, mv_iff, mv_iff]
  constructor
  · rintro ⟨i, hi, hf, h | h⟩
    · exact .inl ⟨i, hi, hf, h⟩
    · exact .inr ⟨i, hi, hf, h⟩
  · rintro (⟨i, hi, hf, h⟩ | ⟨i, hi, hf, h⟩)
    · exact ⟨i, hi, hf, .inl h⟩
    · exact ⟨i, hi, hf, .inr h⟩
theorem mv_none (t : List Nat) (f : Nat → Bool) (j : Nat) : mvF (fun _ => False) t f j = false := by
  rw [Bool.eq_false_iff]
  intro h
  obtain ⟨_, _, _, h⟩ := (mv_iff _ _ _ _).1 h
  exact h
theorem mv_in (K : Lang) (t : List Nat) {f g : Nat → Bool} {j : Nat} (h : ∀ i, i ≤ j → f i = g i) : mvF K t f j = mvF K t g j := by
  rw [Bool.eq_iff_iff, mv_iff, mv_iff]
  constructor
  · rintro ⟨i, hi, hf, hk⟩
    exact ⟨i, hi, by rw [← h i hi]; exact hf, hk⟩
  · rintro ⟨i, hi, hf, hk⟩
    exact ⟨i, hi, by rw [h i hi]; exact hf, hk⟩
theorem mv_one0 (lab : Nat → Bool) (t : List Nat) (f : Nat → Bool) : mvF (fun u => ∃ b, u = [b] ∧ lab b = true) t f 0 = false := by
  rw [Bool.eq_false_iff]
  intro h
  obtain ⟨i, hi, _, b, hb, _⟩ := (mv_iff _ _ _ _).1 h
  have := congrArg List.length hb
  rw [seg_len _ _ _ (by omega)] at this
  simp at this
theorem mv_one (lab : Nat → Bool) (t : List Nat) (f : Nat → Bool) (j : Nat) (h : j < t.length) : mvF (fun u => ∃ b, u = [b] ∧ lab b = true) t f (j + 1) = (f j && lab t[j]) := by
  rw [Bool.eq_iff_iff, mv_iff, Bool.and_eq_true]
  constructor
  · rintro ⟨i, hi, hf, b, hb, hl⟩
    have h1 := congrArg List.length hb
    rw [seg_len _ _ _ (by omega)] at h1
    simp at h1
    obtain rfl : i = j := by omega
    rw [seg_one t i h] at hb
    simp at hb
    subst hb
    exact ⟨hf, hl⟩
  · rintro ⟨hf, hl⟩
    exact ⟨j, by omega, hf, _, seg_one t j h, hl⟩

variable {K : Lang} {t : List Nat} {f : Nat → Bool}
/-- One time more. -/
theorem mv_more (k j : Nat) (hj : j ≤ t.length) : mvF (powL K (k + 1)) t f j = mvF K t (mvF (powL K k) t f) j := by
  rw [← mv_cat _ _ _ _ _ hj]
  refine mv_congr (fun u => ?_) t f j
  rw [powL_add K k 1]
  exact catL_congr (fun _ => Iff.rfl) (fun v => catL_eps K v) u
/-- Where nothing moves, nothing moves again. -/
theorem mv_still {k : Nat} (h : ∀ j, j ≤ t.length → mvF (powL K (k + 1)) t f j = mvF (powL K k) t f j) : ∀ (m j : Nat), j ≤ t.length → mvF (powL K (k + m)) t f j = mvF (powL K k) t f j
  | 0, j, _ => rfl
  | m + 1, j, hj => by
    rw [show k + (m + 1) = (k + m) + 1 by omega, mv_more (k + m) j hj, ← h j hj, mv_more k j hj]
    exact mv_in K t fun i hi => mv_still h m i (by omega)
/-- Marks after mn to mn + i times. -/
noncomputable def sumF (K : Lang) (t : List Nat) (f : Nat → Bool) (mn i : Nat) (j : Nat) : Bool := mvF (fun u => ∃ m, m ≤ i ∧ powL K (mn + m) u) t f j
theorem sum_zero (mn j : Nat) : sumF K t f mn 0 j = mvF (powL K mn) t f j := by
  refine mv_congr (fun u => ?_) t f j
  constructor
  · rintro ⟨m, hm, h⟩
    obtain rfl : m = 0 := by omega
    exact h
  · intro h
    exact ⟨0, Nat.le_refl _, h⟩
theorem sum_succ (mn i j : Nat) : sumF K t f mn (i + 1) j = (sumF K t f mn i j || mvF (powL K (mn + (i + 1))) t f j) := by
  unfold sumF
  rw [← mv_or]
  refine mv_congr (fun u => ?_) t f j
  constructor
  · rintro ⟨m, hm, h⟩
    by_cases he : m = i + 1
    · subst he; exact .inr h
    · exact .inl ⟨m, by omega, h⟩
  · rintro (⟨m, hm, h⟩ | h)
    · exact ⟨m, by omega, h⟩
    · exact ⟨i + 1, Nat.le_refl _, h⟩
theorem sum_in {mn i m j : Nat} (hm : m ≤ i) (h : mvF (powL K (mn + m)) t f j = true) : sumF K t f mn i j = true := by
  obtain ⟨a, ha, hf, hk⟩ := (mv_iff _ _ _ _).1 h
  exact (mv_iff _ _ _ _).2 ⟨a, ha, hf, m, hm, hk⟩
theorem sum_of {mn i j : Nat} (h : sumF K t f mn i j = true) : ∃ m, m ≤ i ∧ mvF (powL K (mn + m)) t f j = true := by
  obtain ⟨a, ha, hf, m, hm, hk⟩ := (mv_iff _ _ _ _).1 h
  exact ⟨m, hm, (mv_iff _ _ _ _).2 ⟨a, ha, hf, hk⟩⟩
/-- Where no mark is new, none is new again. -/
theorem sum_closed {mn i : Nat} (h : ∀ j, j ≤ t.length → mvF (powL K (mn + (i + 1))) t f j = true → sumF K t f mn i j = true) : ∀ (m j : Nat), j ≤ t.length → mvF (powL K (mn + m)) t f j = true → sumF K t f mn i j = true
  | 0, j, _, hm => sum_in (Nat.zero_le _) hm
  | m + 1, j, hj, hm => by
    have hm' : mvF (powL K ((mn + m) + 1)) t f j = true := by rw [show mn + m + 1 = mn + (m + 1) by omega]; exact hm
    rw [mv_more (mn + m) j hj] at hm'
    obtain ⟨a, ha, hf, hk⟩ := (mv_iff _ _ _ _).1 hm'
    obtain ⟨k, hk1, hk2⟩ := sum_of (sum_closed h m a (by omega) hf)
    have h2 : mvF (powL K (mn + (k + 1))) t f j = true := by
      rw [show mn + (k + 1) = (mn + k) + 1 by omega, mv_more (mn + k) j hj]
      exact (mv_iff _ _ _ _).2 ⟨a, ha, hk2, hk⟩
    by_cases he : k = i
    · subst he
      exact h j hj h2
    · exact sum_in (show k + 1 ≤ i by omega) h2
/-- The loop is broken: all is marked. -/
theorem sum_done {mn i : Nat} (mx : Int) (h : ∀ j, j ≤ t.length → mvF (powL K (mn + (i + 1))) t f j = true → sumF K t f mn i j = true) (hx : mx = -1 ∨ ((mn + i : Nat) : Int) ≤ mx) (j : Nat) (hj : j ≤ t.length) :
    sumF K t f mn i j = mvF (fun u => ∃ k : Nat, (mn : Int) ≤ k ∧ (mx = -1 ∨ (k : Int) ≤ mx) ∧ powL K k u) t f j := by
  rw [Bool.eq_iff_iff]
  constructor
  · intro hs
    obtain ⟨a, ha, hf, m, hm, hk⟩ := (mv_iff _ _ _ _).1 hs
    exact (mv_iff _ _ _ _).2 ⟨a, ha, hf, mn + m, by omega, by omega, hk⟩
  · intro hs
    obtain ⟨a, ha, hf, k, h1, _, hk⟩ := (mv_iff _ _ _ _).1 hs
    refine sum_closed h (k - mn) j hj ((mv_iff _ _ _ _).2 ⟨a, ha, hf, ?_⟩)
    rw [show mn + (k - mn) = k by omega]
    exact hk
/-- The loop has come to its end. -/
theorem sum_end {mn i : Nat} (mx : Int) (hx : ((mn + i : Nat) : Int) = mx) (j : Nat) : sumF K t f mn i j = mvF (fun u => ∃ k : Nat, (mn : Int) ≤ k ∧ (mx = -1 ∨ (k : Int) ≤ mx) ∧ powL K k u) t f j := by
  refine mv_congr (fun u => ?_) t f j
  constructor
  · rintro ⟨m, hm, hk⟩
    exact ⟨mn + m, by omega, by omega, hk⟩
  · rintro ⟨k, h1, h2, hk⟩
    exact ⟨k - mn, by omega, by rw [show mn + (k - mn) = k by omega]; exact hk⟩

theorem langCat_snoc (lab : S4 → Nat → Bool) : ∀ (l : List Tree) (x : Tree) (t : List Nat), langCat lab (l ++ [x]) t ↔ catL (langCat lab l) (langT lab x) t
  | [], x, t => by
    show catL (langT lab x) epsL t ↔ catL epsL (langT lab x) t
    rw [catL_eps, eps_catL]
  | y :: l, x, t => by
    show catL (langT lab y) (langCat lab (l ++ [x])) t ↔ catL (catL (langT lab y) (langCat lab l)) (langT lab x) t
    rw [catL_assoc]
    exact catL_congr (fun _ => Iff.rfl) (langCat_snoc lab l x) t
theorem langAlt_snoc (lab : S4 → Nat → Bool) : ∀ (l : List Tree) (x : Tree) (t : List Nat), langAlt lab (l ++ [x]) t ↔ (langAlt lab l t ∨ langT lab x t)
  | [], x, t => by simp [langAlt]
  | y :: l, x, t => by
    show (langT lab y t ∨ langAlt lab (l ++ [x]) t) ↔ ((langT lab y t ∨ langAlt lab l t) ∨ langT lab x t)
    rw [langAlt_snoc lab l x t, or_assoc]

/-- How many places are not marked. -/
def openN (n : Nat) (f : Nat → Bool) : Nat := ((List.range n).filter fun i => !f i).length
theorem open_less {n : Nat} {f g : Nat → Bool} (h : ∀ i, f i = true → g i = true) (hn : ∃ i, i < n ∧ f i = false ∧ g i = true) : openN n g < openN n f := by
  unfold openN
  induction n with
  | zero => obtain ⟨i, hi, _⟩ := hn; omega
  | succ n ih =>
    rw [List.range_succ, List.filter_append, List.filter_append, List.length_append, List.length_append]
    have hle : ∀ m : Nat, ((List.range m).filter fun i => !g i).length ≤ ((List.range m).filter fun i => !f i).length := by
      intro m
      rw [← List.countP_eq_length_filter, ← List.countP_eq_length_filter]
      refine List.countP_mono_left fun i _ hi => ?_
      cases hf : f i with
      | false => rfl
      | true => rw [h i hf] at hi; cases hi
    obtain ⟨i, hi, h1, h2⟩ := hn
    by_cases he : i = n
    · subst he
      have := hle i
      simp [List.filter, h1, h2]
      omega
    · have := ih ⟨i, by omega, h1, h2⟩
      have h3 : (([n] : List Nat).filter fun i => !g i).length ≤ (([n] : List Nat).filter fun i => !f i).length := by
        cases hf : f n with
        | false => simp [List.filter, hf]; cases g n <;> simp
        | true => simp [List.filter, hf, h n hf]
      omega
end Go.Proofs.YtmcoaopcmjociaaDoor
