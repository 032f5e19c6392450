/- match.moved. match.Ends from the text's start; match.Match. Plain law: the spots of a right pattern match just its texts. The law SpotsTexts, walked. -/
import Derived.Test.YtmcoaopcmjociaaDoorZt11
import Derived.Test.YtmcoaopcmjociaaDoorZt6
import Derived.Laws.CopyOwn
import Derived.StillTailTactics
import Derived.Test.YtmcoaopcmjociaaDoorZt12
import Derived.Test.YtmcoaopcmjociaaDoorZt10
import Derived.Test.YtmcoaopcmjociaaDoorZt13
namespace Go.Proofs.YtmcoaopcmjociaaDoor
open Go Go.RowKit Go.Sort Go.Proofs.YtmcoaopcmjociaaDoorW.PrintLast

theorem out_made {w w0 w2 : World} {n g : Nat} (hb0 : Below w.heap.size w w0) (hsz : w0.heap.size = g) (hown : w2.ownsRow g 4 1 (.slice (some ⟨g, 0, none⟩) n n) n (madeCells #[Value.bool false] n).toList) (hgrow : w0.grownBy w2 none) :
    MR w2 g (marksOf n fun _ => false) ∧ Below w.heap.size w w2 ∧ Below w0.heap.size w0 w2 := by
  subst hsz
  have hb2 : Below w0.heap.size w0 w2 := ⟨hgrow.os, hgrow.tape, hgrow.output, hgrow.size, fun k hk => hgrow.block k hk (by simp)⟩
  refine ⟨?_, hb0.trans (hb2.mono hb0.size), hb2⟩
  rw [marksOf_false]
  exact (BoolsAt.made hown).row

set_option maxRecDepth 100000 in
set_option maxHeartbeats 4000000 in
theorem moved_rep (t : ByteArray) (n d : Nat) (hn : n = t.size + 1) (h63 : n ≤ 1048577) (ih : MovedOK t n d) (x : Tree) (s0 s1 s2 s3 mn mx : Int) (A : Option Addr) (c g cg : Nat) (f : Nat → Bool) (w : World)
    (hr : x.right = true) (hm0 : 0 ≤ mn) (hm1 : mn ≤ 16) (hmx : mx = -1 ∨ (1 ≤ mx ∧ mn ≤ mx ∧ mx ≤ 16)) (hkids : KidsIn w (d + 1) [x] A) (hg : MR w g (marksOf n f)) :
    Calls Tryd.prog 48 #[.agg #[.int .i64 4, .int .u64 s0, .int .u64 s1, .int .u64 s2, .int .u64 s3, .slice A 1 c, .int .i64 mn, .int .i64 mx], .string t, .slice (some ⟨g, 0, none⟩) n cg] w fun e w' => ∃ g' c', e = .returned (.slice (some ⟨g', 0, none⟩) n c') ∧ w.heap.size ≤ g' ∧ MR w' g' (marksOf n (mvF (langRep hasB [x] mn mx) (bytesN t) f)) ∧ Below w.heap.size w w' := by
  have hof := fun (w1 : World) (hb : Below w.heap.size w w1) => often_marks t n d hn h63 ih x s0 s1 s2 s3 mn mx A c g cg f w1 hr hm0 hm1 hmx (hkids.below hb) (hg.below hb)
  have HOF := Lib.hid hof; have HMX := Lib.hid hmx
  clear hof hkids hr hm0 hm1 hmx
  obtain ⟨L, hL⟩ : ∃ L : Lang, L = langRep hasB [x] mn mx := ⟨_, rfl⟩
  rw [← hL] at HOF
  rw [← hL]
  clear hL
  have h0 : 0 < n := by omega
  have hb0 := (Below.refl w.heap.size w).alloc (Nat.le_refl _) (Obj.cells #[.int .i64 4, .int .u64 s0, .int .u64 s1, .int .u64 s2, .int .u64 s3, .slice A 1 c, .int .i64 mn, .int .i64 mx] 27)
  have k0 := heap_a0 w (Obj.cells #[.int .i64 4, .int .u64 s0, .int .u64 s1, .int .u64 s2, .int .u64 s3, .slice A 1 c, .int .i64 mn, .int .i64 mx] 27)
  obtain ⟨x0, x1, x2, x3, x4, x5, x6, x7, _⟩ := box8 k0
  obtain ⟨i0, hi0, hz0, hz1, hz2⟩ := info_parts boolInfoM
  have hws : (w.alloc (Obj.cells #[.int .i64 4, .int .u64 s0, .int .u64 s1, .int .u64 s2, .int .u64 s3, .slice A 1 c, .int .i64 mn, .int .i64 mx] 27)).heap.size = w.heap.size + 1 := by simp
  have HB0 := Lib.hid hb0; have K0 := Lib.hid k0; have HWS := Lib.hid hws; have HG := Lib.hid hg; have HN := Lib.hid hn
  clear hb0 k0 hws hg hn
  go_enter Tryd.func48, Tryd.ntmps48
  go_wp2_with (at_make; refine wpList_make_full _ rfl _ _ 84 rfl (w.alloc (Obj.cells #[.int .i64 4, .int .u64 s0, .int .u64 s1, .int .u64 s2, .int .u64 s3, .slice A 1 c, .int .i64 mn, .int .i64 mx] 27)).heap.size 4 i0 (.bool false) 1 marksU hi0 hz0 hz1 .i64 .i64 _ _ n rfl rfl rfl rfl (by rw [hz2]; omega) (by unfold maxLen; omega) (Nat.le_refl _) ?_)
  intro w2 hown2 hgrow2
  have hom := out_made HB0.out HWS.out hown2 hgrow2
  have k2 := heap_aq hom.2.2 K0.out
  obtain ⟨x0, x1, x2, x3, x4, x5, x6, x7, hlx⟩ := box8 k2
  have HO := Lib.hid hom.1; have HB2 := Lib.hid hom.2.1; have K2 := Lib.hid k2
  clear hom k2 hown2 hgrow2 hi0 hz0 hz1 hz2
  try rw [HWS.out]
  have HC := Lib.hid (HOF.out w2 HB2.out)
  clear HOF
  go_wp2_with fail
  refine HC.out.mono ?_
  rintro e w3 ⟨g3, c3, rfl, hg3, hm3, hB3⟩
  have HM3 := Lib.hid hm3; have HB3 := Lib.hid (HB2.out.trans (hB3.mono HB2.out.size))
  have hs2 := HB2.out.size
  clear hm3 hB3
  go_wp2_with fail
  go_ret
  exact ⟨g3, c3, rfl, by omega, HM3.out, HB3.out⟩

set_option maxRecDepth 100000 in
set_option maxHeartbeats 4000000 in
theorem moved_cat (t : ByteArray) (n d : Nat) (hn : n = t.size + 1) (h63 : n ≤ 1048577) (ih : MovedOK t n d) (l : List Tree) (s0 s1 s2 s3 mn mx : Int) (A : Option Addr) (c g cg : Nat) (f : Nat → Bool) (w : World)
    (hr : ∀ x ∈ l, x.right = true) (hkids : KidsIn w (d + 1) l A) (hg : MR w g (marksOf n f)) :
    Calls Tryd.prog 48 #[.agg #[.int .i64 2, .int .u64 s0, .int .u64 s1, .int .u64 s2, .int .u64 s3, .slice A l.length c, .int .i64 mn, .int .i64 mx], .string t, .slice (some ⟨g, 0, none⟩) n cg] w fun e w' => ∃ g' c', e = .returned (.slice (some ⟨g', 0, none⟩) n c') ∧ w.heap.size ≤ g' ∧ MR w' g' (marksOf n (mvF (langCat hasB l) (bytesN t) f)) ∧ Below w.heap.size w w' := by
  have hll := hkids.1
  have htl : ∀ j, j < n → j ≤ (bytesN t).length := fun j hj => by rw [bytesN_len]; omega
  have HTL := Lib.hid htl; have HR := Lib.hid hr; have HK := Lib.hid hkids; have IH := Lib.hid ih
  clear htl hr hkids ih
  have h0 : 0 < n := by omega
  have hb0 := (Below.refl w.heap.size w).alloc (Nat.le_refl _) (Obj.cells #[.int .i64 2, .int .u64 s0, .int .u64 s1, .int .u64 s2, .int .u64 s3, .slice A l.length c, .int .i64 mn, .int .i64 mx] 27)
  have k0 := heap_a0 w (Obj.cells #[.int .i64 2, .int .u64 s0, .int .u64 s1, .int .u64 s2, .int .u64 s3, .slice A l.length c, .int .i64 mn, .int .i64 mx] 27)
  obtain ⟨x0, x1, x2, x3, x4, x5, x6, x7, _⟩ := box8 k0
  obtain ⟨i0, hi0, hz0, hz1, hz2⟩ := info_parts boolInfoM
  have hws : (w.alloc (Obj.cells #[.int .i64 2, .int .u64 s0, .int .u64 s1, .int .u64 s2, .int .u64 s3, .slice A l.length c, .int .i64 mn, .int .i64 mx] 27)).heap.size = w.heap.size + 1 := by simp
  have HB0 := Lib.hid hb0; have K0 := Lib.hid k0; have HWS := Lib.hid hws; have HG := Lib.hid hg; have HN := Lib.hid hn
  clear hb0 k0 hws hg hn
  go_enter Tryd.func48, Tryd.ntmps48
  go_wp2_with (at_make; refine wpList_make_full _ rfl _ _ 84 rfl (w.alloc (Obj.cells #[.int .i64 2, .int .u64 s0, .int .u64 s1, .int .u64 s2, .int .u64 s3, .slice A l.length c, .int .i64 mn, .int .i64 mx] 27)).heap.size 4 i0 (.bool false) 1 marksU hi0 hz0 hz1 .i64 .i64 _ _ n rfl rfl rfl rfl (by rw [hz2]; omega) (by unfold maxLen; omega) (Nat.le_refl _) ?_)
  intro w2 hown2 hgrow2
  have hom := out_made HB0.out HWS.out hown2 hgrow2
  have k2 := heap_aq hom.2.2 K0.out
  obtain ⟨x0, x1, x2, x3, x4, x5, x6, x7, hlx⟩ := box8 k2
  have HO := Lib.hid hom.1; have HB2 := Lib.hid hom.2.1; have K2 := Lib.hid k2
  clear hom k2 hown2 hgrow2 hi0 hz0 hz1 hz2
  try rw [HWS.out]
  have hgw := HG.out.lt
  have hgb := HG.out.below HB2.out
  obtain ⟨cs, hcs⟩ : ∃ cs, cs = (marksOf n f).map Value.bool := ⟨_, rfl⟩
  have hcl : cs.length = n := by rw [hcs, List.length_map, marksOf_len]
  have hsrc : ∀ (j : Nat) (v : Value), cs[j]? = some v → w2.cell? ((⟨g, 0, none⟩ : Addr).add j) = some v := by
    intro j v hv
    have hj : j < (marksOf n f).length := by
      have := (List.getElem?_eq_some_iff.1 hv).1
      rwa [hcl, ← marksOf_len n f] at this
    rw [Addr.add_lit, Nat.zero_add, hgb.cell j hj, ← hv, hcs]
    simp [hj]
  have h1c : ∀ v ∈ cs, v.oneCell' = true := by
    intro v hv
    rw [hcs] at hv
    obtain ⟨x, _, rfl⟩ := List.mem_map.1 hv
    rfl
  obtain ⟨rest, ho⟩ := HO.out
  have HSRC := Lib.hid hsrc; have HCL := Lib.hid hcl; have HCS := Lib.hid hcs; have H1C := Lib.hid h1c; have HOW := Lib.hid ho
  clear hsrc hcl hcs h1c ho hgb
  have hcp : ∀ ty, (Builtin.copy_ #[84, 84] ty #[.slice (some ⟨w.heap.size + 1, 0, none⟩) n n, .slice (some ⟨g, 0, none⟩) n cg]).run Tryd.prog w2 = .ok (.int .i64 n) (w2.setRow (w.heap.size + 1) ((((marksOf n fun _ => false).map Value.bool) ++ rest).toArray.toList.take 0 ++ cs ++ (((marksOf n fun _ => false).map Value.bool) ++ rest).toArray.toList.drop (0 + cs.length)).toArray) := fun ty => by
    have := run_copy_row (P := Tryd.prog) w2 84 84 ty 4 (w.heap.size + 1) 0 n n ⟨g, 0, none⟩ n cg _ 4 cs marksU (by kernel_rfl) HOW.out (by rw [HCL.out]; exact (Nat.min_self n).symm) HSRC.out (by rw [HCL.out, List.size_toArray, List.length_append, List.length_map, marksOf_len]; omega) H1C.out
    rw [HCL.out] at this
    rw [HCL.out]
    exact this
  obtain ⟨w3, hw3⟩ : ∃ w3, w3 = w2.setRow (w.heap.size + 1) ((((marksOf n fun _ => false).map Value.bool) ++ rest).toArray.toList.take 0 ++ cs ++ (((marksOf n fun _ => false).map Value.bool) ++ rest).toArray.toList.drop (0 + cs.length)).toArray := ⟨_, rfl⟩
  have hg3 := setRow_heap w2 (w.heap.size + 1) _ ((((marksOf n fun _ => false).map Value.bool) ++ rest).toArray.toList.take 0 ++ cs ++ (((marksOf n fun _ => false).map Value.bool) ++ rest).toArray.toList.drop (0 + cs.length)).toArray 4 (0, 0) HOW.out
  rw [← hw3] at hg3
  have hb3 : Below (w.heap.size + 1) w2 w3 := by rw [hw3]; exact below_setRow (Below.refl _ _) (Nat.le_refl _) _
  rw [← hw3] at hcp
  clear hw3
  have hm3 : MR w3 (w.heap.size + 1) (marksOf n f) := by
    refine ⟨rest, ?_⟩
    rw [hg3]
    congr 2
    rw [List.take_zero, List.nil_append, HCS.out, Nat.zero_add, List.length_map, marksOf_len, List.drop_append, List.drop_eq_nil_of_le (by rw [List.length_map, marksOf_len]; exact Nat.le_refl _), List.length_map, marksOf_len, Nat.sub_self, List.drop_zero, List.nil_append]
  have hb3' : Below w.heap.size w w3 := HB2.out.trans (hb3.mono (by omega))
  have k3 := (hb3.block w.heap.size (by omega)).trans K2.out
  obtain ⟨x0, x1, x2, x3, x4, x5, x6, x7, hlx⟩ := box8 k3
  have HM3 := Lib.hid hm3; have HB3 := Lib.hid hb3'; have K3 := Lib.hid k3
  clear hm3 hb3' k3 hb3 hg3 HSRC HCL HCS H1C HOW HO
  go_wp2_with fail
  clear hcp
  go_loopg [7, 50] l.length (fun gh nv i wr => ∃ (j gN cN : Nat), j + gh = l.length ∧ i = .int .i64 j ∧ nv = .slice (some ⟨gN, 0, none⟩) n cN ∧ w.heap.size < gN ∧ Hid (MR wr gN (marksOf n (mvF (langCat hasB (l.take j)) (bytesN t) f))) ∧ Hid (wr.heap[w.heap.size]? = some (.cells #[.int .i64 2, .int .u64 s0, .int .u64 s1, .int .u64 s2, .int .u64 s3, .slice A l.length c, .int .i64 mn, .int .i64 mx] 27 (0, 0))) ∧ Hid (Below w.heap.size w wr))
  case atStart => exact ⟨0, w.heap.size + 1, n, by omega, rfl, rfl, by omega, Lib.hid (by rw [show marksOf n (mvF (langCat hasB (l.take 0)) (bytesN t) f) = marksOf n f from marksOf_congr n fun i hi => mv_eps (bytesN t) f i (HTL.out i hi)]; exact HM3.out), K3, HB3⟩
  case round =>
    obtain ⟨j, gN, cN, hj, rfl, rfl, hgn, HM, HX, HB⟩ := hrel
    have Hj := Lib.hid hj
    obtain ⟨x0, x1, x2, x3, x4, x5, x6, x7, hlx⟩ := box8 HX.out
    by_cases hlt : j < l.length
    · obtain ⟨ad, A', c', rfl, hc, hk⟩ := HK.out.2 j l[j] (List.getElem?_eq_getElem hlt)
      have hrj := HR.out l[j] (List.getElem_mem hlt)
      obtain ⟨y0, y1, y2, y3, y4, y5, y6, y7⟩ := hc.below HB.out
      have HKJ := Lib.hid (hk.below HB.out); have HRJ := Lib.hid hrj
      clear hk hc hrj hj
      go_wp2_with fail
      refine (IH.out l[j] A' c' gN cN _ _ HRJ.out (HKJ.out.below ((Below.refl _ _).alloc (Nat.le_refl _) _)) (HM.out.below ((Below.refl _ _).alloc (Nat.le_refl _) _))).mono ?_
      rintro e w6 ⟨g6, c6, rfl, hg6, hm6, hB6⟩
      have hB6' : Below wr.heap.size wr w6 := ((Below.refl wr.heap.size wr).alloc (Nat.le_refl _) _).trans (hB6.mono (by simp))
      rw [show marksOf n (mvF (langT hasB l[j]) (bytesN t) (mvF (langCat hasB (l.take j)) (bytesN t) f)) = marksOf n (mvF (langCat hasB (l.take (j + 1))) (bytesN t) f) from marksOf_congr n fun i hi => by
        rw [← mv_cat _ _ _ _ _ (HTL.out i hi), List.take_succ_eq_append_getElem hlt]
        exact mv_congr (fun u => (langCat_snoc hasB _ _ u).symm) _ _ _] at hm6
      have hg6' : w.heap.size < g6 := by simp at hg6; omega
      have HM6 := Lib.hid hm6; have HB6 := Lib.hid (HB.out.trans (hB6'.mono HB.out.size)); have HX6 := Lib.hid (heap_aq hB6' HX.out)
      clear hm6 hB6 hB6' hg6
      go_wp2_with fail
      have hj := Hj.out
      go_roundg (gk - 1)
      case measure => omega
      case rel => exact ⟨j + 1, g6, c6, by omega, by go_num, rfl, hg6', HM6, HX6, HB6⟩
    · obtain rfl : j = l.length := by omega
      have hm := HM.out
      rw [List.take_length] at hm
      have HMF := Lib.hid hm
      clear hm hj
      go_wp2_with fail
      go_ret
      first
        | exact ⟨gN, cN, rfl, by omega, HMF.out, HB.out⟩
        | exact ⟨gN, ⟨cN, rfl⟩, by omega, HMF.out, HB.out⟩

set_option maxRecDepth 100000 in
set_option maxHeartbeats 4000000 in
theorem moved_alt (t : ByteArray) (n d : Nat) (hn : n = t.size + 1) (h63 : n ≤ 1048577) (ih : MovedOK t n d) (l : List Tree) (s0 s1 s2 s3 mn mx : Int) (A : Option Addr) (c g cg : Nat) (f : Nat → Bool) (w : World)
    (hr : ∀ x ∈ l, x.right = true) (hkids : KidsIn w (d + 1) l A) (hg : MR w g (marksOf n f)) :
    Calls Tryd.prog 48 #[.agg #[.int .i64 3, .int .u64 s0, .int .u64 s1, .int .u64 s2, .int .u64 s3, .slice A l.length c, .int .i64 mn, .int .i64 mx], .string t, .slice (some ⟨g, 0, none⟩) n cg] w fun e w' => ∃ g' c', e = .returned (.slice (some ⟨g', 0, none⟩) n c') ∧ w.heap.size ≤ g' ∧ MR w' g' (marksOf n (mvF (langAlt hasB l) (bytesN t) f)) ∧ Below w.heap.size w w' := by
  have hll := hkids.1
  have HR := Lib.hid hr; have HK := Lib.hid hkids; have IH := Lib.hid ih
  clear hr hkids ih
  have h0 : 0 < n := by omega
  have hb0 := (Below.refl w.heap.size w).alloc (Nat.le_refl _) (Obj.cells #[.int .i64 3, .int .u64 s0, .int .u64 s1, .int .u64 s2, .int .u64 s3, .slice A l.length c, .int .i64 mn, .int .i64 mx] 27)
  have k0 := heap_a0 w (Obj.cells #[.int .i64 3, .int .u64 s0, .int .u64 s1, .int .u64 s2, .int .u64 s3, .slice A l.length c, .int .i64 mn, .int .i64 mx] 27)
  obtain ⟨x0, x1, x2, x3, x4, x5, x6, x7, _⟩ := box8 k0
  obtain ⟨i0, hi0, hz0, hz1, hz2⟩ := info_parts boolInfoM
  have hws : (w.alloc (Obj.cells #[.int .i64 3, .int .u64 s0, .int .u64 s1, .int .u64 s2, .int .u64 s3, .slice A l.length c, .int .i64 mn, .int .i64 mx] 27)).heap.size = w.heap.size + 1 := by simp
  have HB0 := Lib.hid hb0; have K0 := Lib.hid k0; have HWS := Lib.hid hws; have HG := Lib.hid hg; have HN := Lib.hid hn
  clear hb0 k0 hws hg hn
  go_enter Tryd.func48, Tryd.ntmps48
  go_wp2_with (at_make; refine wpList_make_full _ rfl _ _ 84 rfl (w.alloc (Obj.cells #[.int .i64 3, .int .u64 s0, .int .u64 s1, .int .u64 s2, .int .u64 s3, .slice A l.length c, .int .i64 mn, .int .i64 mx] 27)).heap.size 4 i0 (.bool false) 1 marksU hi0 hz0 hz1 .i64 .i64 _ _ n rfl rfl rfl rfl (by rw [hz2]; omega) (by unfold maxLen; omega) (Nat.le_refl _) ?_)
  intro w2 hown2 hgrow2
  have hom := out_made HB0.out HWS.out hown2 hgrow2
  have k2 := heap_aq hom.2.2 K0.out
  obtain ⟨x0, x1, x2, x3, x4, x5, x6, x7, hlx⟩ := box8 k2
  have HO := Lib.hid hom.1; have HB2 := Lib.hid hom.2.1; have K2 := Lib.hid k2
  clear hom k2 hown2 hgrow2 hi0 hz0 hz1 hz2
  try rw [HWS.out]
  have hgw := HG.out.lt
  go_wp2_with fail
  go_loopg [64] l.length (fun gh i wr => ∃ (j : Nat), j + gh = l.length ∧ i = .int .i64 j ∧ Hid (MR wr (w.heap.size + 1) (marksOf n (mvF (langAlt hasB (l.take j)) (bytesN t) f))) ∧ Hid (wr.heap[w.heap.size]? = some (.cells #[.int .i64 3, .int .u64 s0, .int .u64 s1, .int .u64 s2, .int .u64 s3, .slice A l.length c, .int .i64 mn, .int .i64 mx] 27 (0, 0))) ∧ Hid (Below w.heap.size w wr))
  case atStart => exact ⟨0, by omega, rfl, Lib.hid (by rw [show marksOf n (mvF (langAlt hasB (l.take 0)) (bytesN t) f) = marksOf n (fun _ => false) from marksOf_congr n fun i hi => mv_none (bytesN t) f i]; exact HO.out), K2, HB2⟩
  case round =>
    obtain ⟨j, hj, rfl, HM, HX, HB⟩ := hrel
    have Hj := Lib.hid hj
    obtain ⟨x0, x1, x2, x3, x4, x5, x6, x7, hlx⟩ := box8 HX.out
    by_cases hlt : j < l.length
    · obtain ⟨ad, A', c', rfl, hc, hk⟩ := HK.out.2 j l[j] (List.getElem?_eq_getElem hlt)
      have hrj := HR.out l[j] (List.getElem_mem hlt)
      obtain ⟨y0, y1, y2, y3, y4, y5, y6, y7⟩ := hc.below HB.out
      have hgl := HM.out.lt
      have HKJ := Lib.hid (hk.below HB.out); have HRJ := Lib.hid hrj; have HGF := Lib.hid (HG.out.below HB.out)
      clear hk hc hrj hj
      go_wp2_with fail
      refine (IH.out l[j] A' c' g cg f _ HRJ.out (HKJ.out.below ((Below.refl _ _).alloc (Nat.le_refl _) _)) (HGF.out.below ((Below.refl _ _).alloc (Nat.le_refl _) _))).mono ?_
      rintro e w6 ⟨g6, c6, rfl, hg6, hm6, hB6⟩
      have hB6' : Below wr.heap.size wr w6 := ((Below.refl wr.heap.size wr).alloc (Nat.le_refl _) _).trans (hB6.mono (by simp))
      have hg6' : w.heap.size + 1 < g6 := by simp at hg6; omega
      have hjo := join_marks n (w.heap.size + 1) g6 n c6 _ _ w6 (HM.out.below hB6') hm6 (by omega) h63
      have hs6 := hB6'.size
      have HJO := Lib.hid hjo; have HB6 := Lib.hid (HB.out.trans (hB6'.mono HB.out.size)); have HX6 := Lib.hid (heap_aq hB6' HX.out)
      clear hjo hm6 hB6 hB6' hg6
      go_wp2_with fail
      refine HJO.out.mono ?_
      rintro e w7 ⟨rfl, hm7, hK7⟩
      rw [show marksOf n (fun i => mvF (langAlt hasB (l.take j)) (bytesN t) f i || mvF (langT hasB l[j]) (bytesN t) f i) = marksOf n (mvF (langAlt hasB (l.take (j + 1))) (bytesN t) f) from marksOf_congr n fun i hi => by
        rw [← mv_or, List.take_succ_eq_append_getElem hlt]
        exact mv_congr (fun u => (langAlt_snoc hasB _ _ u).symm) _ _ _] at hm7
      have HM7 := Lib.hid hm7; have HX7 := Lib.hid ((hK7.block w.heap.size (by omega) (by omega)).trans HX6.out); have HB7 := Lib.hid (HB6.out.trans ((hK7.mono HB6.out.size).below (by omega)))
      clear hm7 hK7
      go_wp2_with fail
      have hj := Hj.out
      go_roundg (gk - 1)
      case measure => omega
      case rel => exact ⟨j + 1, by omega, by go_num, HM7, HX7, HB7⟩
    · obtain rfl : j = l.length := by omega
      have hm := HM.out
      rw [List.take_length] at hm
      have HMF := Lib.hid hm
      clear hm hj
      go_wp2_with fail
      go_ret
      first
        | exact ⟨w.heap.size + 1, n, rfl, by omega, HMF.out, HB.out⟩
        | exact ⟨w.heap.size + 1, ⟨n, rfl⟩, by omega, HMF.out, HB.out⟩

/-- Marks behind one byte, up to place j. -/
noncomputable def oneTo (S : S4) (t : List Nat) (f : Nat → Bool) (j i : Nat) : Bool := decide (i ≤ j) && mvF (fun u => ∃ b, u = [b] ∧ hasB S b = true) t f i
theorem oneTo_zero (S : S4) (t : List Nat) (f : Nat → Bool) (n : Nat) : marksOf n (oneTo S t f 0) = marksOf n fun _ => false := marksOf_congr n fun i _ => by
  unfold oneTo
  cases i with
  | zero => rw [mv_one0]; rfl
  | succ i => simp
theorem oneTo_set (S : S4) (t : List Nat) (f : Nat → Bool) (n j : Nat) (hj : j < t.length) (b : Bool) (hb : b = (f j && hasB S t[j])) : (marksOf n (oneTo S t f j)).set (j + 1) b = marksOf n (oneTo S t f (j + 1)) := by
  apply List.ext_getElem?
  intro i
  rcases Nat.lt_or_ge i n with h | h
  · by_cases hk : j + 1 = i
    · subst hk
      rw [List.getElem?_set_self (by rw [marksOf_len]; exact h), marksOf_get n _ _ h]
      unfold oneTo
      rw [mv_one _ _ _ _ hj, hb]
      simp
    · rw [List.getElem?_set_ne hk, marksOf_get n _ i h, marksOf_get n _ i h]
      unfold oneTo
      rw [decide_eq_decide.2 (show i ≤ j ↔ i ≤ j + 1 by omega)]
  · rw [List.getElem?_eq_none (by rw [List.length_set, marksOf_len]; exact h), List.getElem?_eq_none (by rw [marksOf_len]; exact h)]
theorem oneTo_full (S : S4) (t : List Nat) (f : Nat → Bool) (n : Nat) (h : n = t.length + 1) : marksOf n (oneTo S t f t.length) = marksOf n (mvF (fun u => ∃ b, u = [b] ∧ hasB S b = true) t f) := marksOf_congr n fun i hi => by
  unfold oneTo
  rw [decide_eq_true (show i ≤ t.length by omega), Bool.true_and]

set_option maxRecDepth 100000 in
set_option maxHeartbeats 4000000 in
theorem moved_one (t : ByteArray) (n d : Nat) (hn : n = t.size + 1) (h63 : n ≤ 1048577) (s0 s1 s2 s3 mn mx : Int) (A : Option Addr) (c g cg : Nat) (f : Nat → Bool) (w : World)
    (hg : MR w g (marksOf n f)) :
    Calls Tryd.prog 48 #[.agg #[.int .i64 1, .int .u64 s0, .int .u64 s1, .int .u64 s2, .int .u64 s3, .slice A 0 c, .int .i64 mn, .int .i64 mx], .string t, .slice (some ⟨g, 0, none⟩) n cg] w fun e w' => ∃ g' c', e = .returned (.slice (some ⟨g', 0, none⟩) n c') ∧ w.heap.size ≤ g' ∧ MR w' g' (marksOf n (mvF (fun u => ∃ b, u = [b] ∧ hasB (s0, s1, s2, s3) b = true) (bytesN t) f)) ∧ Below w.heap.size w w' := by
  have hbl := bytesN_len t
  have HBL := Lib.hid hbl
  have hnt : t.size ≤ 1048576 := by omega
  clear hbl
  obtain ⟨L, hL⟩ : ∃ L : Lang, L = fun u => ∃ b, u = [b] ∧ hasB (s0, s1, s2, s3) b = true := ⟨_, rfl⟩
  rw [← hL]
  have HL := Lib.hid hL
  clear hL
  have h0 : 0 < n := by omega
  have hb0 := (Below.refl w.heap.size w).alloc (Nat.le_refl _) (Obj.cells #[.int .i64 1, .int .u64 s0, .int .u64 s1, .int .u64 s2, .int .u64 s3, .slice A 0 c, .int .i64 mn, .int .i64 mx] 27)
  have k0 := heap_a0 w (Obj.cells #[.int .i64 1, .int .u64 s0, .int .u64 s1, .int .u64 s2, .int .u64 s3, .slice A 0 c, .int .i64 mn, .int .i64 mx] 27)
  obtain ⟨x0, x1, x2, x3, x4, x5, x6, x7, _⟩ := box8 k0
  obtain ⟨i0, hi0, hz0, hz1, hz2⟩ := info_parts boolInfoM
  have hws : (w.alloc (Obj.cells #[.int .i64 1, .int .u64 s0, .int .u64 s1, .int .u64 s2, .int .u64 s3, .slice A 0 c, .int .i64 mn, .int .i64 mx] 27)).heap.size = w.heap.size + 1 := by simp
  have HB0 := Lib.hid hb0; have K0 := Lib.hid k0; have HWS := Lib.hid hws; have HG := Lib.hid hg; have HN := Lib.hid hn
  clear hb0 k0 hws hg hn
  go_enter Tryd.func48, Tryd.ntmps48
  go_wp2_with (at_make; refine wpList_make_full _ rfl _ _ 84 rfl (w.alloc (Obj.cells #[.int .i64 1, .int .u64 s0, .int .u64 s1, .int .u64 s2, .int .u64 s3, .slice A 0 c, .int .i64 mn, .int .i64 mx] 27)).heap.size 4 i0 (.bool false) 1 marksU hi0 hz0 hz1 .i64 .i64 _ _ n rfl rfl rfl rfl (by rw [hz2]; omega) (by unfold maxLen; omega) (Nat.le_refl _) ?_)
  intro w2 hown2 hgrow2
  have hom := out_made HB0.out HWS.out hown2 hgrow2
  have k2 := heap_aq hom.2.2 K0.out
  obtain ⟨x0, x1, x2, x3, x4, x5, x6, x7, hlx⟩ := box8 k2
  have HO := Lib.hid hom.1; have HB2 := Lib.hid hom.2.1; have K2 := Lib.hid k2
  clear hom k2 hown2 hgrow2 hi0 hz0 hz1 hz2
  try rw [HWS.out]
  have hgw := HG.out.lt
  go_wp2_with fail
  go_loopg [22] t.size (fun gh i wr => ∃ (j : Nat), j + gh = t.size ∧ i = .int .i64 j ∧ Hid (MR wr (w.heap.size + 1) (marksOf n (oneTo (s0, s1, s2, s3) (bytesN t) f j))) ∧ Hid (wr.heap[w.heap.size]? = some (.cells #[.int .i64 1, .int .u64 s0, .int .u64 s1, .int .u64 s2, .int .u64 s3, .slice A 0 c, .int .i64 mn, .int .i64 mx] 27 (0, 0))) ∧ Hid (Below w.heap.size w wr))
  case atStart => exact ⟨0, by omega, rfl, Lib.hid (by rw [oneTo_zero]; exact HO.out), K2, HB2⟩
  case round =>
    obtain ⟨j, hj, rfl, HM, HX, HB⟩ := hrel
    have Hj := Lib.hid hj
    obtain ⟨x0, x1, x2, x3, x4, x5, x6, x7, hlx⟩ := box8 HX.out
    by_cases hlt : j < t.size
    · have hjn : j + 1 < n := by rw [HN.out]; omega
      have hjn0 : j < n := by omega
      have HWP := Lib.hid (show IntKind.i64.wrap ((j : Int) + 1) = (j : Int) + 1 from IntWalk.i64_in _ (by omega))
      have hji0 : 0 ≤ (j : Int) + 1 := by omega
      have hji1 : (j : Int) + 1 < n := by omega
      have hjb : j < (bytesN t).length := by rw [HBL.out]; exact hlt
      have z0 := (HG.out.below HB.out).get j (by omega)
      cases hf : f j with
      | false =>
        have HF := Lib.hid hf
        clear hf hj
        go_wp2_with fail
        refine start_ (n := 17) (S := fun w' => Below wr.heap.size wr w') (ds := [16]) #[false, false, false, false, false, false, false, false, false, false, false, false, false, false, false, false, false] (by kernel_rfl) rfl rfl ((Below.refl _ _).drew) (fun hHeld => ?_)
        refine pure_ (i := 0) (N := some 25) (v := ?_) (a' := ?_) #[true, false, false, false, false, false, false, false, false, false, false, false, false, false, false, false, false] rfl rfl (by kernel_rfl) (fun _ _ _ h => h) (Or.inl ⟨by rfl, ?_⟩) ?_ ?_
        rotate_left
        · intro w'
          go_simp
          with_reducible rfl
        rotate_left
        · simp only [Act.put, sA, sB, sC]
          rfl
        refine pure_ (i := 1) (N := some 26) (v := ?_) (a' := ?_) #[true, true, false, false, false, false, false, false, false, false, false, false, false, false, false, false, false] rfl rfl (by kernel_rfl) (fun _ _ _ h => h) (Or.inl ⟨by rfl, ?_⟩) ?_ ?_
        rotate_left
        · intro w'
          go_simp
          with_reducible rfl
        rotate_left
        · simp only [Act.put, sA, sB, sC]
          rfl
        refine pure_ (i := 2) (N := some 27) (v := (.int .i64 ((j : Int) + 1))) (a' := ?_) #[true, true, true, false, false, false, false, false, false, false, false, false, false, false, false, false, false] rfl rfl (by kernel_rfl) (fun _ _ _ h => h) (Or.inl ⟨by rfl, ?_⟩) ?_ ?_
        · intro w'
          go_simp
          exact HWP.out
        rotate_left
        · simp only [Act.put, sA, sB, sC]
          rfl
        refine pure_ (i := 3) (N := some 28) (v := ?_) (a' := ?_) #[true, true, true, true, false, false, false, false, false, false, false, false, false, false, false, false, false] rfl rfl (by kernel_rfl) (fun _ _ _ h => h) (Or.inl ⟨by rfl, ?_⟩) ?_ ?_
        rotate_left
        · intro w'
          go_simp
          with_reducible rfl
        rotate_left
        · simp only [Act.put, sA, sB, sC]
          rfl
        refine pure_ (i := 4) (N := some 29) (v := ?_) (a' := ?_) #[true, true, true, true, true, false, false, false, false, false, false, false, false, false, false, false, false] rfl rfl (by kernel_rfl) (fun _ _ _ h => h) (Or.inl ⟨by rfl, ?_⟩) ?_ ?_
        rotate_left
        · intro w'
          go_simp
          with_reducible rfl
        rotate_left
        · simp only [Act.put, sA, sB, sC]
          rfl
        refine pure_ (i := 5) (N := some 30) (v := ?_) (a' := ?_) #[true, true, true, true, true, true, false, false, false, false, false, false, false, false, false, false, false] rfl rfl (by kernel_rfl) (fun _ _ _ h => h) (Or.inl ⟨by rfl, ?_⟩) ?_ ?_
        rotate_left
        · intro w'
          go_simp
          with_reducible rfl
        rotate_left
        · simp only [Act.put, sA, sB, sC]
          rfl
        refine take_ (i := 6) (N := some 31) (v := ?_) (a' := ?_) #[true, true, true, true, true, true, true, false, false, false, false, false, false, false, false, false, false] rfl rfl (by kernel_rfl) (fun _ _ _ h => h) (Or.inl ⟨by rfl, ?_⟩) hHeld ?_ ?_
        rotate_left
        · intro w' sb; obtain ⟨x0, x1, x2, x3, x4, x5, x6, x7, _⟩ := box8 (heap_aq sb HX.out); have z0 := (show w'.cell? ⟨g, j, none⟩ = some (.bool false) by have := ((HG.out.below HB.out).below sb).get j hjn0; rwa [HF.out] at this)
          go_simp
          with_reducible rfl
        rotate_left
        · simp only [Act.put, sA, sB, sC]
          rfl
        refine pure_ (i := 7) (N := some 32) (v := ?_) (a' := ?_) #[true, true, true, true, true, true, true, true, false, false, false, false, false, false, false, false, false] rfl rfl (by kernel_rfl) (fun _ _ _ h => h) (Or.inl ⟨by rfl, ?_⟩) ?_ ?_
        rotate_left
        · intro w'
          go_simp
          with_reducible rfl
        rotate_left
        · simp only [Act.put, sA, sB, sC]
          rfl
        refine pure_ (i := 8) (N := some 33) (v := ?_) (a' := ?_) #[true, true, true, true, true, true, true, true, true, false, false, false, false, false, false, false, false] rfl rfl (by kernel_rfl) (fun _ _ _ h => h) (Or.inr ⟨by rfl, ?_⟩) ?_ ?_
        rotate_left
        · rfl
        rotate_left
        · simp only [Act.put, sA, sB, sC]
          rfl
        refine pure_ (i := 9) (N := some 34) (v := ?_) (a' := ?_) #[true, true, true, true, true, true, true, true, true, true, false, false, false, false, false, false, false] rfl rfl (by kernel_rfl) (fun _ _ _ h => h) (Or.inr ⟨by rfl, ?_⟩) ?_ ?_
        rotate_left
        · rfl
        rotate_left
        · simp only [Act.put, sA, sB, sC]
          rfl
        refine pure_ (i := 10) (N := some 35) (v := ?_) (a' := ?_) #[true, true, true, true, true, true, true, true, true, true, true, false, false, false, false, false, false] rfl rfl (by kernel_rfl) (fun _ _ _ h => h) (Or.inr ⟨by rfl, ?_⟩) ?_ ?_
        rotate_left
        · rfl
        rotate_left
        · simp only [Act.put, sA, sB, sC]
          rfl
        refine pure_ (i := 11) (N := some 36) (v := ?_) (a' := ?_) #[true, true, true, true, true, true, true, true, true, true, true, true, false, false, false, false, false] rfl rfl (by kernel_rfl) (fun _ _ _ h => h) (Or.inr ⟨by rfl, ?_⟩) ?_ ?_
        rotate_left
        · rfl
        rotate_left
        · simp only [Act.put, sA, sB, sC]
          rfl
        refine pure_ (i := 12) (N := some 37) (v := ?_) (a' := ?_) #[true, true, true, true, true, true, true, true, true, true, true, true, true, false, false, false, false] rfl rfl (by kernel_rfl) (fun _ _ _ h => h) (Or.inr ⟨by rfl, ?_⟩) ?_ ?_
        rotate_left
        · rfl
        rotate_left
        · simp only [Act.put, sA, sB, sC]
          rfl
        refine pure_ (i := 13) (N := some 38) (v := ?_) (a' := ?_) #[true, true, true, true, true, true, true, true, true, true, true, true, true, true, false, false, false] rfl rfl (by kernel_rfl) (fun _ _ _ h => h) (Or.inr ⟨by rfl, ?_⟩) ?_ ?_
        rotate_left
        · rfl
        rotate_left
        · simp only [Act.put, sA, sB, sC]
          rfl
        refine pure_ (i := 14) (N := some 39) (v := ?_) (a' := ?_) #[true, true, true, true, true, true, true, true, true, true, true, true, true, true, true, false, false] rfl rfl (by kernel_rfl) (fun _ _ _ h => h) (Or.inl ⟨by rfl, ?_⟩) ?_ ?_
        rotate_left
        · intro w'
          go_simp
          with_reducible rfl
        rotate_left
        · simp only [Act.put, sA, sB, sC]
          rfl
        refine pure_ (i := 15) (N := some 40) (v := ?_) (a' := ?_) #[true, true, true, true, true, true, true, true, true, true, true, true, true, true, true, true, false] rfl rfl (by kernel_rfl) (fun _ _ _ h => h) (Or.inl ⟨by rfl, ?_⟩) ?_ ?_
        rotate_left
        · intro w'
          go_simp
          with_reducible rfl
        rotate_left
        · simp only [Act.put, sA, sB, sC]
          rfl
        refine last_ (i := 16) (N := none) #[true, true, true, true, true, true, true, true, true, true, true, true, true, true, true, true, true] rfl rfl (by kernel_rfl) (by decide) (fun K hK => ?_)
        refine skip_ (w1 := ?_) (by rfl) rfl ?_ ?_
        rotate_left
        · have z1 := (HM.out.below hHeld).get (j + 1) hjn
          have z2 := (HM.out.below hHeld).frozen (j + 1)
          go_simp
          rfl
        refine hK.out _ _ ?_
        clear hK K
        refine done_ (by kernel_rfl) ?_
        have hset := (HM.out.below hHeld).set (j + 1) (by rw [marksOf_len]; exact hjn) false
        rw [oneTo_set _ _ _ _ _ hjb _ (by rw [HF.out]; rfl)] at hset
        have hsz7 := HM.out.lt
        have HS := Lib.hid hset; have HX2 := Lib.hid ((Below.heap_setCell wr.drew ⟨w.heap.size + 1, j + 1, none⟩ (.bool false) w.heap.size (by show w.heap.size ≠ w.heap.size + 1; omega)).trans (heap_aq hHeld HX.out)); have HB2' := Lib.hid ((HB.out.trans (hHeld.mono HB.out.size)).setCell (p := ⟨w.heap.size + 1, j + 1, none⟩) (by simp) (.bool false))
        clear hset hHeld
        go_wp2_with fail
        have hj := Hj.out
        go_roundg (gk - 1)
        case measure => omega
        case rel => exact ⟨j + 1, by omega, by go_num, HS, HX2, HB2'⟩
      | true =>
        have HF := Lib.hid hf
        clear hf hj
        go_wp2_with fail
        refine start_ (n := 17) (S := fun w' => Below wr.heap.size wr w') (ds := [16]) #[false, false, false, false, false, false, false, false, false, false, false, false, false, false, false, false, false] (by kernel_rfl) rfl rfl ((Below.refl _ _).drew) (fun hHeld => ?_)
        refine pure_ (i := 0) (N := some 25) (v := ?_) (a' := ?_) #[true, false, false, false, false, false, false, false, false, false, false, false, false, false, false, false, false] rfl rfl (by kernel_rfl) (fun _ _ _ h => h) (Or.inl ⟨by rfl, ?_⟩) ?_ ?_
        rotate_left
        · intro w'
          go_simp
          with_reducible rfl
        rotate_left
        · simp only [Act.put, sA, sB, sC]
          rfl
        refine pure_ (i := 1) (N := some 26) (v := ?_) (a' := ?_) #[true, true, false, false, false, false, false, false, false, false, false, false, false, false, false, false, false] rfl rfl (by kernel_rfl) (fun _ _ _ h => h) (Or.inl ⟨by rfl, ?_⟩) ?_ ?_
        rotate_left
        · intro w'
          go_simp
          with_reducible rfl
        rotate_left
        · simp only [Act.put, sA, sB, sC]
          rfl
        refine pure_ (i := 2) (N := some 27) (v := (.int .i64 ((j : Int) + 1))) (a' := ?_) #[true, true, true, false, false, false, false, false, false, false, false, false, false, false, false, false, false] rfl rfl (by kernel_rfl) (fun _ _ _ h => h) (Or.inl ⟨by rfl, ?_⟩) ?_ ?_
        · intro w'
          go_simp
          exact HWP.out
        rotate_left
        · simp only [Act.put, sA, sB, sC]
          rfl
        refine pure_ (i := 3) (N := some 28) (v := ?_) (a' := ?_) #[true, true, true, true, false, false, false, false, false, false, false, false, false, false, false, false, false] rfl rfl (by kernel_rfl) (fun _ _ _ h => h) (Or.inl ⟨by rfl, ?_⟩) ?_ ?_
        rotate_left
        · intro w'
          go_simp
          with_reducible rfl
        rotate_left
        · simp only [Act.put, sA, sB, sC]
          rfl
        refine pure_ (i := 4) (N := some 29) (v := ?_) (a' := ?_) #[true, true, true, true, true, false, false, false, false, false, false, false, false, false, false, false, false] rfl rfl (by kernel_rfl) (fun _ _ _ h => h) (Or.inl ⟨by rfl, ?_⟩) ?_ ?_
        rotate_left
        · intro w'
          go_simp
          with_reducible rfl
        rotate_left
        · simp only [Act.put, sA, sB, sC]
          rfl
        refine pure_ (i := 5) (N := some 30) (v := ?_) (a' := ?_) #[true, true, true, true, true, true, false, false, false, false, false, false, false, false, false, false, false] rfl rfl (by kernel_rfl) (fun _ _ _ h => h) (Or.inl ⟨by rfl, ?_⟩) ?_ ?_
        rotate_left
        · intro w'
          go_simp
          with_reducible rfl
        rotate_left
        · simp only [Act.put, sA, sB, sC]
          rfl
        refine take_ (i := 6) (N := some 31) (v := ?_) (a' := ?_) #[true, true, true, true, true, true, true, false, false, false, false, false, false, false, false, false, false] rfl rfl (by kernel_rfl) (fun _ _ _ h => h) (Or.inl ⟨by rfl, ?_⟩) hHeld ?_ ?_
        rotate_left
        · intro w' sb; obtain ⟨x0, x1, x2, x3, x4, x5, x6, x7, _⟩ := box8 (heap_aq sb HX.out); have z0 := (show w'.cell? ⟨g, j, none⟩ = some (.bool true) by have := ((HG.out.below HB.out).below sb).get j hjn0; rwa [HF.out] at this)
          go_simp
          with_reducible rfl
        rotate_left
        · simp only [Act.put, sA, sB, sC]
          rfl
        refine pure_ (i := 7) (N := some 32) (v := ?_) (a' := ?_) #[true, true, true, true, true, true, true, true, false, false, false, false, false, false, false, false, false] rfl rfl (by kernel_rfl) (fun _ _ _ h => h) (Or.inl ⟨by rfl, ?_⟩) ?_ ?_
        rotate_left
        · intro w'
          go_simp
          with_reducible rfl
        rotate_left
        · simp only [Act.put, sA, sB, sC]
          rfl
        refine pure_ (i := 8) (N := some 33) (v := ?_) (a' := ?_) #[true, true, true, true, true, true, true, true, true, false, false, false, false, false, false, false, false] rfl rfl (by kernel_rfl) (fun _ _ _ h => h) (Or.inl ⟨by rfl, ?_⟩) ?_ ?_
        rotate_left
        · intro w'
          go_simp
          with_reducible rfl
        rotate_left
        · simp only [Act.put, sA, sB, sC]
          rfl
        refine take_ (i := 9) (N := some 34) (v := ?_) (a' := ?_) #[true, true, true, true, true, true, true, true, true, true, false, false, false, false, false, false, false] rfl rfl (by kernel_rfl) (fun _ _ _ h => h) (Or.inl ⟨by rfl, ?_⟩) hHeld ?_ ?_
        rotate_left
        · intro w' sb; obtain ⟨x0, x1, x2, x3, x4, x5, x6, x7, _⟩ := box8 (heap_aq sb HX.out); have z0 := (show w'.cell? ⟨g, j, none⟩ = some (.bool true) by have := ((HG.out.below HB.out).below sb).get j hjn0; rwa [HF.out] at this)
          go_simp
          with_reducible rfl
        rotate_left
        · simp only [Act.put, sA, sB, sC]
          rfl
        refine pure_ (i := 10) (N := some 35) (v := ?_) (a' := ?_) #[true, true, true, true, true, true, true, true, true, true, true, false, false, false, false, false, false] rfl rfl (by kernel_rfl) (fun _ _ _ h => h) (Or.inl ⟨by rfl, ?_⟩) ?_ ?_
        rotate_left
        · intro w'
          go_simp
          with_reducible rfl
        rotate_left
        · simp only [Act.put, sA, sB, sC]
          rfl
        refine pure_ (i := 11) (N := some 36) (v := ?_) (a' := ?_) #[true, true, true, true, true, true, true, true, true, true, true, true, false, false, false, false, false] rfl rfl (by kernel_rfl) (fun _ _ _ h => h) (Or.inl ⟨by rfl, ?_⟩) ?_ ?_
        rotate_left
        · intro w'
          go_simp
          with_reducible rfl
        rotate_left
        · simp only [Act.put, sA, sB, sC]
          rfl
        refine pure_ (i := 12) (N := some 37) (v := ?_) (a' := ?_) #[true, true, true, true, true, true, true, true, true, true, true, true, true, false, false, false, false] rfl rfl (by kernel_rfl) (fun _ _ _ h => h) (Or.inl ⟨by rfl, ?_⟩) ?_ ?_
        rotate_left
        · intro w'
          go_simp
          with_reducible rfl
        rotate_left
        · simp only [Act.put, sA, sB, sC]
          rfl
        refine one_ (i := 13) (N := some 38) #[true, true, true, true, true, true, true, true, true, true, true, true, true, true, false, false, false] rfl rfl (by kernel_rfl) (by decide) (fun K hK => ?_)
        refine goes_ Tryd.func29 (by kernel_rfl) rfl #[.agg #[.int .u64 s0, .int .u64 s1, .int .u64 s2, .int .u64 s3], .int .u8 t[j].toNat] (by rfl) rfl rfl (by first | rfl | (simp only [List.map_toArray, List.map_cons, List.map_nil]; rfl)) ?_
        refine (has_any (s0, s1, s2, s3) t[j].toNat _ t[j].toNat_lt).mono ?_
        rintro e w4 ⟨rfl, hb4⟩
        refine ⟨_, rfl, ?_⟩
        refine hK.out _ _ (hHeld.trans (hb4.mono hHeld.size)) (fun hHeld => ?_)
        clear hK K
        refine norm_ (a' := ?_) ?_ ?_
        rotate_left
        · show Act.put _ (some 38) _ = _
          simp only [Act.put, sA, sB, sC]
          rfl
        refine pure_ (i := 14) (N := some 39) (v := ?_) (a' := ?_) #[true, true, true, true, true, true, true, true, true, true, true, true, true, true, true, false, false] rfl rfl (by kernel_rfl) (fun _ _ _ h => h) (Or.inl ⟨by rfl, ?_⟩) ?_ ?_
        rotate_left
        · intro w'
          go_simp
          with_reducible rfl
        rotate_left
        · simp only [Act.put, sA, sB, sC]
          rfl
        refine pure_ (i := 15) (N := some 40) (v := ?_) (a' := ?_) #[true, true, true, true, true, true, true, true, true, true, true, true, true, true, true, true, false] rfl rfl (by kernel_rfl) (fun _ _ _ h => h) (Or.inl ⟨by rfl, ?_⟩) ?_ ?_
        rotate_left
        · intro w'
          go_simp
          with_reducible rfl
        rotate_left
        · simp only [Act.put, sA, sB, sC]
          rfl
        refine last_ (i := 16) (N := none) #[true, true, true, true, true, true, true, true, true, true, true, true, true, true, true, true, true] rfl rfl (by kernel_rfl) (by decide) (fun K hK => ?_)
        refine skip_ (w1 := ?_) (by rfl) rfl ?_ ?_
        rotate_left
        · have z1 := (HM.out.below hHeld).get (j + 1) hjn
          have z2 := (HM.out.below hHeld).frozen (j + 1)
          go_simp
          rfl
        refine hK.out _ _ ?_
        clear hK K
        refine done_ (by kernel_rfl) ?_
        have hset := (HM.out.below hHeld).set (j + 1) (by rw [marksOf_len]; exact hjn) (hasB (s0, s1, s2, s3) t[j].toNat)
        rw [oneTo_set _ _ _ _ _ hjb _ (by rw [HF.out, bytesN_get t j hlt hjb]; rfl)] at hset
        have HS := Lib.hid hset; have HX2 := Lib.hid ((Below.heap_setCell w4 ⟨w.heap.size + 1, j + 1, none⟩ (.bool (hasB (s0, s1, s2, s3) t[j].toNat)) w.heap.size (by show w.heap.size ≠ w.heap.size + 1; omega)).trans (heap_aq hHeld HX.out)); have HB2' := Lib.hid ((HB.out.trans (hHeld.mono HB.out.size)).setCell (p := ⟨w.heap.size + 1, j + 1, none⟩) (by simp) (.bool (hasB (s0, s1, s2, s3) t[j].toNat)))
        clear hset hHeld
        go_wp2_with fail
        have hj := Hj.out
        go_roundg (gk - 1)
        case measure => omega
        case rel => exact ⟨j + 1, by omega, by go_num, HS, HX2, HB2'⟩
    · obtain rfl : j = t.size := by omega
      have hm := HM.out
      rw [← HBL.out, oneTo_full _ _ _ _ (by rw [HBL.out]; exact HN.out), ← HL.out] at hm
      have HMF := Lib.hid hm
      clear hm hj
      go_wp2_with fail
      go_ret
      first
        | exact ⟨w.heap.size + 1, n, rfl, by omega, HMF.out, HB.out⟩
        | exact ⟨w.heap.size + 1, ⟨n, rfl⟩, by omega, HMF.out, HB.out⟩

theorem moved_marks (t : ByteArray) (n : Nat) (hn : n = t.size + 1) (h63 : n ≤ 1048577) : ∀ d : Nat, MovedOK t n d
  | 0 => fun _ _ _ _ _ _ _ _ hk _ => hk.elim
  | d + 1 => by
    intro T A c g cg f w hr hk hg
    have ih := moved_marks t n hn h63 d
    obtain ⟨k, s0, s1, s2, s3, l, mn, mx⟩ := T
    have hkr := Tree.right_kids hr
    rcases Tree.right_kind hr with rfl | rfl | rfl | rfl
    · obtain rfl := Tree.right_one hr rfl
      have e : langT hasB (.node 1 s0 s1 s2 s3 [] mn mx) = fun u => ∃ b, u = [b] ∧ hasB (s0, s1, s2, s3) b = true := by simp [langT]
      rw [e]
      exact moved_one t n d hn h63 s0 s1 s2 s3 mn mx A c g cg f w hg
    · rw [langT_cat]
      exact moved_cat t n d hn h63 ih l s0 s1 s2 s3 mn mx A c g cg f w hkr hk hg
    · rw [langT_alt]
      exact moved_alt t n d hn h63 ih l s0 s1 s2 s3 mn mx A c g cg f w hkr hk hg
    · obtain ⟨hl, hm0, hm1, hm2⟩ := Tree.right_rep hr rfl
      obtain ⟨x, rfl⟩ := List.length_eq_one_iff.1 hl
      rw [langT_rep]
      exact moved_rep t n d hn h63 ih x s0 s1 s2 s3 mn mx A c g cg f w (hkr x (by simp)) hm0 hm1 hm2 hk hg
end Go.Proofs.YtmcoaopcmjociaaDoor

namespace Go.Proofs.YtmcoaopcmjociaaDoor
open Go Go.RowKit Go.Sort

/-- The places below m that are marked. -/
def endsL (F : Nat → Bool) (m : Nat) : List Int := ((List.range m).filter F).map Int.ofNat
theorem endsL_succ (F : Nat → Bool) (m : Nat) : endsL F (m + 1) = endsL F m ++ if F m then [(m : Int)] else [] := by
  unfold endsL
  rw [List.range_succ, List.filter_append, List.map_append]
  congr 1
  cases h : F m <;> simp [List.filter, h]
theorem endsL_len (F : Nat → Bool) (m : Nat) : (endsL F m).length ≤ m := by
  unfold endsL
  rw [List.length_map]
  exact Nat.le_trans (List.length_filter_le _ _) (by simp)
theorem endsL_last (F : Nat → Bool) (m : Nat) : (endsL F (m + 1)).contains (m : Int) = F m := by
  rw [Bool.eq_iff_iff, List.contains_iff_mem]
  unfold endsL
  rw [List.mem_map]
  constructor
  · rintro ⟨i, hi, he⟩
    have := Int.ofNat.inj he
    subst this
    exact (List.mem_filter.1 hi).2
  · intro h
    exact ⟨m, List.mem_filter.2 ⟨List.mem_range.2 (Nat.lt_succ_self m), h⟩, rfl⟩
/-- Which places end a text from the start. -/
noncomputable def endF (T : Tree) (t : ByteArray) : Nat → Bool := mvF (langT hasB T) (bytesN t) fun i => decide (i = 0)
theorem first_set (n : Nat) : (marksOf n fun _ => false).set 0 true = marksOf n fun i => decide (i = 0) := by
  rw [marksOf_set]
  exact marksOf_congr n fun i _ => by simp

set_option maxRecDepth 100000 in
set_option maxHeartbeats 4000000 in
theorem ends_right (t : ByteArray) (ht : t.size ≤ 1048576) (d : Nat) (T : Tree) (A : Option Addr) (c : Nat) (w : World) (hr : T.right = true) (hk : KidsIn w d T.kids A) :
    Calls Tryd.prog 33 #[T.val A c, .string t, .int .i64 0] w fun e w' => ∃ v, e = .returned v ∧ IR (fun b => w.heap.size ≤ b) w' v (endsL (endF T t) (t.size + 1)) ∧ Below w.heap.size w w' := by
  have hb0 := (Below.refl w.heap.size w).alloc (Nat.le_refl _) (Obj.cells #[.int .i64 T.kind, .int .u64 T.s0, .int .u64 T.s1, .int .u64 T.s2, .int .u64 T.s3, .slice A T.kids.length c, .int .i64 T.mn, .int .i64 T.mx] 27)
  have k0 := heap_a0 w (Obj.cells #[.int .i64 T.kind, .int .u64 T.s0, .int .u64 T.s1, .int .u64 T.s2, .int .u64 T.s3, .slice A T.kids.length c, .int .i64 T.mn, .int .i64 T.mx] 27)
  obtain ⟨x0, x1, x2, x3, x4, x5, x6, x7, _⟩ := box8 k0
  have hri := right_any d T A c _ (hk.below hb0)
  rw [hr] at hri
  have hmv := fun (g cg : Nat) (w1 : World) (hb : Below w.heap.size w w1) (hm : MR w1 g (marksOf (t.size + 1) fun i => decide (i = 0))) => moved_marks t (t.size + 1) rfl (by omega) d T A c g cg (fun i => decide (i = 0)) w1 hr (hk.below hb) hm
  obtain ⟨i0, hi0, hz0, hz1, hz2⟩ := info_parts boolInfoM
  have HRI := Lib.hid hri; have HMV := Lib.hid hmv; have HB0 := Lib.hid hb0; have K0 := Lib.hid k0
  have hF : ∀ i, endF T t i = mvF (langT hasB T) (bytesN t) (fun i => decide (i = 0)) i := fun _ => rfl
  obtain ⟨F, hFF⟩ : ∃ F, F = endF T t := ⟨_, rfl⟩
  rw [← hFF] at hF ⊢
  have hHF : marksOf (t.size + 1) (mvF (langT hasB T) (bytesN t) fun i => decide (i = 0)) = marksOf (t.size + 1) F := marksOf_congr _ fun i _ => (hF i).symm
  have HF := Lib.hid hHF
  clear hri hmv hb0 k0 hr hk hF hFF hHF
  go_enter Tryd.func33, Tryd.ntmps33
  go_wp2_with fail
  refine HRI.out.mono ?_
  rintro e w1 ⟨rfl, hB1⟩
  have k1 := heap_aq hB1 K0.out
  obtain ⟨x0, x1, x2, x3, x4, x5, x6, x7, _⟩ := box8 k1
  have hl0 : ¬ (t.size : Int) < 0 := by omega
  have HB1 := Lib.hid (HB0.out.trans (hB1.mono HB0.out.size)); have K1 := Lib.hid k1
  clear hB1 k1
  go_wp2_with (at_make; refine wpList_make_full _ rfl _ _ 84 rfl w1.heap.size 4 i0 (.bool false) 1 marksU hi0 hz0 hz1 .i64 .i64 _ _ (t.size + 1) rfl rfl rfl rfl (by rw [hz2]; omega) (by unfold maxLen; omega) (Nat.le_refl _) ?_)
  intro w2 hown2 hgrow2
  have hom := out_made (w := w1) (Below.refl _ _) rfl hown2 hgrow2
  have k2 := heap_aq hom.2.2 K1.out
  obtain ⟨x0, x1, x2, x3, x4, x5, x6, x7, hlx⟩ := box8 k2
  have hk1 := (Array.getElem?_eq_some_iff.1 K1.out).1
  have hlo := hom.1.lt
  have z1 := hom.1.get 0 (by omega)
  have z2 := hom.1.frozen 0
  have hst := hom.1.set 0 (by rw [marksOf_len]; omega) true
  rw [first_set] at hst
  have hb2 : Below w.heap.size w w2 := HB1.out.trans (hom.2.1.mono HB1.out.size)
  have hs0 := HB1.out.size
  have hb3 := hb2.setCell (p := ⟨w1.heap.size, 0, none⟩) (by show w.heap.size ≤ w1.heap.size; exact hs0) (.bool true)
  have k3 := (Below.heap_setCell w2 ⟨w1.heap.size, 0, none⟩ (.bool true) w.heap.size (by show w.heap.size ≠ w1.heap.size; omega)).trans k2
  have HM := Lib.hid (HMV.out w1.heap.size (t.size + 1) _ hb3 hst); have HB3 := Lib.hid hb3; have K3 := Lib.hid k3
  obtain ⟨y0, y1, y2, y3, y4, y5, y6, y7, _⟩ := box8 k3
  clear hom k2 hst hb2 hb3 k3 hown2 hgrow2 hi0 hz0 hz1 hz2
  go_wp2_with fail
  refine HM.out.mono ?_
  rintro e w4 ⟨g4, c4, rfl, hg4, hm4, hB4⟩
  rw [HF.out] at hm4
  have HM4 := Lib.hid hm4; have HB4 := Lib.hid (HB3.out.trans (hB4.mono HB3.out.size))
  clear hm4 hB4 x0 x1 x2 x3 x4 x5 x6 x7 y0 y1 y2 y3 y4 y5 y6 y7 z1 z2
  go_wp2_with fail
  go_loopg [8, 36] (t.size + 1) (fun gh ov i wr => ∃ (j : Nat) (B : Option Addr) (k : Nat), j + gh = t.size + 1 ∧ i = .int .i64 j ∧ ov = .slice B (endsL F j).length k ∧ Hid (wr.ownsRow w4.heap.size 3 1 (.slice B (endsL F j).length k) (endsL F j).length (ints (endsL F j))) ∧ Hid (Below w4.heap.size w4 wr))
  case atStart => exact ⟨0, none, 0, by omega, rfl, rfl, Lib.hid ⟨by simp [endsL], .inl ⟨rfl, rfl⟩⟩, Lib.hid (Below.refl _ _)⟩
  case round =>
    obtain ⟨j, B, k, hj, rfl, rfl, HO, HB⟩ := hrel
    have Hj := Lib.hid hj
    by_cases hlt : j < t.size + 1
    · have x0 := (HM4.out.below HB.out).get j hlt
      have hsu := endsL_succ F j
      have hle := endsL_len F j
      have hbw := HB.out.size
      obtain ⟨ot, hot⟩ : ∃ ot, ot = endsL F j := ⟨_, rfl⟩
      rw [← hot] at HO hsu hle ⊢
      have hji : (j : Int) < (t.size : Int) + 1 := by omega
      cases hF : F j with
      | false =>
        rw [hF] at x0 hsu
        have HS := Lib.hid (show endsL F (j + 1) = ot by rw [hsu]; simp)
        clear hsu hot hF hj
        go_wp2_with fail
        have hj := Hj.out
        go_roundg (gk - 1)
        case measure => omega
        case rel => exact ⟨j + 1, B, k, by omega, by go_num, by rw [HS.out], by rw [HS.out]; exact HO, HB⟩
      | true =>
        rw [hF] at x0 hsu
        have HS := Lib.hid (show endsL F (j + 1) = ot ++ [(j : Int)] by rw [hsu]; simp)
        obtain ⟨i1, hi1, hz1, hz2, hz3⟩ := info_parts intInfo
        have HAL := Lib.hid ((Below.refl wr.heap.size wr).alloc (Nat.le_refl _) (Obj.cells #[.int .i64 j] 3))
        have HT5 := Lib.hid (HO.out.alloc (Obj.cells #[.int .i64 j] 3))
        clear hsu hot hF hj
        go_wp2_with (at_builtin; refine wpList_append_lies _ rfl (.tmp 42) (.tmp 44) 32 rfl w4.heap.size 3 i1 (.int .i64 0) 1 8 Tryd.underlying32 hi1 hz1 hz2 hz3 rfl (by decide) _ ot.length (ints ot) rfl HT5.out ⟨wr.heap.size, 0, none⟩ 1 1 [.int .i64 j] rfl rfl (World.news_of_block (cs := #[.int .i64 j]) (t := 3) (fr := (0, 0)) (heap_a0 _ _)) (by simp [Value.oneCell']) (by omega) (by unfold maxLen; omega) (by omega) (by simp; omega) (wr.heap.size + 1) (by simp) ?_)
        intro g2 cap2 w6 hown6 hgrow6 hat6 hlt6
        have hb6 : Below w4.heap.size w4 w6 := (HB.out.trans (HAL.out.mono hbw)).trans ⟨hgrow6.os, hgrow6.tape, hgrow6.output, hgrow6.size, fun b hb => hgrow6.block b (by simp; omega) fun e => by have := (HT5.out.lt _ e.symm).1; omega⟩
        have ho6 : w6.ownsRow w4.heap.size 3 1 (.slice (some ⟨g2, 0, none⟩) (ot ++ [(j : Int)]).length cap2) (ot ++ [(j : Int)]).length (ints (ot ++ [(j : Int)])) := by
          rw [List.length_append]
          simpa using hown6
        have HB6 := Lib.hid hb6; have HO6 := Lib.hid ho6
        clear hb6 ho6 hown6 hgrow6 hat6 hi1 hz1 hz2 hz3
        go_wp2_with fail
        have hj := Hj.out
        go_roundg (gk - 1)
        case measure => omega
        case rel => exact ⟨j + 1, _, cap2, by omega, by go_num, by rw [HS.out, List.length_append]; rfl, by rw [HS.out]; exact HO6, HB6⟩
    · obtain rfl : j = t.size + 1 := by omega
      have hle := endsL_len F (t.size + 1)
      have hir : IR (fun b => w.heap.size ≤ b) wr (.slice B (endsL F (t.size + 1)).length k) (endsL F (t.size + 1)) := (IR.owned HO.out (by omega)).mono fun b hb _ => Nat.le_trans HB4.out.size hb
      have HI := Lib.hid hir; have HBE := Lib.hid (HB4.out.trans (HB.out.mono HB4.out.size))
      clear hir hj hle
      go_wp2_with fail
      go_ret
      exact ⟨_, rfl, HI.out, HBE.out⟩

set_option maxRecDepth 100000 in
theorem ends_wrong (t : ByteArray) (d : Nat) (T : Tree) (A : Option Addr) (c : Nat) (w : World) (hr : T.right = false) (hk : KidsIn w d T.kids A) :
    Calls Tryd.prog 33 #[T.val A c, .string t, .int .i64 0] w fun e w' => e = .returned (.slice none 0 0) ∧ Below w.heap.size w w' := by
  have hb0 := (Below.refl w.heap.size w).alloc (Nat.le_refl _) (Obj.cells #[.int .i64 T.kind, .int .u64 T.s0, .int .u64 T.s1, .int .u64 T.s2, .int .u64 T.s3, .slice A T.kids.length c, .int .i64 T.mn, .int .i64 T.mx] 27)
  have k0 := heap_a0 w (Obj.cells #[.int .i64 T.kind, .int .u64 T.s0, .int .u64 T.s1, .int .u64 T.s2, .int .u64 T.s3, .slice A T.kids.length c, .int .i64 T.mn, .int .i64 T.mx] 27)
  obtain ⟨x0, x1, x2, x3, x4, x5, x6, x7, _⟩ := box8 k0
  have hri := right_any d T A c _ (hk.below hb0)
  rw [hr] at hri
  have HRI := Lib.hid hri; have HB0 := Lib.hid hb0
  clear hri hb0 k0 hr hk
  go_enter Tryd.func33, Tryd.ntmps33
  go_wp2_with fail
  refine HRI.out.mono ?_
  rintro e w1 ⟨rfl, hB1⟩
  have HB1 := Lib.hid (HB0.out.trans (hB1.mono HB0.out.size))
  clear hB1
  go_wp2_with fail
  go_ret
  exact ⟨rfl, HB1.out⟩

/-- Is a text one of a pattern? -/
noncomputable def matchT (T : Tree) (t : ByteArray) : Bool := T.right && endF T t t.size

set_option maxRecDepth 100000 in
theorem match_tree (t : ByteArray) (ht : t.size ≤ 1048576) (d : Nat) (T : Tree) (A : Option Addr) (c : Nat) (w : World) (hk : KidsIn w d T.kids A) :
    Calls Tryd.prog 15 #[T.val A c, .string t] w fun e w' => e = .returned (.bool (matchT T t)) ∧ Below w.heap.size w w' := by
  have hb0 := (Below.refl w.heap.size w).alloc (Nat.le_refl _) (Obj.cells #[.int .i64 T.kind, .int .u64 T.s0, .int .u64 T.s1, .int .u64 T.s2, .int .u64 T.s3, .slice A T.kids.length c, .int .i64 T.mn, .int .i64 T.mx] 27)
  have k0 := heap_a0 w (Obj.cells #[.int .i64 T.kind, .int .u64 T.s0, .int .u64 T.s1, .int .u64 T.s2, .int .u64 T.s3, .slice A T.kids.length c, .int .i64 T.mn, .int .i64 T.mx] 27)
  obtain ⟨x0, x1, x2, x3, x4, x5, x6, x7, _⟩ := box8 k0
  have HK := Lib.hid (hk.below hb0); have HB0 := Lib.hid hb0
  clear hb0 k0 hk
  cases hr : T.right with
  | false =>
    have HV := Lib.hid (show matchT T t = false by unfold matchT; rw [hr]; rfl)
    have HE := Lib.hid (ends_wrong t d T A c _ hr HK.out)
    clear hr
    go_enter Tryd.func15, Tryd.ntmps15
    go_wp2_with fail
    refine HE.out.mono ?_
    rintro e w1 ⟨rfl, hB1⟩
    have HB1 := Lib.hid (HB0.out.trans (hB1.mono HB0.out.size))
    have HC := Lib.hid (Tryd.slices_Contains_int_empty none 0 (t.size : Int) w1)
    clear hB1
    go_wp2_with fail
    refine HC.out.mono ?_
    rintro e w2 ⟨rfl, rfl⟩
    go_wp2_with fail
    go_ret
    exact ⟨by rw [HV.out]; rfl, HB1.out⟩
  | true =>
    have HV := Lib.hid (show matchT T t = (endsL (endF T t) (t.size + 1)).contains (t.size : Int) by unfold matchT; rw [hr, endsL_last]; rfl)
    have HE := Lib.hid (ends_right t ht d T A c _ hr HK.out)
    have hle := endsL_len (endF T t) (t.size + 1)
    obtain ⟨el, hel⟩ : ∃ el, el = endsL (endF T t) (t.size + 1) := ⟨_, rfl⟩
    rw [← hel] at HV HE hle
    clear hr hel
    go_enter Tryd.func15, Tryd.ntmps15
    go_wp2_with fail
    refine HE.out.mono ?_
    rintro e w1 ⟨v, rfl, hir, hB1⟩
    have HB1 := Lib.hid (HB0.out.trans (hB1.mono HB0.out.size))
    obtain ⟨B, k, rfl, hc, hcs⟩ := hir.form
    have hcall : Calls Tryd.prog 32 #[.slice B el.length k, .int .i64 (t.size : Int)] w1 fun e w' => e = .returned (.bool (el.contains (t.size : Int))) ∧ w' = w1 := by
      rcases Nat.eq_zero_or_pos el.length with h0 | h0
      · obtain rfl : el = [] := List.length_eq_zero_iff.1 h0
        exact Tryd.slices_Contains_int_empty B k _ w1
      · obtain ⟨b, off, rfl, _, hx⟩ := hcs (by omega)
        have := Tryd.slices_Contains_int b off el.length k el (t.size : Int) w1 (Nat.le_refl _) (by omega) hx
        rw [List.take_length] at this
        exact this
    obtain ⟨cb, hcb⟩ : ∃ cb, cb = el.contains (t.size : Int) := ⟨_, rfl⟩
    rw [← hcb] at hcall HV
    have HC := Lib.hid hcall
    clear hB1 hir hc hcs hcall hcb
    go_wp2_with fail
    refine HC.out.mono ?_
    rintro e w2 ⟨rfl, rfl⟩
    go_wp2_with fail
    go_ret
    exact ⟨by rw [HV.out]; rfl, HB1.out⟩
end Go.Proofs.YtmcoaopcmjociaaDoor

namespace Go.Proofs.YtmcoaopcmjociaaDoor
open Go Go.RowKit Go.Sort

theorem keepB_iff (s : St) (b : Nat) (k : Int) : keepB s b k = true ↔ hasB (s.sets.getD k.toNat (0, 0, 0, 0)) b = true := Iff.rfl
theorem mem_thenL (s : St) (b : Nat) (ol : List Int) (k : Int) : k ∈ thenL s b ol ↔ k ∈ ol ∧ hasB (s.sets.getD k.toNat (0, 0, 0, 0)) b = true := by
  unfold thenL
  rw [List.mem_filter, keepB_iff]
theorem mem_openL {s : St} (hs : GoodSt s) (th : List Int) (m : Int) : m ∈ openL s th ↔ ∃ k ∈ th, m ∈ s.next.getD k.toNat [] := by
  unfold openL
  rw [List.mem_map]
  constructor
  · rintro ⟨i, hi, rfl⟩
    have h := (List.mem_filter.1 hi).2
    unfold nextOf at h
    rw [List.any_eq_true] at h
    obtain ⟨k, hk, h⟩ := h
    exact ⟨k, hk, List.contains_iff_mem.1 h⟩
  · rintro ⟨k, hk, hm⟩
    obtain ⟨h1, h2⟩ := next_in hs hm
    obtain ⟨i, rfl⟩ := Int.eq_ofNat_of_zero_le h1
    refine ⟨i, List.mem_filter.2 ⟨List.mem_range.2 (by omega), ?_⟩, rfl⟩
    unfold nextOf
    rw [List.any_eq_true]
    exact ⟨k, hk, List.contains_iff_mem.2 hm⟩
/-- Reading spot by spot. -/
theorem mem_runM {s : St} (hs : GoodSt s) : ∀ (t : List Nat) (ol : List Int) (k : Int), t ≠ [] → (k ∈ runM s t ol ↔ ∃ i ∈ ol, Wk hasB s.sets s.next i t k)
  | [], _, _, h => absurd rfl h
  | [b], ol, k, _ => by
    show k ∈ thenL s b ol ↔ _
    rw [mem_thenL]
    constructor
    · rintro ⟨h1, h2⟩
      exact ⟨k, h1, Wk.one k b h2⟩
    · rintro ⟨i, hi, hw⟩
      cases hw with
      | one _ _ h => exact ⟨hi, h⟩
      | step _ _ _ _ _ _ _ h => exact absurd rfl h.ne
  | b :: c :: t, ol, k, _ => by
    show k ∈ runM s (c :: t) (openL s (thenL s b ol)) ↔ _
    rw [mem_runM hs (c :: t) _ k (by simp)]
    constructor
    · rintro ⟨m, hm, hw⟩
      obtain ⟨i, hi, hmi⟩ := (mem_openL hs _ m).1 hm
      obtain ⟨h1, h2⟩ := (mem_thenL s b ol i).1 hi
      exact ⟨i, h1, Wk.step i m b (c :: t) k h2 hmi hw⟩
    · rintro ⟨i, hi, hw⟩
      cases hw with
      | step _ m _ _ _ h2 hmi hw => exact ⟨m, (mem_openL hs _ m).2 ⟨i, (mem_thenL s b ol i).2 ⟨hi, h2⟩, hmi⟩, hw⟩

theorem seg_all (t : List Nat) : seg t 0 t.length = t := by
  unfold seg
  rw [List.take_length, List.drop_zero]
theorem endF_iff (T : Tree) (t : ByteArray) : endF T t t.size = true ↔ langT hasB T (bytesN t) := by
  unfold endF
  rw [mv_iff, ← bytesN_len]
  constructor
  · rintro ⟨i, _, h0, h⟩
    have h0 : i = 0 := by simpa using h0
    subst h0
    rwa [seg_all] at h
  · intro h
    exact ⟨0, Nat.zero_le _, by simp, by rwa [seg_all]⟩

/-- The spots of a right pattern match just what the pattern matches. -/
theorem spots_match (T : Tree) (hr : T.right = true) (h512 : (writeT T emptySt).2.sets.length ≤ 512) (t : ByteArray) : matchB (writeT T emptySt).1 (writeT T emptySt).2 (bytesN t) = matchT T t := by
  have hw := writes_lang hasB T hr emptySt good_empty
  have hg := hw.good
  rw [Bool.eq_iff_iff]
  unfold matchB matchT
  rw [right_of_good h512 hg hw.part, hr, Bool.true_and, Bool.true_and, endF_iff, ← hw.lang]
  unfold langP
  by_cases h0 : bytesN t = []
  · rw [if_pos h0, h0]
    constructor
    · intro h; exact .inl ⟨rfl, h⟩
    · rintro (⟨_, h⟩ | ⟨i, _, j, _, h⟩)
      · exact h
      · exact absurd rfl h.ne
  · rw [if_neg h0, List.any_eq_true]
    constructor
    · rintro ⟨k, hk, h⟩
      obtain ⟨i, hi, hw⟩ := (mem_runM hg _ _ _ h0).1 (List.contains_iff_mem.1 h)
      exact .inr ⟨i, hi, k, hk, hw⟩
    · rintro (⟨h, _⟩ | ⟨i, hi, j, hj, h⟩)
      · exact absurd h h0
      · exact ⟨j, hj, List.contains_iff_mem.2 ((mem_runM hg _ _ _ h0).2 ⟨i, hi, h⟩)⟩
theorem spots_many (T : Tree) (hr : T.right = true) (hc : T.count ≤ 200) : ((writeT T emptySt).2.sets.length : Int) = T.count ∧ (writeT T emptySt).2.sets.length ≤ 200 ∧ (writeT T emptySt).2.next.length ≤ 200 ∧ rightB (writeT T emptySt).1 (writeT T emptySt).2 = true := by
  obtain ⟨h1, h2, h3⟩ := writeT_adds T hr emptySt good_empty
  have h4 := cnt_spots T hr
  have h5 : emptySt.sets.length = 0 := rfl
  have h6 : T.count = T.cnt := by unfold Tree.count; rw [hr]; rfl
  have h7 := h1.len
  refine ⟨by omega, by omega, by omega, right_of_good (by omega) h1 h2⟩
theorem of_right (T : Tree) (hr : T.right = true) (hc : T.count ≤ 200) : ofF T = (writeT T emptySt, 0) := by
  have h6 : T.count = T.cnt := by unfold Tree.count; rw [hr]; rfl
  unfold ofF
  rw [if_neg (by rw [hr]; simp), if_neg (by omega)]
theorem of_wrong (T : Tree) (hr : T.right = false) : ofF T = ((⟨[], [], false⟩, emptySt), 7) := by
  unfold ofF
  rw [if_pos hr]
end Go.Proofs.YtmcoaopcmjociaaDoor

namespace Go.Proofs.YtmcoaopcmjociaaDoor
open Go Go.RowKit Go.Sort Go.Proofs.YtmcoaopcmjociaaDoorW.PrintLast

theorem SpotsIn.shape' {w : World} {v : Value} {p : Part} {s : St} (h : SpotsIn w v p s) : ∃ SA SC A1 c1 A2 c2 NA NC, v = .agg #[.slice SA s.sets.length SC, .bool p.none, .slice A1 p.first.length c1, .slice A2 p.last.length c2, .slice NA s.next.length NC] := by
  obtain ⟨Sv, fv, lv, Nv, vs, rfl, hs, hn, _, hf, hl⟩ := h
  obtain ⟨SA, SC, rfl⟩ := own_shape hs
  obtain ⟨NA, NC, rfl⟩ := own_shape hn
  obtain ⟨A1, c1, rfl, _⟩ := hf.form
  obtain ⟨A2, c2, rfl, _⟩ := hl.form
  exact ⟨SA, SC, A1, c1, A2, c2, NA, NC, rfl⟩

set_option maxRecDepth 100000 in
set_option maxHeartbeats 4000000 in
theorem spotsTexts_walk (d : Nat) (T : Tree) (A : Option Addr) (c : Nat) (t : ByteArray) (w : World) (hk : KidsIn w d T.kids A) :
    Calls Tryd.prog 4 #[T.val A c, .string t] w fun e w' => e = .returned (.bool true) ∧ Below w.heap.size w w' := by
  have hb1 := (Below.refl w.heap.size w).alloc (Nat.le_refl _) (Obj.cells #[.int .i64 T.kind, .int .u64 T.s0, .int .u64 T.s1, .int .u64 T.s2, .int .u64 T.s3, .slice A T.kids.length c, .int .i64 T.mn, .int .i64 T.mx] 27)
  have k0 := heap_a0 w (Obj.cells #[.int .i64 T.kind, .int .u64 T.s0, .int .u64 T.s1, .int .u64 T.s2, .int .u64 T.s3, .slice A T.kids.length c, .int .i64 T.mn, .int .i64 T.mx] 27)
  have HG := Lib.hid (great_any d T A c _ (hk.below hb1))
  have HK := Lib.hid hk; have HB1 := Lib.hid hb1; have K0 := Lib.hid k0
  obtain ⟨m0, m1, m2, m3, m4, m5, m6, m7, _⟩ := box8 (Lib.hid k0).out
  clear hk hb1 k0
  obtain ⟨cn, hcn⟩ : ∃ cn, cn = T.count := ⟨_, rfl⟩
  have HCN := Lib.hid hcn
  clear hcn
  go_enter Tryd.func4, Tryd.ntmps4
  go_wp2_with fail
  refine HG.out.mono ?_
  rintro e w1 ⟨⟨b, rfl⟩, hB1⟩
  have HBW1 := Lib.hid (HB1.out.trans (hB1.mono HB1.out.size)); have K1 := Lib.hid (heap_aq hB1 K0.out)
  obtain ⟨m0, m1, m2, m3, m4, m5, m6, m7, _⟩ := box8 K1.out
  clear hB1
  cases b with
  | true =>
    go_wp2_with fail
    refine (works_any _).mono ?_
    rintro e w9 ⟨rfl, hB9⟩
    have HB9 := Lib.hid (HBW1.out.trans (hB9.mono HBW1.out.size))
    clear hB9
    go_wp2_with fail
    go_ret
    exact ⟨rfl, HB9.out⟩
  | false =>
    by_cases h30 : (t.size : Int) > 30
    · skip
      go_wp2_with fail
      refine (works_any _).mono ?_
      rintro e w9 ⟨rfl, hB9⟩
      have HB9 := Lib.hid (HBW1.out.trans (hB9.mono HBW1.out.size))
      clear hB9
      go_wp2_with fail
      go_ret
      exact ⟨rfl, HB9.out⟩
    · have ht30 : t.size ≤ 1048576 := by omega
      have hc := countOf_any d T A c w1 (HK.out.below HBW1.out)
      rw [← HCN.out] at hc
      have HC := Lib.hid hc
      clear hc
      go_wp2_with fail
      refine HC.out.mono ?_
      rintro e w2 ⟨rfl, hB2⟩
      have HBW2 := Lib.hid (HBW1.out.trans (hB2.mono HBW1.out.size)); have K2 := Lib.hid (heap_aq hB2 K1.out)
      obtain ⟨m0, m1, m2, m3, m4, m5, m6, m7, _⟩ := box8 K2.out
      clear hB2
      by_cases h200 : cn > 200
      · skip
        go_wp2_with fail
        refine (works_any _).mono ?_
        rintro e w9 ⟨rfl, hB9⟩
        have HB9 := Lib.hid (HBW2.out.trans (hB9.mono HBW2.out.size))
        clear hB9
        go_wp2_with fail
        go_ret
        exact ⟨rfl, HB9.out⟩
      · cases hr : T.right with
        | false =>
          have ho1 := of_any d T A c w2 (HK.out.below HBW2.out)
          rw [of_wrong T hr] at ho1
          simp only at ho1
          have hri := fun (w3 : World) (hb : Below w.heap.size w w3) => right_any d T A c w3 (HK.out.below hb)
          rw [hr] at hri
          have HO1 := Lib.hid ho1; have HRI := Lib.hid hri
          clear ho1 hri hr
          go_wp2_with fail
          refine HO1.out.mono ?_
          rintro e u1 ⟨v1, rfl, hs1, hBu1⟩
          obtain ⟨SA, SC, A1, c1, A2, c2, NA, NC, rfl⟩ := hs1.shape'
          have hbp := (Below.refl u1.heap.size u1).alloc (Nat.le_refl _) (Obj.cells #[.slice SA emptySt.sets.length SC, .bool false, .slice A1 0 c1, .slice A2 0 c2, .slice NA emptySt.next.length NC] 35)
          have HBU1 := Lib.hid (HBW2.out.trans ((hBu1.trans (hbp.mono hBu1.size)).mono HBW2.out.size))
          have HKU := Lib.hid (heap_aq hbp (heap_aq hBu1 K2.out))
          obtain ⟨m0, m1, m2, m3, m4, m5, m6, m7, _⟩ := box8 HKU.out
          have HR := Lib.hid (HRI.out _ HBU1.out)
          clear hs1 hbp hBu1
          go_wp2_with fail
          refine HR.out.mono ?_
          rintro e u2 ⟨rfl, hB2⟩
          have HB2 := Lib.hid (HBU1.out.trans (hB2.mono HBU1.out.size))
          clear hB2
          go_wp2_with fail
          refine (works_any _).mono ?_
          rintro e w9 ⟨rfl, hB9⟩
          have HB9 := Lib.hid (HB2.out.trans (hB9.mono HB2.out.size))
          clear hB9
          go_wp2_with fail
          go_ret
          exact ⟨rfl, HB9.out⟩
        | true =>
          have hco := of_right T hr (by rw [← HCN.out]; omega)
          obtain ⟨hn1, hn2, hn3, hn4⟩ := spots_many T hr (by rw [← HCN.out]; omega)
          have hsm := spots_match T hr (by omega) t
          obtain ⟨⟨pp, ps⟩, hpq⟩ : ∃ q, q = writeT T emptySt := ⟨_, rfl⟩
          rw [← hpq] at hco hn1 hn2 hn3 hn4 hsm
          simp only at hn1 hn2 hn3 hn4 hsm
          have ho1 := of_any d T A c w2 (HK.out.below HBW2.out)
          rw [hco] at ho1
          simp only at ho1
          rw [← HCN.out] at hn1
          have HO1 := Lib.hid ho1; have HN1 := Lib.hid hn1; have HN4 := Lib.hid hn4; have HSMT := Lib.hid hsm
          clear ho1 hco hn1 hn4 hsm hpq hr
          go_wp2_with fail
          refine HO1.out.mono ?_
          rintro e u1 ⟨v1, rfl, hs1, hBu1⟩
          obtain ⟨SA, SC, A1, c1, A2, c2, NA, NC, rfl⟩ := hs1.shape'
          have hbp := (Below.refl u1.heap.size u1).alloc (Nat.le_refl _) (Obj.cells #[.slice SA ps.sets.length SC, .bool pp.none, .slice A1 pp.first.length c1, .slice A2 pp.last.length c2, .slice NA ps.next.length NC] 35)
          have HBW := Lib.hid (HBW2.out.trans ((hBu1.trans (hbp.mono hBu1.size)).mono HBW2.out.size))
          have HS := Lib.hid ((hs1.below hbp).reads (by omega) (by omega))
          have HBOX := Lib.hid (heap_aq hbp (heap_aq hBu1 K2.out))
          have HPA := Lib.hid (heap_a0 u1 (Obj.cells #[.slice SA ps.sets.length SC, .bool pp.none, .slice A1 pp.first.length c1, .slice A2 pp.last.length c2, .slice NA ps.next.length NC] 35))
          obtain ⟨W, hW⟩ : ∃ W, W = u1.alloc (Obj.cells #[.slice SA ps.sets.length SC, .bool pp.none, .slice A1 pp.first.length c1, .slice A2 pp.last.length c2, .slice NA ps.next.length NC] 35) := ⟨_, rfl⟩
          have hW' := Lib.hid hW
          rw [← hW] at HBW HS HBOX HPA
          have hri := fun (w' : World) (sb : Below W.heap.size W w') => spright_any _ pp ps w' (HS.out.below sb)
          rw [HN4.out] at hri
          have hcn := fun (w' : World) (sb : Below W.heap.size W w') => countOf_any d T A c w' ((HK.out.below HBW.out).below sb)
          rw [← HCN.out, ← HN1.out] at hcn
          have hsm := fun (w' : World) (sb : Below W.heap.size W w') => match_any _ pp ps t w' (HS.out.below sb) ht30
          rw [HSMT.out] at hsm
          have hmm := fun (w' : World) (sb : Below W.heap.size W w') => match_tree t ht30 d T A c w' ((HK.out.below HBW.out).below sb)
          obtain ⟨mb, hmb⟩ : ∃ mb, mb = matchT T t := ⟨_, rfl⟩
          rw [← hmb] at hsm hmm
          have HRI := Lib.hid hri; have HCO := Lib.hid hcn; have HSM := Lib.hid hsm; have HMM := Lib.hid hmm
          clear hs1 hbp hBu1 HO1 m0 m1 m2 m3 m4 m5 m6 m7 hW hri hcn hsm hmm hmb
          go_wp2_with fail
          rw [← hW'.out]
          refine start_ (n := 23) (S := fun w' => Below W.heap.size W w') (ds := []) #[false, false, false, false, false, false, false, false, false, false, false, false, false, false, false, false, false, false, false, false, false, false, false] (by kernel_rfl) rfl rfl ((Below.refl _ _).drew) (fun hHeld => ?_)
          refine take_ (i := 0) (N := some 33) (v := ?_) (a' := ?_) #[true, false, false, false, false, false, false, false, false, false, false, false, false, false, false, false, false, false, false, false, false, false, false] rfl rfl (by kernel_rfl) (fun _ _ _ h => h) (Or.inl ⟨by rfl, ?_⟩) hHeld ?_ ?_
          rotate_left
          · intro w' sb; obtain ⟨m0, m1, m2, m3, m4, m5, m6, m7, _⟩ := box8 (heap_aq sb HBOX.out); obtain ⟨x0, x1, x2, x3, x4⟩ := box5m (heap_aq sb HPA.out)
            go_simp
            with_reducible rfl
          rotate_left
          · simp only [Act.put, sA, sB, sC]
            rfl
          refine one_ (i := 1) (N := some 34) #[true, true, false, false, false, false, false, false, false, false, false, false, false, false, false, false, false, false, false, false, false, false, false] rfl rfl (by kernel_rfl) (by decide) (fun K hK => ?_)
          refine goes_ Tryd.func13 (by kernel_rfl) rfl #[(.agg #[.slice SA ps.sets.length SC, .bool pp.none, .slice A1 pp.first.length c1, .slice A2 pp.last.length c2, .slice NA ps.next.length NC])] (by rfl) rfl rfl (by first | rfl | (simp only [List.map_toArray, List.map_cons, List.map_nil]; rfl)) ?_
          refine (HRI.out _ hHeld).mono ?_
          rintro e w1 ⟨rfl, hb1⟩
          refine ⟨_, rfl, ?_⟩
          refine hK.out _ _ (hHeld.trans (hb1.mono hHeld.size)) (fun hHeld => ?_)
          clear hK K
          refine norm_ (a' := ?_) ?_ ?_
          rotate_left
          · show Act.put _ (some 34) _ = _
            simp only [Act.put, sA, sB, sC]
            rfl
          refine pure_ (i := 2) (N := some 35) (v := ?_) (a' := ?_) #[true, true, true, false, false, false, false, false, false, false, false, false, false, false, false, false, false, false, false, false, false, false, false] rfl rfl (by kernel_rfl) (fun _ _ _ h => h) (Or.inl ⟨by rfl, ?_⟩) ?_ ?_
          rotate_left
          · intro w'
            go_simp
            with_reducible rfl
          rotate_left
          · simp only [Act.put, sA, sB, sC]
            rfl
          refine pure_ (i := 3) (N := some 36) (v := ?_) (a' := ?_) #[true, true, true, true, false, false, false, false, false, false, false, false, false, false, false, false, false, false, false, false, false, false, false] rfl rfl (by kernel_rfl) (fun _ _ _ h => h) (Or.inl ⟨by rfl, ?_⟩) ?_ ?_
          rotate_left
          · intro w'
            go_simp
            with_reducible rfl
          rotate_left
          · simp only [Act.put, sA, sB, sC]
            rfl
          refine take_ (i := 4) (N := some 37) (v := ?_) (a' := ?_) #[true, true, true, true, true, false, false, false, false, false, false, false, false, false, false, false, false, false, false, false, false, false, false] rfl rfl (by kernel_rfl) (fun _ _ _ h => h) (Or.inl ⟨by rfl, ?_⟩) hHeld ?_ ?_
          rotate_left
          · intro w' sb; obtain ⟨m0, m1, m2, m3, m4, m5, m6, m7, _⟩ := box8 (heap_aq sb HBOX.out); obtain ⟨x0, x1, x2, x3, x4⟩ := box5m (heap_aq sb HPA.out)
            go_simp
            with_reducible rfl
          rotate_left
          · simp only [Act.put, sA, sB, sC]
            rfl
          refine pure_ (i := 5) (N := some 38) (v := ?_) (a' := ?_) #[true, true, true, true, true, true, false, false, false, false, false, false, false, false, false, false, false, false, false, false, false, false, false] rfl rfl (by kernel_rfl) (fun _ _ _ h => h) (Or.inl ⟨by rfl, ?_⟩) ?_ ?_
          rotate_left
          · intro w'
            go_simp
            with_reducible rfl
          rotate_left
          · simp only [Act.put, sA, sB, sC]
            rfl
          refine take_ (i := 6) (N := some 39) (v := ?_) (a' := ?_) #[true, true, true, true, true, true, true, false, false, false, false, false, false, false, false, false, false, false, false, false, false, false, false] rfl rfl (by kernel_rfl) (fun _ _ _ h => h) (Or.inl ⟨by rfl, ?_⟩) hHeld ?_ ?_
          rotate_left
          · intro w' sb; obtain ⟨m0, m1, m2, m3, m4, m5, m6, m7, _⟩ := box8 (heap_aq sb HBOX.out); obtain ⟨x0, x1, x2, x3, x4⟩ := box5m (heap_aq sb HPA.out)
            go_simp
            with_reducible rfl
          rotate_left
          · simp only [Act.put, sA, sB, sC]
            rfl
          refine one_ (i := 7) (N := some 40) #[true, true, true, true, true, true, true, true, false, false, false, false, false, false, false, false, false, false, false, false, false, false, false] rfl rfl (by kernel_rfl) (by decide) (fun K hK => ?_)
          refine goes_ Tryd.func6 (by kernel_rfl) rfl #[(.agg #[.int .i64 T.kind, .int .u64 T.s0, .int .u64 T.s1, .int .u64 T.s2, .int .u64 T.s3, .slice A T.kids.length c, .int .i64 T.mn, .int .i64 T.mx])] (by rfl) rfl rfl (by first | rfl | (simp only [List.map_toArray, List.map_cons, List.map_nil]; rfl)) ?_
          refine (HCO.out _ hHeld).mono ?_
          rintro e w1 ⟨rfl, hb1⟩
          refine ⟨_, rfl, ?_⟩
          refine hK.out _ _ (hHeld.trans (hb1.mono hHeld.size)) (fun hHeld => ?_)
          clear hK K
          refine norm_ (a' := ?_) ?_ ?_
          rotate_left
          · show Act.put _ (some 40) _ = _
            simp only [Act.put, sA, sB, sC]
            rfl
          refine pure_ (i := 8) (N := some 41) (v := ?_) (a' := ?_) #[true, true, true, true, true, true, true, true, true, false, false, false, false, false, false, false, false, false, false, false, false, false, false] rfl rfl (by kernel_rfl) (fun _ _ _ h => h) (Or.inl ⟨by rfl, ?_⟩) ?_ ?_
          rotate_left
          · intro w'
            go_simp
            with_reducible rfl
          rotate_left
          · simp only [Act.put, sA, sB, sC]
            rfl
          refine pure_ (i := 9) (N := some 42) (v := ?_) (a' := ?_) #[true, true, true, true, true, true, true, true, true, true, false, false, false, false, false, false, false, false, false, false, false, false, false] rfl rfl (by kernel_rfl) (fun _ _ _ h => h) (Or.inl ⟨by rfl, ?_⟩) ?_ ?_
          rotate_left
          · intro w'
            go_simp
            with_reducible rfl
          rotate_left
          · simp only [Act.put, sA, sB, sC]
            rfl
          refine pure_ (i := 10) (N := some 43) (v := ?_) (a' := ?_) #[true, true, true, true, true, true, true, true, true, true, true, false, false, false, false, false, false, false, false, false, false, false, false] rfl rfl (by kernel_rfl) (fun _ _ _ h => h) (Or.inl ⟨by rfl, ?_⟩) ?_ ?_
          rotate_left
          · intro w'
            go_simp
            with_reducible rfl
          rotate_left
          · simp only [Act.put, sA, sB, sC]
            rfl
          refine take_ (i := 11) (N := some 44) (v := ?_) (a' := ?_) #[true, true, true, true, true, true, true, true, true, true, true, true, false, false, false, false, false, false, false, false, false, false, false] rfl rfl (by kernel_rfl) (fun _ _ _ h => h) (Or.inl ⟨by rfl, ?_⟩) hHeld ?_ ?_
          rotate_left
          · intro w' sb; obtain ⟨m0, m1, m2, m3, m4, m5, m6, m7, _⟩ := box8 (heap_aq sb HBOX.out); obtain ⟨x0, x1, x2, x3, x4⟩ := box5m (heap_aq sb HPA.out)
            go_simp
            with_reducible rfl
          rotate_left
          · simp only [Act.put, sA, sB, sC]
            rfl
          refine pure_ (i := 12) (N := some 45) (v := ?_) (a' := ?_) #[true, true, true, true, true, true, true, true, true, true, true, true, true, false, false, false, false, false, false, false, false, false, false] rfl rfl (by kernel_rfl) (fun _ _ _ h => h) (Or.inl ⟨by rfl, ?_⟩) ?_ ?_
          rotate_left
          · intro w'
            go_simp
            with_reducible rfl
          rotate_left
          · simp only [Act.put, sA, sB, sC]
            rfl
          refine take_ (i := 14) (N := some 47) (v := ?_) (a' := ?_) #[true, true, true, true, true, true, true, true, true, true, true, true, true, false, true, false, false, false, false, false, false, false, false] rfl rfl (by kernel_rfl) (fun _ _ _ h => h) (Or.inl ⟨by rfl, ?_⟩) hHeld ?_ ?_
          rotate_left
          · intro w' sb; obtain ⟨m0, m1, m2, m3, m4, m5, m6, m7, _⟩ := box8 (heap_aq sb HBOX.out); obtain ⟨x0, x1, x2, x3, x4⟩ := box5m (heap_aq sb HPA.out)
            go_simp
            with_reducible rfl
          rotate_left
          · simp only [Act.put, sA, sB, sC]
            rfl
          refine pure_ (i := 15) (N := some 48) (v := ?_) (a' := ?_) #[true, true, true, true, true, true, true, true, true, true, true, true, true, false, true, true, false, false, false, false, false, false, false] rfl rfl (by kernel_rfl) (fun _ _ _ h => h) (Or.inl ⟨by rfl, ?_⟩) ?_ ?_
          rotate_left
          · intro w'
            go_simp
            with_reducible rfl
          rotate_left
          · simp only [Act.put, sA, sB, sC]
            rfl
          refine one_ (i := 13) (N := some 46) #[true, true, true, true, true, true, true, true, true, true, true, true, true, true, true, true, false, false, false, false, false, false, false] rfl rfl (by kernel_rfl) (by decide) (fun K hK => ?_)
          refine goes_ Tryd.func14 (by kernel_rfl) rfl #[(.agg #[.slice SA ps.sets.length SC, .bool pp.none, .slice A1 pp.first.length c1, .slice A2 pp.last.length c2, .slice NA ps.next.length NC]), .string t] (by rfl) rfl rfl (by first | rfl | (simp only [List.map_toArray, List.map_cons, List.map_nil]; rfl)) ?_
          refine (HSM.out _ hHeld).mono ?_
          rintro e w1 ⟨rfl, hb1⟩
          refine ⟨_, rfl, ?_⟩
          refine hK.out _ _ (hHeld.trans (hb1.mono hHeld.size)) (fun hHeld => ?_)
          clear hK K
          refine norm_ (a' := ?_) ?_ ?_
          rotate_left
          · show Act.put _ (some 46) _ = _
            simp only [Act.put, sA, sB, sC]
            rfl
          refine one_ (i := 16) (N := some 49) #[true, true, true, true, true, true, true, true, true, true, true, true, true, true, true, true, true, false, false, false, false, false, false] rfl rfl (by kernel_rfl) (by decide) (fun K hK => ?_)
          refine goes_ Tryd.func15 (by kernel_rfl) rfl #[(.agg #[.int .i64 T.kind, .int .u64 T.s0, .int .u64 T.s1, .int .u64 T.s2, .int .u64 T.s3, .slice A T.kids.length c, .int .i64 T.mn, .int .i64 T.mx]), .string t] (by rfl) rfl rfl (by first | rfl | (simp only [List.map_toArray, List.map_cons, List.map_nil]; rfl)) ?_
          refine (HMM.out _ hHeld).mono ?_
          rintro e w1 ⟨rfl, hb1⟩
          refine ⟨_, rfl, ?_⟩
          refine hK.out _ _ (hHeld.trans (hb1.mono hHeld.size)) (fun hHeld => ?_)
          clear hK K
          refine norm_ (a' := ?_) ?_ ?_
          rotate_left
          · show Act.put _ (some 49) _ = _
            simp only [Act.put, sA, sB, sC]
            rfl
          refine pure_ (i := 17) (N := some 50) (v := ?_) (a' := ?_) #[true, true, true, true, true, true, true, true, true, true, true, true, true, true, true, true, true, true, false, false, false, false, false] rfl rfl (by kernel_rfl) (fun _ _ _ h => h) (Or.inl ⟨by rfl, ?_⟩) ?_ ?_
          rotate_left
          · intro w'
            go_simp
            with_reducible rfl
          rotate_left
          · simp only [Act.put, sA, sB, sC]
            rfl
          refine pure_ (i := 18) (N := some 51) (v := ?_) (a' := ?_) #[true, true, true, true, true, true, true, true, true, true, true, true, true, true, true, true, true, true, true, false, false, false, false] rfl rfl (by kernel_rfl) (fun _ _ _ h => h) (Or.inl ⟨by rfl, ?_⟩) ?_ ?_
          rotate_left
          · intro w'
            go_simp
            with_reducible rfl
          rotate_left
          · simp only [Act.put, sA, sB, sC]
            rfl
          refine pure_ (i := 19) (N := some 52) (v := ?_) (a' := ?_) #[true, true, true, true, true, true, true, true, true, true, true, true, true, true, true, true, true, true, true, true, false, false, false] rfl rfl (by kernel_rfl) (fun _ _ _ h => h) (Or.inl ⟨by rfl, ?_⟩) ?_ ?_
          rotate_left
          · intro w'
            go_simp
            with_reducible rfl
          rotate_left
          · simp only [Act.put, sA, sB, sC]
            rfl
          refine one_ (i := 20) (N := some 53) #[true, true, true, true, true, true, true, true, true, true, true, true, true, true, true, true, true, true, true, true, true, false, false] rfl rfl (by kernel_rfl) (by decide) (fun K hK => ?_)
          refine goes_ Tryd.func8 (by kernel_rfl) rfl #[] (by rfl) rfl rfl (by simp) ?_
          refine (works_any _).mono ?_
          rintro e w1 ⟨rfl, hb1⟩
          refine ⟨_, rfl, ?_⟩
          refine hK.out _ _ (hHeld.trans (hb1.mono hHeld.size)) (fun hHeld => ?_)
          clear hK K
          refine norm_ (a' := ?_) ?_ ?_
          rotate_left
          · show Act.put _ (some 53) _ = _
            simp only [Act.put, sA, sB, sC]
            rfl
          refine pure_ (i := 21) (N := some 54) (v := ?_) (a' := ?_) #[true, true, true, true, true, true, true, true, true, true, true, true, true, true, true, true, true, true, true, true, true, true, false] rfl rfl (by kernel_rfl) (fun _ _ _ h => h) (Or.inl ⟨by rfl, ?_⟩) ?_ ?_
          rotate_left
          · intro w'
            go_simp
            with_reducible rfl
          rotate_left
          · simp only [Act.put, sA, sB, sC]
            rfl
          refine pure_ (i := 22) (N := some 4) (v := ?_) (a' := ?_) #[true, true, true, true, true, true, true, true, true, true, true, true, true, true, true, true, true, true, true, true, true, true, true] rfl rfl (by kernel_rfl) (fun _ _ _ h => h) (Or.inl ⟨by rfl, ?_⟩) ?_ ?_
          rotate_left
          · intro w'
            go_simp
            with_reducible rfl
          rotate_left
          · simp only [Act.put, sA, sB, sC]
            rfl
          refine done_ (by kernel_rfl) ?_
          have HBE := Lib.hid (HBW.out.trans (hHeld.mono HBW.out.size))
          clear hHeld
          go_wp2_with fail
          go_ret
          exact ⟨rfl, HBE.out⟩
end Go.Proofs.YtmcoaopcmjociaaDoor
