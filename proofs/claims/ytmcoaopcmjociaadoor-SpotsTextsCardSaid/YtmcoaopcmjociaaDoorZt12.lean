/- spots.Match. spots.Match, of every text and all spots that read. The chapter's example works. -/
import Derived.Test.YtmcoaopcmjociaaDoorZt11
import Derived.Test.YtmcoaopcmjociaaDoorZt10
import Derived.Test.YtmcoaopcmjociaaDoorZt6
import Derived.Deep.AppendLies
import Derived.ArgAppend
import Derived.OwnWalk
import Derived.StillTailTactics
namespace Go.Proofs.YtmcoaopcmjociaaDoor
open Go Go.RowKit Go.Sort

theorem boolInfo : (Tryd.prog.info? 4).map (fun i => (i.zero, i.size, i.bytes)) = some (some (Value.bool false), 1, 1) := by kernel_rfl

theorem own_mono {w : World} {base base' n : Nat} {e : TypeId} {size : Nat} {v : Value} {xs : List Value} (h : w.ownsRow base e size v n xs) (hb : base' ≤ base) : w.ownsRow base' e size v n xs := by
  obtain ⟨h1, h2⟩ := h
  refine ⟨h1, ?_⟩
  rcases h2 with h2 | ⟨g, cap, cur, rfl, hg, r⟩
  · exact .inl h2
  · exact .inr ⟨g, cap, cur, rfl, by omega, r⟩
/-- An owned row of whole numbers reads. -/
theorem IR.owned {w : World} {base n : Nat} {v : Value} {xs : List Int} (h : w.ownsRow base 3 1 v n (ints xs)) (hn : n ≤ 17592186044416) : IR (fun b => base ≤ b) w v xs := by
  obtain ⟨A, c, rfl, h1, h2, h3⟩ := IRT.own h hn
  refine ⟨A, c, rfl, h1, h2, fun hne => ?_⟩
  obtain ⟨b, off, hA, _, hc⟩ := h3 hne
  subst hA
  exact ⟨b, off, rfl, (h.lt b rfl).1, hc⟩

/-- What Match holds while it reads: its spots' box, the marks and their box. -/
structure MS (w wr : World) (n0 na nb n : Nat) (X : Obj) (bs : List Bool) : Prop where
  box : wr.heap[n0]? = some X
  now : wr.heap[nb]? = some (.cells #[.slice (some ⟨na, 0, none⟩) n n] 63 (0, 0))
  marks : BoolsAt wr na bs
  len : bs.length = n
  below : Below w.heap.size w wr
  o1 : w.heap.size ≤ n0
  o2 : n0 < na
  o3 : na < nb
theorem MS.keep {w wr wr' : World} {n0 na nb n : Nat} {X : Obj} {bs bs' : List Bool} (h : MS w wr n0 na nb n X bs) (hk : KR (nb + 1) na wr wr') (hb : BoolsAt wr' na bs') (hl : bs'.length = n) : MS w wr' n0 na nb n X bs' := by
  have h1 := h.o1; have h2 := h.o2; have h3 := h.o3
  exact ⟨(hk.block n0 (by omega) (by omega)).trans h.box, (hk.block nb (by omega) (by omega)).trans h.now, hb, hl, h.below.trans ((hk.mono (by omega)).below (by omega)), h1, h2, h3⟩
theorem MS.lt {w wr : World} {n0 na nb n : Nat} {X : Obj} {bs : List Bool} (h : MS w wr n0 na nb n X bs) : nb < wr.heap.size := (Array.getElem?_eq_some_iff.1 h.now).1
theorem MS.on {w wr wr' : World} {n0 na nb n : Nat} {X : Obj} {bs : List Bool} (h : MS w wr n0 na nb n X bs) (hb : Below wr.heap.size wr wr') : MS w wr' n0 na nb n X bs :=
  h.keep ((KR.of hb).mono h.lt) ((hb.block na h.marks.lt).trans h.marks) h.len
/-- Behind a write to a row that lies behind all this. -/
theorem MS.grown {w wr wr' : World} {n0 na nb n : Nat} {X : Obj} {bs : List Bool} (h : MS w wr n0 na nb n X bs) {row : Option Nat} (hg : wr.grownBy wr' row) (hr : ∀ k, row = some k → nb < k) : MS w wr' n0 na nb n X bs := by
  have hl := h.lt; have h3 := h.o3
  exact h.keep ⟨hg.os, hg.tape, hg.output, hg.size, fun k hk _ => hg.block k (by omega) fun e => by have := hr k e.symm; omega⟩ ((hg.block na (by omega) fun e => by have := hr na e.symm; omega).trans h.marks) h.len
theorem MS.set {w wr : World} {n0 na nb n : Nat} {X : Obj} {bs : List Bool} (h : MS w wr n0 na nb n X bs) (i : Nat) (b : Bool) : MS w (wr.setCell ⟨na, i, none⟩ (.bool b)) n0 na nb n X (bs.set i b) :=
  h.keep ((KR.refl _ _ _).setR i _) (h.marks.set i b) (by rw [List.length_set]; exact h.len)
theorem MS.cell {w wr : World} {n0 na nb n : Nat} {X : Obj} {bs : List Bool} (h : MS w wr n0 na nb n X bs) : wr.cell? ⟨nb, 0, none⟩ = some (.slice (some ⟨na, 0, none⟩) n n) := cell_of h.now rfl

set_option maxRecDepth 100000 in
set_option maxHeartbeats 4000000 in
theorem match_some (v : Value) (p : Part) (s : St) (t : ByteArray) (w : World) (h : SpR w v p s) (ht : t.size ≤ 1048576) (h0 : 0 < t.size) (hR : rightB p s = true) :
    Calls Tryd.prog 14 #[v, .string t] w fun e w' => e = .returned (.bool (matchB p s (bytesN t))) ∧ Below w.heap.size w w' := by
  obtain ⟨SA, SC, fv, lv, NA, NC, rfl, hS, hN, hF, hL⟩ := h
  obtain ⟨A1, c1, rfl, _, _⟩ := hF.form
  obtain ⟨A2, c2, rfl, _, _⟩ := hL.form
  obtain ⟨hsl, hnl, gF, gL, gN⟩ := right_parts hR
  have HNL := Lib.hid hnl
  clear hnl
  have hb1 := (Below.refl w.heap.size w).alloc (Nat.le_refl _) (Obj.cells #[.slice SA s.sets.length SC, .bool p.none, .slice A1 p.first.length c1, .slice A2 p.last.length c2, .slice NA s.next.length NC] 35)
  have k0 := heap_a0 w (Obj.cells #[.slice SA s.sets.length SC, .bool p.none, .slice A1 p.first.length c1, .slice A2 p.last.length c2, .slice NA s.next.length NC] 35)
  obtain ⟨x0, x1, x2, x3, x4⟩ := box5m k0
  have hsp : SpR (w.alloc (Obj.cells #[.slice SA s.sets.length SC, .bool p.none, .slice A1 p.first.length c1, .slice A2 p.last.length c2, .slice NA s.next.length NC] 35)) (.agg #[.slice SA s.sets.length SC, .bool p.none, .slice A1 p.first.length c1, .slice A2 p.last.length c2, .slice NA s.next.length NC]) p s := ⟨SA, SC, _, _, NA, NC, rfl, hS.below hb1, hN.below hb1, hF.below hb1, hL.below hb1⟩
  have HRI := spright_any _ p s _ hsp
  rw [hR] at HRI
  have HRI := Lib.hid HRI
  have HS := Lib.hid hS; have HN := Lib.hid hN; have HF := Lib.hid hF; have HL := Lib.hid hL; have HR := Lib.hid hR; have GF := Lib.hid gF; have GL := Lib.hid gL; have GN := Lib.hid gN; have K0 := Lib.hid k0; have HB1 := Lib.hid hb1
  have hte : t.toList.isEmpty = false := by rw [ByteArray.toList_eq, List.isEmpty_eq_false_iff]; intro h; have h3 : t.data.toList.length = t.size := Array.length_toList; rw [h] at h3; simp at h3; omega
  clear hS hN hF hL hR gF gL gN hsp k0 hb1
  go_enter Tryd.func14, Tryd.ntmps14
  go_wp2_with fail
  refine HRI.out.mono ?_
  rintro e w1 ⟨rfl, hB1⟩
  have k1 := heap_aq hB1 K0.out
  obtain ⟨x0, x1, x2, x3, x4⟩ := box5m k1
  have HBw := Lib.hid (HB1.out.trans (hB1.mono HB1.out.size)); have K1 := Lib.hid k1
  obtain ⟨i0, hi0, hz0, hz1, hz2⟩ := info_parts boolInfo
  clear k1 hB1
  go_wp2_with (at_make; refine wpList_make_full _ rfl _ _ 63 rfl w1.heap.size 4 i0 (.bool false) 1 Tryd.underlying63 hi0 hz0 hz1 .i64 .i64 _ _ s.sets.length rfl rfl rfl rfl (by rw [hz2]; omega) (by unfold maxLen; omega) (Nat.le_refl _) ?_)
  intro w2 hown2 hgrow2
  have hb2 : Below w1.heap.size w1 w2 := ⟨hgrow2.os, hgrow2.tape, hgrow2.output, hgrow2.size, fun k hk => hgrow2.block k hk (by simp)⟩
  have k2 := heap_aq hb2 K1.out
  obtain ⟨x0, x1, x2, x3, x4⟩ := box5m k2
  have hbo := BoolsAt.made hown2
  have hk1 := (Array.getElem?_eq_some_iff.1 K1.out).1
  have hk2 := hbo.lt
  have hs1 : w.heap.size + 1 ≤ w1.heap.size := by omega
  have hms0 : MS w (w2.alloc (Obj.cells #[.slice (some ⟨w1.heap.size, 0, none⟩) s.sets.length s.sets.length] 63)) w.heap.size w1.heap.size w2.heap.size s.sets.length (Obj.cells #[.slice SA s.sets.length SC, .bool p.none, .slice A1 p.first.length c1, .slice A2 p.last.length c2, .slice NA s.next.length NC] 35 (0, 0)) (List.replicate s.sets.length false) :=
    ⟨heap_a1 k2, heap_a0 w2 _, heap_a1 hbo, by simp, (HBw.out.trans (hb2.mono HBw.out.size)).trans (((Below.refl w2.heap.size w2).alloc (Nat.le_refl _) _).mono (by have := hb2.size; omega)), Nat.le_refl _, by omega, by omega⟩
  have hof : IR (· ≠ w1.heap.size) (w2.alloc (Obj.cells #[.slice (some ⟨w1.heap.size, 0, none⟩) s.sets.length s.sets.length] 63)) (.slice A1 p.first.length c1) p.first := ((HF.out.old).below hms0.below).mono fun k hk _ => by omega
  have HMS0 := Lib.hid hms0; have HOF := Lib.hid hof
  have hlt2 : w.heap.size < w2.heap.size := by omega
  have hne2 : w.heap.size ≠ w2.heap.size := by omega
  clear hms0 hof hbo hb2 k2 hown2 hgrow2 hi0 hz0 hz1 hz2
  go_wp2_with fail
  go_loopg [6, 33] t.size (fun g ov i wr => ∃ (j : Nat) (ol : List Int) (bs : List Bool), j + g = t.size ∧ j < t.size ∧ i = .int .i64 j ∧ Hid (IR (· ≠ w1.heap.size) wr ov ol) ∧ Hid (Good s.sets.length ol) ∧ Hid (runM s (bytesN t) p.first = runM s ((bytesN t).drop j) ol) ∧ Hid (MS w wr w.heap.size w1.heap.size w2.heap.size s.sets.length (Obj.cells #[.slice SA s.sets.length SC, .bool p.none, .slice A1 p.first.length c1, .slice A2 p.last.length c2, .slice NA s.next.length NC] 35 (0, 0)) bs))
  case atStart => exact ⟨0, p.first, _, by omega, h0, rfl, HOF, GF, Lib.hid rfl, HMS0⟩
  case round =>
    obtain ⟨j, ol, bs, hj, hjl, rfl, HO, HG, HI, HM⟩ := hrel
    have Hj := Lib.hid hj
    obtain ⟨wo, rfl⟩ : ∃ wo : World, wo = wr := ⟨_, rfl⟩
    obtain ⟨gO, rfl⟩ : ∃ gO : Nat, gO = gk := ⟨_, rfl⟩
    obtain ⟨Ao, co, rfl, hoc, _⟩ := HO.out.form
    have hol := HG.out.len
    have hcl : ∀ ty, (Builtin.clear_ #[63] ty #[.slice (some ⟨w1.heap.size, 0, none⟩) s.sets.length s.sets.length]).run Tryd.prog wo = .ok (.tuple #[]) (wo.setCells w1.heap.size 0 (List.replicate s.sets.length (.bool false))) := fun ty => by
      have := run_clear_bools HM.out.marks ty s.sets.length
      rw [HM.out.len] at this
      exact this
    have hcb := HM.out.marks.clear
    rw [HM.out.len] at hcb
    have hmc := HM.out.keep (KR.cells _ 0 wo) hcb (by simp)
    have hoc' := HO.out.keep (w' := wo.setCells w1.heap.size 0 (List.replicate s.sets.length (.bool false))) fun k hk hl => (KR.cells (B := wo.heap.size) (List.replicate s.sets.length (.bool false)) 0 wo).block k hl hk
    obtain ⟨wc, hwc⟩ : ∃ wc, wc = wo.setCells w1.heap.size 0 (List.replicate s.sets.length (.bool false)) := ⟨_, rfl⟩
    rw [← hwc] at hcl hcb hmc hoc'
    have y0 := HM.out.cell
    have HMC := Lib.hid hmc; have HOC := Lib.hid hoc'
    clear hj hcb hmc hoc' hwc HOF HMS0
    go_wp2_with fail
    go_loopg [8, 39] ol.length (fun g tv i2 wa => ∃ (j2 : Nat) (A : Option Addr) (c : Nat), j2 + g = ol.length ∧ i2 = .int .i64 j2 ∧ tv = .slice A (thenL s (t[j].toNat) (ol.take j2)).length c ∧ Hid (wa.ownsRow wc.heap.size 3 1 (.slice A (thenL s (t[j].toNat) (ol.take j2)).length c) (thenL s (t[j].toNat) (ol.take j2)).length (ints (thenL s (t[j].toNat) (ol.take j2)))) ∧ Hid (MS w wa w.heap.size w1.heap.size w2.heap.size s.sets.length (Obj.cells #[.slice SA s.sets.length SC, .bool p.none, .slice A1 p.first.length c1, .slice A2 p.last.length c2, .slice NA s.next.length NC] 35 (0, 0)) (marksOf s.sets.length fun m => (thenL s (t[j].toNat) (ol.take j2)).contains (m : Int))) ∧ Hid (KR wc.heap.size w1.heap.size wc wa))
    case atStart => exact ⟨0, none, 0, by omega, rfl, rfl, Lib.hid ⟨by simp [thenL], .inl ⟨rfl, rfl⟩⟩, by rw [show (marksOf s.sets.length fun m => (thenL s t[j].toNat (ol.take 0)).contains (m : Int)) = List.replicate s.sets.length false from marksOf_false _]; exact HMC, Lib.hid (KR.refl _ _ _)⟩
    case round =>
      obtain ⟨wa, rfl⟩ : ∃ wa : World, wa = wr := ⟨_, rfl⟩
      obtain ⟨j2, A, c, hj2, rfl, rfl, HT, HA, HK⟩ := hrel
      have Hj2 := Lib.hid hj2
      by_cases hlt : j2 < ol.length
      · have hoa := HOC.out.keep (w' := wa) fun k hk hl => HK.out.block k hl hk
        obtain ⟨b, off, rfl, _, hx⟩ := hoa.cells (by omega)
        have hxj := hx j2 hlt
        have hgk := HG.out.2 ol[j2] (List.getElem_mem hlt)
        obtain ⟨k, hk⟩ := Int.eq_ofNat_of_zero_le hgk.1
        rw [hk] at hxj hgk
        have Hk := Lib.hid hk
        have hkn : k < s.sets.length := by omega
        obtain ⟨sb, so, rfl, q0, q1, q2, q3⟩ := (HS.out.below HA.out.below).2 k hkn
        obtain ⟨x0, x1, x2, x3, x4⟩ := box5m HA.out.box
        have y0 := HA.out.cell
        have hhas := has_any s.sets[k] t[j].toNat wa.drew t[j].toNat_lt
        unfold setV at hhas
        have HHAS := Lib.hid hhas
        have hsn := thenL_snoc s t[j].toNat ol j2 hlt
        have hkb : keepB s t[j].toNat ol[j2] = hasB s.sets[k] t[j].toNat := by
          unfold keepB
          rw [hk, Int.toNat_natCast, List.getD_eq_getElem?_getD, List.getElem?_eq_getElem hkn]; rfl
        rw [hkb, hk] at hsn
        have HSN := Lib.hid hsn
        obtain ⟨th, hth⟩ : ∃ th, th = thenL s t[j].toNat (ol.take j2) := ⟨_, rfl⟩
        rw [← hth] at HT HA HSN ⊢
        have hthl : th.length ≤ 512 := by rw [hth]; exact Nat.le_trans (thenL_good (m := s.sets.length) ⟨HG.out.1.sublist (List.take_sublist _ _), fun x hx => HG.out.2 x (List.mem_of_mem_take hx)⟩).len hsl
        clear hj2 hoa hx hk hhas hsn hkb hth
        go_wp2_with fail
        go_still_tail 8, (by kernel_rfl)
        change wpList _ _ _ _ _ wa.drew
        go_wp2_with fail
        refine HHAS.out.mono ?_
        rintro e w4 ⟨rfl, hB4⟩
        have hB4' : Below wa.heap.size wa w4 := ⟨hB4.os, hB4.tape, hB4.output, hB4.size, hB4.block⟩
        have hm4 := HA.out.on hB4'
        have hk4 := HK.out.on HK.out.size hB4'
        have ht4 := own_same HT.out fun b _ hl => hB4'.block b hl
        have y4 := hm4.cell
        cases hhb : hasB s.sets[k] t[j].toNat with
        | false =>
          rw [hhb] at HSN
          have hth2 : thenL s t[j].toNat (ol.take (j2 + 1)) = th := by rw [HSN.out]; simp
          have HTH := Lib.hid hth2; have HM4 := Lib.hid hm4; have HK4 := Lib.hid hk4; have HT4 := Lib.hid ht4
          clear hhb hth2 hm4 hk4 ht4 hB4 hB4'
          go_wp2_with fail
          have hj2 := Hj2.out
          go_roundg (gk - 1)
          case measure => omega
          case rel => exact ⟨j2 + 1, A, c, by omega, by go_num, by rw [HTH.out], by rw [HTH.out]; exact HT4, by rw [HTH.out]; exact HM4, HK4⟩
        | true =>
          rw [hhb] at HSN
          have hth2 : thenL s t[j].toNat (ol.take (j2 + 1)) = th ++ [(k : Int)] := by rw [HSN.out]; simp
          have hm5 := hm4.set k true
          have hfz := hm4.marks.frozen k
          have hcz := hm4.marks.cell k (by rw [hm4.len]; exact hkn)
          have hmk : (marksOf s.sets.length fun m => th.contains (m : Int)).set k true = marksOf s.sets.length fun m => (th ++ [(k : Int)]).contains (m : Int) := by
            rw [marksOf_set]
            refine marksOf_congr _ fun i _ => ?_
            rw [List.contains_append]
            congr 1
            rw [List.contains_cons, List.contains_nil, Bool.or_false, Bool.eq_iff_iff]
            simp only [beq_iff_eq, decide_eq_true_eq]
            omega
          rw [hmk] at hm5
          have hk5 := hk4.setR k (.bool true)
          have hko := HK.out.size
          have ht5 := own_same (w' := w4.setCell ⟨w1.heap.size, k, none⟩ (.bool true)) ht4 fun b hb _ => Below.heap_setCell w4 ⟨w1.heap.size, k, none⟩ (.bool true) b (by show b ≠ w1.heap.size; have := HMC.out.marks.lt; omega)
          have HTH := Lib.hid hth2; have HM5 := Lib.hid hm5; have HK5 := Lib.hid hk5; have HT5 := Lib.hid (ht5.alloc (Obj.cells #[.int .i64 k] 3))
          have hwc4 : wc.heap.size ≤ w4.heap.size := Nat.le_trans HK.out.size hB4'.size
          obtain ⟨cz, hcz'⟩ : ∃ b, w4.cell? ⟨w1.heap.size, k, none⟩ = some (.bool b) := ⟨_, hcz⟩
          obtain ⟨i1, hi1, hz1, hz2, hz3⟩ := info_parts intInfo
          clear hhb hth2 hm4 hk4 ht4 hB4 hB4' hm5 hmk hk5 ht5 hko hcz
          go_wp2_with (at_builtin; refine wpList_append_lies _ rfl (.tmp 55) (.tmp 57) 32 rfl wc.heap.size 3 i1 (.int .i64 0) 1 8 Tryd.underlying32 hi1 hz1 hz2 hz3 rfl (by decide) _ th.length (ints th) rfl HT5.out ⟨w4.heap.size, 0, none⟩ 1 1 [.int .i64 k] rfl rfl (World.news_of_block (cs := #[.int .i64 k]) (t := 3) (fr := (0, 0)) (heap_aS _ _ _ _)) (by simp [Value.oneCell']) (by omega) (by unfold maxLen; omega) (by omega) (by simp; omega) (w4.heap.size + 1) (by simp) ?_)
          intro g2 cap2 w6 hown6 hgrow6 hat6 hlt6
          have hm6 := (HM5.out.on ((Below.refl _ _).alloc (Nat.le_refl _) (Obj.cells #[.int .i64 k] 3))).grown hgrow6 fun b hb => by have := (HT5.out.lt b hb).1; have := HMC.out.lt; omega
          have hk6 : KR wc.heap.size w1.heap.size wc w6 := (HK5.out.alloc (by simp; omega) (Obj.cells #[.int .i64 k] 3)).trans ⟨hgrow6.os, hgrow6.tape, hgrow6.output, hgrow6.size, fun b hb _ => hgrow6.block b (by simp; omega) fun e => by have := (HT5.out.lt _ e.symm).1; omega⟩
          have ho6 : w6.ownsRow wc.heap.size 3 1 (.slice (some ⟨g2, 0, none⟩) (th ++ [(k : Int)]).length cap2) (th ++ [(k : Int)]).length (ints (th ++ [(k : Int)])) := by
            rw [List.length_append]
            simpa using hown6
          have HM6 := Lib.hid hm6; have HK6 := Lib.hid hk6; have HO6 := Lib.hid ho6
          clear hm6 hk6 ho6 hown6 hgrow6 hat6 hi1 hz1 hz2 hz3 cz hcz'
          go_wp2_with fail
          have hj2 := Hj2.out
          go_roundg (gk - 1)
          case measure => omega
          case rel => exact ⟨j2 + 1, _, cap2, by omega, by go_num, by rw [HTH.out, List.length_append]; rfl, by rw [HTH.out]; exact HO6, by rw [HTH.out]; exact HM6, HK6⟩
      · obtain rfl : j2 = ol.length := by omega
        simp only [List.take_length] at HT HA ⊢
        obtain ⟨th, hth⟩ : ∃ th, th = thenL s t[j].toNat ol := ⟨_, rfl⟩
        rw [← hth] at HT HA ⊢
        have hthg : Good s.sets.length th := by rw [hth]; exact thenL_good HG.out
        have HTHG := Lib.hid hthg
        have hthl := hthg.len
        have HTH := Lib.hid hth
        have hjb : j < (bytesN t).length := by rw [bytesN_len]; exact hjl
        by_cases hlast : j + 1 = t.size
        · have e1 : ((j : Int) == (t.size : Int) - 1) = true := by simp; omega
          have hmf : ∀ (fn : Fn) (first cap : Array Value) (w : World), (Instr.makeFunc fn first cap).run Tryd.prog w = .ok (.func fn first cap) w := fun _ _ _ _ => rfl
          have hrun : runM s (bytesN t) p.first = th := by rw [HI.out, runM_last s _ j (by rw [bytesN_len]; exact hlast), bytesN_get t j hjl hjb, ← HTH.out]
          have hfin : matchB p s (bytesN t) = anyMark (marksOf s.sets.length fun m => th.contains (m : Int)) p.last := by
            rw [matchB_of HR.out (by intro h; rw [h] at hjb; simp at hjb), hrun]
            exact (any_marks GL.out.2).symm
          have hcm := contains_marks (.slice A2 p.last.length c2) p.last w2.heap.size w1.heap.size s.sets.length _ wa (HL.out.below HA.out.below) GL.out.2 HA.out.cell HA.out.len HA.out.marks (by omega)
          obtain ⟨rb, hrb⟩ : ∃ rb, rb = anyMark (marksOf s.sets.length fun m => th.contains (m : Int)) p.last := ⟨_, rfl⟩
          rw [← hrb] at hcm hfin
          have HCM := Lib.hid hcm
          have HFIN := Lib.hid hfin
          obtain ⟨x0, x1, x2, x3, x4⟩ := box5m HA.out.box
          have HBE := Lib.hid HA.out.below
          clear hj2 hth hthg hjb hlast hrun hfin hcm hrb
          go_wp2_with fail
          refine HCM.out.mono ?_
          rintro e w9 ⟨rfl, rfl⟩
          go_wp2_with fail
          go_ret
          exact ⟨by rw [HFIN.out]; rfl, HBE.out⟩
        · have e1 : ((j : Int) == (t.size : Int) - 1) = false := by simp; omega
          have hj1 : j + 1 < t.size := by omega
          have hrun : runM s (bytesN t) p.first = runM s ((bytesN t).drop (j + 1)) (openL s th) := by rw [HI.out, runM_step s _ j (by rw [bytesN_len]; exact hj1), bytesN_get t j hjl hjb, ← HTH.out]
          have HRUN := Lib.hid hrun
          have y0 := HA.out.cell
          obtain ⟨i0, hi0, hz0, hz1, hz2⟩ := info_parts boolInfo
          have hcaw := HK.out.size
          clear hj2 hth hthg hlast hrun hjb
          go_wp2_with (at_make; refine wpList_make_full _ rfl _ _ 63 rfl wa.heap.size 4 i0 (.bool false) 1 Tryd.underlying63 hi0 hz0 hz1 .i64 .i64 _ _ s.sets.length rfl rfl rfl rfl (by rw [hz2]; omega) (by unfold maxLen; omega) (Nat.le_refl _) ?_)
          intro w7 hown7 hgrow7
          have hb7 : Below wa.heap.size wa w7 := ⟨hgrow7.os, hgrow7.tape, hgrow7.output, hgrow7.size, fun k hk => hgrow7.block k hk (by simp)⟩
          have hbo7 := BoolsAt.made hown7
          have HM7 := Lib.hid (HA.out.on hb7)
          have HTR := Lib.hid (((IR.owned HT.out (by omega)).old).below hb7)
          have HBO7 := Lib.hid hbo7
          have hs7 := hbo7.lt
          clear hown7 hgrow7 hb7 hbo7 hi0 hz0 hz1 hz2 y0
          go_wp2_with fail
          go_loopg [70] th.length (fun g i3 wb => ∃ j3 : Nat, j3 + g = th.length ∧ i3 = .int .i64 j3 ∧ Hid (BoolsAt wb wa.heap.size (marksOf s.sets.length (nextOf s (th.take j3)))) ∧ Hid (MS w wb w.heap.size w1.heap.size w2.heap.size s.sets.length (Obj.cells #[.slice SA s.sets.length SC, .bool p.none, .slice A1 p.first.length c1, .slice A2 p.last.length c2, .slice NA s.next.length NC] 35 (0, 0)) (marksOf s.sets.length fun m => th.contains (m : Int))) ∧ Hid (KR w7.heap.size wa.heap.size w7 wb))
          case atStart => exact ⟨0, by omega, rfl, by rw [show marksOf s.sets.length (nextOf s (th.take 0)) = List.replicate s.sets.length false from marksOf_false _]; exact HBO7, HM7, Lib.hid (KR.refl _ _ _)⟩
          case round =>
            obtain ⟨wb, rfl⟩ : ∃ wb : World, wb = wr := ⟨_, rfl⟩
            obtain ⟨gB, rfl⟩ : ∃ gB : Nat, gB = gk := ⟨_, rfl⟩
            obtain ⟨j3, hj3, rfl, HS3, HM3, HK3⟩ := hrel
            have Hj3 := Lib.hid hj3
            by_cases hlt3 : j3 < th.length
            · have htr := HTR.out.keep (w' := wb) fun b hb hl => HK3.out.block b hl (by omega)
              obtain ⟨b3, off3, rfl, _, hx3⟩ := htr.cells (by omega)
              have hxj3 := hx3 j3 hlt3
              have hgk3 := HTHG.out.2 th[j3] (List.getElem_mem hlt3)
              obtain ⟨k, hk⟩ := Int.eq_ofNat_of_zero_le hgk3.1
              rw [hk] at hxj3 hgk3
              have hkn : k < s.next.length := by rw [HNL.out]; omega
              obtain ⟨nb3, no3, v3, rfl, hv0, hir3⟩ := HN.out.2 k hkn
              have hv3 := cell_keep HM3.out.below hv0
              obtain ⟨A5, c5, rfl, hlc5, _⟩ := hir3.form
              have hgl := GN.out s.next[k] (List.getElem_mem hkn)
              have hll := hgl.len
              have hnx := nextOf_snoc s th j3 hlt3
              have hgd : s.next.getD th[j3].toNat [] = s.next[k] := by rw [hk, Int.toNat_natCast, List.getD_eq_getElem?_getD, List.getElem?_eq_getElem hkn]; rfl
              rw [hgd] at hnx
              obtain ⟨nl, hnl⟩ : ∃ nl, nl = s.next[k] := ⟨_, rfl⟩
              rw [← hnl] at hnx hir3 hv3 hgl hll
              obtain ⟨x0, x1, x2, x3, x4⟩ := box5m HM3.out.box
              have HNX := Lib.hid hnx; have HIR := Lib.hid hir3.old; have HGL := Lib.hid hgl
              have hkn' : (k : Int) < (s.next.length : Int) := by omega
              have HNB := Lib.hid HM3.out.below
              clear htr hx3 hk hir3 hnx hgd hj3 hnl hgl hv0
              go_wp2_with fail
              go_loopg [80] nl.length (fun g i4 wd => ∃ j4 : Nat, j4 + g = nl.length ∧ i4 = .int .i64 j4 ∧ Hid (BoolsAt wd wa.heap.size (marksOf s.sets.length fun m => nextOf s (th.take j3) m || (nl.take j4).contains (m : Int))) ∧ Hid (MS w wd w.heap.size w1.heap.size w2.heap.size s.sets.length (Obj.cells #[.slice SA s.sets.length SC, .bool p.none, .slice A1 p.first.length c1, .slice A2 p.last.length c2, .slice (some ⟨nb3, no3, none⟩) s.next.length NC] 35 (0, 0)) (marksOf s.sets.length fun m => th.contains (m : Int))) ∧ Hid (KR w7.heap.size wa.heap.size w7 wd))
              case atStart => exact ⟨0, by omega, rfl, by rw [show (marksOf s.sets.length fun m => nextOf s (th.take j3) m || (nl.take 0).contains (m : Int)) = marksOf s.sets.length (nextOf s (th.take j3)) from marksOf_congr _ fun i _ => by simp]; exact HS3, HM3, HK3⟩
              case round =>
                obtain ⟨wd, rfl⟩ : ∃ wd : World, wd = wr := ⟨_, rfl⟩
                obtain ⟨j4, hj4, rfl, HS4, HM4, HK4⟩ := hrel
                have Hj4 := Lib.hid hj4
                by_cases hlt4 : j4 < nl.length
                · have hir4 := HIR.out.keep (w' := wd) fun b hb _ => HM4.out.below.block b hb
                  obtain ⟨b4, off4, rfl, _, hx4⟩ := hir4.cells (by omega)
                  have hxj4 := hx4 j4 hlt4
                  have hgk4 := HGL.out.2 nl[j4] (List.getElem_mem hlt4)
                  have hct := fun m => contains_take nl j4 hlt4 m hgk4.1
                  obtain ⟨q, hq⟩ := Int.eq_ofNat_of_zero_le hgk4.1
                  simp only [hq, Int.toNat_natCast] at hxj4 hgk4 hct
                  have hqn : q < s.sets.length := by omega
                  have hs4 := HS4.out.set q true
                  have hmk : (marksOf s.sets.length fun m => nextOf s (th.take j3) m || (nl.take j4).contains (m : Int)).set q true = marksOf s.sets.length fun m => nextOf s (th.take j3) m || (nl.take (j4 + 1)).contains (m : Int) := by
                    rw [marksOf_set]
                    refine marksOf_congr _ fun i _ => ?_
                    rw [hct i, Bool.or_assoc]
                  rw [hmk] at hs4
                  have hfz := HS4.out.frozen q
                  obtain ⟨cz, hcz⟩ : ∃ b, wd.cell? ⟨wa.heap.size, q, none⟩ = some (.bool b) := ⟨_, HS4.out.cell q (by rw [marksOf_len]; exact hqn)⟩
                  have hm4 := HM4.out.keep (wr' := wd.setCell ⟨wa.heap.size, q, none⟩ (.bool true)) ⟨rfl, rfl, rfl, by simp, fun b hb _ => Below.heap_setCell wd ⟨wa.heap.size, q, none⟩ (.bool true) b (by show b ≠ wa.heap.size; have := HA.out.lt; omega)⟩ ((Below.heap_setCell wd ⟨wa.heap.size, q, none⟩ (.bool true) w1.heap.size (by show w1.heap.size ≠ wa.heap.size; have := HA.out.marks.lt; omega)).trans HM4.out.marks) HM4.out.len
                  have hk4 := HK4.out.setR q (.bool true)
                  have HS5 := Lib.hid hs4; have HM5 := Lib.hid hm4; have HK5 := Lib.hid hk4
                  clear hir4 hx4 hct hq hs4 hmk hm4 hk4 hj4
                  go_wp2_with fail
                  have hj4 := Hj4.out
                  go_roundg (gk - 1)
                  case measure => omega
                  case rel => exact ⟨j4 + 1, by omega, by go_num, HS5, HM5, HK5⟩
                · obtain rfl : j4 = nl.length := by omega
                  have hmk : (marksOf s.sets.length fun m => nextOf s (th.take j3) m || (nl.take nl.length).contains (m : Int)) = marksOf s.sets.length (nextOf s (th.take (j3 + 1))) := marksOf_congr _ fun i _ => by rw [HNX.out i, List.take_length]
                  have hs4 := HS4.out
                  rw [hmk] at hs4
                  have HS5 := Lib.hid hs4
                  clear hj4 hmk hs4
                  go_wp2_with fail
                  have hj3 := Hj3.out
                  go_roundg (gB - 1)
                  case measure => omega
                  case rel => exact ⟨j3 + 1, by omega, by go_num, HS5, HM4, HK4⟩
            · obtain rfl : j3 = th.length := by omega
              simp only [List.take_length] at HS3
              clear hj3
              go_wp2_with fail
              go_loopg [6, 93] s.sets.length (fun g ov i5 we => ∃ (j5 : Nat) (A : Option Addr) (c : Nat), j5 + g = s.sets.length ∧ i5 = .int .i64 j5 ∧ ov = .slice A (openTo s th j5).length c ∧ Hid ((openTo s th j5 = [] ∧ c = 0) ∨ we.ownsRow wb.heap.size 3 1 (.slice A (openTo s th j5).length c) (openTo s th j5).length (ints (openTo s th j5))) ∧ Hid (Below wb.heap.size wb we))
              case atStart => exact ⟨0, Ao, 0, by omega, rfl, rfl, Lib.hid (.inl ⟨rfl, rfl⟩), Lib.hid (Below.refl _ _)⟩
              case round =>
                obtain ⟨we, rfl⟩ : ∃ we : World, we = wr := ⟨_, rfl⟩
                obtain ⟨j5, A6, c6, hj5, rfl, rfl, HO5, HB5⟩ := hrel
                have Hj5 := Lib.hid hj5
                by_cases hlt5 : j5 < s.sets.length
                · have hbs := HS3.out
                  have hbe : BoolsAt we wa.heap.size (marksOf s.sets.length (nextOf s th)) := (HB5.out.block _ hbs.lt).trans hbs
                  have hc5 := hbe.cell j5 (by rw [marksOf_len]; exact hlt5)
                  have hg5 : (marksOf s.sets.length (nextOf s th))[j5]'(by rw [marksOf_len]; exact hlt5) = nextOf s th j5 := by
                    have := marksOf_get s.sets.length (nextOf s th) j5 hlt5
                    rw [List.getElem?_eq_getElem (by rw [marksOf_len]; exact hlt5)] at this
                    exact Option.some.inj this
                  rw [hg5] at hc5
                  have hsu := openTo_succ s th j5
                  have hlo := openTo_len s th j5
                  have hbw := HB5.out.size
                  obtain ⟨ot, hot⟩ : ∃ ot, ot = openTo s th j5 := ⟨_, rfl⟩
                  rw [← hot] at HO5 hsu hlo ⊢
                  cases hnx : nextOf s th j5 with
                  | false =>
                    rw [hnx] at hc5 hsu
                    have hs2 : openTo s th (j5 + 1) = ot := by rw [hsu]; simp
                    have HS2 := Lib.hid hs2
                    clear hbs hbe hg5 hsu hot hnx hs2 hj5
                    go_wp2_with fail
                    have hj5 := Hj5.out
                    go_roundg (gk - 1)
                    case measure => omega
                    case rel => exact ⟨j5 + 1, A6, c6, by omega, by go_num, by rw [HS2.out], by rw [HS2.out]; exact HO5, HB5⟩
                  | true =>
                    rw [hnx] at hc5 hsu
                    have hs2 : openTo s th (j5 + 1) = ot ++ [(j5 : Int)] := by rw [hsu]; simp
                    have HS2 := Lib.hid hs2
                    obtain ⟨i1, hi1, hz1, hz2, hz3⟩ := info_parts intInfo
                    have hal := (Below.refl we.heap.size we).alloc (Nat.le_refl _) (Obj.cells #[.int .i64 j5] 3)
                    have HAL := Lib.hid hal
                    clear hbs hbe hg5 hsu hot hnx hs2 hj5 hal
                    rcases HO5.out with ⟨he, hc0⟩ | hown
                    · subst he
                      subst hc0
                      clear HO5
                      simp only [List.length_nil]
                      go_wp2_with (at_builtin; refine wpList_append_grows _ rfl (.tmp 99) (.tmp 101) 32 rfl 3 i1 (.int .i64 0) 1 8 Tryd.underlying32 hi1 hz1 hz2 hz3 rfl (by decide) A6 0 0 [] rfl (fun _ => ⟨rfl, rfl⟩) rfl (fun _ _ j u hu => by simp at hu) ⟨we.heap.size, 0, none⟩ 1 1 [.int .i64 j5] rfl rfl (World.news_of_block (cs := #[.int .i64 j5]) (t := 3) (fr := (0, 0)) (heap_a0 _ _)) (by simp [Value.oneCell']) (by omega) (by unfold maxLen; omega) (by omega) ?_)
                      intro v' w6 hown6 hgrow6
                      obtain ⟨A7, c7, rfl⟩ := own_shape hown6
                      have hb6 : Below wb.heap.size wb w6 := (HB5.out.trans (HAL.out.mono hbw)).trans ⟨hgrow6.os, hgrow6.tape, hgrow6.output, hgrow6.size, fun b hb => hgrow6.block b (by simp; omega) (by simp)⟩
                      have ho6 : w6.ownsRow wb.heap.size 3 1 (.slice A7 ([] ++ [(j5 : Int)]).length c7) ([] ++ [(j5 : Int)]).length (ints ([] ++ [(j5 : Int)])) := own_mono (by simpa using hown6) (by omega)
                      have HB6 := Lib.hid hb6; have HO6 := Lib.hid ho6
                      clear hb6 ho6 hown6 hgrow6 hi1 hz1 hz2 hz3
                      go_wp2_with fail
                      have hj5 := Hj5.out
                      go_roundg (gk - 1)
                      case measure => omega
                      case rel => exact ⟨j5 + 1, A7, c7, by omega, by go_num, by rw [HS2.out]; rfl, by rw [HS2.out]; exact Lib.hid (.inr HO6.out), HB6⟩
                    · have HT5 := Lib.hid (hown.alloc (Obj.cells #[.int .i64 j5] 3))
                      clear hown HO5
                      go_wp2_with (at_builtin; refine wpList_append_lies _ rfl (.tmp 99) (.tmp 101) 32 rfl wb.heap.size 3 i1 (.int .i64 0) 1 8 Tryd.underlying32 hi1 hz1 hz2 hz3 rfl (by decide) _ ot.length (ints ot) rfl HT5.out ⟨we.heap.size, 0, none⟩ 1 1 [.int .i64 j5] rfl rfl (World.news_of_block (cs := #[.int .i64 j5]) (t := 3) (fr := (0, 0)) (heap_a0 _ _)) (by simp [Value.oneCell']) (by omega) (by unfold maxLen; omega) (by omega) (by simp; omega) (we.heap.size + 1) (by simp) ?_)
                      intro g2 cap2 w6 hown6 hgrow6 hat6 hlt6
                      have hb6 : Below wb.heap.size wb w6 := (HB5.out.trans (HAL.out.mono hbw)).trans ⟨hgrow6.os, hgrow6.tape, hgrow6.output, hgrow6.size, fun b hb => hgrow6.block b (by simp; omega) fun e => by have := (HT5.out.lt _ e.symm).1; omega⟩
                      have ho6 : w6.ownsRow wb.heap.size 3 1 (.slice (some ⟨g2, 0, none⟩) (ot ++ [(j5 : Int)]).length cap2) (ot ++ [(j5 : Int)]).length (ints (ot ++ [(j5 : Int)])) := by
                        rw [List.length_append]
                        simpa using hown6
                      have HB6 := Lib.hid hb6; have HO6 := Lib.hid ho6
                      clear hb6 ho6 hown6 hgrow6 hat6 hi1 hz1 hz2 hz3
                      go_wp2_with fail
                      have hj5 := Hj5.out
                      go_roundg (gk - 1)
                      case measure => omega
                      case rel => exact ⟨j5 + 1, _, cap2, by omega, by go_num, by rw [HS2.out, List.length_append]; rfl, by rw [HS2.out]; exact Lib.hid (.inr HO6.out), HB6⟩
                · obtain rfl : j5 = s.sets.length := by omega
                  have hm9 := HM3.out.on HB5.out
                  have hir9 : IR (· ≠ w1.heap.size) we (.slice A6 (openTo s th s.sets.length).length c6) (openL s th) := by
                    rcases HO5.out with ⟨he, hc0⟩ | hown
                    · have he2 : openL s th = [] := he
                      rw [he2, he]
                      exact ⟨A6, c6, rfl, by simp, by simp, fun h => absurd rfl h⟩
                    · refine (IR.owned hown (Nat.le_trans (openTo_len s th _) (by omega))).mono fun b hb _ => ?_
                      have := HM3.out.marks.lt
                      omega
                  have HM9 := Lib.hid hm9; have HIR9 := Lib.hid hir9
                  clear hm9 hir9 hj5
                  go_wp2_with fail
                  have hj := Hj.out
                  go_roundg (gO - 1)
                  case measure => omega
                  case rel => exact ⟨j + 1, openL s th, _, by omega, hj1, by go_num, HIR9, Lib.hid (openL_good s th), HRUN, HM9⟩
end Go.Proofs.YtmcoaopcmjociaaDoor

namespace Go.Proofs.YtmcoaopcmjociaaDoor
open Go Go.RowKit Go.Sort

set_option maxRecDepth 100000 in
theorem match_wrong (v : Value) (p : Part) (s : St) (t : ByteArray) (w : World) (h : SpR w v p s) (hR : rightB p s = false) :
    Calls Tryd.prog 14 #[v, .string t] w fun e w' => e = .returned (.bool false) ∧ Below w.heap.size w w' := by
  obtain ⟨SA, SC, fv, lv, NA, NC, rfl, hS, hN, hF, hL⟩ := h
  obtain ⟨A1, c1, rfl, _, _⟩ := hF.form
  obtain ⟨A2, c2, rfl, _, _⟩ := hL.form
  have hb1 := (Below.refl w.heap.size w).alloc (Nat.le_refl _) (Obj.cells #[.slice SA s.sets.length SC, .bool p.none, .slice A1 p.first.length c1, .slice A2 p.last.length c2, .slice NA s.next.length NC] 35)
  have k0 := heap_a0 w (Obj.cells #[.slice SA s.sets.length SC, .bool p.none, .slice A1 p.first.length c1, .slice A2 p.last.length c2, .slice NA s.next.length NC] 35)
  obtain ⟨x0, x1, x2, x3, x4⟩ := box5m k0
  have hsp : SpR (w.alloc (Obj.cells #[.slice SA s.sets.length SC, .bool p.none, .slice A1 p.first.length c1, .slice A2 p.last.length c2, .slice NA s.next.length NC] 35)) (.agg #[.slice SA s.sets.length SC, .bool p.none, .slice A1 p.first.length c1, .slice A2 p.last.length c2, .slice NA s.next.length NC]) p s := ⟨SA, SC, _, _, NA, NC, rfl, hS.below hb1, hN.below hb1, hF.below hb1, hL.below hb1⟩
  have HRI := spright_any _ p s _ hsp
  rw [hR] at HRI
  have HRI := Lib.hid HRI
  have HR := Lib.hid hR; have K0 := Lib.hid k0; have HB1 := Lib.hid hb1
  clear hS hN hF hL hR hsp k0 hb1
  go_enter Tryd.func14, Tryd.ntmps14
  go_wp2_with fail
  refine HRI.out.mono ?_
  rintro e w1 ⟨rfl, hB1⟩
  have k1 := heap_aq hB1 K0.out
  obtain ⟨x0, x1, x2, x3, x4⟩ := box5m k1
  have HBw := Lib.hid (HB1.out.trans (hB1.mono HB1.out.size))
  clear k1 hB1
  go_wp2_with fail
  go_ret
  exact ⟨rfl, HBw.out⟩

set_option maxRecDepth 100000 in
theorem match_none (v : Value) (p : Part) (s : St) (w : World) (h : SpR w v p s) (hR : rightB p s = true) :
    Calls Tryd.prog 14 #[v, .string ⟨#[]⟩] w fun e w' => e = .returned (.bool p.none) ∧ Below w.heap.size w w' := by
  have hte : (ByteArray.mk #[]).toList.isEmpty = true := by rw [ByteArray.toList_eq]; rfl
  obtain ⟨SA, SC, fv, lv, NA, NC, rfl, hS, hN, hF, hL⟩ := h
  obtain ⟨A1, c1, rfl, _, _⟩ := hF.form
  obtain ⟨A2, c2, rfl, _, _⟩ := hL.form
  have hb1 := (Below.refl w.heap.size w).alloc (Nat.le_refl _) (Obj.cells #[.slice SA s.sets.length SC, .bool p.none, .slice A1 p.first.length c1, .slice A2 p.last.length c2, .slice NA s.next.length NC] 35)
  have k0 := heap_a0 w (Obj.cells #[.slice SA s.sets.length SC, .bool p.none, .slice A1 p.first.length c1, .slice A2 p.last.length c2, .slice NA s.next.length NC] 35)
  obtain ⟨x0, x1, x2, x3, x4⟩ := box5m k0
  have hsp : SpR (w.alloc (Obj.cells #[.slice SA s.sets.length SC, .bool p.none, .slice A1 p.first.length c1, .slice A2 p.last.length c2, .slice NA s.next.length NC] 35)) (.agg #[.slice SA s.sets.length SC, .bool p.none, .slice A1 p.first.length c1, .slice A2 p.last.length c2, .slice NA s.next.length NC]) p s := ⟨SA, SC, _, _, NA, NC, rfl, hS.below hb1, hN.below hb1, hF.below hb1, hL.below hb1⟩
  have HRI := spright_any _ p s _ hsp
  rw [hR] at HRI
  have HRI := Lib.hid HRI
  have HR := Lib.hid hR; have K0 := Lib.hid k0; have HB1 := Lib.hid hb1
  clear hS hN hF hL hR hsp k0 hb1
  go_enter Tryd.func14, Tryd.ntmps14
  go_wp2_with fail
  refine HRI.out.mono ?_
  rintro e w1 ⟨rfl, hB1⟩
  have k1 := heap_aq hB1 K0.out
  obtain ⟨x0, x1, x2, x3, x4⟩ := box5m k1
  have HBw := Lib.hid (HB1.out.trans (hB1.mono HB1.out.size))
  clear k1 hB1
  go_wp2_with fail
  go_ret
  exact ⟨rfl, HBw.out⟩

theorem match_any (v : Value) (p : Part) (s : St) (t : ByteArray) (w : World) (h : SpR w v p s) (ht : t.size ≤ 1048576) :
    Calls Tryd.prog 14 #[v, .string t] w fun e w' => e = .returned (.bool (matchB p s (bytesN t))) ∧ Below w.heap.size w w' := by
  cases hR : rightB p s with
  | false =>
    have e : matchB p s (bytesN t) = false := by unfold matchB; rw [hR]; rfl
    rw [e]
    exact match_wrong v p s t w h hR
  | true =>
    rcases Nat.eq_zero_or_pos t.size with h0 | h0
    · have ht0 : t = ⟨#[]⟩ := by
        obtain ⟨d⟩ := t
        have : d = #[] := Array.eq_empty_of_size_eq_zero h0
        rw [this]
      subst ht0
      have e : matchB p s (bytesN ⟨#[]⟩) = p.none := by unfold matchB; rw [hR]; rfl
      rw [e]
      exact match_none v p s w h hR
    · exact match_some v p s t w h ht h0 hR
end Go.Proofs.YtmcoaopcmjociaaDoor

namespace Go.Proofs.YtmcoaopcmjociaaDoor
open Go Go.RowKit Go.Sort

theorem SpotsIn.reads {w : World} {v : Value} {p : Part} {s : St} (h : SpotsIn w v p s) (h1 : s.sets.length ≤ 17592186044416) (h2 : s.next.length ≤ 17592186044416) : SpR w v p s := by
  obtain ⟨Sv, fv, lv, Nv, vs, rfl, hs, hn, he, hf, hl⟩ := h
  obtain ⟨SA, SC, rfl⟩ := own_shape hs
  obtain ⟨NA, NC, rfl⟩ := own_shape hn
  refine ⟨SA, SC, fv, lv, NA, NC, rfl, ⟨h1, fun i hi => ?_⟩, ⟨h2, fun i hi => ?_⟩, hf.mono fun _ _ _ => trivial, hl.mono fun _ _ _ => trivial⟩
  · obtain ⟨g, hA, c0, c1, c2, c3⟩ := sets_get hs rfl i hi
    exact ⟨g, 0, hA, by rw [Nat.zero_add]; exact c0, by rw [Nat.zero_add]; exact c1, by rw [Nat.zero_add]; exact c2, by rw [Nat.zero_add]; exact c3⟩
  · have hvl : vs.length = s.next.length := by simpa using hn.1
    rcases hn.2 with ⟨_, h0⟩ | ⟨g, cap, cur, hv, _, hh, _⟩
    · omega
    · injection hv with hA _ _
      have hc := hn.cells (g := g) (by rw [hA]; rfl) i vs[i] (List.getElem?_eq_getElem (by omega))
      rw [addr_add] at hc
      exact ⟨g, 0, vs[i], hA, hc, (he i vs[i] s.next[i] (List.getElem?_eq_getElem (by omega)) (List.getElem?_eq_getElem hi)).mono fun _ _ _ => trivial⟩

/-- The example's spots. -/
def exP : Part := ⟨[0], [0, 1, 2], false⟩
def exSt : St := ⟨[byteS 97, byteS 98, byteS 99], [[1, 2], [1, 2], [1, 2]]⟩
theorem ex_match : matchB exP exSt (bytesN ⟨#[97, 98, 99, 98]⟩) = true := by decide +kernel
theorem ex_match0 : matchB exP exSt (bytesN ⟨#[]⟩) = false := by decide +kernel
theorem fault_eq (w : World) : (binOp .eql 46 (.agg #[.int .i64 0, .int .i64 0]) (.agg #[.int .i64 0, .int .i64 0])).run Tryd.prog w = .ok (.bool true) w := by kernel_rfl

theorem ex_form {w : World} {v : Value} (h : SpotsIn w v exP exSt) : ∃ SA SC A1 c1 A2 c2 g o NC g2 o2 c3, v = .agg #[.slice SA 3 SC, .bool false, .slice A1 1 c1, .slice A2 3 c2, .slice (some ⟨g, o, none⟩) 3 NC] ∧ SpR w v exP exSt ∧
    w.cell? ⟨g, o, none⟩ = some (.slice (some ⟨g2, o2, none⟩) 2 c3) ∧ w.cell? ⟨g2, o2, none⟩ = some (.int .i64 1) := by
  have hr := h.reads (by decide) (by decide)
  have hr0 := hr
  obtain ⟨SA, SC, fv, lv, NA, NC, rfl, hS, hN, hF, hL⟩ := hr0
  obtain ⟨A1, c1, rfl, _, _⟩ := hF.form
  obtain ⟨A2, c2, rfl, _, _⟩ := hL.form
  obtain ⟨g, o, v0, rfl, hv, hir⟩ := hN.2 0 (by decide)
  obtain ⟨A3, c3, rfl, _, _⟩ := hir.form
  obtain ⟨g2, o2, rfl, _, hx⟩ := hir.cells (by decide)
  exact ⟨SA, SC, A1, c1, A2, c2, g, o, NC, g2, o2, c3, rfl, hr, hv, hx 0 (by decide)⟩

set_option maxRecDepth 100000 in
set_option maxHeartbeats 1000000 in
theorem works_any (w : World) : Calls Tryd.prog 8 #[] w fun e w' => e = .returned (.bool true) ∧ Below w.heap.size w w' := by
  have HP := Lib.hid (ex_parse w)
  go_enter Tryd.func8, Tryd.ntmps8
  go_wp2_with fail
  refine HP.out.mono ?_
  rintro e w1 ⟨A, c, rfl, hk, hB1⟩
  have hb2 := ((Below.refl w1.heap.size w1).alloc (Nat.le_refl _) (Obj.cells #[.int .i64 exT.kind, .int .u64 exT.s0, .int .u64 exT.s1, .int .u64 exT.s2, .int .u64 exT.s3, .slice A exT.kids.length c, .int .i64 exT.mn, .int .i64 exT.mx] 27)).alloc (by simp) (Obj.cells #[.int .i64 0, .int .i64 0] 46)
  have hof := of_any 6 exT A c _ (hk.below hb2)
  rw [ex_of] at hof
  simp only at hof
  have HOF := Lib.hid hof
  have HB2 := Lib.hid (hB1.trans (hb2.mono hB1.size))
  have HF := Lib.hid (heap_aB w1 (Obj.cells #[.int .i64 exT.kind, .int .u64 exT.s0, .int .u64 exT.s1, .int .u64 exT.s2, .int .u64 exT.s3, .slice A exT.kids.length c, .int .i64 exT.mn, .int .i64 exT.mx] 27) (Obj.cells #[.int .i64 0, .int .i64 0] 46))
  clear hk hb2 hB1 hof
  go_wp2_with fail
  refine HOF.out.mono ?_
  rintro e w3 ⟨v, rfl, hsp, hB3⟩
  obtain ⟨SA, SC, A1, c1, A2, c2, g, o, NC, g2, o2, c3, rfl, hr, hv, hx⟩ := ex_form hsp
  have hf3 := heap_aq hB3 HF.out
  have hl1 : w1.heap.size + 1 < w3.heap.size := (Array.getElem?_eq_some_iff.1 hf3).1
  have q0 := cell_of (j := 0) hf3 rfl
  have q1 := cell_of (j := 1) hf3 rfl
  have hb3 := (Below.refl w3.heap.size w3).alloc (Nat.le_refl _) (Obj.cells #[.slice SA 3 SC, .bool false, .slice A1 1 c1, .slice A2 3 c2, .slice (some ⟨g, o, none⟩) 3 NC] 35)
  have hg1 := World.block_lt_of_cell? w3 _ hv
  have hg2 := World.block_lt_of_cell? w3 _ hx
  have hm1 := match_any _ exP exSt ⟨#[97, 98, 99, 98]⟩ _ (hr.below hb3) (by decide)
  rw [ex_match] at hm1
  have HM1 := Lib.hid hm1
  have HR := Lib.hid (hr.below hb3)
  have HB3 := Lib.hid ((HB2.out.trans (hB3.mono HB2.out.size)).trans (hb3.mono (HB2.out.trans (hB3.mono HB2.out.size)).size))
  have HP3 := Lib.hid (heap_a0 w3 (Obj.cells #[.slice SA 3 SC, .bool false, .slice A1 1 c1, .slice A2 3 c2, .slice (some ⟨g, o, none⟩) 3 NC] 35))
  have hfe := fault_eq
  clear hsp hr hf3 hb3 hm1 hB3
  go_wp2_with fail
  refine HM1.out.mono ?_
  rintro e w5 ⟨rfl, hB5⟩
  have hm2 := match_any _ exP exSt ⟨#[]⟩ _ (HR.out.below hB5) (by decide)
  rw [ex_match0] at hm2
  have HM2 := Lib.hid hm2
  obtain ⟨x0, x1, x2, x3, x4⟩ := box5m (heap_aq hB5 HP3.out)
  have HB5 := Lib.hid (HB3.out.trans (hB5.mono HB3.out.size))
  clear hB5 hm2
  go_wp2_with fail
  refine HM2.out.mono ?_
  rintro e w6 ⟨rfl, hB6⟩
  go_wp2_with fail
  go_ret
  exact ⟨rfl, HB5.out.trans (hB6.mono HB5.out.size)⟩
end Go.Proofs.YtmcoaopcmjociaaDoor
