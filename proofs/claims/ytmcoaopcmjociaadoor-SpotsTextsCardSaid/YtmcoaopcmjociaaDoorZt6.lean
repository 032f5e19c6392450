/- (*writer).often's inner function rest. (*writer).often. (*writer).write of an Alt. (*writer).write of every tree that may be. charset.Of of one byte: the set that has it alone. The reader of patterns: what its methods keep; peek, need. Rows of nodes in memory; trees whose kids lie in new blocks. -/
import Derived.Test.YtmcoaopcmjociaaDoorZt5
import Derived.Deep.RegionWith
import Derived.Test.YtmcoaopcmjociaaDoorWLast
import Derived.Test.YtmcoaopcmjociaaDoorZt7
import Derived.Test.YtmcoaopcmjociaaDoorRows
import Derived.Test.YtmcoaopcmjociaaDoorZt4
import Derived.Deep.QuietTactic
import Derived.BigQuiet
import Derived.RegionTactic
import Derived.ChangeAlike
import Derived.Laws.BitsAllLaws
import Derived.Laws.ResultCell
import Derived.Outline
import Derived.Deep.AppendLies
namespace Go.Proofs.YtmcoaopcmjociaaDoor
open Go Go.RowKit Go.Sort Go.Proofs.YtmcoaopcmjociaaDoorW.PrintLast

/-- A call of a function value. -/
theorem goesC_ {P : Program} {ops : Array Oper} {Q : Exit → Act → World → Prop} {oi : Oper} {N : Option Tmp} {a : Act} {w : World} {K : Act → World → Prop} {f : FuncId} {fn : Func} {aa : Array Operand} {ts : Array TypeId} {o : Operand} {caps : Array Value} (hf : P.funcs[f]? = some fn) (hname : (fn.name == "runtime.NumGoroutine") = false) (hb : fn.body.isSome = true) (args : Array Value)
    (hw : Region.wanted oi (yielded ops a.tmps) = true) (hN : oi.dst = N) (hop : oi.op = .call { callee := .value o, args := aa, argTypes := ts }) (hval : a.eval o = .func (.func f) #[] caps) (hargs : aa.map a.eval ++ caps = args)
    (h : Calls P f args w fun e w' => ∃ v, e = .returned v ∧ K (a.put N v) w') : if Region.wanted oi (yielded ops a.tmps) = true then Oper.wp P oi a w K Q else K (a.put N undef) w := by
  refine call_ f args hw hN ?_ h
  have he := enters_ hf hname hb args w
  unfold execOp
  simp [hop, resolve, Deferred.ofValue, invoke, hval, hargs, he]

theorem heap_aq {w w' : World} {k : Nat} {o : Obj} (hb : Below w.heap.size w w') (h : w.heap[k]? = some o) : w'.heap[k]? = some o := (hb.block k (Array.getElem?_eq_some_iff.1 h).1).trans h

set_option maxRecDepth 100000 in
set_option maxHeartbeats 4000000 in
theorem rest_any (w0 : World) (wb : Nat) (t : Tree) (A : Option Addr) (c : Nat) (ht : t.right = true) (hwr : WriteOK w0 wb t A c) (bw bk br : Nat) : ∀ (n : Nat) (s : St) (w : World), n ≤ 512 → Below w0.heap.size w0 w → WInv w0.heap.size wb w s → s.sets.length + spotsN t * n ≤ 512 →
    w.heap[bw]? = some (.cells #[.pointer (some ⟨wb, 0, none⟩)] 74 (0, 0)) →
    w.heap[bk]? = some (.cells #[.int .i64 t.kind, .int .u64 t.s0, .int .u64 t.s1, .int .u64 t.s2, .int .u64 t.s3, .slice A t.kids.length c, .int .i64 t.mn, .int .i64 t.mx] 27 (0, 0)) →
    w.heap[br]? = some (.cells #[.func (.func 57) #[] #[.pointer (some ⟨bw, 0, none⟩), .pointer (some ⟨bk, 0, none⟩), .pointer (some ⟨br, 0, none⟩)]] 92 (0, 0)) →
    Calls Tryd.prog 57 #[.int .i64 n, .pointer (some ⟨bw, 0, none⟩), .pointer (some ⟨bk, 0, none⟩), .pointer (some ⟨br, 0, none⟩)] w (Wrote w0.heap.size wb w (restF (writeT t) n s).1 (restF (writeT t) n s).2) := by
  intro n
  induction n with
  | zero =>
    intro s w hn h0 hw hf hbw hbk hbr
    have hfit := hw.fits
    have hbn := Lib.hid ((Below.refl w.heap.size w).alloc (Nat.le_refl _) (Obj.cells #[.slice none 0 0, .slice none 0 0, .bool true] 52))
    have hrb := Lib.hid (heap_a0 w (Obj.cells #[.slice none 0 0, .slice none 0 0, .bool true] 52))
    have HW := Lib.hid hw
    clear hw h0 hbw hbk hbr hf
    go_enter Tryd.func57, Tryd.ntmps57
    go_wp2_with fail
    refine bodyPost_ret (ret_part rfl _ _ w.heap.size _ _ _ (0, 0) rfl hrb.out) rfl ?_
    exact Wrote.of ⟨_, rfl, ⟨_, _, rfl, IR.nil _ _, IR.nil _ _⟩, HW.out.below hbn.out, KW.ofBelow hbn.out hfit⟩
  | succ n ih =>
    intro s w hn h0 hw hf hbw hbk hbr
    have hfit := hw.fits
    have hmul : spotsN t * (n + 1) = spotsN t * n + spotsN t := Nat.mul_succ _ _
    have hbn := (Below.refl w.heap.size w).alloc (Nat.le_refl _) (Obj.cells #[.slice none 0 0, .slice none 0 0, .bool false] 52)
    have hrb := heap_a0 w (Obj.cells #[.slice none 0 0, .slice none 0 0, .bool false] 52)
    have hgs : GoodSt s := by obtain ⟨_, _, _, h⟩ := hw; exact h.good
    have hq := writeT_adds t ht s hgs
    have hcall := hwr s (w.alloc (Obj.cells #[.slice none 0 0, .slice none 0 0, .bool false] 52)) (h0.trans (hbn.mono hfit)) (hw.below hbn) (by omega)
    have hrs : restF (writeT t) (n + 1) s = ({ behindP (writeT t s).1 (restF (writeT t) n (writeT t s).2).1 with none := true }, behindS (restF (writeT t) n (writeT t s).2).2 (writeT t s).1 (restF (writeT t) n (writeT t s).2).1) := rfl
    rw [hrs]
    have hra := restF_adds (writeT_adds t ht) n (writeT t s).2 hq.1
    obtain ⟨q, hqq⟩ : ∃ q, q = writeT t s := ⟨_, rfl⟩
    rw [← hqq] at hq hcall hra ⊢
    obtain ⟨q, s2⟩ := q
    simp only at hq hcall hra ⊢
    obtain ⟨r, hrr⟩ : ∃ r, r = restF (writeT t) n s2 := ⟨_, rfl⟩
    have hih := ih s2
    rw [← hrr] at hra hih ⊢
    obtain ⟨r, s3⟩ := r
    simp only at hra hih ⊢
    obtain ⟨B0, _⟩ : w.cell? ⟨bw, 0, none⟩ = some (.pointer (some ⟨wb, 0, none⟩)) ∧ True := ⟨cell_of hbw rfl, trivial⟩
    obtain ⟨K0, K1, K2, K3, K4, K5, K6, K7, hkl⟩ := box8 hbk
    have hbl := (Array.getElem?_eq_some_iff.1 hbw).1
    have Hrb := Lib.hid hrb; have Hq := Lib.hid hq; have Hra := Lib.hid hra; have Hih := Lib.hid hih; have Hcall := Lib.hid hcall; have HBW := Lib.hid hbw; have HBK := Lib.hid hbk; have HBR := Lib.hid hbr; have H0 := Lib.hid h0; have Hbn := Lib.hid hbn
    have en : ((((n + 1 : Nat) : Int)) == 0) = false := by simp; omega
    have hwp : IntKind.i64.wrap (n : Int) = (n : Int) := IntWalk.i64_in _ (by omega)
    have Hwp := Lib.hid hwp
    clear hrb hq hra hih hcall hbw hbk hbr h0 hbn hqq hrr hw hrs hwr ih hwp hgs
    go_enter Tryd.func57, Tryd.ntmps57
    go_wp2_with fail
    refine Hcall.out.mono ?_
    rintro e w1 ⟨A3, c3, A4, c4, rfl, hq1, hW1, hK1⟩
    have hK2 : KW w0.heap.size w w1 := (KW.ofBelow Hbn.out hfit).trans hK1
    have hqb := heap_a0 w1 (Obj.cells #[.slice A3 q.first.length c3, .slice A4 q.last.length c4, .bool q.none] 52)
    have hbq := (Below.refl w1.heap.size w1).alloc (Nat.le_refl _) (Obj.cells #[.slice A3 q.first.length c3, .slice A4 q.last.length c4, .bool q.none] 52)
    have hrb1 := hK1.box Hrb.out (by decide) (by decide) (by decide)
    have Hqb := Lib.hid hqb; have Hbq := Lib.hid hbq; have Hq1 := Lib.hid hq1; have HW1 := Lib.hid hW1; have HK2 := Lib.hid hK2; have Hrb1 := Lib.hid hrb1
    clear hqb hbq hq1 hW1 hK2 hrb1
    go_wp2_with fail
    obtain ⟨wq, hwq⟩ : ∃ wq, wq = w1.alloc (Obj.cells #[.slice A3 q.first.length c3, .slice A4 q.last.length c4, .bool q.none] 52) := ⟨_, rfl⟩
    have hqb := Hqb.out
    have hbq := Hbq.out
    rw [← hwq] at hqb hbq ⊢
    clear hwq Hqb Hbq
    have Hqb := Lib.hid hqb; have Hbq := Lib.hid hbq
    clear hqb hbq
    have hf1 : w0.heap.size ≤ w1.heap.size := Nat.le_trans hfit HK2.out.size
    have hf2 : w.heap.size + 1 ≤ w1.heap.size := (Array.getElem?_eq_some_iff.1 Hrb1.out).1
    refine start_ (n := 8) (S := fun w' => w'.heap[w1.heap.size]? = some (.cells #[.slice A3 q.first.length c3, .slice A4 q.last.length c4, .bool q.none] 52 (0, 0)) ∧ KW w0.heap.size w w' ∧ KW w0.heap.size wq w') (ds := [7]) #[false, false, false, false, false, false, false, false] (by kernel_rfl) rfl rfl ⟨Hqb.out, (HK2.out.trans (KW.ofBelow Hbq.out hf1)).drewN 1, (KW.refl _ _).drewN 1⟩ (fun hHeld => ?_)
    refine take_ (i := 0) (N := some 13) (v := ?_) (a' := ?_) #[true, false, false, false, false, false, false, false] rfl rfl (by kernel_rfl) (fun _ _ _ h => h) (Or.inl ⟨by rfl, ?_⟩) hHeld ?_ ?_
    rotate_left
    · rintro w' ⟨sq, skw, _⟩; obtain ⟨u0, u1, u2, _, _, _, _⟩ := part3 sq; have u3 : w'.cell? ⟨bw, 0, none⟩ = some (.pointer (some ⟨wb, 0, none⟩)) := cell_of (skw.box HBW.out (by decide) (by decide) (by decide)) rfl; have u4 := cell_of (j := 0) (skw.box HBR.out (by decide) (by decide) (by decide)) rfl
      go_simp
      with_reducible rfl
    rotate_left
    · simp only [Act.put, sA, sB, sC]
      rfl
    refine take_ (i := 1) (N := some 14) (v := ?_) (a' := ?_) #[true, true, false, false, false, false, false, false] rfl rfl (by kernel_rfl) (fun _ _ _ h => h) (Or.inl ⟨by rfl, ?_⟩) hHeld ?_ ?_
    rotate_left
    · rintro w' ⟨sq, skw, _⟩; obtain ⟨u0, u1, u2, _, _, _, _⟩ := part3 sq; have u3 : w'.cell? ⟨bw, 0, none⟩ = some (.pointer (some ⟨wb, 0, none⟩)) := cell_of (skw.box HBW.out (by decide) (by decide) (by decide)) rfl; have u4 := cell_of (j := 0) (skw.box HBR.out (by decide) (by decide) (by decide)) rfl
      go_simp
      with_reducible rfl
    rotate_left
    · simp only [Act.put, sA, sB, sC]
      rfl
    refine take_ (i := 2) (N := some 15) (v := ?_) (a' := ?_) #[true, true, true, false, false, false, false, false] rfl rfl (by kernel_rfl) (fun _ _ _ h => h) (Or.inl ⟨by rfl, ?_⟩) hHeld ?_ ?_
    rotate_left
    · rintro w' ⟨sq, skw, _⟩; obtain ⟨u0, u1, u2, _, _, _, _⟩ := part3 sq; have u3 : w'.cell? ⟨bw, 0, none⟩ = some (.pointer (some ⟨wb, 0, none⟩)) := cell_of (skw.box HBW.out (by decide) (by decide) (by decide)) rfl; have u4 := cell_of (j := 0) (skw.box HBR.out (by decide) (by decide) (by decide)) rfl
      go_simp
      with_reducible rfl
    rotate_left
    · simp only [Act.put, sA, sB, sC]
      rfl
    refine pure_ (i := 3) (N := some 16) (v := ?_) (a' := ?_) #[true, true, true, true, false, false, false, false] rfl rfl (by kernel_rfl) (fun _ _ _ h => h) (Or.inl ⟨by rfl, ?_⟩) ?_ ?_
    rotate_left
    · intro w'
      go_simp
      with_reducible rfl
    rotate_left
    · simp only [Act.put, sA, sB, sC]
      rfl
    refine pure_ (i := 4) (N := some 17) (v := (.int .i64 n)) (a' := ?_) #[true, true, true, true, true, false, false, false] rfl rfl (by kernel_rfl) (fun _ _ _ h => h) (Or.inl ⟨by rfl, ?_⟩) ?_ ?_
    · intro w'
      go_simp
      exact Hwp.out
    rotate_left
    · simp only [Act.put, sA, sB, sC]
      rfl
    refine one_ (i := 5) (N := some 18) #[true, true, true, true, true, true, false, false] rfl rfl (by kernel_rfl) (by decide) (fun K hK => ?_)
    refine goesC_ Tryd.func57 (by kernel_rfl) rfl #[.int .i64 n, .pointer (some ⟨bw, 0, none⟩), .pointer (some ⟨bk, 0, none⟩), .pointer (some ⟨br, 0, none⟩)] (by rfl) rfl rfl (by rfl) (by (try simp only [List.map_toArray, List.map_cons, List.map_nil]); rfl) ?_
    refine (Hih.out wq.drew (by omega) (H0.out.trans hHeld.2.1.below) ((HW1.out.below Hbq.out).below ((Below.refl wq.heap.size wq).drew)) (by have := Hq.out.2.2; omega) (hHeld.2.1.box HBW.out (by decide) (by decide) (by decide)) (hHeld.2.1.box HBK.out (by decide) (by decide) (by decide)) (hHeld.2.1.box HBR.out (by decide) (by decide) (by decide))).mono ?_
    rintro e w2 ⟨A5, c5, A6, c6, rfl, hr2, hW2, hK3⟩
    refine ⟨_, rfl, ?_⟩
    refine hK.out _ _ ⟨hK3.box hHeld.1 (by decide) (by decide) (by decide), hHeld.2.1.trans hK3, hHeld.2.2.trans hK3⟩ (fun hHeld => ?_)
    clear hK K
    refine norm_ (a' := ?_) ?_ ?_
    rotate_left
    · show Act.put _ (some 18) _ = _
      simp only [Act.put, sA, sB, sC]
      rfl
    refine one_ (i := 6) (N := some 19) #[true, true, true, true, true, true, true, false] rfl rfl (by kernel_rfl) (by decide) (fun K hK => ?_)
    refine goes_ Tryd.func40 (by kernel_rfl) rfl #[.pointer (some ⟨wb, 0, none⟩), pval q A3 c3 A4 c4, pval r A5 c5 A6 c6] (by rfl) rfl rfl (by (try simp only [List.map_toArray, List.map_cons, List.map_nil]); rfl) ?_
    refine (behind_w _ wb s3 q r A3 c3 A4 c4 A5 c5 A6 c6 _ hW2 ((Hq1.out.keep (Keep3.below Hbq.out)).keep hHeld.2.2.keep3) hr2 (Hq.out.2.1.mono (by have := Hra.out.2.2; omega)) Hra.out.2.1).mono ?_
    rintro e w3 ⟨A7, c7, A8, c8, rfl, hp3, hW3, hK4⟩
    refine ⟨_, rfl, ?_⟩
    refine hK.out _ _ ⟨hK4.box hHeld.1 (by decide) (by decide) (by decide), hHeld.2.1.trans hK4, hHeld.2.2.trans hK4⟩ (fun hHeld => ?_)
    clear hK K
    refine norm_ (a' := ?_) ?_ ?_
    rotate_left
    · show Act.put _ (some 19) _ = _
      simp only [Act.put, sA, sB, sC]
      rfl
    refine last_ (i := 7) (N := none) #[true, true, true, true, true, true, true, true] rfl rfl (by kernel_rfl) (by decide) (fun K hK => ?_)
    refine skip_ (w1 := ?_) (by rfl) rfl ?_ ?_
    rotate_left
    · obtain ⟨u0, u1, u2, x0, x1, x2, _⟩ := part3 hHeld.1
      go_simp
      rfl
    refine hK.out _ _ ?_
    clear hK K
    refine done_ (by kernel_rfl) ?_
    have hks := (KS.refl w3).store3 ⟨_, _, hHeld.1⟩ (by decide) (by decide) (by decide) (by decide) (.slice A7 (behindP q r).first.length c7) (.slice A8 (behindP q r).last.length c8) (.bool (behindP q r).none)
    have hst := store3 hHeld.1 (.slice A7 (behindP q r).first.length c7) (.slice A8 (behindP q r).last.length c8) (.bool (behindP q r).none)
    have hKb := ((hHeld.2.1.newCell (r := w1.heap.size) (by omega) hfit 0 (.slice A7 (behindP q r).first.length c7)).newCell (r := w1.heap.size) (by omega) hfit 1 (.slice A8 (behindP q r).last.length c8)).newCell (r := w1.heap.size) (by omega) hfit 2 (.bool (behindP q r).none)
    have hrS := (Below.heap_setCell _ ⟨w1.heap.size, 2, none⟩ (.bool (behindP q r).none) w.heap.size (by show w.heap.size ≠ w1.heap.size; omega)).trans ((Below.heap_setCell _ ⟨w1.heap.size, 1, none⟩ (.slice A8 (behindP q r).last.length c8) w.heap.size (by show w.heap.size ≠ w1.heap.size; omega)).trans ((Below.heap_setCell w3 ⟨w1.heap.size, 0, none⟩ (.slice A7 (behindP q r).first.length c7) w.heap.size (by show w.heap.size ≠ w1.heap.size; omega)).trans (hHeld.2.2.box (heap_aq Hbq.out Hrb1.out) (by decide) (by decide) (by decide))))
    have hp5 := hp3.keep hks.keep3
    have hW5 := hW3.side hks
    obtain ⟨w5, hw5⟩ : ∃ w5, w5 = (((w3.setCell ⟨w1.heap.size, 0, none⟩ (.slice A7 (behindP q r).first.length c7)).setCell ⟨w1.heap.size, 1, none⟩ (.slice A8 (behindP q r).last.length c8)).setCell ⟨w1.heap.size, 2, none⟩ (.bool (behindP q r).none)) := ⟨_, rfl⟩
    rw [← hw5] at hks hst hKb hrS hp5 hW5 ⊢
    clear hw5 hks hp3 hW3 hHeld hK3 hK4 hW2 hr2
    obtain ⟨y0, y1, y2, z0, z1, z2, z3⟩ := part3 hst
    obtain ⟨R0, R1, R2, Z0, Z1, Z2, _⟩ := part3 hrS
    have Hst := Lib.hid hst; have HrS := Lib.hid hrS; have HKb := Lib.hid hKb; have Hp5 := Lib.hid hp5; have HW5 := Lib.hid hW5
    clear hst hrS hKb hp5 hW5
    go_wp2_with fail
    have hks := (KS.refl w5).setCell (r := w1.heap.size) ⟨_, _, Hst.out⟩ (by decide) (by decide) (by decide) (by decide) 2 (.bool true)
    obtain ⟨e1, e2, e3, e4⟩ := part_end (B := w0.heap.size) (wb := wb) (p := { behindP q r with none := true }) (bn := true) (HKb.out.newCell (r := w1.heap.size) (by omega) hfit 2 (.bool true)) (HW5.out.side hks) rfl (Hp5.out.1.keep hks.keep3) (Hp5.out.2.keep hks.keep3) ((Below.heap_setCell w5 ⟨w1.heap.size, 2, none⟩ (.bool true) w.heap.size (by show w.heap.size ≠ w1.heap.size; omega)).trans HrS.out) (Nat.le_refl _) hfit
    refine bodyPost_ret (ret_part rfl _ _ w.heap.size _ _ _ (0, 0) rfl e1) rfl ?_
    exact Wrote.of ⟨_, rfl, e2, e3, e4⟩
end Go.Proofs.YtmcoaopcmjociaaDoor

namespace Go.Proofs.YtmcoaopcmjociaaDoor
open Go Go.RowKit Go.Sort Go.Proofs.YtmcoaopcmjociaaDoorW.PrintLast

theorem manyF_snoc (f : St → Part × St) : ∀ (n : Nat) (p : Part) (s : St), manyF f (n + 1) p s = (behindP (manyF f n p s).1 (f (manyF f n p s).2).1, behindS (f (manyF f n p s).2).2 (manyF f n p s).1 (f (manyF f n p s).2).1)
  | 0, p, s => rfl
  | n + 1, p, s => by
    show manyF f (n + 1) _ _ = _
    rw [manyF_snoc f n]
    rfl
theorem cell?_spot {w : World} {b o k : Nat} {v : Value} (h : w.cell? (⟨b, o, some k⟩ : Addr) = some v) : False := by
  unfold World.cell? at h
  split at h
  · simp at h
  · cases h
theorem run_store_func' {P : Program} {w : World} {a : Addr} {m : Mode} (f : Fn) (x y : Array Value) : (store a (.func f x y) m).run P w = stored P w a (.func f x y) m := run_store P w a _ m rfl
attribute [local go_sem] run_store_func'
theorem often_room {a n m : Nat} {mx : Int} (hmx : mx = -1 ∨ (1 ≤ mx ∧ (m : Int) ≤ mx ∧ mx ≤ 16)) (hf : a + (if mx = -1 then n * ((m : Int).toNat + 1) else n * mx.toNat) ≤ 512) :
    (∀ j, j < m → a + n * j + n ≤ 512) ∧ (mx = -1 → a + n * m + n ≤ 512) ∧ (mx ≠ -1 → a + n * m + n * (mx - m).toNat ≤ 512) := by
  rw [Int.toNat_natCast] at hf
  refine ⟨fun j hj => ?_, fun h => ?_, fun h => ?_⟩
  · have h1 : n * (j + 1) ≤ n * m := Nat.mul_le_mul_left _ hj
    rw [Nat.mul_succ] at h1
    split at hf
    · rw [Nat.mul_succ] at hf; omega
    · have h2 : n * m ≤ n * mx.toNat := Nat.mul_le_mul_left _ (by omega)
      omega
  · rw [if_pos h, Nat.mul_succ] at hf; omega
  · rw [if_neg h] at hf
    rw [Nat.add_assoc, ← Nat.mul_add, show m + (mx - m).toNat = mx.toNat by omega]
    exact hf
theorem below_a4 (w : World) (o1 o2 o3 o4 : Obj) : Below w.heap.size w ((((w.alloc o1).alloc o2).alloc o3).alloc o4) := (below_a3 w o1 o2 o3).alloc (by simp; omega) _
theorem box_a4 (w : World) (o1 o2 o3 o4 : Obj) : ((((w.alloc o1).alloc o2).alloc o3).alloc o4).heap[w.heap.size]? = some o1 ∧ ((((w.alloc o1).alloc o2).alloc o3).alloc o4).heap[w.heap.size + 1]? = some o2 ∧
    ((((w.alloc o1).alloc o2).alloc o3).alloc o4).heap[w.heap.size + 1 + 1]? = some o3 ∧ ((((w.alloc o1).alloc o2).alloc o3).alloc o4).heap[w.heap.size + 1 + 1 + 1]? = some o4 := by
  refine ⟨heap_a1 (heap_a1 (heap_a1 (heap_a0 _ _))), heap_a1 (heap_a1' _ _ _ _), heap_a1 (heap_a2 _ _ _ _), ?_⟩
  have := heap_a0 (((w.alloc o1).alloc o2).alloc o3) o4
  simpa using this

set_option maxRecDepth 100000 in
set_option maxHeartbeats 4000000 in
theorem often_any (w0 : World) (wb d : Nat) (s0 s1 s2 s3 : Int) (t : Tree) (mn mx : Int) (A : Option Addr) (c : Nat) (hr : t.right = true) (hm0 : 0 ≤ mn) (hm1 : mn ≤ 16) (hmx : mx = -1 ∨ (1 ≤ mx ∧ mn ≤ mx ∧ mx ≤ 16)) (hkids : KidsIn w0 (d + 1) [t] A)
    (ih : ∀ (t : Tree) (A : Option Addr) (c : Nat), t.right = true → KidsIn w0 d t.kids A → WriteOK w0 wb t A c) (s : St) (w : World) (h0 : Below w0.heap.size w0 w) (hw : WInv w0.heap.size wb w s)
    (hf : s.sets.length + (if mx = -1 then spotsN t * (mn.toNat + 1) else spotsN t * mx.toNat) ≤ 512) :
    Calls Tryd.prog 39 #[.pointer (some ⟨wb, 0, none⟩), .agg #[.int .i64 4, .int .u64 s0, .int .u64 s1, .int .u64 s2, .int .u64 s3, .slice A 1 c, .int .i64 mn, .int .i64 mx]] w
      (Wrote w0.heap.size wb w (oftenF t.cnt (writeT t) mn mx s).1 (oftenF t.cnt (writeT t) mn mx s).2) := by
  have hfit := hw.fits
  have hgs : GoodSt s := by obtain ⟨_, _, _, h⟩ := hw; exact h.good
  obtain ⟨ad, A', c', rfl, hc, hk⟩ := hkids.2 0 t rfl
  obtain ⟨ab, ao, asp⟩ := ad
  obtain rfl : asp = none := by
    have h := hc.1
    simp only [Addr.add, Nat.zero_mul, if_true] at h
    cases asp with
    | none => rfl
    | some x => exact (cell?_spot h).elim
  have HWK := Lib.hid (ih t A' c' hr hk)
  have hb4 := below_a4 w (Obj.cells #[.pointer (some ⟨wb, 0, none⟩)] 74) (Obj.cells #[.int .i64 4, .int .u64 s0, .int .u64 s1, .int .u64 s2, .int .u64 s3, .slice (some ⟨ab, ao, none⟩) 1 c, .int .i64 mn, .int .i64 mx] 27) (Obj.cells #[.slice none 0 0, .slice none 0 0, .bool false] 52) (Obj.cells #[.int .i64 t.kind, .int .u64 t.s0, .int .u64 t.s1, .int .u64 t.s2, .int .u64 t.s3, .slice A' t.kids.length c', .int .i64 t.mn, .int .i64 t.mx] 27)
  have hx4 := box_a4 w (Obj.cells #[.pointer (some ⟨wb, 0, none⟩)] 74) (Obj.cells #[.int .i64 4, .int .u64 s0, .int .u64 s1, .int .u64 s2, .int .u64 s3, .slice (some ⟨ab, ao, none⟩) 1 c, .int .i64 mn, .int .i64 mx] 27) (Obj.cells #[.slice none 0 0, .slice none 0 0, .bool false] 52) (Obj.cells #[.int .i64 t.kind, .int .u64 t.s0, .int .u64 t.s1, .int .u64 t.s2, .int .u64 t.s3, .slice A' t.kids.length c', .int .i64 t.mn, .int .i64 t.mx] 27)
  have hcount := count_any d t A' c' ((((w.alloc (Obj.cells #[.pointer (some ⟨wb, 0, none⟩)] 74)).alloc (Obj.cells #[.int .i64 4, .int .u64 s0, .int .u64 s1, .int .u64 s2, .int .u64 s3, .slice (some ⟨ab, ao, none⟩) 1 c, .int .i64 mn, .int .i64 mx] 27)).alloc (Obj.cells #[.slice none 0 0, .slice none 0 0, .bool false] 52)).alloc (Obj.cells #[.int .i64 t.kind, .int .u64 t.s0, .int .u64 t.s1, .int .u64 t.s2, .int .u64 t.s3, .slice A' t.kids.length c', .int .i64 t.mn, .int .i64 t.mx] 27)) hr ((hk.below h0).below hb4)
  have hb3 := below_a3 w (Obj.cells #[.pointer (some ⟨wb, 0, none⟩)] 74) (Obj.cells #[.int .i64 4, .int .u64 s0, .int .u64 s1, .int .u64 s2, .int .u64 s3, .slice (some ⟨ab, ao, none⟩) 1 c, .int .i64 mn, .int .i64 mx] 27) (Obj.cells #[.slice none 0 0, .slice none 0 0, .bool false] 52)
  obtain ⟨c0, c1, c2, c3, c4, c5, c6, c7⟩ := (hc.below h0).below hb3
  simp only [Addr.add, Nat.zero_mul, if_true] at c0 c1 c2 c3 c4 c5 c6 c7
  clear hb3
  have HW := Lib.hid hw; have H0 := Lib.hid h0; have Hb4 := Lib.hid hb4; have Hx4 := Lib.hid hx4; have Hcount := Lib.hid hcount; have HGS := Lib.hid hgs; have HR := Lib.hid hr; have Hmx := Lib.hid hmx; have Hf := Lib.hid hf
  clear hw h0 hb4 hx4 hcount hgs hr hmx hf hkids ih hc hk
  go_enter Tryd.func39, Tryd.ntmps39
  go_wp2_with fail
  refine Hcount.out.mono ?_
  rintro e w1 ⟨rfl, hB1⟩
  have hKw1 : KW w0.heap.size w w1 := KW.ofBelow (Hb4.out.trans (hB1.mono (by simp; omega))) hfit
  obtain ⟨x0, x1, x2, x3⟩ := Hx4.out
  have X0 := heap_aq hB1 x0
  have X1 := heap_aq hB1 x1
  have X2 := heap_aq hB1 x2
  have X3 := heap_aq hB1 x3
  have HW1 := Lib.hid ((HW.out.below Hb4.out).below hB1)
  have Hb1 := Lib.hid hB1
  have HK1 := Lib.hid hKw1
  obtain ⟨R0, R1, R2, Z0, Z1, Z2, hres⟩ := part3 X2
  cases hc0 : (t.cnt == 0) with
  | true =>
    have hc1 : t.cnt = 0 := by simpa using hc0
    have hof : oftenF t.cnt (writeT t) mn mx s = (emptyP, s) := by simp [oftenF, hc1]
    have Hof := Lib.hid hof
    obtain ⟨e1, e2, e3, e4⟩ := part_end (p := emptyP) (bn := true) hKw1 HW1.out rfl (v0 := .slice none 0 0) (v1 := .slice none 0 0) (IR.nil _ _) (IR.nil _ _) X2 (by omega) hfit
    have E1 := Lib.hid e1; have E2 := Lib.hid e2; have E3 := Lib.hid e3; have E4 := Lib.hid e4
    clear e1 e2 e3 e4 X0 X1 X2 X3 x0 x1 x2 x3 hB1 hKw1 HW Hx4 Hb4 Hcount c0 c1 c2 c3 c4 c5 c6 c7 hof
    go_wp2_with fail
    refine bodyPost_ret (ret_part rfl _ _ (w.heap.size + 1 + 1) _ _ _ (0, 0) rfl E1.out) rfl ?_
    rw [Hof.out]
    exact Wrote.of ⟨_, rfl, E2.out, E3.out, E4.out⟩
  | false =>
    have hc1 : t.cnt ≠ 0 := by simpa using hc0
    obtain ⟨n0, n1, n2, n3, n4, n5, n6, n7, hnl⟩ := box8 X1
    have hpB := Lib.hid ((Below.refl w1.heap.size w1).alloc (Nat.le_refl _) (Obj.cells #[.slice none 0 0, .slice none 0 0, .bool true] 52))
    have hpb := Lib.hid (heap_a0 w1 (Obj.cells #[.slice none 0 0, .slice none 0 0, .bool true] 52))
    have HX0 := Lib.hid X0; have HX1 := Lib.hid X1; have HX2 := Lib.hid X2; have HX3 := Lib.hid X3
    clear X0 X1 X2 X3 x0 x1 x2 x3 hB1 hKw1 HW Hx4 Hb4 Hcount c0 c1 c2 c3 c4 c5 c6 c7 hc1
    obtain ⟨m, hm⟩ : ∃ m : Nat, mn = (m : Int) := ⟨mn.toNat, by omega⟩
    have hf1 : w0.heap.size ≤ w1.heap.size := Nat.le_trans hfit HK1.out.size
    subst hm
    go_wp2_with fail
    go_loopg [20] m (fun g i wr => ∃ j : Nat, j + g = m ∧ i = .int .i64 j ∧ Hid (∃ A1 c1 A2 c2, wr.heap[w1.heap.size]? = some (.cells #[.slice A1 (manyF (writeT t) j emptyP s).1.first.length c1, .slice A2 (manyF (writeT t) j emptyP s).1.last.length c2, .bool (manyF (writeT t) j emptyP s).1.none] 52 (0, 0)) ∧ PartSl wr (manyF (writeT t) j emptyP s).1 A1 c1 A2 c2) ∧
      Hid (WInv w0.heap.size wb wr (manyF (writeT t) j emptyP s).2) ∧ Hid (KW w0.heap.size w1 wr))
    case atStart => exact ⟨0, by omega, rfl, Lib.hid ⟨_, _, _, _, hpb.out, IR.nil _ _, IR.nil _ _⟩, Lib.hid (HW1.out.below hpB.out), Lib.hid (KW.ofBelow hpB.out hf1)⟩
    case round =>
      obtain ⟨j, hj, rfl, HP, HWr, HK⟩ := hrel
      by_cases hlt : j < m
      · have hsn := manyF_snoc (writeT t) j emptyP s
        have hadds := manyF_adds (writeT_adds t HR.out) j emptyP s HGS.out (GoodPart.empty _ _)
        obtain ⟨A1, c1, A2, c2, hpb1, hps⟩ := HP.out
        have hWr := HWr.out
        obtain ⟨r, hrr⟩ : ∃ r, r = manyF (writeT t) j emptyP s := ⟨_, rfl⟩
        rw [← hrr] at hadds hsn hpb1 hps hWr
        have hq := writeT_adds t HR.out r.2 hadds.1
        have hqq : ∃ q, writeT t r.2 = q := ⟨_, rfl⟩
        obtain ⟨q, hqq⟩ := hqq
        rw [hqq] at hsn hq
        obtain ⟨p, s1⟩ := r
        obtain ⟨q, s2⟩ := q
        simp only at hadds hsn hpb1 hps hWr hq hqq
        have hroom := (often_room Hmx.out Hf.out).1 j hlt
        have hlr := hadds.2.2
        rw [← hlr] at hroom
        have Hadds := Lib.hid hadds; have Hq := Lib.hid hq; have Hsn := Lib.hid hsn; have Hps := Lib.hid hps; have HWr1 := Lib.hid hWr; have Hqq := Lib.hid hqq; have Hpb1 := Lib.hid hpb1; have Hj := Lib.hid hj; have Hlt := Lib.hid hlt; have Hroom := Lib.hid hroom
        have HB0 := Lib.hid ((H0.out.trans HK1.out.below))
        clear hadds hq hsn hps hWr hqq hrr hpb1 hlr HWr HP hj
        go_wp2_with fail
        refine start_ (n := 7) (S := fun w' => w'.heap[w1.heap.size]? = some (.cells #[.slice A1 p.first.length c1, .slice A2 p.last.length c2, .bool p.none] 52 (0, 0)) ∧ KW w0.heap.size wr w') (ds := [6]) #[false, false, false, false, false, false, false] (by kernel_rfl) rfl rfl ⟨Hpb1.out, (KW.refl _ _).drewN 1⟩ (fun hHeld => ?_)
        refine take_ (i := 0) (N := some 22) (v := ?_) (a' := ?_) #[true, false, false, false, false, false, false] rfl rfl (by kernel_rfl) (fun _ _ _ h => h) (Or.inl ⟨by rfl, ?_⟩) hHeld ?_ ?_
        rotate_left
        · rintro w' ⟨sp, skw⟩; obtain ⟨u0, u1, u2, _, _, _, _⟩ := part3 sp; have u3 : w'.cell? ⟨w.heap.size, 0, none⟩ = some (.pointer (some ⟨wb, 0, none⟩)) := cell_of ((HK.out.trans skw).box HX0.out (by decide) (by decide) (by decide)) rfl; obtain ⟨m0, m1, m2, m3, m4, m5, m6, m7, _⟩ := box8 ((HK.out.trans skw).box HX3.out (by decide) (by decide) (by decide))
          go_simp
          with_reducible rfl
        rotate_left
        · simp only [Act.put, sA, sB, sC]
          rfl
        refine take_ (i := 1) (N := some 23) (v := ?_) (a' := ?_) #[true, true, false, false, false, false, false] rfl rfl (by kernel_rfl) (fun _ _ _ h => h) (Or.inl ⟨by rfl, ?_⟩) hHeld ?_ ?_
        rotate_left
        · rintro w' ⟨sp, skw⟩; obtain ⟨u0, u1, u2, _, _, _, _⟩ := part3 sp; have u3 : w'.cell? ⟨w.heap.size, 0, none⟩ = some (.pointer (some ⟨wb, 0, none⟩)) := cell_of ((HK.out.trans skw).box HX0.out (by decide) (by decide) (by decide)) rfl; obtain ⟨m0, m1, m2, m3, m4, m5, m6, m7, _⟩ := box8 ((HK.out.trans skw).box HX3.out (by decide) (by decide) (by decide))
          go_simp
          with_reducible rfl
        rotate_left
        · simp only [Act.put, sA, sB, sC]
          rfl
        refine take_ (i := 2) (N := some 24) (v := ?_) (a' := ?_) #[true, true, true, false, false, false, false] rfl rfl (by kernel_rfl) (fun _ _ _ h => h) (Or.inl ⟨by rfl, ?_⟩) hHeld ?_ ?_
        rotate_left
        · rintro w' ⟨sp, skw⟩; obtain ⟨u0, u1, u2, _, _, _, _⟩ := part3 sp; have u3 : w'.cell? ⟨w.heap.size, 0, none⟩ = some (.pointer (some ⟨wb, 0, none⟩)) := cell_of ((HK.out.trans skw).box HX0.out (by decide) (by decide) (by decide)) rfl; obtain ⟨m0, m1, m2, m3, m4, m5, m6, m7, _⟩ := box8 ((HK.out.trans skw).box HX3.out (by decide) (by decide) (by decide))
          go_simp
          with_reducible rfl
        rotate_left
        · simp only [Act.put, sA, sB, sC]
          rfl
        refine take_ (i := 3) (N := some 25) (v := ?_) (a' := ?_) #[true, true, true, true, false, false, false] rfl rfl (by kernel_rfl) (fun _ _ _ h => h) (Or.inl ⟨by rfl, ?_⟩) hHeld ?_ ?_
        rotate_left
        · rintro w' ⟨sp, skw⟩; obtain ⟨u0, u1, u2, _, _, _, _⟩ := part3 sp; have u3 : w'.cell? ⟨w.heap.size, 0, none⟩ = some (.pointer (some ⟨wb, 0, none⟩)) := cell_of ((HK.out.trans skw).box HX0.out (by decide) (by decide) (by decide)) rfl; obtain ⟨m0, m1, m2, m3, m4, m5, m6, m7, _⟩ := box8 ((HK.out.trans skw).box HX3.out (by decide) (by decide) (by decide))
          go_simp
          with_reducible rfl
        rotate_left
        · simp only [Act.put, sA, sB, sC]
          rfl
        refine one_ (i := 4) (N := some 26) #[true, true, true, true, true, false, false] rfl rfl (by kernel_rfl) (by decide) (fun K hK => ?_)
        refine goes_ Tryd.func21 (by kernel_rfl) rfl #[.pointer (some ⟨wb, 0, none⟩), (.agg #[.int .i64 t.kind, .int .u64 t.s0, .int .u64 t.s1, .int .u64 t.s2, .int .u64 t.s3, .slice A' t.kids.length c', .int .i64 t.mn, .int .i64 t.mx])] (by rfl) rfl rfl (by (try simp only [List.map_toArray, List.map_cons, List.map_nil]); rfl) ?_
        refine (HWK.out s1 wr.drew ((HB0.out.trans HK.out.below).trans hHeld.2.below) (HWr1.out.below ((Below.refl wr.heap.size wr).drew)) hroom).mono ?_
        rw [Hqq.out]
        rintro e w2 ⟨A3, c3, A4, c4, rfl, hq2, hW2, hK2⟩
        refine ⟨_, rfl, ?_⟩
        refine hK.out _ _ ⟨hK2.box hHeld.1 (by decide) (by decide) (by decide), hHeld.2.trans hK2⟩ (fun hHeld => ?_)
        clear hK K
        refine norm_ (a' := ?_) ?_ ?_
        rotate_left
        · show Act.put _ (some 26) _ = _
          simp only [Act.put, sA, sB, sC]
          rfl
        refine one_ (i := 5) (N := some 27) #[true, true, true, true, true, true, false] rfl rfl (by kernel_rfl) (by decide) (fun K hK => ?_)
        refine goes_ Tryd.func40 (by kernel_rfl) rfl #[.pointer (some ⟨wb, 0, none⟩), pval p A1 c1 A2 c2, pval q A3 c3 A4 c4] (by rfl) rfl rfl (by (try simp only [List.map_toArray, List.map_cons, List.map_nil]); rfl) ?_
        refine (behind_w _ wb s2 p q A1 c1 A2 c2 A3 c3 A4 c4 _ hW2 (Hps.out.keep hHeld.2.keep3) hq2 (Hadds.out.2.1.mono (by have := Hq.out.2.2; omega)) Hq.out.2.1).mono ?_
        rintro e w3 ⟨A5, c5, A6, c6, rfl, hp3, hW3, hK3⟩
        refine ⟨_, rfl, ?_⟩
        refine hK.out _ _ ⟨hK3.box hHeld.1 (by decide) (by decide) (by decide), hHeld.2.trans hK3⟩ (fun hHeld => ?_)
        clear hK K
        refine norm_ (a' := ?_) ?_ ?_
        rotate_left
        · show Act.put _ (some 27) _ = _
          simp only [Act.put, sA, sB, sC]
          rfl
        refine last_ (i := 6) (N := none) #[true, true, true, true, true, true, true] rfl rfl (by kernel_rfl) (by decide) (fun K hK => ?_)
        refine skip_ (w1 := ?_) (by rfl) rfl ?_ ?_
        rotate_left
        · obtain ⟨u0, u1, u2, x0, x1, x2, _⟩ := part3 hHeld.1
          go_simp
          rfl
        refine hK.out _ _ ?_
        clear hK K
        refine done_ (by kernel_rfl) ?_
        have hks := (KS.refl w3).store3 ⟨_, _, hHeld.1⟩ (by decide) (by decide) (by decide) (by decide) (.slice A5 (behindP p q).first.length c5) (.slice A6 (behindP p q).last.length c6) (.bool (behindP p q).none)
        have hst := store3 hHeld.1 (.slice A5 (behindP p q).first.length c5) (.slice A6 (behindP p q).last.length c6) (.bool (behindP p q).none)
        have hKb := (((HK.out.trans hHeld.2).newCell (r := w1.heap.size) (Nat.le_refl _) hf1 0 (.slice A5 (behindP p q).first.length c5)).newCell (r := w1.heap.size) (Nat.le_refl _) hf1 1 (.slice A6 (behindP p q).last.length c6)).newCell (r := w1.heap.size) (Nat.le_refl _) hf1 2 (.bool (behindP p q).none)
        have E1 := Lib.hid hst; have E2 := Lib.hid (hp3.keep hks.keep3); have E3 := Lib.hid (hW3.side hks); have E4 := Lib.hid hKb
        clear hks hst hKb hp3 hW3 hHeld hW2 hq2 hK2 hK3 hroom
        go_wp2_with fail
        have hj := Hj.out
        go_roundg (gk - 1)
        case measure => omega
        case rel => exact ⟨j + 1, by omega, by go_num, Lib.hid (by rw [Hsn.out]; exact ⟨_, _, _, _, E1.out, E2.out⟩), Lib.hid (by rw [Hsn.out]; exact E3.out), E4⟩
      · obtain rfl : j = m := by omega
        have hadds := manyF_adds (writeT_adds t HR.out) j emptyP s HGS.out (GoodPart.empty _ _)
        obtain ⟨A1, c1, A2, c2, hpb1, hps⟩ := HP.out
        have hWr := HWr.out
        obtain ⟨r, hrr⟩ : ∃ r, r = manyF (writeT t) j emptyP s := ⟨_, rfl⟩
        obtain ⟨hr2, hr3⟩ := (often_room Hmx.out Hf.out).2
        have hc1 : t.cnt ≠ 0 := by simpa using hc0
        have hof : oftenF t.cnt (writeT t) j mx s = (if mx = -1 then
            (behindP r.1 { (writeT t r.2).1 with none := true }, behindS (loopS (writeT t r.2).2 (writeT t r.2).1) r.1 { (writeT t r.2).1 with none := true })
          else (behindP r.1 (restF (writeT t) (mx - j).toNat r.2).1, behindS (restF (writeT t) (mx - j).toNat r.2).2 r.1 (restF (writeT t) (mx - j).toNat r.2).1)) := by rw [hrr]; simp [oftenF, hc1]
        have Hof := Lib.hid hof
        clear hof hc1 hc0
        rw [← hrr] at hadds hpb1 hps hWr
        clear hrr
        have Hof2 := Hof
        clear Hof
        have Hof := Hof2
        clear Hof2
        obtain ⟨p, s1⟩ := r
        simp only at hadds hpb1 hps hWr
        have hlr := hadds.2.2
        rw [← hlr] at hr2 hr3
        have hmx := Hmx.out
        obtain ⟨P0, P1, P2, F0, F1, F2, hpl⟩ := part3 hpb1
        have y0 := HK.out.box HX0.out (by decide) (by decide) (by decide)
        have Y0 := cell_of (j := 0) y0 rfl
        have hyl := (Array.getElem?_eq_some_iff.1 y0).1
        obtain ⟨n0, n1, n2, n3, n4, n5, n6, n7, hnl⟩ := box8 (HK.out.box HX1.out (by decide) (by decide) (by decide))
        have k3 := HK.out.box HX3.out (by decide) (by decide) (by decide)
        obtain ⟨K0, K1, K2, K3, K4, K5, K6, K7, hkl⟩ := box8 k3
        have y2 := HK.out.box HX2.out (by decide) (by decide) (by decide)
        have Hadds := Lib.hid hadds; have Hps := Lib.hid hps; have HWr1 := Lib.hid hWr; have Hpb1 := Lib.hid hpb1; have Hr2 := Lib.hid hr2; have Hr3 := Lib.hid hr3; have HY0 := Lib.hid y0; have HY2 := Lib.hid y2; have HKB := Lib.hid k3
        have HB0 := Lib.hid ((H0.out.trans HK1.out.below).trans HK.out.below)
        have HKT := Lib.hid (HK1.out.trans HK.out)
        clear hadds hps hWr hpb1 hr2 hr3 hlr y0 y2 k3 hj HWr HP
        clear hlt
        cases hmm : (mx == -1) with
        | true =>
          have hmq : mx = -1 := by simpa using hmm
          have Hof1 := Lib.hid (Hof.out.trans (if_pos hmq))
          have hadds := Hadds.out
          have hq := writeT_adds t HR.out s1 hadds.1
          have hcall := HWK.out s1 wr HB0.out HWr1.out (Hr2.out hmq)
          have hqq : ∃ q, writeT t s1 = q := ⟨_, rfl⟩
          obtain ⟨q, hqq⟩ := hqq
          have hof2 := Hof1.out
          simp only at hof2
          rw [hqq] at hq hcall hof2
          obtain ⟨q, s2⟩ := q
          simp only at hq hcall hof2
          have Hof2 := Lib.hid hof2; have Hq := Lib.hid hq; have Hcall := Lib.hid hcall
          clear Hof1 Hof hof2 hq hcall hqq hmq hadds hmx
          go_wp2_with fail
          refine Hcall.out.mono ?_
          rintro e w2 ⟨A3, c3, A4, c4, rfl, hq2, hW2, hK2⟩
          have z0 := heap_a1 (o' := (Obj.cells #[.slice A3 q.first.length c3, .slice A4 q.last.length c4, .bool q.none] 52)) (hK2.box HY0.out (by decide) (by decide) (by decide))
          have zp := heap_a1 (o' := (Obj.cells #[.slice A3 q.first.length c3, .slice A4 q.last.length c4, .bool q.none] 52)) (hK2.box Hpb1.out (by decide) (by decide) (by decide))
          have z2 := heap_a1 (o' := (Obj.cells #[.slice A3 q.first.length c3, .slice A4 q.last.length c4, .bool q.none] 52)) (hK2.box HY2.out (by decide) (by decide) (by decide))
          have zq := heap_a0 w2 (Obj.cells #[.slice A3 q.first.length c3, .slice A4 q.last.length c4, .bool q.none] 52)
          have hbq := (Below.refl w2.heap.size w2).alloc (Nat.le_refl _) (Obj.cells #[.slice A3 q.first.length c3, .slice A4 q.last.length c4, .bool q.none] 52)
          have hKq : KW w0.heap.size w (w2.alloc (Obj.cells #[.slice A3 q.first.length c3, .slice A4 q.last.length c4, .bool q.none] 52)) := (HKT.out.trans hK2).trans (KW.ofBelow hbq (Nat.le_trans hfit (HKT.out.trans hK2).size))
          have Y1 := cell_of (j := 0) (hK2.box HY0.out (by decide) (by decide) (by decide)) rfl
          have hyl2 := (Array.getElem?_eq_some_iff.1 (hK2.box HY0.out (by decide) (by decide) (by decide))).1
          have hpl2 := (Array.getElem?_eq_some_iff.1 (hK2.box Hpb1.out (by decide) (by decide) (by decide))).1
          have hrl2 := (Array.getElem?_eq_some_iff.1 (hK2.box HY2.out (by decide) (by decide) (by decide))).1
          have hWq := hW2.below hbq
          have hq3 := hq2.keep (Keep3.below hbq)
          have hp3 := (Hps.out.keep hK2.keep3).keep (Keep3.below hbq)
          have Z0 := Lib.hid z0; have ZP := Lib.hid zp; have Z2 := Lib.hid z2; have ZQ := Lib.hid zq; have HKq := Lib.hid hKq; have HWq := Lib.hid hWq; have Hq3 := Lib.hid hq3; have Hp3 := Lib.hid hp3
          clear z0 zp z2 zq hbq hKq hWq hq3 hp3 hq2 hW2
          have hszq : (w2.alloc (Obj.cells #[.slice A3 q.first.length c3, .slice A4 q.last.length c4, .bool q.none] 52)).heap.size = w2.heap.size + 1 := by simp
          clear hK2
          go_wp2_with fail
          refine (next_any w0.heap.size wb s2 _ _ q.last q.first _ HWq.out Hq3.out.2 Hq3.out.1 Hq.out.2.1.last Hq.out.2.1.first).mono ?_
          rintro e w3 ⟨rfl, hW3, hK3⟩
          obtain ⟨q0, q1, q2, g0, g1, g2, hql3⟩ := part3 (hK3.box ZQ.out (by decide) (by decide) (by decide))
          obtain ⟨p0, p1, p2, _, _, _, hpl3⟩ := part3 (hK3.box ZP.out (by decide) (by decide) (by decide))
          have Y3 := cell_of (j := 0) (hK3.box Z0.out (by decide) (by decide) (by decide)) rfl
          have hks := (KS.refl w3).setCell (r := w2.heap.size) ⟨_, _, hK3.box ZQ.out (by decide) (by decide) (by decide)⟩ (by decide) (by decide) (by decide) (by decide) 2 (.bool true)
          have hfq : w.heap.size ≤ w2.heap.size := by omega
          have hKx := (HKq.out.trans hK3).newCell (r := w2.heap.size) hfq hfit 2 (.bool true)
          have hx2 := (Below.heap_setCell w3 ⟨w2.heap.size, 2, none⟩ (.bool true) (w.heap.size + 1 + 1) (by show w.heap.size + 1 + 1 ≠ w2.heap.size; omega)).trans (hK3.box Z2.out (by decide) (by decide) (by decide))
          have hWx := hW3.side hks
          have hpx := (Hp3.out.keep hK3.keep3).keep hks.keep3
          have hqx := (Hq3.out.keep hK3.keep3).keep hks.keep3
          have HKx := Lib.hid hKx; have Hx2 := Lib.hid hx2; have HWx := Lib.hid hWx; have Hpx := Lib.hid hpx; have Hqx := Lib.hid hqx
          clear hks hKx hx2 hWx hpx hqx hW3 hK3
          go_wp2_with fail
          refine (behind_w w0.heap.size wb (nextSt s2 q.last q.first) p { q with none := true } A1 c1 A2 c2 A3 c3 A4 c4 _ HWx.out Hpx.out Hqx.out (Hadds.out.2.1.mono (show s1.sets.length ≤ s2.sets.length by have := Hq.out.2.2; omega)) ⟨Hq.out.2.1.first, Hq.out.2.1.last⟩).mono ?_
          rintro e w4 ⟨A5, c5, A6, c6, rfl, hp5, hW4, hK4⟩
          have hr4 := hK4.box Hx2.out (by decide) (by decide) (by decide)
          obtain ⟨e1, e2, e3, e4⟩ := part_end (HKx.out.trans hK4) hW4 rfl hp5.1 hp5.2 hr4 (by omega) hfit
          obtain ⟨R0, R1, R2, Z0, Z1, Z2, hres4⟩ := part3 hr4
          have E1 := Lib.hid e1; have E2 := Lib.hid e2; have E3 := Lib.hid e3; have E4 := Lib.hid e4
          clear e1 e2 e3 e4 hr4 hp5 hW4 hK4
          go_wp2_with fail
          refine bodyPost_ret (ret_part rfl _ _ (w.heap.size + 1 + 1) _ _ _ (0, 0) rfl E1.out) rfl ?_
          rw [Hof2.out]
          exact Wrote.of ⟨_, rfl, E2.out, E3.out, E4.out⟩
        | false =>
          have hmq : mx ≠ -1 := by simpa using hmm
          have Hof1 := Lib.hid (Hof.out.trans (if_neg hmq))
          have hadds := Hadds.out
          obtain ⟨n, hn⟩ : ∃ n : Nat, mx - j = (n : Int) := ⟨(mx - j).toNat, by omega⟩
          have hnn : (mx - j).toNat = n := by omega
          have hn5 : n ≤ 512 := by omega
          have hof2 := Hof1.out
          have hr3 := Hr3.out hmq
          have hq := restF_adds (writeT_adds t HR.out) n s1 hadds.1
          simp only [hnn] at hof2 hr3
          have hall := rest_any w0 wb t A' c' HR.out HWK.out w.heap.size (w.heap.size + 1 + 1 + 1) wr.heap.size n s1
          have hqq : ∃ q, restF (writeT t) n s1 = q := ⟨_, rfl⟩
          obtain ⟨q, hqq⟩ := hqq
          rw [hqq] at hq hall hof2
          obtain ⟨q, s2⟩ := q
          simp only at hq hall hof2
          have hbf := (Below.refl wr.heap.size wr).alloc (Nat.le_refl _) (Obj.cells #[(.func (.func 57) #[] #[.pointer (some ⟨w.heap.size, 0, none⟩), .pointer (some ⟨w.heap.size + 1 + 1 + 1, 0, none⟩), .pointer (some ⟨wr.heap.size, 0, none⟩)])] 92)
          have hfb := heap_a0 wr (Obj.cells #[(.func (.func 57) #[] #[.pointer (some ⟨w.heap.size, 0, none⟩), .pointer (some ⟨w.heap.size + 1 + 1 + 1, 0, none⟩), .pointer (some ⟨wr.heap.size, 0, none⟩)])] 92)
          have hpf := heap_a1 (o' := (Obj.cells #[(.func (.func 57) #[] #[.pointer (some ⟨w.heap.size, 0, none⟩), .pointer (some ⟨w.heap.size + 1 + 1 + 1, 0, none⟩), .pointer (some ⟨wr.heap.size, 0, none⟩)])] 92)) Hpb1.out
          have hWf := HWr1.out.below hbf
          have hKf : KW w0.heap.size w1 (wr.alloc (Obj.cells #[(.func (.func 57) #[] #[.pointer (some ⟨w.heap.size, 0, none⟩), .pointer (some ⟨w.heap.size + 1 + 1 + 1, 0, none⟩), .pointer (some ⟨wr.heap.size, 0, none⟩)])] 92)) := HK.out.trans (KW.ofBelow hbf (Nat.le_trans hf1 HK.out.size))
          have hwrap : IntKind.i64.wrap (mx - j) = (n : Int) := by rw [hn]; exact IntWalk.i64_in _ (by omega)
          have hszf : wr.heap.size < (wr.alloc (Obj.cells #[(.func (.func 57) #[] #[.pointer (some ⟨w.heap.size, 0, none⟩), .pointer (some ⟨w.heap.size + 1 + 1 + 1, 0, none⟩), .pointer (some ⟨wr.heap.size, 0, none⟩)])] 92)).heap.size := by simp
          obtain ⟨wf, hwf⟩ : ∃ wf, wf = wr.alloc (Obj.cells #[(.func (.func 57) #[] #[.pointer (some ⟨w.heap.size, 0, none⟩), .pointer (some ⟨w.heap.size + 1 + 1 + 1, 0, none⟩), .pointer (some ⟨wr.heap.size, 0, none⟩)])] 92) := ⟨_, rfl⟩
          rw [← hwf] at hbf hfb hpf hWf hKf hszf
          have Hbf := Lib.hid hbf; have Hfb := Lib.hid hfb; have Hpf := Lib.hid hpf; have HWf := Lib.hid hWf; have HKf := Lib.hid hKf; have Hwrap := Lib.hid hwrap; have Hall := Lib.hid hall; have Hq := Lib.hid hq; have Hof2 := Lib.hid hof2; have Hwf := Lib.hid hwf
          have Hr3' := Lib.hid hr3
          clear hbf hfb hpf hWf hKf hwrap hall hq hof2 hwf Hof1 Hof hmq hadds hqq hnn hn hr3
          go_wp2_with fail
          rw [← Hwf.out]
          refine start_ (n := 11) (S := fun w' => w'.heap[w1.heap.size]? = some (.cells #[.slice A1 p.first.length c1, .slice A2 p.last.length c2, .bool p.none] 52 (0, 0)) ∧ KW w0.heap.size wf w') (ds := [10]) #[false, false, false, false, false, false, false, false, false, false, false] (by kernel_rfl) rfl rfl ⟨Hpf.out, (KW.refl _ _).drewN 1⟩ (fun hHeld => ?_)
          refine take_ (i := 0) (N := some 47) (v := ?_) (a' := ?_) #[true, false, false, false, false, false, false, false, false, false, false] rfl rfl (by kernel_rfl) (fun _ _ _ h => h) (Or.inl ⟨by rfl, ?_⟩) hHeld ?_ ?_
          rotate_left
          · rintro w' ⟨sp, skw⟩; obtain ⟨u0, u1, u2, _, _, _, _⟩ := part3 sp; have u3 : w'.cell? ⟨w.heap.size, 0, none⟩ = some (.pointer (some ⟨wb, 0, none⟩)) := cell_of ((HKf.out.trans skw).box HX0.out (by decide) (by decide) (by decide)) rfl; obtain ⟨m0, m1, m2, m3, m4, m5, m6, m7, _⟩ := box8 ((HKf.out.trans skw).box HX1.out (by decide) (by decide) (by decide)); have u4 := cell_of (j := 0) (skw.box Hfb.out (by decide) (by decide) (by decide)) rfl
            go_simp
            with_reducible rfl
          rotate_left
          · simp only [Act.put, sA, sB, sC]
            rfl
          refine take_ (i := 1) (N := some 48) (v := ?_) (a' := ?_) #[true, true, false, false, false, false, false, false, false, false, false] rfl rfl (by kernel_rfl) (fun _ _ _ h => h) (Or.inl ⟨by rfl, ?_⟩) hHeld ?_ ?_
          rotate_left
          · rintro w' ⟨sp, skw⟩; obtain ⟨u0, u1, u2, _, _, _, _⟩ := part3 sp; have u3 : w'.cell? ⟨w.heap.size, 0, none⟩ = some (.pointer (some ⟨wb, 0, none⟩)) := cell_of ((HKf.out.trans skw).box HX0.out (by decide) (by decide) (by decide)) rfl; obtain ⟨m0, m1, m2, m3, m4, m5, m6, m7, _⟩ := box8 ((HKf.out.trans skw).box HX1.out (by decide) (by decide) (by decide)); have u4 := cell_of (j := 0) (skw.box Hfb.out (by decide) (by decide) (by decide)) rfl
            go_simp
            with_reducible rfl
          rotate_left
          · simp only [Act.put, sA, sB, sC]
            rfl
          refine take_ (i := 2) (N := some 49) (v := ?_) (a' := ?_) #[true, true, true, false, false, false, false, false, false, false, false] rfl rfl (by kernel_rfl) (fun _ _ _ h => h) (Or.inl ⟨by rfl, ?_⟩) hHeld ?_ ?_
          rotate_left
          · rintro w' ⟨sp, skw⟩; obtain ⟨u0, u1, u2, _, _, _, _⟩ := part3 sp; have u3 : w'.cell? ⟨w.heap.size, 0, none⟩ = some (.pointer (some ⟨wb, 0, none⟩)) := cell_of ((HKf.out.trans skw).box HX0.out (by decide) (by decide) (by decide)) rfl; obtain ⟨m0, m1, m2, m3, m4, m5, m6, m7, _⟩ := box8 ((HKf.out.trans skw).box HX1.out (by decide) (by decide) (by decide)); have u4 := cell_of (j := 0) (skw.box Hfb.out (by decide) (by decide) (by decide)) rfl
            go_simp
            with_reducible rfl
          rotate_left
          · simp only [Act.put, sA, sB, sC]
            rfl
          refine pure_ (i := 3) (N := some 50) (v := ?_) (a' := ?_) #[true, true, true, true, false, false, false, false, false, false, false] rfl rfl (by kernel_rfl) (fun _ _ _ h => h) (Or.inl ⟨by rfl, ?_⟩) ?_ ?_
          rotate_left
          · intro w'
            go_simp
            with_reducible rfl
          rotate_left
          · simp only [Act.put, sA, sB, sC]
            rfl
          refine take_ (i := 4) (N := some 51) (v := ?_) (a' := ?_) #[true, true, true, true, true, false, false, false, false, false, false] rfl rfl (by kernel_rfl) (fun _ _ _ h => h) (Or.inl ⟨by rfl, ?_⟩) hHeld ?_ ?_
          rotate_left
          · rintro w' ⟨sp, skw⟩; obtain ⟨u0, u1, u2, _, _, _, _⟩ := part3 sp; have u3 : w'.cell? ⟨w.heap.size, 0, none⟩ = some (.pointer (some ⟨wb, 0, none⟩)) := cell_of ((HKf.out.trans skw).box HX0.out (by decide) (by decide) (by decide)) rfl; obtain ⟨m0, m1, m2, m3, m4, m5, m6, m7, _⟩ := box8 ((HKf.out.trans skw).box HX1.out (by decide) (by decide) (by decide)); have u4 := cell_of (j := 0) (skw.box Hfb.out (by decide) (by decide) (by decide)) rfl
            go_simp
            with_reducible rfl
          rotate_left
          · simp only [Act.put, sA, sB, sC]
            rfl
          refine pure_ (i := 5) (N := some 52) (v := ?_) (a' := ?_) #[true, true, true, true, true, true, false, false, false, false, false] rfl rfl (by kernel_rfl) (fun _ _ _ h => h) (Or.inl ⟨by rfl, ?_⟩) ?_ ?_
          rotate_left
          · intro w'
            go_simp
            with_reducible rfl
          rotate_left
          · simp only [Act.put, sA, sB, sC]
            rfl
          refine take_ (i := 6) (N := some 53) (v := ?_) (a' := ?_) #[true, true, true, true, true, true, true, false, false, false, false] rfl rfl (by kernel_rfl) (fun _ _ _ h => h) (Or.inl ⟨by rfl, ?_⟩) hHeld ?_ ?_
          rotate_left
          · rintro w' ⟨sp, skw⟩; obtain ⟨u0, u1, u2, _, _, _, _⟩ := part3 sp; have u3 : w'.cell? ⟨w.heap.size, 0, none⟩ = some (.pointer (some ⟨wb, 0, none⟩)) := cell_of ((HKf.out.trans skw).box HX0.out (by decide) (by decide) (by decide)) rfl; obtain ⟨m0, m1, m2, m3, m4, m5, m6, m7, _⟩ := box8 ((HKf.out.trans skw).box HX1.out (by decide) (by decide) (by decide)); have u4 := cell_of (j := 0) (skw.box Hfb.out (by decide) (by decide) (by decide)) rfl
            go_simp
            with_reducible rfl
          rotate_left
          · simp only [Act.put, sA, sB, sC]
            rfl
          refine pure_ (i := 7) (N := some 54) (v := (.int .i64 n)) (a' := ?_) #[true, true, true, true, true, true, true, true, false, false, false] rfl rfl (by kernel_rfl) (fun _ _ _ h => h) (Or.inl ⟨by rfl, ?_⟩) ?_ ?_
          · intro w'
            go_simp
            exact Hwrap.out
          rotate_left
          · simp only [Act.put, sA, sB, sC]
            rfl
          refine one_ (i := 8) (N := some 55) #[true, true, true, true, true, true, true, true, true, false, false] rfl rfl (by kernel_rfl) (by decide) (fun K hK => ?_)
          refine goesC_ Tryd.func57 (by kernel_rfl) rfl #[.int .i64 n, .pointer (some ⟨w.heap.size, 0, none⟩), .pointer (some ⟨w.heap.size + 1 + 1 + 1, 0, none⟩), .pointer (some ⟨wr.heap.size, 0, none⟩)] (by rfl) rfl rfl (by rfl) (by (try simp only [List.map_toArray, List.map_cons, List.map_nil]); rfl) ?_
          refine (Hall.out wf.drew (by omega) ((H0.out.trans HK1.out.below).trans (HKf.out.trans hHeld.2).below) (HWf.out.below ((Below.refl wf.heap.size wf).drew)) (by have := Hadds.out.2.2; have := Hr3'.out; omega) ((HKf.out.trans hHeld.2).box HX0.out (by decide) (by decide) (by decide)) ((HKf.out.trans hHeld.2).box HX3.out (by decide) (by decide) (by decide)) (hHeld.2.box Hfb.out (by decide) (by decide) (by decide))).mono ?_
          rintro e w2 ⟨A3, c3, A4, c4, rfl, hq2, hW2, hK2⟩
          refine ⟨_, rfl, ?_⟩
          refine hK.out _ _ ⟨hK2.box hHeld.1 (by decide) (by decide) (by decide), hHeld.2.trans hK2⟩ (fun hHeld => ?_)
          clear hK K
          refine norm_ (a' := ?_) ?_ ?_
          rotate_left
          · show Act.put _ (some 55) _ = _
            simp only [Act.put, sA, sB, sC]
            rfl
          refine one_ (i := 9) (N := some 56) #[true, true, true, true, true, true, true, true, true, true, false] rfl rfl (by kernel_rfl) (by decide) (fun K hK => ?_)
          refine goes_ Tryd.func40 (by kernel_rfl) rfl #[.pointer (some ⟨wb, 0, none⟩), pval p A1 c1 A2 c2, pval q A3 c3 A4 c4] (by rfl) rfl rfl (by (try simp only [List.map_toArray, List.map_cons, List.map_nil]); rfl) ?_
          refine (behind_w _ wb s2 p q A1 c1 A2 c2 A3 c3 A4 c4 _ hW2 ((Hps.out.keep (Keep3.below Hbf.out)).keep hHeld.2.keep3) hq2 (Hadds.out.2.1.mono (by have := Hq.out.2.2; omega)) Hq.out.2.1).mono ?_
          rintro e w3 ⟨A5, c5, A6, c6, rfl, hp3, hW3, hK3⟩
          refine ⟨_, rfl, ?_⟩
          refine hK.out _ _ ⟨hK3.box hHeld.1 (by decide) (by decide) (by decide), hHeld.2.trans hK3⟩ (fun hHeld => ?_)
          clear hK K
          refine norm_ (a' := ?_) ?_ ?_
          rotate_left
          · show Act.put _ (some 56) _ = _
            simp only [Act.put, sA, sB, sC]
            rfl
          refine last_ (i := 10) (N := none) #[true, true, true, true, true, true, true, true, true, true, true] rfl rfl (by kernel_rfl) (by decide) (fun K hK => ?_)
          refine skip_ (w1 := ?_) (by rfl) rfl ?_ ?_
          rotate_left
          · obtain ⟨r0, r1, r2, x0, x1, x2, _⟩ := part3 ((HKf.out.trans hHeld.2).box HX2.out (by decide) (by decide) (by decide))
            go_simp
            rfl
          refine hK.out _ _ ?_
          clear hK K
          refine done_ (by kernel_rfl) ?_
          obtain ⟨e1, e2, e3, e4⟩ := part_end ((HK1.out.trans HKf.out).trans hHeld.2) hW3 rfl hp3.1 hp3.2 ((HKf.out.trans hHeld.2).box HX2.out (by decide) (by decide) (by decide)) (by omega) hfit
          have E1 := Lib.hid e1; have E2 := Lib.hid e2; have E3 := Lib.hid e3; have E4 := Lib.hid e4
          clear e1 e2 e3 e4 hp3 hW3 hHeld hW2 hq2 hK2 hK3
          go_wp2_with fail
          refine bodyPost_ret (ret_part rfl _ _ (w.heap.size + 1 + 1) _ _ _ (0, 0) rfl E1.out) rfl ?_
          rw [Hof2.out]
          exact Wrote.of ⟨_, rfl, E2.out, E3.out, E4.out⟩
end Go.Proofs.YtmcoaopcmjociaaDoor

namespace Go.Proofs.YtmcoaopcmjociaaDoor
open Go Go.RowKit Go.Sort Go.Proofs.YtmcoaopcmjociaaDoorW.PrintLast

set_option maxRecDepth 100000 in
set_option maxHeartbeats 4000000 in
theorem write_alt (w0 : World) (wb d : Nat) (s0 s1 s2 s3 : Int) (l : List Tree) (mn mx : Int) (A : Option Addr) (c : Nat) (hr : ∀ t ∈ l, t.right = true) (hkids : KidsIn w0 (d + 1) l A)
    (ih : ∀ (t : Tree) (A : Option Addr) (c : Nat), t.right = true → KidsIn w0 d t.kids A → WriteOK w0 wb t A c) : WriteOK w0 wb (.node 3 s0 s1 s2 s3 l mn mx) A c := by
  intro s w h0 hw hf
  have hsp : spotsN (.node 3 s0 s1 s2 s3 l mn mx) = spotsNs l := by simp [spotsN]
  have hwr : writeT (.node 3 s0 s1 s2 s3 l mn mx) s = writeAlt l ⟨[], [], false⟩ s := by simp [writeT]
  rw [hsp] at hf
  rw [hwr]
  clear hsp hwr
  simp only [Tree.val, Tree.kind, Tree.s0, Tree.s1, Tree.s2, Tree.s3, Tree.kids, Tree.mn, Tree.mx]
  have HW := Lib.hid hw
  have H0 := Lib.hid h0
  have HR := Lib.hid hr
  have HKI := Lib.hid hkids
  have IH := Lib.hid ih
  have hl := HKI.out.1
  have hgs : GoodSt s := by obtain ⟨_, _, _, h⟩ := hw; exact h.good
  have HGS := Lib.hid hgs
  have hfit := hw.fits
  clear hw h0 hr hkids ih hgs
  have hbW := Lib.hid (below_a3 w (Obj.cells #[.int .i64 3, .int .u64 s0, .int .u64 s1, .int .u64 s2, .int .u64 s3, .slice A l.length c, .int .i64 mn, .int .i64 mx] 27) (Obj.cells #[.slice none 0 0, .slice none 0 0, .bool false] 52) (Obj.cells #[.slice none 0 0, .slice none 0 0, .bool false] 52))
  have hrb := Lib.hid (heap_a1' w (Obj.cells #[.int .i64 3, .int .u64 s0, .int .u64 s1, .int .u64 s2, .int .u64 s3, .slice A l.length c, .int .i64 mn, .int .i64 mx] 27) (Obj.cells #[.slice none 0 0, .slice none 0 0, .bool false] 52) (Obj.cells #[.slice none 0 0, .slice none 0 0, .bool false] 52))
  have hpb := Lib.hid (heap_a2 w (Obj.cells #[.int .i64 3, .int .u64 s0, .int .u64 s1, .int .u64 s2, .int .u64 s3, .slice A l.length c, .int .i64 mn, .int .i64 mx] 27) (Obj.cells #[.slice none 0 0, .slice none 0 0, .bool false] 52) (Obj.cells #[.slice none 0 0, .slice none 0 0, .bool false] 52))
  go_enter Tryd.func21, Tryd.ntmps21
  go_wp2_with fail
  go_loopg [57] l.length (fun g i wr => ∃ j : Nat, j + g = l.length ∧ i = .int .i64 j ∧ Hid (∃ A1 c1 A2 c2, wr.heap[w.heap.size + 1 + 1]? = some (.cells #[.slice A1 (writeAlt (l.take j) ⟨[], [], false⟩ s).1.first.length c1, .slice A2 (writeAlt (l.take j) ⟨[], [], false⟩ s).1.last.length c2, .bool (writeAlt (l.take j) ⟨[], [], false⟩ s).1.none] 52 (0, 0)) ∧ PartSl wr (writeAlt (l.take j) ⟨[], [], false⟩ s).1 A1 c1 A2 c2) ∧
    Hid (wr.heap[w.heap.size + 1]? = some (.cells #[.slice none 0 0, .slice none 0 0, .bool false] 52 (0, 0))) ∧ Hid (WInv w0.heap.size wb wr (writeAlt (l.take j) ⟨[], [], false⟩ s).2) ∧ Hid (KW w0.heap.size w wr))
  case atStart => exact ⟨0, by omega, rfl, Lib.hid ⟨_, _, _, _, hpb.out, IR.nil _ _, IR.nil _ _⟩, hrb, Lib.hid (HW.out.below hbW.out), Lib.hid (KW.ofBelow hbW.out hfit)⟩
  case round =>
    obtain ⟨j, hj, rfl, HP, HRB, HWr, HK⟩ := hrel
    have hj1 : j ≤ l.length := by omega
    have Hj := Lib.hid hj; clear hj
    obtain ⟨A1, c1, A2, c2, hpb1, hps⟩ := HP.out
    have hrb1 := HRB.out
    have hsz : w.heap.size + 1 + 1 < wr.heap.size := (Array.getElem?_eq_some_iff.1 hpb1).1
    by_cases hlt : j < l.length
    · have hadds := writeAlt_adds (l.take j) (fun t ht => HR.out t (List.mem_of_mem_take ht)) ⟨[], [], false⟩ s HGS.out (GoodPart.empty _ _)
      have hfj := spotsNs_take l j hlt
      have hsn := writeAlt_snoc (l.take j) l[j] ⟨[], [], false⟩ s
      rw [← Tree.take_snoc l j hlt] at hsn
      obtain ⟨r, hrr⟩ : ∃ r, r = writeAlt (l.take j) ⟨[], [], false⟩ s := ⟨_, rfl⟩
      rw [← hrr] at hadds hsn hpb1 hps
      have hWr := HWr.out
      rw [← hrr] at hWr
      have hq := writeT_adds l[j] (HR.out _ (List.getElem_mem hlt)) r.2 hadds.1
      obtain ⟨q, hqq⟩ : ∃ q, q = writeT l[j] r.2 := ⟨_, rfl⟩
      rw [← hqq] at hsn hq
      obtain ⟨p, s1⟩ := r
      obtain ⟨q, s2⟩ := q
      simp only at hadds hsn hpb1 hps hWr hq
      have hb0 : Below w0.heap.size w0 wr := H0.out.trans HK.out.below
      obtain ⟨ad, A', c', rfl, hc, hk⟩ := HKI.out.2 j l[j] (List.getElem?_eq_getElem hlt)
      obtain ⟨d0, d1, d2, d3, d4, d5, d6, d7⟩ := hc.below hb0
      have hcall := IH.out l[j] A' c' (HR.out _ (List.getElem_mem hlt)) hk s1
      obtain ⟨tj, htj⟩ : ∃ tj, tj = l[j] := ⟨_, rfl⟩
      simp only at hqq
      rw [← htj] at d0 d1 d2 d3 d4 d5 d6 d7 hcall hq hfj hqq
      rw [← hqq] at hcall
      have hbt := (Below.refl wr.heap.size wr).alloc (Nat.le_refl _) (Obj.cells #[.int .i64 tj.kind, .int .u64 tj.s0, .int .u64 tj.s1, .int .u64 tj.s2, .int .u64 tj.s3, .slice A' tj.kids.length c', .int .i64 tj.mn, .int .i64 tj.mx] 27)
      have hkb := heap_a0 wr (Obj.cells #[.int .i64 tj.kind, .int .u64 tj.s0, .int .u64 tj.s1, .int .u64 tj.s2, .int .u64 tj.s3, .slice A' tj.kids.length c', .int .i64 tj.mn, .int .i64 tj.mx] 27)
      have hcall1 := hcall (wr.alloc (Obj.cells #[.int .i64 tj.kind, .int .u64 tj.s0, .int .u64 tj.s1, .int .u64 tj.s2, .int .u64 tj.s3, .slice A' tj.kids.length c', .int .i64 tj.mn, .int .i64 tj.mx] 27)) (hb0.trans (hbt.mono (Nat.le_trans hfit HK.out.size))) (hWr.below hbt) (by omega)
      obtain ⟨P0, P1, P2, F0, F1, F2, _⟩ := part3 hpb1
      have Hadds := Lib.hid hadds; have Hq := Lib.hid hq; have Hsn := Lib.hid hsn; have Hps := Lib.hid hps; have HWr1 := Lib.hid hWr; have Hcall := Lib.hid hcall1; have Hhkb := Lib.hid hkb; have Hhbt := Lib.hid hbt; have Hpb1 := Lib.hid hpb1
      have Hrb1 := Lib.hid hrb1
      clear hadds hq hsn hps hWr hcall hcall1 hkb hbt hb0 hc hk hrr hqq htj hpb1 hrb1 HWr HP HRB
      go_wp2_with fail
      refine Hcall.out.mono ?_
      rintro e w1 ⟨A3, c3, A4, c4, rfl, hq1, hW1, hK1⟩
      have hp1 := hK1.box (heap_a1 Hpb1.out) (by decide) (by decide) (by decide)
      have hr1 := Lib.hid (hK1.box (heap_a1 Hrb1.out) (by decide) (by decide) (by decide))
      have hps1 := (Hps.out.keep (Keep3.below Hhbt.out)).keep hK1.keep3
      obtain ⟨t0, t1, t2, f0, f1, f2, t6⟩ := part3 hp1
      have Hp1 := Lib.hid hp1; have Hps1 := Lib.hid hps1; have Hq1 := Lib.hid hq1; have HW1 := Lib.hid hW1; have HK1 := Lib.hid hK1
      have hl1 := Hadds.out.2.1.first.len
      have hl2 := Hadds.out.2.1.last.len
      have hl3 := Hq.out.2.1.first.len
      have hl4 := Hq.out.2.1.last.len
      have hs12 := Hq.out.2.2
      have hb1 : s1.sets.length ≤ 512 := by obtain ⟨_, _, _, h⟩ := HWr1.out; exact h.few
      have hb2 : s2.sets.length ≤ 512 := by obtain ⟨_, _, _, h⟩ := hW1; exact h.few
      have Hs12 := Lib.hid hs12
      clear hp1 hps1 hq1 hW1 hK1 hs12
      have Hnp : Hid (∀ b : Bool, b = q.none → True) := Lib.hid fun _ _ => trivial
      have hbq0 := ((Below.refl w1.heap.size w1).alloc (Nat.le_refl _) (Obj.cells #[.slice A3 q.first.length c3, .slice A4 q.last.length c4, .bool q.none] 52))
      have hqb := (heap_a0 w1 (Obj.cells #[.slice A3 q.first.length c3, .slice A4 q.last.length c4, .bool q.none] 52))
      have hpq := (heap_a1 (o' := (Obj.cells #[.slice A3 q.first.length c3, .slice A4 q.last.length c4, .bool q.none] 52)) Hp1.out)
      go_wp2_with fail
      obtain ⟨wq, hwq⟩ : ∃ wq, wq = w1.alloc (Obj.cells #[.slice A3 q.first.length c3, .slice A4 q.last.length c4, .bool q.none] 52) := ⟨_, rfl⟩
      rw [← hwq] at hbq0 hqb hpq ⊢
      clear hwq
      have Hbq := Lib.hid hbq0
      have hf1 : w0.heap.size ≤ w1.heap.size := Nat.le_trans hfit (Nat.le_trans HK.out.size (Nat.le_trans (by simp) HK1.out.size))
      have hf2 : w0.heap.size ≤ wq.heap.size := Nat.le_trans hf1 Hbq.out.size
      have hrl := (Array.getElem?_eq_some_iff.1 hr1.out).1
      have hrl2 : w.heap.size + 1 < wq.heap.size := Nat.lt_of_lt_of_le hrl Hbq.out.size
      clear hbq0
      cases hpn : p.none with
      | false =>
        rw [hpn] at t2 hpq
        go_wp2_with fail
        refine start_ (n := 18) (S := fun w' => w'.heap[w.heap.size + 1 + 1]? = some (.cells #[.slice A1 p.first.length c1, .slice A2 p.last.length c2, .bool false] 52 (0, 0)) ∧ w'.heap[w1.heap.size]? = some (.cells #[.slice A3 q.first.length c3, .slice A4 q.last.length c4, .bool q.none] 52 (0, 0)) ∧ Below wq.heap.size wq w') (ds := [17]) #[false, false, false, false, false, false, false, false, false, false, false, false, false, false, false, false, false, false] (by kernel_rfl) rfl rfl ⟨hpq, hqb, (Below.refl wq.heap.size wq).drew⟩ (fun hHeld => ?_)
        refine pure_ (i := 0) (N := some 64) (v := ?_) (a' := ?_) #[true, false, false, false, false, false, false, false, false, false, false, false, false, false, false, false, false, false] rfl rfl (by kernel_rfl) (fun _ _ _ h => h) (Or.inl ⟨by rfl, ?_⟩) ?_ ?_
        rotate_left
        · intro w'
          go_simp
          with_reducible rfl
        rotate_left
        · simp only [Act.put, sA, sB, sC]
          rfl
        refine pure_ (i := 2) (N := some 66) (v := ?_) (a' := ?_) #[true, false, true, false, false, false, false, false, false, false, false, false, false, false, false, false, false, false] rfl rfl (by kernel_rfl) (fun _ _ _ h => h) (Or.inl ⟨by rfl, ?_⟩) ?_ ?_
        rotate_left
        · intro w'
          go_simp
          with_reducible rfl
        rotate_left
        · simp only [Act.put, sA, sB, sC]
          rfl
        refine pure_ (i := 5) (N := some 69) (v := ?_) (a' := ?_) #[true, false, true, false, false, true, false, false, false, false, false, false, false, false, false, false, false, false] rfl rfl (by kernel_rfl) (fun _ _ _ h => h) (Or.inl ⟨by rfl, ?_⟩) ?_ ?_
        rotate_left
        · intro w'
          go_simp
          with_reducible rfl
        rotate_left
        · simp only [Act.put, sA, sB, sC]
          rfl
        refine pure_ (i := 7) (N := some 71) (v := ?_) (a' := ?_) #[true, false, true, false, false, true, false, true, false, false, false, false, false, false, false, false, false, false] rfl rfl (by kernel_rfl) (fun _ _ _ h => h) (Or.inl ⟨by rfl, ?_⟩) ?_ ?_
        rotate_left
        · intro w'
          go_simp
          with_reducible rfl
        rotate_left
        · simp only [Act.put, sA, sB, sC]
          rfl
        refine pure_ (i := 10) (N := some 74) (v := ?_) (a' := ?_) #[true, false, true, false, false, true, false, true, false, false, true, false, false, false, false, false, false, false] rfl rfl (by kernel_rfl) (fun _ _ _ h => h) (Or.inl ⟨by rfl, ?_⟩) ?_ ?_
        rotate_left
        · intro w'
          go_simp
          with_reducible rfl
        rotate_left
        · simp only [Act.put, sA, sB, sC]
          rfl
        refine take_ (i := 1) (N := some 65) (v := ?_) (a' := ?_) #[true, true, true, false, false, true, false, true, false, false, true, false, false, false, false, false, false, false] rfl rfl (by kernel_rfl) (fun _ _ _ h => h) (Or.inl ⟨by rfl, ?_⟩) hHeld ?_ ?_
        rotate_left
        · rintro w' ⟨sp, sq, _⟩; obtain ⟨u0, u1, u2, _, _, _, _⟩ := part3 sp; obtain ⟨u3, u4, u5, _, _, _, _⟩ := part3 sq
          go_simp
          with_reducible rfl
        rotate_left
        · simp only [Act.put, sA, sB, sC]
          rfl
        refine take_ (i := 3) (N := some 67) (v := ?_) (a' := ?_) #[true, true, true, true, false, true, false, true, false, false, true, false, false, false, false, false, false, false] rfl rfl (by kernel_rfl) (fun _ _ _ h => h) (Or.inl ⟨by rfl, ?_⟩) hHeld ?_ ?_
        rotate_left
        · rintro w' ⟨sp, sq, _⟩; obtain ⟨u0, u1, u2, _, _, _, _⟩ := part3 sp; obtain ⟨u3, u4, u5, _, _, _, _⟩ := part3 sq
          go_simp
          with_reducible rfl
        rotate_left
        · simp only [Act.put, sA, sB, sC]
          rfl
        refine take_ (i := 6) (N := some 70) (v := ?_) (a' := ?_) #[true, true, true, true, false, true, true, true, false, false, true, false, false, false, false, false, false, false] rfl rfl (by kernel_rfl) (fun _ _ _ h => h) (Or.inl ⟨by rfl, ?_⟩) hHeld ?_ ?_
        rotate_left
        · rintro w' ⟨sp, sq, _⟩; obtain ⟨u0, u1, u2, _, _, _, _⟩ := part3 sp; obtain ⟨u3, u4, u5, _, _, _, _⟩ := part3 sq
          go_simp
          with_reducible rfl
        rotate_left
        · simp only [Act.put, sA, sB, sC]
          rfl
        refine take_ (i := 8) (N := some 72) (v := ?_) (a' := ?_) #[true, true, true, true, false, true, true, true, true, false, true, false, false, false, false, false, false, false] rfl rfl (by kernel_rfl) (fun _ _ _ h => h) (Or.inl ⟨by rfl, ?_⟩) hHeld ?_ ?_
        rotate_left
        · rintro w' ⟨sp, sq, _⟩; obtain ⟨u0, u1, u2, _, _, _, _⟩ := part3 sp; obtain ⟨u3, u4, u5, _, _, _, _⟩ := part3 sq
          go_simp
          with_reducible rfl
        rotate_left
        · simp only [Act.put, sA, sB, sC]
          rfl
        refine take_ (i := 11) (N := some 75) (v := ?_) (a' := ?_) #[true, true, true, true, false, true, true, true, true, false, true, true, false, false, false, false, false, false] rfl rfl (by kernel_rfl) (fun _ _ _ h => h) (Or.inl ⟨by rfl, ?_⟩) hHeld ?_ ?_
        rotate_left
        · rintro w' ⟨sp, sq, _⟩; obtain ⟨u0, u1, u2, _, _, _, _⟩ := part3 sp; obtain ⟨u3, u4, u5, _, _, _, _⟩ := part3 sq
          go_simp
          with_reducible rfl
        rotate_left
        · simp only [Act.put, sA, sB, sC]
          rfl
        refine one_ (i := 4) (N := some 68) #[true, true, true, true, true, true, true, true, true, false, true, true, false, false, false, false, false, false] rfl rfl (by kernel_rfl) (by decide) (fun K hK => ?_)
        refine goes_ Tryd.func38 (by kernel_rfl) rfl #[.slice A1 p.first.length c1, .slice A3 q.first.length c3] (by rfl) rfl rfl (by (try simp only [List.map_toArray, List.map_cons, List.map_nil]); rfl) ?_
        refine (merge_sl (S := Ty wq.drew 3) (S' := Ty wq.drew 3) _ _ p.first q.first _ ((IRT.below Hps1.out.1 Hbq.out).below hHeld.2.2) ((IRT.below Hq1.out.1 (by exact Hbq.out)).below hHeld.2.2) (by omega)).mono ?_
        rintro e w2 ⟨A5, c5, rfl, hm2, hb2⟩
        refine ⟨_, rfl, ?_⟩
        refine hK.out _ _ ⟨(hb2.block _ (Array.getElem?_eq_some_iff.1 hHeld.1).1).trans hHeld.1, (hb2.block _ (Array.getElem?_eq_some_iff.1 hHeld.2.1).1).trans hHeld.2.1, hHeld.2.2.trans (hb2.mono hHeld.2.2.size)⟩ (fun hHeld => ?_)
        clear hK K
        refine norm_ (a' := ?_) ?_ ?_
        rotate_left
        · show Act.put _ (some 68) _ = _
          simp only [Act.put, sA, sB, sC]
          rfl
        refine one_ (i := 9) (N := some 73) #[true, true, true, true, true, true, true, true, true, true, true, true, false, false, false, false, false, false] rfl rfl (by kernel_rfl) (by decide) (fun K hK => ?_)
        refine goes_ Tryd.func38 (by kernel_rfl) rfl #[.slice A2 p.last.length c2, .slice A4 q.last.length c4] (by rfl) rfl rfl (by (try simp only [List.map_toArray, List.map_cons, List.map_nil]); rfl) ?_
        refine (merge_sl (S := Ty w2 3) (S' := Ty w2 3) _ _ p.last q.last _ ((IRT.below Hps1.out.2 (by exact Hbq.out)).below hHeld.2.2) ((IRT.below Hq1.out.2 (by exact Hbq.out)).below hHeld.2.2) (by omega)).mono ?_
        rintro e w3 ⟨A6, c6, rfl, hm3, hb3⟩
        refine ⟨_, rfl, ?_⟩
        refine hK.out _ _ ⟨(hb3.block _ (Array.getElem?_eq_some_iff.1 hHeld.1).1).trans hHeld.1, (hb3.block _ (Array.getElem?_eq_some_iff.1 hHeld.2.1).1).trans hHeld.2.1, hHeld.2.2.trans (hb3.mono hHeld.2.2.size)⟩ (fun hHeld => ?_)
        clear hK K
        refine norm_ (a' := ?_) ?_ ?_
        rotate_left
        · show Act.put _ (some 73) _ = _
          simp only [Act.put, sA, sB, sC]
          rfl
        refine pure_ (i := 12) (N := some 76) (v := ?_) (a' := ?_) #[true, true, true, true, true, true, true, true, true, true, true, true, true, false, false, false, false, false] rfl rfl (by kernel_rfl) (fun _ _ _ h => h) (Or.inl ⟨by rfl, ?_⟩) ?_ ?_
        rotate_left
        · intro w'
          go_simp
          with_reducible rfl
        rotate_left
        · simp only [Act.put, sA, sB, sC]
          rfl
        refine pure_ (i := 13) (N := some 77) (v := ?_) (a' := ?_) #[true, true, true, true, true, true, true, true, true, true, true, true, true, true, false, false, false, false] rfl rfl (by kernel_rfl) (fun _ _ _ h => h) (Or.inl ⟨by rfl, ?_⟩) ?_ ?_
        rotate_left
        · intro w'
          go_simp
          with_reducible rfl
        rotate_left
        · simp only [Act.put, sA, sB, sC]
          rfl
        refine take_ (i := 14) (N := some 78) (v := ?_) (a' := ?_) #[true, true, true, true, true, true, true, true, true, true, true, true, true, true, true, false, false, false] rfl rfl (by kernel_rfl) (fun _ _ _ h => h) (Or.inl ⟨by rfl, ?_⟩) hHeld ?_ ?_
        rotate_left
        · rintro w' ⟨sp, sq, _⟩; obtain ⟨u0, u1, u2, _, _, _, _⟩ := part3 sp; obtain ⟨u3, u4, u5, _, _, _, _⟩ := part3 sq
          go_simp
          with_reducible rfl
        rotate_left
        · simp only [Act.put, sA, sB, sC]
          rfl
        refine pure_ (i := 15) (N := some 79) (v := ?_) (a' := ?_) #[true, true, true, true, true, true, true, true, true, true, true, true, true, true, true, true, false, false] rfl rfl (by kernel_rfl) (fun _ _ _ h => h) (Or.inl ⟨by rfl, ?_⟩) ?_ ?_
        rotate_left
        · intro w'
          go_simp
          with_reducible rfl
        rotate_left
        · simp only [Act.put, sA, sB, sC]
          rfl
        refine pure_ (i := 16) (N := some 80) (v := ?_) (a' := ?_) #[true, true, true, true, true, true, true, true, true, true, true, true, true, true, true, true, true, false] rfl rfl (by kernel_rfl) (fun _ _ _ h => h) (Or.inl ⟨by rfl, ?_⟩) ?_ ?_
        rotate_left
        · intro w'
          go_simp
          with_reducible rfl
        rotate_left
        · simp only [Act.put, sA, sB, sC]
          rfl
        refine last_ (i := 17) (N := none) #[true, true, true, true, true, true, true, true, true, true, true, true, true, true, true, true, true, true] rfl rfl (by kernel_rfl) (by decide) (fun K hK => ?_)
        refine skip_ (w1 := ?_) (by rfl) rfl ?_ ?_
        rotate_left
        · obtain ⟨u0, u1, u2, x0, x1, x2, _⟩ := part3 hHeld.1
          go_simp
          rfl
        refine hK.out _ _ ?_
        clear hK K
        refine done_ (by kernel_rfl) ?_
        have hKa : KW w0.heap.size w w3 := (((HK.out.trans (KW.ofBelow (by exact Hhbt.out) (Nat.le_trans hfit HK.out.size))).trans HK1.out).trans (KW.ofBelow Hbq.out hf1)).trans (KW.ofBelow hHeld.2.2 hf2)
        have hW3 := (HW1.out.below Hbq.out).below hHeld.2.2
        have hr2 := (hHeld.2.2.block _ hrl2).trans ((Hbq.out.block _ hrl).trans hr1.out)
        have hp3 := hHeld.1
        have hks := (KS.refl w3).store3 ⟨_, _, hp3⟩ (by decide) (by decide) (by decide) (by decide) (.slice A5 (mergeL p.first q.first).length c5) (.slice A6 (mergeL p.last q.last).length c6) (.bool q.none)
        have hst := store3 hp3 (.slice A5 (mergeL p.first q.first).length c5) (.slice A6 (mergeL p.last q.last).length c6) (.bool q.none)
        have hKb := ((hKa.newCell (r := w.heap.size + 1 + 1) (by omega) hfit 0 (.slice A5 (mergeL p.first q.first).length c5)).newCell (r := w.heap.size + 1 + 1) (by omega) hfit 1 (.slice A6 (mergeL p.last q.last).length c6)).newCell (r := w.heap.size + 1 + 1) (by omega) hfit 2 (.bool q.none)
        have hrS := (Below.heap_setCell _ ⟨w.heap.size + 1 + 1, 2, none⟩ (.bool q.none) (w.heap.size + 1) (by show w.heap.size + 1 ≠ w.heap.size + 1 + 1; omega)).trans ((Below.heap_setCell _ ⟨w.heap.size + 1 + 1, 1, none⟩ (.slice A6 (mergeL p.last q.last).length c6) (w.heap.size + 1) (by show w.heap.size + 1 ≠ w.heap.size + 1 + 1; omega)).trans ((Below.heap_setCell w3 ⟨w.heap.size + 1 + 1, 0, none⟩ (.slice A5 (mergeL p.first q.first).length c5) (w.heap.size + 1) (by show w.heap.size + 1 ≠ w.heap.size + 1 + 1; omega)).trans hr2))
        have E1 := Lib.hid hst; have E2 := Lib.hid ((hm2.below hb3).keep hks.keep3); have E2' := Lib.hid (hm3.keep hks.keep3); have E3 := Lib.hid (hW3.side hks); have E4 := Lib.hid hKb; have E5 := Lib.hid hrS
        clear hKa hr2 hks hst hKb hrS hm2 hm3 hb2 hb3 hW3 hp3
        go_wp2_with fail
        have hj := Hj.out
        go_roundg (gk - 1)
        case measure => omega
        case rel => exact ⟨j + 1, by omega, by go_num, Lib.hid (by rw [Hsn.out]; simp only [hpn, Bool.true_or, Bool.false_or]; exact ⟨_, _, _, _, E1.out, E2.out, E2'.out⟩), E5, Lib.hid (by rw [Hsn.out]; exact E3.out), E4⟩
      | true =>
        rw [hpn] at t2 hpq
        go_wp2_with fail
        refine start_ (n := 18) (S := fun w' => w'.heap[w.heap.size + 1 + 1]? = some (.cells #[.slice A1 p.first.length c1, .slice A2 p.last.length c2, .bool true] 52 (0, 0)) ∧ w'.heap[w1.heap.size]? = some (.cells #[.slice A3 q.first.length c3, .slice A4 q.last.length c4, .bool q.none] 52 (0, 0)) ∧ Below wq.heap.size wq w') (ds := [17]) #[false, false, false, false, false, false, false, false, false, false, false, false, false, false, false, false, false, false] (by kernel_rfl) rfl rfl ⟨hpq, hqb, (Below.refl wq.heap.size wq).drew⟩ (fun hHeld => ?_)
        refine pure_ (i := 0) (N := some 64) (v := ?_) (a' := ?_) #[true, false, false, false, false, false, false, false, false, false, false, false, false, false, false, false, false, false] rfl rfl (by kernel_rfl) (fun _ _ _ h => h) (Or.inl ⟨by rfl, ?_⟩) ?_ ?_
        rotate_left
        · intro w'
          go_simp
          with_reducible rfl
        rotate_left
        · simp only [Act.put, sA, sB, sC]
          rfl
        refine pure_ (i := 2) (N := some 66) (v := ?_) (a' := ?_) #[true, false, true, false, false, false, false, false, false, false, false, false, false, false, false, false, false, false] rfl rfl (by kernel_rfl) (fun _ _ _ h => h) (Or.inl ⟨by rfl, ?_⟩) ?_ ?_
        rotate_left
        · intro w'
          go_simp
          with_reducible rfl
        rotate_left
        · simp only [Act.put, sA, sB, sC]
          rfl
        refine pure_ (i := 5) (N := some 69) (v := ?_) (a' := ?_) #[true, false, true, false, false, true, false, false, false, false, false, false, false, false, false, false, false, false] rfl rfl (by kernel_rfl) (fun _ _ _ h => h) (Or.inl ⟨by rfl, ?_⟩) ?_ ?_
        rotate_left
        · intro w'
          go_simp
          with_reducible rfl
        rotate_left
        · simp only [Act.put, sA, sB, sC]
          rfl
        refine pure_ (i := 7) (N := some 71) (v := ?_) (a' := ?_) #[true, false, true, false, false, true, false, true, false, false, false, false, false, false, false, false, false, false] rfl rfl (by kernel_rfl) (fun _ _ _ h => h) (Or.inl ⟨by rfl, ?_⟩) ?_ ?_
        rotate_left
        · intro w'
          go_simp
          with_reducible rfl
        rotate_left
        · simp only [Act.put, sA, sB, sC]
          rfl
        refine pure_ (i := 10) (N := some 74) (v := ?_) (a' := ?_) #[true, false, true, false, false, true, false, true, false, false, true, false, false, false, false, false, false, false] rfl rfl (by kernel_rfl) (fun _ _ _ h => h) (Or.inl ⟨by rfl, ?_⟩) ?_ ?_
        rotate_left
        · intro w'
          go_simp
          with_reducible rfl
        rotate_left
        · simp only [Act.put, sA, sB, sC]
          rfl
        refine take_ (i := 1) (N := some 65) (v := ?_) (a' := ?_) #[true, true, true, false, false, true, false, true, false, false, true, false, false, false, false, false, false, false] rfl rfl (by kernel_rfl) (fun _ _ _ h => h) (Or.inl ⟨by rfl, ?_⟩) hHeld ?_ ?_
        rotate_left
        · rintro w' ⟨sp, sq, _⟩; obtain ⟨u0, u1, u2, _, _, _, _⟩ := part3 sp; obtain ⟨u3, u4, u5, _, _, _, _⟩ := part3 sq
          go_simp
          with_reducible rfl
        rotate_left
        · simp only [Act.put, sA, sB, sC]
          rfl
        refine take_ (i := 3) (N := some 67) (v := ?_) (a' := ?_) #[true, true, true, true, false, true, false, true, false, false, true, false, false, false, false, false, false, false] rfl rfl (by kernel_rfl) (fun _ _ _ h => h) (Or.inl ⟨by rfl, ?_⟩) hHeld ?_ ?_
        rotate_left
        · rintro w' ⟨sp, sq, _⟩; obtain ⟨u0, u1, u2, _, _, _, _⟩ := part3 sp; obtain ⟨u3, u4, u5, _, _, _, _⟩ := part3 sq
          go_simp
          with_reducible rfl
        rotate_left
        · simp only [Act.put, sA, sB, sC]
          rfl
        refine take_ (i := 6) (N := some 70) (v := ?_) (a' := ?_) #[true, true, true, true, false, true, true, true, false, false, true, false, false, false, false, false, false, false] rfl rfl (by kernel_rfl) (fun _ _ _ h => h) (Or.inl ⟨by rfl, ?_⟩) hHeld ?_ ?_
        rotate_left
        · rintro w' ⟨sp, sq, _⟩; obtain ⟨u0, u1, u2, _, _, _, _⟩ := part3 sp; obtain ⟨u3, u4, u5, _, _, _, _⟩ := part3 sq
          go_simp
          with_reducible rfl
        rotate_left
        · simp only [Act.put, sA, sB, sC]
          rfl
        refine take_ (i := 8) (N := some 72) (v := ?_) (a' := ?_) #[true, true, true, true, false, true, true, true, true, false, true, false, false, false, false, false, false, false] rfl rfl (by kernel_rfl) (fun _ _ _ h => h) (Or.inl ⟨by rfl, ?_⟩) hHeld ?_ ?_
        rotate_left
        · rintro w' ⟨sp, sq, _⟩; obtain ⟨u0, u1, u2, _, _, _, _⟩ := part3 sp; obtain ⟨u3, u4, u5, _, _, _, _⟩ := part3 sq
          go_simp
          with_reducible rfl
        rotate_left
        · simp only [Act.put, sA, sB, sC]
          rfl
        refine take_ (i := 11) (N := some 75) (v := ?_) (a' := ?_) #[true, true, true, true, false, true, true, true, true, false, true, true, false, false, false, false, false, false] rfl rfl (by kernel_rfl) (fun _ _ _ h => h) (Or.inl ⟨by rfl, ?_⟩) hHeld ?_ ?_
        rotate_left
        · rintro w' ⟨sp, sq, _⟩; obtain ⟨u0, u1, u2, _, _, _, _⟩ := part3 sp; obtain ⟨u3, u4, u5, _, _, _, _⟩ := part3 sq
          go_simp
          with_reducible rfl
        rotate_left
        · simp only [Act.put, sA, sB, sC]
          rfl
        refine one_ (i := 4) (N := some 68) #[true, true, true, true, true, true, true, true, true, false, true, true, false, false, false, false, false, false] rfl rfl (by kernel_rfl) (by decide) (fun K hK => ?_)
        refine goes_ Tryd.func38 (by kernel_rfl) rfl #[.slice A1 p.first.length c1, .slice A3 q.first.length c3] (by rfl) rfl rfl (by (try simp only [List.map_toArray, List.map_cons, List.map_nil]); rfl) ?_
        refine (merge_sl (S := Ty wq.drew 3) (S' := Ty wq.drew 3) _ _ p.first q.first _ ((IRT.below Hps1.out.1 Hbq.out).below hHeld.2.2) ((IRT.below Hq1.out.1 (by exact Hbq.out)).below hHeld.2.2) (by omega)).mono ?_
        rintro e w2 ⟨A5, c5, rfl, hm2, hb2⟩
        refine ⟨_, rfl, ?_⟩
        refine hK.out _ _ ⟨(hb2.block _ (Array.getElem?_eq_some_iff.1 hHeld.1).1).trans hHeld.1, (hb2.block _ (Array.getElem?_eq_some_iff.1 hHeld.2.1).1).trans hHeld.2.1, hHeld.2.2.trans (hb2.mono hHeld.2.2.size)⟩ (fun hHeld => ?_)
        clear hK K
        refine norm_ (a' := ?_) ?_ ?_
        rotate_left
        · show Act.put _ (some 68) _ = _
          simp only [Act.put, sA, sB, sC]
          rfl
        refine one_ (i := 9) (N := some 73) #[true, true, true, true, true, true, true, true, true, true, true, true, false, false, false, false, false, false] rfl rfl (by kernel_rfl) (by decide) (fun K hK => ?_)
        refine goes_ Tryd.func38 (by kernel_rfl) rfl #[.slice A2 p.last.length c2, .slice A4 q.last.length c4] (by rfl) rfl rfl (by (try simp only [List.map_toArray, List.map_cons, List.map_nil]); rfl) ?_
        refine (merge_sl (S := Ty w2 3) (S' := Ty w2 3) _ _ p.last q.last _ ((IRT.below Hps1.out.2 (by exact Hbq.out)).below hHeld.2.2) ((IRT.below Hq1.out.2 (by exact Hbq.out)).below hHeld.2.2) (by omega)).mono ?_
        rintro e w3 ⟨A6, c6, rfl, hm3, hb3⟩
        refine ⟨_, rfl, ?_⟩
        refine hK.out _ _ ⟨(hb3.block _ (Array.getElem?_eq_some_iff.1 hHeld.1).1).trans hHeld.1, (hb3.block _ (Array.getElem?_eq_some_iff.1 hHeld.2.1).1).trans hHeld.2.1, hHeld.2.2.trans (hb3.mono hHeld.2.2.size)⟩ (fun hHeld => ?_)
        clear hK K
        refine norm_ (a' := ?_) ?_ ?_
        rotate_left
        · show Act.put _ (some 73) _ = _
          simp only [Act.put, sA, sB, sC]
          rfl
        refine pure_ (i := 12) (N := some 76) (v := ?_) (a' := ?_) #[true, true, true, true, true, true, true, true, true, true, true, true, true, false, false, false, false, false] rfl rfl (by kernel_rfl) (fun _ _ _ h => h) (Or.inl ⟨by rfl, ?_⟩) ?_ ?_
        rotate_left
        · intro w'
          go_simp
          with_reducible rfl
        rotate_left
        · simp only [Act.put, sA, sB, sC]
          rfl
        refine pure_ (i := 13) (N := some 77) (v := ?_) (a' := ?_) #[true, true, true, true, true, true, true, true, true, true, true, true, true, true, false, false, false, false] rfl rfl (by kernel_rfl) (fun _ _ _ h => h) (Or.inr ⟨by rfl, ?_⟩) ?_ ?_
        rotate_left
        · rfl
        rotate_left
        · simp only [Act.put, sA, sB, sC]
          rfl
        refine pure_ (i := 14) (N := some 78) (v := ?_) (a' := ?_) #[true, true, true, true, true, true, true, true, true, true, true, true, true, true, true, false, false, false] rfl rfl (by kernel_rfl) (fun _ _ _ h => h) (Or.inr ⟨by rfl, ?_⟩) ?_ ?_
        rotate_left
        · rfl
        rotate_left
        · simp only [Act.put, sA, sB, sC]
          rfl
        refine pure_ (i := 15) (N := some 79) (v := ?_) (a' := ?_) #[true, true, true, true, true, true, true, true, true, true, true, true, true, true, true, true, false, false] rfl rfl (by kernel_rfl) (fun _ _ _ h => h) (Or.inl ⟨by rfl, ?_⟩) ?_ ?_
        rotate_left
        · intro w'
          go_simp
          with_reducible rfl
        rotate_left
        · simp only [Act.put, sA, sB, sC]
          rfl
        refine pure_ (i := 16) (N := some 80) (v := ?_) (a' := ?_) #[true, true, true, true, true, true, true, true, true, true, true, true, true, true, true, true, true, false] rfl rfl (by kernel_rfl) (fun _ _ _ h => h) (Or.inl ⟨by rfl, ?_⟩) ?_ ?_
        rotate_left
        · intro w'
          go_simp
          with_reducible rfl
        rotate_left
        · simp only [Act.put, sA, sB, sC]
          rfl
        refine last_ (i := 17) (N := none) #[true, true, true, true, true, true, true, true, true, true, true, true, true, true, true, true, true, true] rfl rfl (by kernel_rfl) (by decide) (fun K hK => ?_)
        refine skip_ (w1 := ?_) (by rfl) rfl ?_ ?_
        rotate_left
        · obtain ⟨u0, u1, u2, x0, x1, x2, _⟩ := part3 hHeld.1
          go_simp
          rfl
        refine hK.out _ _ ?_
        clear hK K
        refine done_ (by kernel_rfl) ?_
        have hKa : KW w0.heap.size w w3 := (((HK.out.trans (KW.ofBelow (by exact Hhbt.out) (Nat.le_trans hfit HK.out.size))).trans HK1.out).trans (KW.ofBelow Hbq.out hf1)).trans (KW.ofBelow hHeld.2.2 hf2)
        have hW3 := (HW1.out.below Hbq.out).below hHeld.2.2
        have hr2 := (hHeld.2.2.block _ hrl2).trans ((Hbq.out.block _ hrl).trans hr1.out)
        have hp3 := hHeld.1
        have hks := (KS.refl w3).store3 ⟨_, _, hp3⟩ (by decide) (by decide) (by decide) (by decide) (.slice A5 (mergeL p.first q.first).length c5) (.slice A6 (mergeL p.last q.last).length c6) (.bool true)
        have hst := store3 hp3 (.slice A5 (mergeL p.first q.first).length c5) (.slice A6 (mergeL p.last q.last).length c6) (.bool true)
        have hKb := ((hKa.newCell (r := w.heap.size + 1 + 1) (by omega) hfit 0 (.slice A5 (mergeL p.first q.first).length c5)).newCell (r := w.heap.size + 1 + 1) (by omega) hfit 1 (.slice A6 (mergeL p.last q.last).length c6)).newCell (r := w.heap.size + 1 + 1) (by omega) hfit 2 (.bool true)
        have hrS := (Below.heap_setCell _ ⟨w.heap.size + 1 + 1, 2, none⟩ (.bool true) (w.heap.size + 1) (by show w.heap.size + 1 ≠ w.heap.size + 1 + 1; omega)).trans ((Below.heap_setCell _ ⟨w.heap.size + 1 + 1, 1, none⟩ (.slice A6 (mergeL p.last q.last).length c6) (w.heap.size + 1) (by show w.heap.size + 1 ≠ w.heap.size + 1 + 1; omega)).trans ((Below.heap_setCell w3 ⟨w.heap.size + 1 + 1, 0, none⟩ (.slice A5 (mergeL p.first q.first).length c5) (w.heap.size + 1) (by show w.heap.size + 1 ≠ w.heap.size + 1 + 1; omega)).trans hr2))
        have E1 := Lib.hid hst; have E2 := Lib.hid ((hm2.below hb3).keep hks.keep3); have E2' := Lib.hid (hm3.keep hks.keep3); have E3 := Lib.hid (hW3.side hks); have E4 := Lib.hid hKb; have E5 := Lib.hid hrS
        clear hKa hr2 hks hst hKb hrS hm2 hm3 hb2 hb3 hW3 hp3
        go_wp2_with fail
        have hj := Hj.out
        go_roundg (gk - 1)
        case measure => omega
        case rel => exact ⟨j + 1, by omega, by go_num, Lib.hid (by rw [Hsn.out]; simp only [hpn, Bool.true_or, Bool.false_or]; exact ⟨_, _, _, _, E1.out, E2.out, E2'.out⟩), E5, Lib.hid (by rw [Hsn.out]; exact E3.out), E4⟩
    · obtain rfl : j = l.length := by omega
      rw [List.take_length] at hpb1 hps
      have hWr := HWr.out
      rw [List.take_length] at hWr
      obtain ⟨r, hrr⟩ : ∃ r, r = writeAlt l ⟨[], [], false⟩ s := ⟨_, rfl⟩
      rw [← hrr] at hpb1 hps hWr
      obtain ⟨P0, P1, P2, _, _, _, _⟩ := part3 hpb1
      obtain ⟨R0, R1, R2, Z0, Z1, Z2, _⟩ := part3 hrb1
      obtain ⟨e1, e2, e3, e4⟩ := part_end (p := r.1) HK.out hWr rfl hps.1 hps.2 hrb1 (by omega) hfit
      have E1 := Lib.hid e1; have E2 := Lib.hid e2; have E3 := Lib.hid e3; have E4 := Lib.hid e4; have Hrr := Lib.hid hrr
      clear e1 e2 e3 e4 hpb1 hps hWr hrb1 hrr HP HRB HWr
      go_wp2_with fail
      refine bodyPost_ret (ret_part rfl _ _ (w.heap.size + 1) _ _ _ (0, 0) rfl E1.out) rfl ?_
      rw [← Hrr.out]
      exact Wrote.of ⟨_, rfl, E2.out, E3.out, E4.out⟩
end Go.Proofs.YtmcoaopcmjociaaDoor

namespace Go.Proofs.YtmcoaopcmjociaaDoor
open Go Go.RowKit Go.Sort

theorem heap_aB (w : World) (o1 o2 : Obj) : ((w.alloc o1).alloc o2).heap[w.heap.size + 1]? = some o2 := by
  have := heap_a0 (w.alloc o1) o2
  simpa using this

set_option maxRecDepth 100000 in
set_option maxHeartbeats 4000000 in
theorem write_rep (w0 : World) (wb d : Nat) (s0 s1 s2 s3 : Int) (t : Tree) (mn mx : Int) (A : Option Addr) (c : Nat) (hr : t.right = true) (hm0 : 0 ≤ mn) (hm1 : mn ≤ 16) (hmx : mx = -1 ∨ (1 ≤ mx ∧ mn ≤ mx ∧ mx ≤ 16)) (hkids : KidsIn w0 (d + 1) [t] A)
    (ih : ∀ (t : Tree) (A : Option Addr) (c : Nat), t.right = true → KidsIn w0 d t.kids A → WriteOK w0 wb t A c) : WriteOK w0 wb (.node 4 s0 s1 s2 s3 [t] mn mx) A c := by
  intro s w h0 hw hf
  have hwr : writeT (.node 4 s0 s1 s2 s3 [t] mn mx) s = oftenF t.cnt (writeT t) mn mx s := by simp [writeT, writeRep]
  have hsp : spotsN (.node 4 s0 s1 s2 s3 [t] mn mx) = if mx = -1 then spotsN t * (mn.toNat + 1) else spotsN t * mx.toNat := by simp [spotsN, spotsNs]
  rw [hsp] at hf
  rw [hwr]
  clear hsp hwr
  simp only [Tree.val, Tree.kind, Tree.s0, Tree.s1, Tree.s2, Tree.s3, Tree.kids, Tree.mn, Tree.mx, List.length_cons, List.length_nil, Nat.zero_add]
  have hfit := hw.fits
  have hb2 := ((Below.refl w.heap.size w).alloc (Nat.le_refl _) (Obj.cells #[.int .i64 4, .int .u64 s0, .int .u64 s1, .int .u64 s2, .int .u64 s3, .slice A 1 c, .int .i64 mn, .int .i64 mx] 27)).alloc (by simp) (Obj.cells #[.slice none 0 0, .slice none 0 0, .bool false] 52)
  have hcall := often_any w0 wb d s0 s1 s2 s3 t mn mx A c hr hm0 hm1 hmx hkids ih s ((w.alloc (Obj.cells #[.int .i64 4, .int .u64 s0, .int .u64 s1, .int .u64 s2, .int .u64 s3, .slice A 1 c, .int .i64 mn, .int .i64 mx] 27)).alloc (Obj.cells #[.slice none 0 0, .slice none 0 0, .bool false] 52)) (h0.trans (hb2.mono hfit)) (hw.below hb2) hf
  have hx2 := heap_aB w (Obj.cells #[.int .i64 4, .int .u64 s0, .int .u64 s1, .int .u64 s2, .int .u64 s3, .slice A 1 c, .int .i64 mn, .int .i64 mx] 27) (Obj.cells #[.slice none 0 0, .slice none 0 0, .bool false] 52)
  have Hb2 := Lib.hid hb2; have Hcall := Lib.hid hcall; have Hx2 := Lib.hid hx2
  clear hb2 hcall hx2 hw h0 hf hkids ih hr hmx hm0 hm1
  go_enter Tryd.func21, Tryd.ntmps21
  go_wp2_with fail
  refine Hcall.out.mono ?_
  rintro e w1 ⟨A3, c3, A4, c4, rfl, hq1, hW1, hK1⟩
  have hr1 := hK1.box Hx2.out (by decide) (by decide) (by decide)
  obtain ⟨e1, e2, e3, e4⟩ := part_end ((KW.ofBelow Hb2.out hfit).trans hK1) hW1 rfl hq1.1 hq1.2 hr1 (by omega) hfit
  obtain ⟨R0, R1, R2, Z0, Z1, Z2, _⟩ := part3 hr1
  have E1 := Lib.hid e1; have E2 := Lib.hid e2; have E3 := Lib.hid e3; have E4 := Lib.hid e4
  clear e1 e2 e3 e4 hq1 hW1 hK1 hr1
  go_wp2_with fail
  refine bodyPost_ret (ret_part rfl _ _ (w.heap.size + 1) _ _ _ (0, 0) rfl E1.out) rfl ?_
  exact Wrote.of ⟨_, rfl, E2.out, E3.out, E4.out⟩

theorem write_any (w0 : World) (wb : Nat) : ∀ (d : Nat) (T : Tree) (A : Option Addr) (c : Nat), T.right = true → KidsIn w0 d T.kids A → WriteOK w0 wb T A c := by
  intro d
  induction d with
  | zero => intro T A c _ h; exact h.elim
  | succ d ih =>
    intro T A c hr hk
    obtain ⟨k, s0, s1, s2, s3, l, mn, mx⟩ := T
    rcases Tree.right_kind hr with rfl | rfl | rfl | rfl
    · have := Tree.right_one hr rfl
      subst this
      intro s w h0 hw hf
      exact (write_one w0.heap.size wb s s0 s1 s2 s3 [] mn mx A c w hw (by simpa [spotsN] using hf)).mono fun _ _ h => Wrote.of h
    · exact write_cat w0 wb d 2 s0 s1 s2 s3 l mn mx A c (by decide) (by decide) (by decide) (Tree.right_kids hr) hk ih
    · exact write_alt w0 wb d s0 s1 s2 s3 l mn mx A c (Tree.right_kids hr) hk ih
    · obtain ⟨h1, h2, h3, h4⟩ := Tree.right_rep hr rfl
      match l, h1 with
      | [t], _ => exact write_rep w0 wb d s0 s1 s2 s3 t mn mx A c (Tree.right_kids hr t (by simp)) h2 h3 h4 hk ih
end Go.Proofs.YtmcoaopcmjociaaDoor

namespace Go.Proofs.YtmcoaopcmjociaaDoor
open Go Go.RowKit

/-- The set of one byte alone, as four words. -/
def byteS (b : Nat) : S4 := (if b / 64 = 0 then 2 ^ (b % 64) else 0, if b / 64 = 1 then 2 ^ (b % 64) else 0, if b / 64 = 2 then 2 ^ (b % 64) else 0, if b / 64 = 3 then 2 ^ (b % 64) else 0)
/-- The value of four words. -/
def setV (s : S4) : Value := .agg #[.int .u64 s.1, .int .u64 s.2.1, .int .u64 s.2.2.1, .int .u64 s.2.2.2]

theorem pow_lt64 (r : Nat) (h : r < 64) : (2 ^ r : Nat) < 18446744073709551616 := Nat.lt_of_lt_of_le (Nat.pow_lt_pow_right (by omega) h) (by decide)
theorem or_bit (r : Nat) (h : r < 64) : bits BinOp.or IntKind.u64 0 (IntKind.u64.wrap (2 ^ r)) = 2 ^ r := by
  have h1 := pow_lt64 r h
  rw [IntKind.wrap_u64, show ((2 : Int) ^ r) = ((2 ^ r : Nat) : Int) from (Int.natCast_pow 2 r).symm]
  generalize 2 ^ r = n at h1
  rw [Int.emod_eq_of_lt (b := 18446744073709551616) (Int.natCast_nonneg _) (by omega)]
  have := u64_or_nat 0 n (by decide) h1
  rw [Nat.zero_or] at this
  exact this
theorem box4 {w : World} {k : Nat} {v0 v1 v2 v3 : Value} {t : TypeId} (h : w.heap[k]? = some (.cells #[v0, v1, v2, v3] t (0, 0))) :
    (w.cell? ⟨k, 0, none⟩ = some v0 ∧ w.cell? ⟨k, 1, none⟩ = some v1 ∧ w.cell? ⟨k, 2, none⟩ = some v2 ∧ w.cell? ⟨k, 3, none⟩ = some v3) ∧
    w.frozen? ⟨k, 0, none⟩ = false ∧ w.frozen? ⟨k, 1, none⟩ = false ∧ w.frozen? ⟨k, 2, none⟩ = false ∧ w.frozen? ⟨k, 3, none⟩ = false ∧ k < w.heap.size :=
  ⟨⟨cell_of h rfl, cell_of h rfl, cell_of h rfl, cell_of h rfl⟩, frozen_of h, frozen_of h, frozen_of h, frozen_of h, (Array.getElem?_eq_some_iff.1 h).1⟩
abbrev set4 (w : World) (r : Nat) (v0 v1 v2 v3 : Value) : World := (((w.setCell ⟨r, 0, none⟩ v0).setCell ⟨r, 1, none⟩ v1).setCell ⟨r, 2, none⟩ v2).setCell ⟨r, 3, none⟩ v3
theorem heap_set4 {w : World} {r : Nat} {x0 x1 x2 x3 : Value} {t : TypeId} {m : Nat × Nat} (v0 v1 v2 v3 : Value) (h : w.heap[r]? = some (.cells #[x0, x1, x2, x3] t m)) : (set4 w r v0 v1 v2 v3).heap[r]? = some (.cells #[v0, v1, v2, v3] t m) :=
  heap_setCell_same _ r 3 v3 (heap_setCell_same _ r 2 v2 (heap_setCell_same _ r 1 v1 (heap_setCell_same _ r 0 v0 h)))
theorem below_set4 {B : Nat} {w w' : World} (hB : Below B w w') {r : Nat} (hr : B ≤ r) (v0 v1 v2 v3 : Value) : Below B w (set4 w' r v0 v1 v2 v3) :=
  (((hB.setCell hr v0).setCell hr v1).setCell hr v2).setCell hr v3
theorem setInfo : (Tryd.prog.info? 24).map (·.size) = some 4 := by kernel_rfl

set_option maxRecDepth 100000 in
theorem of_byte0 (b : Nat) (w : World) (hb : b < 256) (h : b / 64 = 0) :
    Calls Tryd.prog 81 #[.int .u8 b, .int .u8 b] w fun e w' => e = .returned (setV (byteS b)) ∧ Below w.heap.size w w' := by
  have h1 : (b : Int) / 64 = 0 := by omega
  have hS : Hid (setV (byteS b) = .agg #[.int .u64 (2 ^ (b % 64)), .int .u64 0, .int .u64 0, .int .u64 0]) := by simp [setV, byteS, h, Hid]
  have hor := Lib.hid (or_bit (b % 64) (by omega))
  clear h
  go_enter Tryd.func81, Tryd.ntmps81
  go_wp2_with fail
  go_loopw [6] (fun i wr => Hid (Below w.heap.size w wr) ∧ w.heap.size + 2 ≤ wr.heap.size ∧ Hid (wr.heap[w.heap.size]? = some (.cells #[.int .u64 0, .int .u64 0, .int .u64 0, .int .u64 0] 24 (0, 0))) ∧ ((i = .int .i64 b ∧ Hid (wr.heap[w.heap.size + 1]? = some (.cells #[.int .u64 0, .int .u64 0, .int .u64 0, .int .u64 0] 24 (0, 0)))) ∨
    (i = .int .i64 (b + 1) ∧ Hid (wr.heap[w.heap.size + 1]? = some (.cells #[.int .u64 (2 ^ (b % 64)), .int .u64 0, .int .u64 0, .int .u64 0] 24 (0, 0)))))) (fun i _ => (b + 1 - intOf i).toNat)
  case atStart => exact ⟨Lib.hid (((Below.refl _ _).alloc (Nat.le_refl _) _).alloc (by simp) _), by simp, Lib.hid (heap_a1 (heap_a0 _ _)), .inl ⟨rfl, Lib.hid (heap_aB _ _ _)⟩⟩
  case round =>
    obtain ⟨HB, hsz, H0, ⟨rfl, H1⟩ | ⟨rfl, H1⟩⟩ := hrel
    · have g1 := cell_of H1.out (j := 0) rfl
      have f1 := frozen_of H1.out (j := 0)
      go_wp2_with fail
      go_region
      rw [hor.out]
      have hs := heap_setCell_same (wr.drew) (w.heap.size + 1) 0 (.int .u64 (2 ^ (b % 64))) H1.out
      have h0 := (Below.heap_setCell wr.drew ⟨w.heap.size + 1, 0, none⟩ (.int .u64 (2 ^ (b % 64))) w.heap.size (by show w.heap.size ≠ w.heap.size + 1; omega)).trans H0.out
      have HB2 := Lib.hid ((HB.out.drew).setCell (p := ⟨w.heap.size + 1, 0, none⟩) (by simp) (.int .u64 (2 ^ (b % 64))))
      have HS := Lib.hid hs; have H0' := Lib.hid h0
      clear hs h0 g1 f1
      go_wp2_with fail
      go_roundw
      case rel => exact ⟨HB2, by simpa using hsz, H0', .inr ⟨by go_num, HS⟩⟩
      case measure => simp [intOf]
    · obtain ⟨⟨g0, g1, g2, g3⟩, _⟩ := box4 H1.out
      obtain ⟨⟨r0, r1, r2, r3⟩, z0, z1, z2, z3, hr⟩ := box4 H0.out
      have E1 := Lib.hid (heap_set4 (.int .u64 (2 ^ (b % 64))) (.int .u64 0) (.int .u64 0) (.int .u64 0) H0.out)
      have E2 := Lib.hid (below_set4 HB.out (Nat.le_refl _) (.int .u64 (2 ^ (b % 64))) (.int .u64 0) (.int .u64 0) (.int .u64 0))
      go_wp2_with fail
      refine bodyPost_ret (results_cell_row rfl _ _ w.heap.size 24 _ (0, 0) _ rfl E1.out Tryd.underlying24 rfl setInfo) rfl ?_
      exact ⟨by rw [hS.out], E2.out⟩
set_option maxRecDepth 100000 in
theorem of_byte1 (b : Nat) (w : World) (hb : b < 256) (h : b / 64 = 1) :
    Calls Tryd.prog 81 #[.int .u8 b, .int .u8 b] w fun e w' => e = .returned (setV (byteS b)) ∧ Below w.heap.size w w' := by
  have h1 : (b : Int) / 64 = 1 := by omega
  have hS : Hid (setV (byteS b) = .agg #[.int .u64 0, .int .u64 (2 ^ (b % 64)), .int .u64 0, .int .u64 0]) := by simp [setV, byteS, h, Hid]
  have hor := Lib.hid (or_bit (b % 64) (by omega))
  clear h
  go_enter Tryd.func81, Tryd.ntmps81
  go_wp2_with fail
  go_loopw [6] (fun i wr => Hid (Below w.heap.size w wr) ∧ w.heap.size + 2 ≤ wr.heap.size ∧ Hid (wr.heap[w.heap.size]? = some (.cells #[.int .u64 0, .int .u64 0, .int .u64 0, .int .u64 0] 24 (0, 0))) ∧ ((i = .int .i64 b ∧ Hid (wr.heap[w.heap.size + 1]? = some (.cells #[.int .u64 0, .int .u64 0, .int .u64 0, .int .u64 0] 24 (0, 0)))) ∨
    (i = .int .i64 (b + 1) ∧ Hid (wr.heap[w.heap.size + 1]? = some (.cells #[.int .u64 0, .int .u64 (2 ^ (b % 64)), .int .u64 0, .int .u64 0] 24 (0, 0)))))) (fun i _ => (b + 1 - intOf i).toNat)
  case atStart => exact ⟨Lib.hid (((Below.refl _ _).alloc (Nat.le_refl _) _).alloc (by simp) _), by simp, Lib.hid (heap_a1 (heap_a0 _ _)), .inl ⟨rfl, Lib.hid (heap_aB _ _ _)⟩⟩
  case round =>
    obtain ⟨HB, hsz, H0, ⟨rfl, H1⟩ | ⟨rfl, H1⟩⟩ := hrel
    · have g1 := cell_of H1.out (j := 1) rfl
      have f1 := frozen_of H1.out (j := 1)
      go_wp2_with fail
      go_region
      rw [hor.out]
      have hs := heap_setCell_same (wr.drew) (w.heap.size + 1) 1 (.int .u64 (2 ^ (b % 64))) H1.out
      have h0 := (Below.heap_setCell wr.drew ⟨w.heap.size + 1, 1, none⟩ (.int .u64 (2 ^ (b % 64))) w.heap.size (by show w.heap.size ≠ w.heap.size + 1; omega)).trans H0.out
      have HB2 := Lib.hid ((HB.out.drew).setCell (p := ⟨w.heap.size + 1, 1, none⟩) (by simp) (.int .u64 (2 ^ (b % 64))))
      have HS := Lib.hid hs; have H0' := Lib.hid h0
      clear hs h0 g1 f1
      go_wp2_with fail
      go_roundw
      case rel => exact ⟨HB2, by simpa using hsz, H0', .inr ⟨by go_num, HS⟩⟩
      case measure => simp [intOf]
    · obtain ⟨⟨g0, g1, g2, g3⟩, _⟩ := box4 H1.out
      obtain ⟨⟨r0, r1, r2, r3⟩, z0, z1, z2, z3, hr⟩ := box4 H0.out
      have E1 := Lib.hid (heap_set4 (.int .u64 0) (.int .u64 (2 ^ (b % 64))) (.int .u64 0) (.int .u64 0) H0.out)
      have E2 := Lib.hid (below_set4 HB.out (Nat.le_refl _) (.int .u64 0) (.int .u64 (2 ^ (b % 64))) (.int .u64 0) (.int .u64 0))
      go_wp2_with fail
      refine bodyPost_ret (results_cell_row rfl _ _ w.heap.size 24 _ (0, 0) _ rfl E1.out Tryd.underlying24 rfl setInfo) rfl ?_
      exact ⟨by rw [hS.out], E2.out⟩
set_option maxRecDepth 100000 in
theorem of_byte2 (b : Nat) (w : World) (hb : b < 256) (h : b / 64 = 2) :
    Calls Tryd.prog 81 #[.int .u8 b, .int .u8 b] w fun e w' => e = .returned (setV (byteS b)) ∧ Below w.heap.size w w' := by
  have h1 : (b : Int) / 64 = 2 := by omega
  have hS : Hid (setV (byteS b) = .agg #[.int .u64 0, .int .u64 0, .int .u64 (2 ^ (b % 64)), .int .u64 0]) := by simp [setV, byteS, h, Hid]
  have hor := Lib.hid (or_bit (b % 64) (by omega))
  clear h
  go_enter Tryd.func81, Tryd.ntmps81
  go_wp2_with fail
  go_loopw [6] (fun i wr => Hid (Below w.heap.size w wr) ∧ w.heap.size + 2 ≤ wr.heap.size ∧ Hid (wr.heap[w.heap.size]? = some (.cells #[.int .u64 0, .int .u64 0, .int .u64 0, .int .u64 0] 24 (0, 0))) ∧ ((i = .int .i64 b ∧ Hid (wr.heap[w.heap.size + 1]? = some (.cells #[.int .u64 0, .int .u64 0, .int .u64 0, .int .u64 0] 24 (0, 0)))) ∨
    (i = .int .i64 (b + 1) ∧ Hid (wr.heap[w.heap.size + 1]? = some (.cells #[.int .u64 0, .int .u64 0, .int .u64 (2 ^ (b % 64)), .int .u64 0] 24 (0, 0)))))) (fun i _ => (b + 1 - intOf i).toNat)
  case atStart => exact ⟨Lib.hid (((Below.refl _ _).alloc (Nat.le_refl _) _).alloc (by simp) _), by simp, Lib.hid (heap_a1 (heap_a0 _ _)), .inl ⟨rfl, Lib.hid (heap_aB _ _ _)⟩⟩
  case round =>
    obtain ⟨HB, hsz, H0, ⟨rfl, H1⟩ | ⟨rfl, H1⟩⟩ := hrel
    · have g1 := cell_of H1.out (j := 2) rfl
      have f1 := frozen_of H1.out (j := 2)
      go_wp2_with fail
      go_region
      rw [hor.out]
      have hs := heap_setCell_same (wr.drew) (w.heap.size + 1) 2 (.int .u64 (2 ^ (b % 64))) H1.out
      have h0 := (Below.heap_setCell wr.drew ⟨w.heap.size + 1, 2, none⟩ (.int .u64 (2 ^ (b % 64))) w.heap.size (by show w.heap.size ≠ w.heap.size + 1; omega)).trans H0.out
      have HB2 := Lib.hid ((HB.out.drew).setCell (p := ⟨w.heap.size + 1, 2, none⟩) (by simp) (.int .u64 (2 ^ (b % 64))))
      have HS := Lib.hid hs; have H0' := Lib.hid h0
      clear hs h0 g1 f1
      go_wp2_with fail
      go_roundw
      case rel => exact ⟨HB2, by simpa using hsz, H0', .inr ⟨by go_num, HS⟩⟩
      case measure => simp [intOf]
    · obtain ⟨⟨g0, g1, g2, g3⟩, _⟩ := box4 H1.out
      obtain ⟨⟨r0, r1, r2, r3⟩, z0, z1, z2, z3, hr⟩ := box4 H0.out
      have E1 := Lib.hid (heap_set4 (.int .u64 0) (.int .u64 0) (.int .u64 (2 ^ (b % 64))) (.int .u64 0) H0.out)
      have E2 := Lib.hid (below_set4 HB.out (Nat.le_refl _) (.int .u64 0) (.int .u64 0) (.int .u64 (2 ^ (b % 64))) (.int .u64 0))
      go_wp2_with fail
      refine bodyPost_ret (results_cell_row rfl _ _ w.heap.size 24 _ (0, 0) _ rfl E1.out Tryd.underlying24 rfl setInfo) rfl ?_
      exact ⟨by rw [hS.out], E2.out⟩
set_option maxRecDepth 100000 in
theorem of_byte3 (b : Nat) (w : World) (hb : b < 256) (h : b / 64 = 3) :
    Calls Tryd.prog 81 #[.int .u8 b, .int .u8 b] w fun e w' => e = .returned (setV (byteS b)) ∧ Below w.heap.size w w' := by
  have h1 : (b : Int) / 64 = 3 := by omega
  have hS : Hid (setV (byteS b) = .agg #[.int .u64 0, .int .u64 0, .int .u64 0, .int .u64 (2 ^ (b % 64))]) := by simp [setV, byteS, h, Hid]
  have hor := Lib.hid (or_bit (b % 64) (by omega))
  clear h
  go_enter Tryd.func81, Tryd.ntmps81
  go_wp2_with fail
  go_loopw [6] (fun i wr => Hid (Below w.heap.size w wr) ∧ w.heap.size + 2 ≤ wr.heap.size ∧ Hid (wr.heap[w.heap.size]? = some (.cells #[.int .u64 0, .int .u64 0, .int .u64 0, .int .u64 0] 24 (0, 0))) ∧ ((i = .int .i64 b ∧ Hid (wr.heap[w.heap.size + 1]? = some (.cells #[.int .u64 0, .int .u64 0, .int .u64 0, .int .u64 0] 24 (0, 0)))) ∨
    (i = .int .i64 (b + 1) ∧ Hid (wr.heap[w.heap.size + 1]? = some (.cells #[.int .u64 0, .int .u64 0, .int .u64 0, .int .u64 (2 ^ (b % 64))] 24 (0, 0)))))) (fun i _ => (b + 1 - intOf i).toNat)
  case atStart => exact ⟨Lib.hid (((Below.refl _ _).alloc (Nat.le_refl _) _).alloc (by simp) _), by simp, Lib.hid (heap_a1 (heap_a0 _ _)), .inl ⟨rfl, Lib.hid (heap_aB _ _ _)⟩⟩
  case round =>
    obtain ⟨HB, hsz, H0, ⟨rfl, H1⟩ | ⟨rfl, H1⟩⟩ := hrel
    · have g1 := cell_of H1.out (j := 3) rfl
      have f1 := frozen_of H1.out (j := 3)
      go_wp2_with fail
      go_region
      rw [hor.out]
      have hs := heap_setCell_same (wr.drew) (w.heap.size + 1) 3 (.int .u64 (2 ^ (b % 64))) H1.out
      have h0 := (Below.heap_setCell wr.drew ⟨w.heap.size + 1, 3, none⟩ (.int .u64 (2 ^ (b % 64))) w.heap.size (by show w.heap.size ≠ w.heap.size + 1; omega)).trans H0.out
      have HB2 := Lib.hid ((HB.out.drew).setCell (p := ⟨w.heap.size + 1, 3, none⟩) (by simp) (.int .u64 (2 ^ (b % 64))))
      have HS := Lib.hid hs; have H0' := Lib.hid h0
      clear hs h0 g1 f1
      go_wp2_with fail
      go_roundw
      case rel => exact ⟨HB2, by simpa using hsz, H0', .inr ⟨by go_num, HS⟩⟩
      case measure => simp [intOf]
    · obtain ⟨⟨g0, g1, g2, g3⟩, _⟩ := box4 H1.out
      obtain ⟨⟨r0, r1, r2, r3⟩, z0, z1, z2, z3, hr⟩ := box4 H0.out
      have E1 := Lib.hid (heap_set4 (.int .u64 0) (.int .u64 0) (.int .u64 0) (.int .u64 (2 ^ (b % 64))) H0.out)
      have E2 := Lib.hid (below_set4 HB.out (Nat.le_refl _) (.int .u64 0) (.int .u64 0) (.int .u64 0) (.int .u64 (2 ^ (b % 64))))
      go_wp2_with fail
      refine bodyPost_ret (results_cell_row rfl _ _ w.heap.size 24 _ (0, 0) _ rfl E1.out Tryd.underlying24 rfl setInfo) rfl ?_
      exact ⟨by rw [hS.out], E2.out⟩
theorem of_byte (b : Nat) (w : World) (hb : b < 256) :
    Calls Tryd.prog 81 #[.int .u8 b, .int .u8 b] w fun e w' => e = .returned (setV (byteS b)) ∧ Below w.heap.size w w' := by
  rcases (show b / 64 = 0 ∨ b / 64 = 1 ∨ b / 64 = 2 ∨ b / 64 = 3 by omega) with h | h | h | h
  · exact of_byte0 b w hb h
  · exact of_byte1 b w hb h
  · exact of_byte2 b w hb h
  · exact of_byte3 b w hb h
end Go.Proofs.YtmcoaopcmjociaaDoor

namespace Go.Proofs.YtmcoaopcmjociaaDoor
open Go Go.RowKit

/-- The reader's box: its text, its place, how many brackets are open. -/
def RAt (w : World) (rb : Nat) (s : ByteArray) (i o : Int) : Prop := w.heap[rb]? = some (.cells #[.string s, .int .i64 i, .int .i64 o] 72 (0, 0))
theorem RAt.cells {w : World} {rb : Nat} {s : ByteArray} {i o : Int} (h : RAt w rb s i o) : w.cell? ⟨rb, 0, none⟩ = some (.string s) ∧ w.cell? ⟨rb, 1, none⟩ = some (.int .i64 i) ∧ w.cell? ⟨rb, 2, none⟩ = some (.int .i64 o) ∧
    w.frozen? ⟨rb, 0, none⟩ = false ∧ w.frozen? ⟨rb, 1, none⟩ = false ∧ w.frozen? ⟨rb, 2, none⟩ = false ∧ rb < w.heap.size :=
  ⟨cell_of h rfl, cell_of h rfl, cell_of h rfl, frozen_of h, frozen_of h, frozen_of h, (Array.getElem?_eq_some_iff.1 h).1⟩

/-- What the reader's methods keep: all blocks below B but the reader's own. -/
structure KR (B rb : Nat) (w w' : World) : Prop where
  os : w'.os = w.os
  tape : w'.tape = w.tape
  output : w'.output = w.output
  size : w.heap.size ≤ w'.heap.size
  block : ∀ k, k < B → k ≠ rb → w'.heap[k]? = w.heap[k]?
theorem KR.refl (B rb : Nat) (w : World) : KR B rb w w := ⟨rfl, rfl, rfl, Nat.le_refl _, fun _ _ _ => rfl⟩
theorem KR.trans {B rb : Nat} {a b c : World} (h : KR B rb a b) (k : KR B rb b c) : KR B rb a c :=
  ⟨k.os.trans h.os, k.tape.trans h.tape, k.output.trans h.output, Nat.le_trans h.size k.size, fun i hi hr => (k.block i hi hr).trans (h.block i hi hr)⟩
theorem KR.mono {B B' rb : Nat} {a b : World} (h : KR B rb a b) (hB : B' ≤ B) : KR B' rb a b := ⟨h.os, h.tape, h.output, h.size, fun i hi hr => h.block i (by omega) hr⟩
theorem KR.of {B rb : Nat} {w w' : World} (h : Below B w w') : KR B rb w w' := ⟨h.os, h.tape, h.output, h.size, fun k hk _ => h.block k hk⟩
theorem KR.below {B rb : Nat} {w w' : World} (h : KR B rb w w') (hB : B ≤ rb) : Below B w w' := ⟨h.os, h.tape, h.output, h.size, fun k hk => h.block k hk (by omega)⟩
theorem KR.then {B rb : Nat} {a b c : World} (h : KR B rb a b) (hB : B ≤ b.heap.size) (k : KR b.heap.size rb b c) : KR B rb a c := h.trans (k.mono hB)
theorem KR.on {B rb : Nat} {a b c : World} (h : KR B rb a b) (hB : B ≤ b.heap.size) (k : Below b.heap.size b c) : KR B rb a c := h.trans (KR.of (k.mono hB))
theorem KR.drewN {B rb : Nat} {w w' : World} (h : KR B rb w w') (n : Nat) : KR B rb w (w'.drewN n) := h.trans ⟨rfl, rfl, rfl, Nat.le_refl _, fun _ _ _ => rfl⟩
theorem KR.setR {B rb : Nat} {w w' : World} (h : KR B rb w w') (j : Nat) (v : Value) : KR B rb w (w'.setCell ⟨rb, j, none⟩ v) :=
  h.trans ⟨rfl, rfl, rfl, by simp, fun k _ hr => Below.heap_setCell w' ⟨rb, j, none⟩ v k hr⟩
theorem KR.set {B rb : Nat} {w w' : World} (h : KR B rb w w') {g : Nat} (hg : B ≤ g) (j : Nat) (v : Value) : KR B rb w (w'.setCell ⟨g, j, none⟩ v) :=
  h.trans ⟨rfl, rfl, rfl, by simp, fun k hk _ => Below.heap_setCell w' ⟨g, j, none⟩ v k (by show k ≠ g; omega)⟩
theorem KR.alloc {B rb : Nat} {w w' : World} (h : KR B rb w w') (hB : B ≤ w'.heap.size) (o : Obj) : KR B rb w (w'.alloc o) := h.trans (KR.of ((Below.refl B w').alloc hB o))

theorem RAt.setI {w : World} {rb : Nat} {s : ByteArray} {i o : Int} (h : RAt w rb s i o) (j : Int) : RAt (w.setCell ⟨rb, 1, none⟩ (.int .i64 j)) rb s j o := heap_setCell_same w rb 1 _ h
theorem RAt.setO {w : World} {rb : Nat} {s : ByteArray} {i o : Int} (h : RAt w rb s i o) (j : Int) : RAt (w.setCell ⟨rb, 2, none⟩ (.int .i64 j)) rb s i j := heap_setCell_same w rb 2 _ h
theorem RAt.below {w w' : World} {rb : Nat} {s : ByteArray} {i o : Int} (h : RAt w rb s i o) (hb : Below w.heap.size w w') : RAt w' rb s i o := (hb.block rb (Array.getElem?_eq_some_iff.1 h).1).trans h
theorem RAt.lt {w : World} {rb : Nat} {s : ByteArray} {i o : Int} (h : RAt w rb s i o) : rb < w.heap.size := (Array.getElem?_eq_some_iff.1 h).1
theorem RAt.set {w : World} {rb : Nat} {s : ByteArray} {i o : Int} (h : RAt w rb s i o) {g : Nat} (hg : g ≠ rb) (j : Nat) (v : Value) : RAt (w.setCell ⟨g, j, none⟩ v) rb s i o :=
  (Below.heap_setCell w ⟨g, j, none⟩ v rb (by show rb ≠ g; omega)).trans h

/-- A block other than the reader's stays. -/
theorem KR.keep {rb : Nat} {w w' : World} (h : KR w.heap.size rb w w') {k : Nat} {o : Obj} (hk : w.heap[k]? = some o) (hr : k ≠ rb) : w'.heap[k]? = some o :=
  (h.block k (Array.getElem?_eq_some_iff.1 hk).1 hr).trans hk
theorem KR.cell {rb : Nat} {w w' : World} (h : KR w.heap.size rb w w') {a : Addr} {v : Value} (hc : w.cell? a = some v) (hr : a.block ≠ rb) : w'.cell? a = some v := by
  have hl := World.block_lt_of_cell? w _ hc
  have hb := h.block a.block hl hr
  rw [← hc]
  unfold World.cell?
  rw [hb]
theorem NodeAt.ne {w : World} {rb : Nat} {s : ByteArray} {i o : Int} (hR : RAt w rb s i o) {a : Addr} {T : Tree} {A : Option Addr} {c : Nat} (h : NodeAt w a T A c) : a.block ≠ rb := by
  intro he
  obtain ⟨h0, h1, _⟩ := h
  obtain ⟨b, off, sp⟩ := a
  simp only at he h0 h1
  subst he
  cases sp with
  | some k => exact cell?_spot h0
  | none =>
  unfold RAt at hR
  simp only [World.cell?, hR] at h0 h1
  match off, h0, h1 with
  | 0, h0, _ => simp at h0
  | 1, _, h1 => simp at h1
  | n + 2, _, h1 => simp at h1
theorem NodeAt.keepR {w w' : World} {rb : Nat} {s : ByteArray} {i o : Int} (hR : RAt w rb s i o) (hk : KR w.heap.size rb w w') {a : Addr} {T : Tree} {A : Option Addr} {c : Nat} (h : NodeAt w a T A c) : NodeAt w' a T A c := by
  have hn := h.ne hR
  obtain ⟨h0, h1, h2, h3, h4, h5, h6, h7⟩ := h
  exact ⟨hk.cell h0 hn, hk.cell h1 hn, hk.cell h2 hn, hk.cell h3 hn, hk.cell h4 hn, hk.cell h5 hn, hk.cell h6 hn, hk.cell h7 hn⟩
theorem KidsIn.keepR {w w' : World} {rb : Nat} {s : ByteArray} {i o : Int} (hR : RAt w rb s i o) (hk : KR w.heap.size rb w w') : ∀ {d : Nat} {l : List Tree} {A : Option Addr}, KidsIn w d l A → KidsIn w' d l A
  | 0, _, _, h => h
  | d + 1, l, A, h => ⟨h.1, fun i t ht => by
      obtain ⟨ad, A', c', hA, hc, hki⟩ := h.2 i t ht
      exact ⟨ad, A', c', hA, hc.keepR hR hk, KidsIn.keepR hR hk hki⟩⟩

set_option maxRecDepth 100000 in
theorem peek_end (rb : Nat) (s : ByteArray) (o : Int) (w : World) (h : RAt w rb s s.size o) (hs : s.size ≤ 1048576) :
    Calls Tryd.prog 50 #[.pointer (some ⟨rb, 0, none⟩)] w fun e w' => e = .returned (.int .i64 (-1)) ∧ Below w.heap.size w w' := by
  obtain ⟨r0, r1, r2, _⟩ := h.cells
  clear h
  go_enter Tryd.func50, Tryd.ntmps50
  go_wp2_with fail
  go_quiet (fail)
  go_wp2_with fail
  go_ret
  exact ⟨rfl, below_drewN (Below.refl _ _) _⟩
set_option maxRecDepth 100000 in
theorem peek_at (rb : Nat) (s : ByteArray) (i : Nat) (o : Int) (w : World) (h : RAt w rb s i o) (hi : i < s.size) (hs : s.size ≤ 1048576) :
    Calls Tryd.prog 50 #[.pointer (some ⟨rb, 0, none⟩)] w fun e w' => e = .returned (.int .i64 (s[i].toNat : Int)) ∧ Below w.heap.size w w' := by
  obtain ⟨r0, r1, r2, _⟩ := h.cells
  clear h
  have hb := s[i].toNat_lt
  go_enter Tryd.func50, Tryd.ntmps50
  go_wp2_with fail
  go_quiet (fail)
  go_wp2_with fail
  go_quiet (fail)
  go_wp2_with fail
  go_ret
  exact ⟨rfl, below_drewN (below_drewN (Below.refl _ _) _) _⟩

/-- What stands at a place: a byte's number, or -1 at the end. -/
def peekN (s : ByteArray) (i : Nat) : Int := if h : i < s.size then (s[i].toNat : Int) else -1
theorem peekN_bd (s : ByteArray) (i : Nat) : -1 ≤ peekN s i ∧ peekN s i ≤ 255 := by
  unfold peekN
  split
  · rename_i h
    have := s[i].toNat_lt
    omega
  · omega
theorem peek_any (rb : Nat) (s : ByteArray) (i : Nat) (o : Int) (w : World) (h : RAt w rb s i o) (hi : i ≤ s.size) (hs : s.size ≤ 1048576) :
    Calls Tryd.prog 50 #[.pointer (some ⟨rb, 0, none⟩)] w fun e w' => e = .returned (.int .i64 (peekN s i)) ∧ Below w.heap.size w w' := by
  by_cases h1 : i < s.size
  · have e : peekN s i = (s[i].toNat : Int) := dif_pos h1
    rw [e]
    exact peek_at rb s i o w h h1 hs
  · obtain rfl : i = s.size := by omega
    have e : peekN s s.size = -1 := dif_neg (by omega)
    rw [e]
    exact peek_end rb s o w h hs

set_option maxRecDepth 100000 in
/-- need, where the byte stands. -/
theorem need_any (rb : Nat) (s : ByteArray) (i : Nat) (o : Int) (b : Int) (w : World) (h : RAt w rb s i o) (hi : i < s.size) (hs : s.size ≤ 1048576) (hb : peekN s i = b) (hb0 : 0 ≤ b) :
    Calls Tryd.prog 69 #[.pointer (some ⟨rb, 0, none⟩), .int .u8 b] w fun e w' => e = .returned (.tuple #[]) ∧ RAt w' rb s (i + 1) o ∧ KR w.heap.size rb w w' := by
  have hp := Lib.hid (peek_any rb s i o w h (by omega) hs)
  have hbd := peekN_bd s i
  rw [hb] at hp hbd
  have H := Lib.hid h
  clear h hb
  go_enter Tryd.func69, Tryd.ntmps69
  go_wp2_with fail
  refine hp.out.mono ?_
  rintro e w1 ⟨rfl, hB⟩
  have h1 := H.out.below hB
  obtain ⟨r0, r1, r2, f0, f1, f2, hl⟩ := h1.cells
  have E1 := Lib.hid (h1.setI (i + 1))
  have E2 := Lib.hid ((KR.of (rb := rb) hB).setR 1 (.int .i64 (i + 1)))
  clear h1 hB
  go_wp2_with fail
  go_end0
  exact ⟨rfl, E1.out, E2.out⟩
end Go.Proofs.YtmcoaopcmjociaaDoor

namespace Go.Proofs.YtmcoaopcmjociaaDoor
open Go Go.RowKit

theorem block_add' (a : Addr) (i : Nat) : (a.add i).block = a.block := by unfold Addr.add; split <;> rfl
/-- All kids of a tree lie in memory at A, down to depth d, in blocks of P. -/
def KidsP (P : Nat → Prop) (w : World) : Nat → List Tree → Option Addr → Prop
  | 0, _, _ => False
  | d + 1, l, A => l.length ≤ 17592186044416 ∧ ∀ i t, l[i]? = some t → ∃ ad A' c', A = some ad ∧ P ad.block ∧ NodeAt w (ad.add (i * 8)) t A' c' ∧ KidsP P w d t.kids A'
theorem KidsP.in {P : Nat → Prop} {w : World} : ∀ {d : Nat} {l : List Tree} {A : Option Addr}, KidsP P w d l A → KidsIn w d l A
  | 0, _, _, h => h
  | d + 1, l, A, h => ⟨h.1, fun i t ht => by
      obtain ⟨ad, A', c', hA, _, hc, hk⟩ := h.2 i t ht
      exact ⟨ad, A', c', hA, hc, KidsP.in hk⟩⟩
theorem KidsP.mono {P P' : Nat → Prop} {w : World} (hP : ∀ k, P k → k < w.heap.size → P' k) : ∀ {d : Nat} {l : List Tree} {A : Option Addr}, KidsP P w d l A → KidsP P' w d l A
  | 0, _, _, h => h
  | d + 1, l, A, h => ⟨h.1, fun i t ht => by
      obtain ⟨ad, A', c', hA, hp, hc, hk⟩ := h.2 i t ht
      have hl : ad.block < w.heap.size := by have := World.block_lt_of_cell? w _ hc.1; rwa [block_add'] at this
      exact ⟨ad, A', c', hA, hP _ hp hl, hc, KidsP.mono hP hk⟩⟩
theorem KidsP.deeper {P : Nat → Prop} {w : World} : ∀ {d d' : Nat} {l : List Tree} {A : Option Addr}, KidsP P w d l A → d ≤ d' → KidsP P w d' l A
  | 0, _, _, _, h, _ => h.elim
  | d + 1, 0, _, _, _, h' => by omega
  | d + 1, d' + 1, l, A, h, h' => ⟨h.1, fun i t ht => by
      obtain ⟨ad, A', c', hA, hp, hc, hk⟩ := h.2 i t ht
      exact ⟨ad, A', c', hA, hp, hc, KidsP.deeper hk (by omega)⟩⟩
theorem cell_same {w w' : World} {a : Addr} {v : Value} (hb : w'.heap[a.block]? = w.heap[a.block]?) (h : w.cell? a = some v) : w'.cell? a = some v := by
  rw [← h]
  unfold World.cell?
  rw [hb]
theorem NodeAt.same {w w' : World} {a : Addr} {T : Tree} {A : Option Addr} {c : Nat} (hb : w'.heap[a.block]? = w.heap[a.block]?) (h : NodeAt w a T A c) : NodeAt w' a T A c := by
  obtain ⟨h0, h1, h2, h3, h4, h5, h6, h7⟩ := h
  exact ⟨cell_same hb h0, cell_same hb h1, cell_same hb h2, cell_same hb h3, cell_same hb h4, cell_same hb h5, cell_same hb h6, cell_same hb h7⟩
theorem KidsP.keep {P : Nat → Prop} {w w' : World} (hP : ∀ k, P k → k < w.heap.size → w'.heap[k]? = w.heap[k]?) : ∀ {d : Nat} {l : List Tree} {A : Option Addr}, KidsP P w d l A → KidsP P w' d l A
  | 0, _, _, h => h
  | d + 1, l, A, h => ⟨h.1, fun i t ht => by
      obtain ⟨ad, A', c', hA, hp, hc, hk⟩ := h.2 i t ht
      have hl : ad.block < w.heap.size := by have := World.block_lt_of_cell? w _ hc.1; rwa [block_add'] at this
      exact ⟨ad, A', c', hA, hp, hc.same (by rw [block_add']; exact hP _ hp hl), KidsP.keep hP hk⟩⟩
theorem KidsP.below {P : Nat → Prop} {w w' : World} {d : Nat} {l : List Tree} {A : Option Addr} (h : KidsP P w d l A) (hb : Below w.heap.size w w') : KidsP P w' d l A := h.keep fun k _ hk => hb.block k hk
theorem KidsP.nil (P : Nat → Prop) (w : World) (d : Nat) (A : Option Addr) : KidsP P w (d + 1) [] A := ⟨by simp, fun i t h => by simp at h⟩

/-- A node's eight cells. -/
def nodeC (t : Tree) (k : Option Addr × Nat) : List Value := [.int .i64 t.kind, .int .u64 t.s0, .int .u64 t.s1, .int .u64 t.s2, .int .u64 t.s3, .slice k.1 t.kids.length k.2, .int .i64 t.mn, .int .i64 t.mx]
def nodesC : List Tree → List (Option Addr × Nat) → List Value
  | t :: ts, k :: ks => nodeC t k ++ nodesC ts ks
  | _, _ => []
theorem nodesC_snoc (t : Tree) (k : Option Addr × Nat) : ∀ (ts : List Tree) (ks : List (Option Addr × Nat)), ks.length = ts.length → nodesC (ts ++ [t]) (ks ++ [k]) = nodesC ts ks ++ nodeC t k
  | [], [], _ => by simp [nodesC]
  | x :: ts, y :: ks, h => by
    simp only [List.cons_append, nodesC, List.append_assoc]
    rw [nodesC_snoc t k ts ks (by simpa using h)]
theorem nodesC_get : ∀ (ts : List Tree) (ks : List (Option Addr × Nat)) (i : Nat) (t : Tree) (k : Option Addr × Nat), ts[i]? = some t → ks[i]? = some k → ∀ j, j < 8 → (nodesC ts ks)[i * 8 + j]? = (nodeC t k)[j]?
  | x :: ts, y :: ks, 0, t, k, ht, hk, j, hj => by
    simp at ht hk
    subst ht hk
    simp only [nodesC, Nat.zero_mul, Nat.zero_add]
    rw [List.getElem?_append_left (by simpa [nodeC] using hj)]
  | x :: ts, y :: ks, i + 1, t, k, ht, hk, j, hj => by
    simp only [nodesC]
    rw [List.getElem?_append_right (by simp [nodeC]; omega)]
    have e : (i + 1) * 8 + j - (nodeC x y).length = i * 8 + j := by simp [nodeC]; omega
    rw [e]
    exact nodesC_get ts ks i t k (by simpa using ht) (by simpa using hk) j hj
  | [], _, i, t, k, ht, _, j, hj => by simp at ht
  | x :: ts, [], i, t, k, _, hk, j, hj => by simp at hk

/-- Blocks of P other than a row's own. -/
def rowP (P : Nat → Prop) (A : Option Addr) (k : Nat) : Prop := P k ∧ ∀ a, A = some a → k ≠ a.block
/-- A row of nodes that the call owns; their kids lie in blocks of P. -/
structure NRow (B : Nat) (P : Nat → Prop) (w : World) (d : Nat) (A : Option Addr) (c : Nat) (ts : List Tree) (ks : List (Option Addr × Nat)) : Prop where
  len : ks.length = ts.length
  row : w.ownsRow B 27 8 (.slice A ts.length c) ts.length (nodesC ts ks)
  each : ∀ (i : Nat) (t : Tree) (k : Option Addr × Nat), ts[i]? = some t → ks[i]? = some k → KidsP (rowP P A) w d t.kids k.1
variable {B : Nat} {P : Nat → Prop} {w w' : World} {d : Nat} {A : Option Addr} {c : Nat} {ts : List Tree} {ks : List (Option Addr × Nat)}
theorem NRow.nil (B : Nat) (P : Nat → Prop) (w : World) (d : Nat) : NRow B P w d none 0 [] [] := ⟨rfl, ⟨by simp [nodesC], .inl ⟨rfl, rfl⟩⟩, fun i t k h => by simp at h⟩
theorem own_same {base : Nat} {e : TypeId} {size : Nat} {v : Value} {n : Nat} {xs : List Value} (h : w.ownsRow base e size v n xs) (hk : ∀ k, base ≤ k → k < w.heap.size → w'.heap[k]? = w.heap[k]?) : w'.ownsRow base e size v n xs := by
  obtain ⟨h1, h2⟩ := h
  refine ⟨h1, ?_⟩
  rcases h2 with h2 | ⟨g, cap, cur, rfl, hg, hh, r⟩
  · exact .inl h2
  · exact .inr ⟨g, cap, cur, rfl, hg, (hk g hg (Array.getElem?_eq_some_iff.1 hh).1).trans hh, r⟩
theorem NRow.keep (h : NRow B P w d A c ts ks) (hk : ∀ k, B ≤ k ∨ P k → k < w.heap.size → w'.heap[k]? = w.heap[k]?) : NRow B P w' d A c ts ks :=
  ⟨h.len, own_same h.row fun k hB hl => hk k (.inl hB) hl, fun i t k h1 h2 => (h.each i t k h1 h2).keep fun k hp hl => hk k (.inr hp.1) hl⟩
theorem NRow.below (h : NRow B P w d A c ts ks) (hb : Below w.heap.size w w') : NRow B P w' d A c ts ks := h.keep fun k _ hl => hb.block k hl
theorem NRow.keepR {rb : Nat} (h : NRow B P w d A c ts ks) (hb : KR w.heap.size rb w w') (hr : rb < B) (hP : ∀ k, P k → k ≠ rb) : NRow B P w' d A c ts ks :=
  h.keep fun k hB hl => hb.block k hl (by rcases hB with hB | hB; omega; exact hP k hB)
theorem NRow.setR {g : Nat} (h : NRow B P w d A c ts ks) (hg : g < B) (hP : ∀ k, P k → k ≠ g) (j : Nat) (v : Value) : NRow B P (w.setCell ⟨g, j, none⟩ v) d A c ts ks :=
  h.keep fun k hB _ => Below.heap_setCell w ⟨g, j, none⟩ v k (by show k ≠ g; rcases hB with hB | hB; omega; exact hP k hB)
/-- The row's block. -/
theorem NRow.block (h : NRow B P w d A c ts ks) (a : Addr) (ha : A = some a) : B ≤ a.block ∧ a.block < w.heap.size := by
  subst ha
  rcases h.row.2 with ⟨he, _⟩ | ⟨g, cap, cur, he, hg, hh, _⟩
  · injection he with h1 _ _; cases h1
  · injection he with h1 _ _
    injection h1 with h1
    subst h1
    exact ⟨hg, (Array.getElem?_eq_some_iff.1 hh).1⟩
/-- One node more. -/
theorem NRow.add (h : NRow B P w d A c ts ks) {T : Tree} {k : Option Addr × Nat} {g cap : Nat}
    (ho : w'.ownsRow B 27 8 (.slice (some ⟨g, 0, none⟩) (ts.length + 1) cap) (ts.length + 1) (nodesC ts ks ++ nodeC T k)) (hg : w.grownBy w' (Value.slice A ts.length c).ownBlock) (hat : (Value.slice A ts.length c).ownBlock = some g ∨ g = w.heap.size)
    (hT : KidsP (rowP P A) w d T.kids k.1) : NRow B P w' d (some ⟨g, 0, none⟩) cap (ts ++ [T]) (ks ++ [k]) := by
  have hsame : ∀ j, rowP P A j → j < w.heap.size → w'.heap[j]? = w.heap[j]? := by
    intro j hj hl
    refine hg.block j hl fun e => ?_
    cases A with
    | none => simp [Value.ownBlock] at e
    | some a =>
      have : a.block = j := by simpa [Value.ownBlock] using e.symm
      exact hj.2 a rfl this.symm
  have hkeep : ∀ {l : List Tree} {A' : Option Addr}, KidsP (rowP P A) w d l A' → KidsP (rowP P (some ⟨g, 0, none⟩)) w' d l A' := by
    intro l A' hl
    have h1 : KidsP (fun j => rowP P A j ∧ j < w.heap.size) w d l A' := hl.mono fun j hj hlt => ⟨hj, hlt⟩
    refine (h1.keep fun j hj _ => hsame j hj.1 hj.2).mono fun j hj _ => ⟨hj.1.1, fun a ha => ?_⟩
    injection ha with ha
    subst ha
    show j ≠ g
    rcases hat with e | e
    · cases A with
      | none => simp [Value.ownBlock] at e
      | some a =>
        have : a.block = g := by simpa [Value.ownBlock] using e
        exact fun hjg => hj.1.2 a rfl (by omega)
    · have := hj.2; omega
  refine ⟨by simp [h.len], ?_, fun i t q h1 h2 => ?_⟩
  · rw [nodesC_snoc T k ts ks h.len, List.length_append]
    exact ho
  · rcases Nat.lt_or_ge i ts.length with hi | hi
    · rw [List.getElem?_append_left hi] at h1
      rw [List.getElem?_append_left (by rw [h.len]; exact hi)] at h2
      exact hkeep (h.each i t q h1 h2)
    · have hin : i = ts.length := by
        have := (List.getElem?_eq_some_iff.1 h1).1
        simp at this; omega
      subst hin
      rw [List.getElem?_append_right (Nat.le_refl _)] at h1
      rw [List.getElem?_append_right (by rw [h.len]; exact Nat.le_refl _), h.len] at h2
      simp at h1 h2
      subst h1 h2
      exact hkeep hT
/-- The cells of node i. -/
theorem NRow.node (h : NRow B P w d A c ts ks) (i : Nat) (t : Tree) (k : Option Addr × Nat) (ht : ts[i]? = some t) (hk : ks[i]? = some k) : ∃ g, A = some ⟨g, 0, none⟩ ∧ B ≤ g ∧ NodeAt w ⟨g, i * 8, none⟩ t k.1 k.2 := by
  have hi : i < ts.length := (List.getElem?_eq_some_iff.1 ht).1
  rcases h.row.2 with ⟨he, h0⟩ | ⟨g, cap, cur, he, hg, hh, _⟩
  · omega
  · injection he with h1 _ _
    subst h1
    refine ⟨g, rfl, hg, ?_⟩
    have hc := fun j hj u (hu : (nodeC t k)[j]? = some u) => h.row.cells (g := g) rfl (i * 8 + j) u ((nodesC_get ts ks i t k ht hk j hj).trans hu)
    have e : ∀ j, (⟨g, 0, none⟩ : Addr).add j = ⟨g, j, none⟩ := fun j => by rw [addr_add, Nat.zero_add]
    simp only [e] at hc
    exact ⟨hc 0 (by omega) _ rfl, hc 1 (by omega) _ rfl, hc 2 (by omega) _ rfl, hc 3 (by omega) _ rfl, hc 4 (by omega) _ rfl, hc 5 (by omega) _ rfl, hc 6 (by omega) _ rfl, hc 7 (by omega) _ rfl⟩
theorem NRow.getk (h : NRow B P w d A c ts ks) (i : Nat) (hi : i < ts.length) : ∃ k, ks[i]? = some k := ⟨ks[i]'(by rw [h.len]; exact hi), List.getElem?_eq_getElem _⟩
/-- The row, as kids of a node. -/
theorem NRow.kids (h : NRow B P w d A c ts ks) (hl : ts.length ≤ 17592186044416) : KidsP (fun k => B ≤ k ∨ P k) w (d + 1) ts A := by
  refine ⟨hl, fun i t ht => ?_⟩
  obtain ⟨k, hk⟩ := h.getk i (List.getElem?_eq_some_iff.1 ht).1
  obtain ⟨g, rfl, hg, hn⟩ := h.node i t k ht hk
  refine ⟨⟨g, 0, none⟩, k.1, k.2, rfl, .inl hg, ?_, (h.each i t k ht hk).mono fun j hj _ => .inr hj.1⟩
  have e : (⟨g, 0, none⟩ : Addr).add (i * 8) = ⟨g, i * 8, none⟩ := by rw [addr_add, Nat.zero_add]
  rw [e]
  exact hn
end Go.Proofs.YtmcoaopcmjociaaDoor
