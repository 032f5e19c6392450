/- The writer of spots: its state in memory, what its methods keep; next, behind. (*writer).next and (*writer).behind. (*writer).behind. -/
import Derived.Test.YtmcoaopcmjociaaDoorZt3
import Derived.Test.YtmcoaopcmjociaaDoorZt1
import Derived.Deep.RegionHeld3
import Derived.Outline
import Derived.Deep.RegionWith
import Derived.Deep.RegionLaw
namespace Go.Proofs.YtmcoaopcmjociaaDoor
open Go Go.RowKit Go.Sort

/-- What a call of the writer keeps: everything below B, and all blocks but the writer's own (rows of sets, rows of lists, the writer). -/
structure KW (B : Nat) (w w' : World) : Prop where
  os : w'.os = w.os
  tape : w'.tape = w.tape
  output : w'.output = w.output
  size : w.heap.size ≤ w'.heap.size
  old : ∀ k, k < B → w'.heap[k]? = w.heap[k]?
  typed : ∀ k t, Ty w t k → t ≠ 24 → t ≠ 32 → t ≠ 50 → w'.heap[k]? = w.heap[k]?
theorem KW.refl (B : Nat) (w : World) : KW B w w := ⟨rfl, rfl, rfl, Nat.le_refl _, fun _ _ => rfl, fun _ _ _ _ _ _ => rfl⟩
theorem KW.trans {B : Nat} {a b c : World} (h : KW B a b) (k : KW B b c) : KW B a c :=
  ⟨k.os.trans h.os, k.tape.trans h.tape, k.output.trans h.output, Nat.le_trans h.size k.size, fun i hi => (k.old i hi).trans (h.old i hi),
    fun i t ht h1 h2 h3 => (k.typed i t (ht.same (h.typed i t ht h1 h2 h3)) h1 h2 h3).trans (h.typed i t ht h1 h2 h3)⟩
theorem KW.ofBelow {B : Nat} {w w' : World} (h : Below w.heap.size w w') (hB : B ≤ w.heap.size) : KW B w w' :=
  ⟨h.os, h.tape, h.output, h.size, fun k hk => h.block k (by omega), fun k t ht _ _ _ => h.block k ht.lt⟩
theorem KW.below {B : Nat} {w w' : World} (h : KW B w w') : Below B w w' := ⟨h.os, h.tape, h.output, h.size, fun k hk => h.old k hk⟩
theorem KW.keep3 {B : Nat} {w w' : World} (h : KW B w w') : Keep3 w w' := ⟨h.size, fun k hk => h.typed k _ hk (by decide) (by decide) (by decide)⟩
/-- A block that a caller holds stays as it is. -/
theorem KW.box {B : Nat} {w w' : World} (h : KW B w w') {k : Nat} {cs : Array Value} {t : TypeId} {m : Nat × Nat} (hk : w.heap[k]? = some (.cells cs t m)) (h1 : t ≠ 24) (h2 : t ≠ 32) (h3 : t ≠ 50) : w'.heap[k]? = some (.cells cs t m) :=
  (h.typed k t ⟨cs, m, hk⟩ h1 h2 h3).trans hk
theorem KW.setCell {B : Nat} {w w' : World} (h : KW B w w') {g : Nat} {t : TypeId} (ht : Ty w' t g) (hg : B ≤ g) (ht' : t = 24 ∨ t = 32 ∨ t = 50) (j : Nat) (u : Value) : KW B w (w'.setCell ⟨g, j, none⟩ u) := by
  refine h.trans ⟨rfl, rfl, rfl, by simp, fun k hk => Below.heap_setCell w' ⟨g, j, none⟩ u k (by show k ≠ g; omega), fun k t' hk h1 h2 h3 => Below.heap_setCell w' ⟨g, j, none⟩ u k ?_⟩
  exact hk.ne ht (by rintro rfl; rcases ht' with h | h | h <;> contradiction)
theorem KW.drewN {B : Nat} {w w' : World} (h : KW B w w') (n : Nat) : KW B w (w'.drewN n) := h.trans ⟨rfl, rfl, rfl, Nat.le_refl _, fun _ _ => rfl, fun _ _ _ _ _ _ => rfl⟩
theorem heap_setCell_same (w : World) (g j : Nat) (u : Value) {cs : Array Value} {t : TypeId} {m : Nat × Nat} (h : w.heap[g]? = some (.cells cs t m)) : (w.setCell ⟨g, j, none⟩ u).heap[g]? = some (.cells (cs.setIfInBounds j u) t m) := by
  simp [World.setCell, Array.getElem?_modify, h]

def cells4 (l : List S4) : List Value := l.flatMap fun s => [.int .u64 s.1, .int .u64 s.2.1, .int .u64 s.2.2.1, .int .u64 s.2.2.2]
theorem cells4_len (l : List S4) : (cells4 l).length = l.length * 4 := by
  induction l with
  | nil => rfl
  | cons s l ih => simp [cells4] at ih ⊢; omega
theorem cells4_snoc (l : List S4) (s : S4) : cells4 (l ++ [s]) = cells4 l ++ [.int .u64 s.1, .int .u64 s.2.1, .int .u64 s.2.2.1, .int .u64 s.2.2.2] := by simp [cells4]

/-- The writer lies at block wb; its rows lie from B on. -/
structure WAt (B wb : Nat) (w : World) (s : St) (Sv Nv : Value) (vs : List Value) : Prop where
  base : B ≤ wb
  fits : B ≤ w.heap.size
  box : w.heap[wb]? = some (.cells #[Sv, .bool false, .slice none 0 0, .slice none 0 0, Nv] 50 (0, 0))
  sets : w.ownsRow B 24 4 Sv s.sets.length (cells4 s.sets)
  next : w.ownsRow B 32 1 Nv s.next.length vs
  each : ∀ (i : Nat) (v : Value) (xs : List Int), vs[i]? = some v → s.next[i]? = some xs → IRT w v xs
  good : GoodSt s
  few : s.sets.length ≤ 512
def WInv (B wb : Nat) (w : World) (s : St) : Prop := ∃ Sv Nv vs, WAt B wb w s Sv Nv vs

theorem own_keep {w w' : World} {base : Nat} {e : TypeId} {size : Nat} {v : Value} {n : Nat} {xs : List Value} (h : w.ownsRow base e size v n xs) (hk : ∀ k, Ty w e k → base ≤ k → w'.heap[k]? = w.heap[k]?) : w'.ownsRow base e size v n xs := by
  obtain ⟨h1, h2⟩ := h
  refine ⟨h1, ?_⟩
  rcases h2 with h2 | ⟨g, cap, cur, rfl, hg, hh, r⟩
  · exact .inl h2
  · exact .inr ⟨g, cap, cur, rfl, hg, (hk g ⟨cur, _, hh⟩ hg).trans hh, r⟩
theorem WAt.below {B wb : Nat} {w w' : World} {s : St} {Sv Nv : Value} {vs : List Value} (h : WAt B wb w s Sv Nv vs) (hb : Below w.heap.size w w') : WAt B wb w' s Sv Nv vs :=
  ⟨h.base, Nat.le_trans h.fits hb.size, (hb.block wb (Array.getElem?_eq_some_iff.1 h.box).1).trans h.box, own_keep h.sets fun k hk _ => hb.block k hk.lt, own_keep h.next fun k hk _ => hb.block k hk.lt,
    fun i v xs h1 h2 => IRT.below (h.each i v xs h1 h2) hb, h.good, h.few⟩
theorem WInv.below {B wb : Nat} {w w' : World} {s : St} (h : WInv B wb w s) (hb : Below w.heap.size w w') : WInv B wb w' s := by
  obtain ⟨Sv, Nv, vs, h⟩ := h
  exact ⟨Sv, Nv, vs, h.below hb⟩
theorem WAt.vlen {B wb : Nat} {w : World} {s : St} {Sv Nv : Value} {vs : List Value} (h : WAt B wb w s Sv Nv vs) : vs.length = s.next.length := by simpa using h.next.1
/-- The row of lists, where there is one. -/
theorem WAt.nform {B wb : Nat} {w : World} {s : St} {Sv Nv : Value} {vs : List Value} (h : WAt B wb w s Sv Nv vs) (h0 : 0 < s.next.length) : ∃ g cap, Nv = .slice (some ⟨g, 0, none⟩) s.next.length cap ∧ Ty w 32 g ∧ B ≤ g ∧ s.next.length ≤ cap ∧
    (∀ (i : Nat) (v : Value), vs[i]? = some v → w.cell? ⟨g, i, none⟩ = some v) ∧ ∀ i : Nat, w.frozen? ⟨g, i, none⟩ = false := by
  have hn := h.next
  rcases hn.2 with ⟨_, h1⟩ | ⟨g, cap, cur, he, hg, hh, hc, _⟩
  · omega
  · subst he
    refine ⟨g, cap, rfl, ⟨cur, _, hh⟩, hg, hc, fun i v hv => ?_, fun i => hn.frozenAt i⟩
    have := hn.cells (g := g) rfl i v hv
    rwa [addr_add, Nat.zero_add] at this
theorem WAt.stored {B wb : Nat} {w w1 : World} {s : St} {Sv Nv : Value} {vs : List Value} (h : WAt B wb w s Sv Nv vs) (hb : Below w.heap.size w w1) {g cap : Nat} (hN : Nv = .slice (some ⟨g, 0, none⟩) s.next.length cap) (hg : Ty w 32 g) (hB : B ≤ g)
    (i : Nat) (hi : i < s.next.length) {v : Value} {xs : List Int} (hv : IRT w1 v xs) (hx : Good s.sets.length xs) :
    WAt B wb (w1.setCell ⟨g, i, none⟩ v) { s with next := s.next.set i xs } Sv Nv (vs.set i v) ∧ KW B w (w1.setCell ⟨g, i, none⟩ v) := by
  have h1 := h.below hb
  have hg1 : Ty w1 32 g := hg.same (hb.block g hg.lt)
  have hoth : ∀ k, k ≠ g → (w1.setCell ⟨g, i, none⟩ v).heap[k]? = w1.heap[k]? := fun k hk => Below.heap_setCell w1 ⟨g, i, none⟩ v k hk
  have hk3 : Keep3 w1 (w1.setCell ⟨g, i, none⟩ v) := ⟨by simp, fun k hk => hoth k (hk.ne hg1 (by decide))⟩
  refine ⟨⟨h.base, by simpa using h1.fits, ?_, own_keep h1.sets fun k hk _ => hoth k (hk.ne hg1 (by decide)), ?_, fun j u ys h2 h3 => ?_, ⟨by simpa using h.good.len, fun l hl => ?_⟩, h.few⟩, ?_⟩
  · have hne : wb ≠ g := Ty.ne ⟨_, _, h1.box⟩ hg1 (by decide)
    exact (hoth wb hne).trans h1.box
  · have := h1.next
    rw [hN] at this ⊢
    have hs := (this.stored i v).1
    simpa using hs
  · by_cases hij : j = i
    · subst hij
      rw [List.getElem?_set_self (by rw [h.vlen]; exact hi)] at h2
      rw [List.getElem?_set_self hi] at h3
      obtain rfl := Option.some.inj h2
      obtain rfl := Option.some.inj h3
      exact hv.keep hk3
    · rw [List.getElem?_set_ne (Ne.symm hij)] at h2 h3
      exact (h1.each j u ys h2 h3).keep hk3
  · rcases List.mem_or_eq_of_mem_set hl with h2 | h2
    · exact h.good.good l h2
    · exact h2 ▸ hx
  · exact (KW.ofBelow hb h.fits).setCell hg1 hB (.inr (.inl rfl)) i v

theorem foldl_take_succ {α β : Type} (f : β → α → β) (b : β) (l : List α) (j : Nat) (h : j < l.length) : (l.take (j + 1)).foldl f b = f ((l.take j).foldl f b) l[j] := by
  rw [List.take_succ_eq_append_getElem h, List.foldl_append]; rfl

end Go.Proofs.YtmcoaopcmjociaaDoor

namespace Go.Proofs.YtmcoaopcmjociaaDoor
open Go Go.RowKit Go.Sort

def nextSt (s : St) (of sp : List Int) : St := { s with next := nextL s.next of sp }
theorem nextSt_take (s : St) (of sp : List Int) (j : Nat) (h : j < of.length) : nextSt s (of.take (j + 1)) sp = { nextSt s (of.take j) sp with next := (nextSt s (of.take j) sp).next.set of[j].toNat (mergeL ((nextSt s (of.take j) sp).next.getD of[j].toNat []) sp) } := by
  unfold nextSt nextL
  rw [foldl_take_succ _ _ _ _ h]

set_option maxRecDepth 100000 in
set_option maxHeartbeats 2000000 in
theorem next_any (B wb : Nat) (s : St) (ofv spv : Value) (of sp : List Int) (w : World) (hw : WInv B wb w s) (hof : IRT w ofv of) (hsp : IRT w spv sp) (gof : Good s.sets.length of) (gsp : Good s.sets.length sp) :
    Calls Tryd.prog 56 #[.pointer (some ⟨wb, 0, none⟩), ofv, spv] w fun e w' => e = .returned (.tuple #[]) ∧ WInv B wb w' (nextSt s of sp) ∧ KW B w w' := by
  obtain ⟨A, ca, rfl, hca, hA⟩ := hof.form
  obtain ⟨C, cc, rfl, hcc, hC⟩ := hsp.form
  clear hA hC
  have hlof := gof.len
  have hlsp := gsp.len
  have HW := Lib.hid hw; clear hw
  have HOF := Lib.hid hof; clear hof
  have HSP := Lib.hid hsp; clear hsp
  have GOF := Lib.hid gof; clear gof
  have GSP := Lib.hid gsp; clear gsp
  have hfew : s.sets.length ≤ 512 := by obtain ⟨_, _, _, h⟩ := HW.out; exact h.few
  go_enter Tryd.func56, Tryd.ntmps56
  go_wp2_with fail
  go_loopg [10] of.length (fun g i wr => ∃ j : Nat, j + g = of.length ∧ i = .int .i64 j ∧ Hid (WInv B wb wr (nextSt s (of.take j) sp)) ∧ Hid (KW B w wr))
  case atStart => exact ⟨0, by omega, rfl, HW, Lib.hid (KW.refl _ _)⟩
  case round =>
    obtain ⟨j, hj, rfl, HWr, HK⟩ := hrel
    have hj1 : j ≤ of.length := by omega
    have Hj := Lib.hid hj; clear hj
    by_cases hlt : j < of.length
    · obtain ⟨s1, hs1⟩ : ∃ s1, s1 = nextSt s (of.take j) sp := ⟨_, rfl⟩
      have hstep := nextSt_take s of sp j hlt
      rw [← hs1] at hstep HWr
      have hs1l : s1.sets.length = s.sets.length := by rw [hs1]; rfl
      have hofr : IRT wr (.slice A of.length ca) of := HOF.out.keep HK.out.keep3
      have hspr : IRT wr (.slice C sp.length cc) sp := HSP.out.keep HK.out.keep3
      obtain ⟨bo, oo, rfl, _, hcell⟩ := IR.cells hofr (by omega)
      have hmem := GOF.out.2 of[j] (List.getElem_mem hlt)
      have hcj := hcell j hlt
      obtain ⟨i, hi⟩ := Int.eq_ofNat_of_zero_le hmem.1
      rw [hi] at hcj hmem hstep
      have hinx : i < s1.next.length := by
        obtain ⟨_, _, _, h⟩ := HWr.out
        rw [h.good.len]; omega
      rw [Int.toNat_natCast] at hstep
      obtain ⟨Sv, Nv, vs, hat⟩ := HWr.out
      obtain ⟨g, cap, rfl, hgT, hgB, hcap, hgc, hgf⟩ := hat.nform (by omega)
      have hvl : i < vs.length := by rw [hat.vlen]; exact hinx
      have hvi := hgc i vs[i] (List.getElem?_eq_getElem hvl)
      have hvr := hat.each i vs[i] s1.next[i] (List.getElem?_eq_getElem hvl) (List.getElem?_eq_getElem hinx)
      have hgood := hat.good.good s1.next[i] (List.getElem_mem hinx)
      have hglen := hgood.len
      have hb4 : wr.cell? ⟨wb, 4, none⟩ = some (.slice (some ⟨g, 0, none⟩) s1.next.length cap) := by rw [cell_of_row wr wb 4 _ _ _ hat.box]; rfl
      have hgd : s1.next.getD i [] = s1.next[i] := by rw [List.getD_eq_getElem?_getD, List.getElem?_eq_getElem hinx]; rfl
      rw [hgd] at hstep
      obtain ⟨vi, hvi'⟩ : ∃ vi, vi = vs[i] := ⟨_, rfl⟩
      rw [← hvi'] at hvi hvr
      have hlenN : s1.next.length ≤ 512 := by rw [hat.good.len]; exact hat.few
      have hfew1 : s1.sets.length ≤ 512 := hat.few
      have Hstep := Lib.hid hstep; clear hstep
      have Hat := Lib.hid hat; clear hat
      have Hvr := Lib.hid hvr; clear hvr
      have Hspr := Lib.hid hspr; clear hspr
      have Hgood := Lib.hid hgood; clear hgood
      have Hgf := Lib.hid hgf; clear hgf
      have Hs1l := Lib.hid hs1l
      have HgT := Lib.hid hgT
      have Hhi := Lib.hid hi
      clear hofr hcell hgc hvi' hi hgd hs1 hs1l hgT
      have hi0' : (0 : Int) ≤ (i : Int) := Int.natCast_nonneg _
      have hi1' : (i : Int) < (s1.next.length : Int) := by omega
      have hlt1 := World.block_lt_of_cell? wr _ hb4
      have hlt2 := World.block_lt_of_cell? wr _ hvi
      go_wp2_with fail
      go_region_with (first | (go_at_call 38; refine (merge_sl (S := Ty wr 3) (S' := Ty wr 3) vi (.slice C sp.length cc) s1.next[i] sp _ ?hm1 ?hm2 ?hm3).mono ?_; (case hm1 => exact IR.below Hvr.out (by exact (Below.refl _ _).drew)); (case hm2 => exact IR.below Hspr.out (by exact (Below.refl _ _).drew)); (case hm3 => omega); rintro e w1 ⟨Av, cv, rfl, hv, hb⟩; have k1 := (hb.cell (p := ⟨wb, 4, none⟩) hlt1).trans hb4; have k2 := (hb.cell (p := ⟨g, i, none⟩) hlt2).trans hvi; have k3 := (hb.frozen (p := ⟨g, i, none⟩) hlt2).trans (Hgf.out i)))
      all_goals
        have hst := Hat.out.stored (w1 := w1) (by exact ⟨hb.os, hb.tape, hb.output, hb.size, hb.block⟩) rfl HgT.out hgB i hinx hv (Hgood.out.merge (by rw [Hs1l.out]; exact GSP.out))
        have Hst := Lib.hid hst
        clear hst k1 k2 k3 hv hb
        go_wp2_with fail
        have hj := Hj.out
        go_roundg (gk - 1)
        case measure => omega
        case rel => exact ⟨j + 1, by omega, by go_num, Lib.hid ⟨Sv, _, _, by rw [Hstep.out]; exact Hst.out.1⟩, Lib.hid (HK.out.trans Hst.out.2)⟩
    · go_wp2_with fail
      obtain rfl : j = of.length := by omega
      have h1 := HWr.out
      rw [List.take_length] at h1
      first | (go_end0; exact ⟨rfl, h1, HK.out⟩) | exact bodyPost_ret (results_none rfl _ _ _) rfl ⟨rfl, h1, HK.out⟩

end Go.Proofs.YtmcoaopcmjociaaDoor

namespace Go.Proofs.YtmcoaopcmjociaaDoor
open Go Go.RowKit Go.Sort

theorem heap_a0 (w : World) (o : Obj) : (w.alloc o).heap[w.heap.size]? = some o := heap_alloc_new w o
theorem heap_a1 {w : World} {o o' : Obj} {k : Nat} (h : w.heap[k]? = some o) : (w.alloc o').heap[k]? = some o := (Below.heap_alloc w o' k (Array.getElem?_eq_some_iff.1 h).1).trans h
theorem cell_of {w : World} {k j : Nat} {cs : Array Value} {t : TypeId} {m : Nat × Nat} {v : Value} (h : w.heap[k]? = some (.cells cs t m)) (hv : cs[j]? = some v) : w.cell? ⟨k, j, none⟩ = some v := by
  rw [cell_of_row w k j cs t m h, hv]
theorem frozen_of {w : World} {k j : Nat} {cs : Array Value} {t : TypeId} (h : w.heap[k]? = some (.cells cs t (0, 0))) : w.frozen? ⟨k, j, none⟩ = false := by simp [World.frozen?, h]

/-- What the call itself holds aside of the writer may turn. -/
structure KS (w w' : World) : Prop where
  size : w.heap.size ≤ w'.heap.size
  typed : ∀ k t, Ty w t k → (t = 3 ∨ t = 24 ∨ t = 32 ∨ t = 50) → w'.heap[k]? = w.heap[k]?
theorem KS.refl (w : World) : KS w w := ⟨Nat.le_refl _, fun _ _ _ _ => rfl⟩
theorem KS.trans {a b c : World} (h : KS a b) (k : KS b c) : KS a c := ⟨Nat.le_trans h.size k.size, fun i t ht h1 => (k.typed i t (ht.same (h.typed i t ht h1)) h1).trans (h.typed i t ht h1)⟩
theorem KS.keep3 {w w' : World} (h : KS w w') : Keep3 w w' := ⟨h.size, fun k hk => h.typed k _ hk (.inl rfl)⟩
theorem KS.ofBelow {w w' : World} (h : Below w.heap.size w w') : KS w w' := ⟨h.size, fun k _ ht _ => h.block k ht.lt⟩
theorem KS.alloc {w w' : World} (h : KS w w') (o : Obj) : KS w (w'.alloc o) := h.trans ⟨by simp, fun k _ ht _ => Below.heap_alloc w' o k ht.lt⟩
theorem KS.setCell {w w' : World} (h : KS w w') {r : Nat} {t : TypeId} (ht : Ty w' t r) (h1 : t ≠ 3) (h2 : t ≠ 24) (h3 : t ≠ 32) (h4 : t ≠ 50) (j : Nat) (u : Value) : KS w (w'.setCell ⟨r, j, none⟩ u) := by
  refine h.trans ⟨by simp, fun k t' hk hq => Below.heap_setCell w' ⟨r, j, none⟩ u k (hk.ne ht ?_)⟩
  rintro rfl
  rcases hq with h | h | h | h <;> contradiction
theorem WInv.side {B wb : Nat} {w w' : World} {s : St} (h : WInv B wb w s) (hk : KS w w') : WInv B wb w' s := by
  obtain ⟨Sv, Nv, vs, h⟩ := h
  exact ⟨Sv, Nv, vs, h.base, Nat.le_trans h.fits hk.size, (hk.typed wb _ ⟨_, _, h.box⟩ (.inr (.inr (.inr rfl)))).trans h.box, own_keep h.sets fun k ht _ => hk.typed k _ ht (.inr (.inl rfl)),
    own_keep h.next fun k ht _ => hk.typed k _ ht (.inr (.inr (.inl rfl))), fun i v xs h1 h2 => (h.each i v xs h1 h2).keep hk.keep3, h.good, h.few⟩
/-- A store into a block that is new since w. -/
theorem KW.newCell {B : Nat} {w w' : World} (h : KW B w w') {r : Nat} (hr : w.heap.size ≤ r) (hB : B ≤ w.heap.size) (j : Nat) (u : Value) : KW B w (w'.setCell ⟨r, j, none⟩ u) :=
  ⟨h.os, h.tape, h.output, by simpa using h.size, fun k hk => (Below.heap_setCell w' ⟨r, j, none⟩ u k (by show k ≠ r; omega)).trans (h.old k hk),
    fun k t ht h1 h2 h3 => (Below.heap_setCell w' ⟨r, j, none⟩ u k (by have := ht.lt; show k ≠ r; omega)).trans (h.typed k t ht h1 h2 h3)⟩
theorem KW.alloc {B : Nat} {w w' : World} (h : KW B w w') (hB : B ≤ w'.heap.size) (o : Obj) : KW B w (w'.alloc o) := h.trans (KW.ofBelow ((Below.refl _ _).alloc (Nat.le_refl _) o) hB)
theorem store3 {w : World} {r : Nat} {a b c : Value} {t : TypeId} {m : Nat × Nat} (h : w.heap[r]? = some (.cells #[a, b, c] t m)) (v0 v1 v2 : Value) :
    (((w.setCell ⟨r, 0, none⟩ v0).setCell ⟨r, 1, none⟩ v1).setCell ⟨r, 2, none⟩ v2).heap[r]? = some (.cells #[v0, v1, v2] t m) :=
  heap_setCell_same _ r 2 v2 (heap_setCell_same _ r 1 v1 (heap_setCell_same _ r 0 v0 h))
theorem Ty.set {w : World} {t : TypeId} {k : Nat} (h : Ty w t k) (a : Addr) (v : Value) : Ty (w.setCell a v) t k := by
  obtain ⟨cs, m, h⟩ := h
  by_cases hk : k = a.block
  · subst hk
    exact ⟨_, m, by simp [World.setCell, Array.getElem?_modify, h]; rfl⟩
  · exact ⟨cs, m, (Below.heap_setCell w a v k hk).trans h⟩
/-- Three stores into a box, and what they leave. -/
theorem KS.store3 {w w' : World} (h : KS w w') {r : Nat} {t : TypeId} (ht : Ty w' t r) (h1 : t ≠ 3) (h2 : t ≠ 24) (h3 : t ≠ 32) (h4 : t ≠ 50) (v0 v1 v2 : Value) :
    KS w (((w'.setCell ⟨r, 0, none⟩ v0).setCell ⟨r, 1, none⟩ v1).setCell ⟨r, 2, none⟩ v2) :=
  (((h.setCell ht h1 h2 h3 h4 0 v0).setCell (ht.set _ _) h1 h2 h3 h4 1 v1).setCell ((ht.set _ _).set _ _) h1 h2 h3 h4 2 v2)
theorem partInfo : (Tryd.prog.info? 52).map (·.size) = some 3 := by kernel_rfl
/-- A part handed back out of a box. -/
theorem ret_part {fn : Func} {p : Tmp} (h : fn.results = #[.cell p 52]) (tmps : Array Value) (w : World) (g : Nat) (v0 v1 v2 : Value) (fr : Nat × Nat) (hp : tmps.getD p undef = .pointer (some ⟨g, 0, none⟩)) (hg : w.heap[g]? = some (.cells #[v0, v1, v2] 52 fr)) :
    (results fn tmps).run Tryd.prog w = .ok (.agg #[v0, v1, v2]) w :=
  results_cell_row h tmps w g 52 _ fr _ hp hg Tryd.underlying52 rfl partInfo

/-- A part of a pattern, by value. -/
def PartIn (w : World) (v : Value) (p : Part) : Prop := ∃ fv lv, v = .agg #[fv, lv, .bool p.none] ∧ IRT w fv p.first ∧ IRT w lv p.last
theorem PartIn.keep {w w' : World} {v : Value} {p : Part} (h : PartIn w v p) (hk : Keep3 w w') : PartIn w' v p := by
  obtain ⟨fv, lv, rfl, h1, h2⟩ := h
  exact ⟨fv, lv, rfl, h1.keep hk, h2.keep hk⟩

theorem part3 {w : World} {k : Nat} {a b c : Value} (h : w.heap[k]? = some (.cells #[a, b, c] 52 (0, 0))) : w.cell? ⟨k, 0, none⟩ = some a ∧ w.cell? ⟨k, 1, none⟩ = some b ∧ w.cell? ⟨k, 2, none⟩ = some c ∧
    w.frozen? ⟨k, 0, none⟩ = false ∧ w.frozen? ⟨k, 1, none⟩ = false ∧ w.frozen? ⟨k, 2, none⟩ = false ∧ k < w.heap.size :=
  ⟨cell_of h rfl, cell_of h rfl, cell_of h rfl, frozen_of h, frozen_of h, frozen_of h, (Array.getElem?_eq_some_iff.1 h).1⟩
/-- The end of a method that hands back a part: three stores into the result's box. -/
theorem part_end {B wb : Nat} {w w2 : World} {s : St} (hK : KW B w w2) (hW : WInv B wb w2 s) {v0 v1 : Value} {p : Part} {bn : Bool} (hbn : p.none = bn) (h0 : IRT w2 v0 p.first) (h1 : IRT w2 v1 p.last) {r : Nat} {x y z : Value} (hr : w2.heap[r]? = some (.cells #[x, y, z] 52 (0, 0)))
    (hnew : w.heap.size ≤ r) (hfit : B ≤ w.heap.size) :
    (((w2.setCell ⟨r, 0, none⟩ v0).setCell ⟨r, 1, none⟩ v1).setCell ⟨r, 2, none⟩ (.bool bn)).heap[r]? = some (.cells #[v0, v1, .bool bn] 52 (0, 0)) ∧
    PartIn (((w2.setCell ⟨r, 0, none⟩ v0).setCell ⟨r, 1, none⟩ v1).setCell ⟨r, 2, none⟩ (.bool bn)) (.agg #[v0, v1, .bool bn]) p ∧
    WInv B wb (((w2.setCell ⟨r, 0, none⟩ v0).setCell ⟨r, 1, none⟩ v1).setCell ⟨r, 2, none⟩ (.bool bn)) s ∧ KW B w (((w2.setCell ⟨r, 0, none⟩ v0).setCell ⟨r, 1, none⟩ v1).setCell ⟨r, 2, none⟩ (.bool bn)) := by
  have hks := (KS.refl w2).store3 ⟨_, _, hr⟩ (by decide) (by decide) (by decide) (by decide) v0 v1 (.bool bn)
  exact ⟨store3 hr _ _ _, ⟨v0, v1, by rw [hbn], h0.keep hks.keep3, h1.keep hks.keep3⟩, hW.side hks, ((hK.newCell hnew hfit _ _).newCell hnew hfit _ _).newCell hnew hfit _ _⟩

set_option maxRecDepth 100000 in
set_option maxHeartbeats 2000000 in
theorem behind_any (B wb : Nat) (s : St) (a b : Part) (av bv : Value) (w : World) (hw : WInv B wb w s) (ha : PartIn w av a) (hb : PartIn w bv b) (ga : GoodPart s.sets.length a) (gb : GoodPart s.sets.length b) :
    Calls Tryd.prog 40 #[.pointer (some ⟨wb, 0, none⟩), av, bv] w fun e w' => ∃ v, e = .returned v ∧ PartIn w' v (behindP a b) ∧ WInv B wb w' (behindS s a b) ∧ KW B w w' := by
  obtain ⟨af, al, rfl, haf, hal⟩ := ha
  obtain ⟨bf, bl, rfl, hbf, hbl⟩ := hb
  obtain ⟨A1, c1, rfl, _, _⟩ := haf.form
  obtain ⟨A2, c2, rfl, _, _⟩ := hal.form
  obtain ⟨A3, c3, rfl, _, _⟩ := hbf.form
  obtain ⟨A4, c4, rfl, _, _⟩ := hbl.form
  have HAF := Lib.hid haf
  have HAL := Lib.hid hal
  have HBF := Lib.hid hbf
  have HBL := Lib.hid hbl
  have HW := Lib.hid hw
  have hl1 := ga.first.len
  have hl2 := ga.last.len
  have hl3 := gb.first.len
  have hl4 := gb.last.len
  have HGA := Lib.hid ga
  have HGB := Lib.hid gb
  have hfew : s.sets.length ≤ 512 := by obtain ⟨_, _, _, h⟩ := HW.out; exact h.few
  have hfit : B ≤ w.heap.size := by obtain ⟨_, _, _, h⟩ := HW.out; exact h.fits
  clear haf hal hbf hbl hw ga gb
  obtain ⟨oa, hoa⟩ : ∃ oa, oa = Obj.cells #[.slice A1 a.first.length c1, .slice A2 a.last.length c2, .bool a.none] 52 := ⟨_, rfl⟩
  obtain ⟨ob, hob⟩ : ∃ ob, ob = Obj.cells #[.slice A3 b.first.length c3, .slice A4 b.last.length c4, .bool b.none] 52 := ⟨_, rfl⟩
  obtain ⟨oz, hoz⟩ : ∃ oz, oz = Obj.cells #[.slice none 0 0, .slice none 0 0, .bool false] 52 := ⟨_, rfl⟩
  have hB0 : Hid (Below w.heap.size w (((w.alloc oa).alloc ob).alloc oz)) := Lib.hid ((((Below.refl _ _).alloc (Nat.le_refl _) _).alloc (by simp) _).alloc (by simp; omega) _)
  have g0 : Hid ((((w.alloc oa).alloc ob).alloc oz).heap[w.heap.size]? = some oa) := Lib.hid (heap_a1 (heap_a1 (heap_a0 w oa)))
  have g1 : Hid ((((w.alloc oa).alloc ob).alloc oz).heap[w.heap.size + 1]? = some ob) := Lib.hid (heap_a1 (by have := heap_a0 (w.alloc oa) ob; simpa using this))
  have g2 : Hid ((((w.alloc oa).alloc ob).alloc oz).heap[w.heap.size + 2]? = some oz) := Lib.hid (by have := heap_a0 ((w.alloc oa).alloc ob) oz; simpa using this)
  subst hoa hob hoz
  go_enter Tryd.func40, Tryd.ntmps40
  go_wp2_with fail
  refine (next_any B wb s _ _ a.last b.first _ (HW.out.below hB0.out) (IRT.below HAL.out hB0.out) (IRT.below HBF.out hB0.out) HGA.out.last HGB.out.first).mono ?_
  rintro e w1 ⟨rfl, hW1, hK1⟩
  have HK1 := Lib.hid ((KW.ofBelow hB0.out hfit).trans hK1)
  have HW1 := Lib.hid hW1
  have f0 := hK1.box g0.out (by decide) (by decide) (by decide)
  have f1 := hK1.box g1.out (by decide) (by decide) (by decide)
  have f2 := hK1.box g2.out (by decide) (by decide) (by decide)
  clear hK1 hW1
  have d0 : w1.cell? ⟨w.heap.size, 0, none⟩ = some (.slice A1 a.first.length c1) := cell_of f0 rfl
  have d1 : w1.cell? ⟨w.heap.size, 1, none⟩ = some (.slice A2 a.last.length c2) := cell_of f0 rfl
  have d2 : w1.cell? ⟨w.heap.size, 2, none⟩ = some (.bool a.none) := cell_of f0 rfl
  have d3 : w1.cell? ⟨w.heap.size + 1, 0, none⟩ = some (.slice A3 b.first.length c3) := cell_of f1 rfl
  have d4 : w1.cell? ⟨w.heap.size + 1, 1, none⟩ = some (.slice A4 b.last.length c4) := cell_of f1 rfl
  have d5 : w1.cell? ⟨w.heap.size + 1, 2, none⟩ = some (.bool b.none) := cell_of f1 rfl
  have r0 : w1.cell? ⟨w.heap.size + 1 + 1, 0, none⟩ = some (.slice none 0 0) := cell_of f2 rfl
  have r1 : w1.cell? ⟨w.heap.size + 1 + 1, 1, none⟩ = some (.slice none 0 0) := cell_of f2 rfl
  have r2 : w1.cell? ⟨w.heap.size + 1 + 1, 2, none⟩ = some (.bool false) := cell_of f2 rfl
  have z0 : w1.frozen? ⟨w.heap.size + 1 + 1, 0, none⟩ = false := frozen_of f2
  have z1 : w1.frozen? ⟨w.heap.size + 1 + 1, 1, none⟩ = false := frozen_of f2
  have z2 : w1.frozen? ⟨w.heap.size + 1 + 1, 2, none⟩ = false := frozen_of f2
  have hs2 : w.heap.size + 1 + 1 < w1.heap.size := (Array.getElem?_eq_some_iff.1 f2).1
  have hs1 : w.heap.size + 1 < w1.heap.size := by omega
  have hs0 : w.heap.size < w1.heap.size := by omega
  have F2 := Lib.hid f2
  have F0 := Lib.hid f0
  have F1 := Lib.hid f1
  clear f0 f1 f2
  obtain ⟨n0, hn0⟩ : ∃ n0, n0 = w.heap.size := ⟨_, rfl⟩
  have hSz : B ≤ w1.heap.size := by omega
  cases han : a.none <;> cases hbn : b.none
  · rw [han] at d2
    rw [hbn] at d5
    have HN : Hid ((behindP a b).none = false) := Lib.hid (by simp [behindP, han])
    have HF : Hid ((behindP a b).first = a.first) := Lib.hid (by simp [behindP, han])
    have HL : Hid ((behindP a b).last = b.last) := Lib.hid (by simp [behindP, hbn])
    go_wp2_with fail
    obtain ⟨e1, e2, e3, e4⟩ := part_end (w2 := w1) (p := behindP a b) HK1.out HW1.out HN.out (by rw [HF.out]; exact HAF.out.keep HK1.out.keep3) (by rw [HL.out]; exact HBL.out.keep HK1.out.keep3) F2.out (by omega) hfit
    have hks := KS.ofBelow ((Below.refl _ _).alloc (Nat.le_refl _) (Obj.cells #[.slice A1 a.first.length c1, .slice A4 b.last.length c4, .bool false] 52) (a := (((w1.setCell ⟨w.heap.size + 2, 0, none⟩ (.slice A1 a.first.length c1)).setCell ⟨w.heap.size + 2, 1, none⟩ (.slice A4 b.last.length c4)).setCell ⟨w.heap.size + 2, 2, none⟩ (.bool false))))
    exact bodyPost_ret (ret_part rfl _ _ (w.heap.size + 2) _ _ _ (0, 0) rfl (heap_a1 e1)) rfl ⟨_, rfl, e2.keep hks.keep3, e3.side hks, e4.alloc (by simpa using hSz) _⟩
  · rw [han] at d2
    rw [hbn] at d5
    have HN : Hid ((behindP a b).none = false) := Lib.hid (by simp [behindP, han])
    have HF : Hid ((behindP a b).first = a.first) := Lib.hid (by simp [behindP, han])
    have HL : Hid ((behindP a b).last = mergeL a.last b.last) := Lib.hid (by simp [behindP, hbn])
    go_wp2_with fail
    have hal1 := HAL.out.keep HK1.out.keep3
    have hbl1 := HBL.out.keep HK1.out.keep3
    obtain ⟨op, hop⟩ : ∃ op, op = Obj.cells #[.slice A1 a.first.length c1, .slice A4 b.last.length c4, .bool false] 52 := ⟨_, rfl⟩
    have hbp : Below w1.heap.size w1 (w1.alloc op) := (Below.refl _ _).alloc (Nat.le_refl _) _
    have fp := heap_a0 w1 op
    subst hop
    refine (merge_sl _ _ a.last b.last _ (IRT.below hal1 hbp) (IRT.below hbl1 hbp) (by omega)).mono ?_
    rintro e w2 ⟨Am, cm, rfl, hm, hb2⟩
    have hb12 : Below w1.heap.size w1 w2 := hbp.trans (hb2.mono (by simp))
    have fp2 := (hb2.block w1.heap.size (by simp)).trans fp
    have f22 := (hb12.block _ (Array.getElem?_eq_some_iff.1 F2.out).1).trans F2.out
    obtain ⟨p0, p1, p2, _, y1, _, hps⟩ := part3 fp2
    obtain ⟨r0, r1, r2, z0, z1, z2, _⟩ := part3 f22
    have FP2 := Lib.hid fp2; have F22 := Lib.hid f22; have HM := Lib.hid hm
    have HK2 := Lib.hid (HK1.out.trans (KW.ofBelow hb12 hSz))
    have HW2 := Lib.hid (HW1.out.below hb12)
    have hne : w1.heap.size ≠ w.heap.size + 1 + 1 := by omega
    have HAF2 := Lib.hid ((HAF.out.keep HK1.out.keep3).below hb12)
    clear hal1 hbl1 hbp fp hb2 hb12 fp2 f22 hm d0 d1 d3 d4
    go_wp2_with fail
    have hks1 := (KS.refl w2).setCell ⟨_, _, FP2.out⟩ (by decide) (by decide) (by decide) (by decide) 1 (.slice Am (mergeL a.last b.last).length cm)
    obtain ⟨e1, e2, e3, e4⟩ := part_end (p := behindP a b) (HK2.out.newCell (r := w1.heap.size) (by omega) hfit 1 _) (HW2.out.side hks1) HN.out (by rw [HF.out]; exact HAF2.out.keep hks1.keep3) (by rw [HL.out]; exact HM.out.keep hks1.keep3) ((Below.heap_setCell _ ⟨w1.heap.size, 1, none⟩ _ _ (Ne.symm hne)).trans F22.out) (by omega) hfit
    exact bodyPost_ret (ret_part rfl _ _ (w.heap.size + 2) _ _ _ (0, 0) rfl e1) rfl ⟨_, rfl, e2, e3, e4⟩
  · rw [han] at d2
    rw [hbn] at d5
    have HN : Hid ((behindP a b).none = false) := Lib.hid (by simp [behindP, hbn])
    have HF : Hid ((behindP a b).first = mergeL a.first b.first) := Lib.hid (by simp [behindP, han])
    have HL : Hid ((behindP a b).last = b.last) := Lib.hid (by simp [behindP, hbn])
    go_wp2_with fail
    have haf1 := HAF.out.keep HK1.out.keep3
    have hbf1 := HBF.out.keep HK1.out.keep3
    obtain ⟨op, hop⟩ : ∃ op, op = Obj.cells #[.slice A1 a.first.length c1, .slice A4 b.last.length c4, .bool false] 52 := ⟨_, rfl⟩
    have hbp : Below w1.heap.size w1 (w1.alloc op) := (Below.refl _ _).alloc (Nat.le_refl _) _
    have fp := heap_a0 w1 op
    subst hop
    refine (merge_sl _ _ a.first b.first _ (IRT.below haf1 hbp) (IRT.below hbf1 hbp) (by omega)).mono ?_
    rintro e w2 ⟨Am, cm, rfl, hm, hb2⟩
    have hb12 : Below w1.heap.size w1 w2 := hbp.trans (hb2.mono (by simp))
    have fp2 := (hb2.block w1.heap.size (by simp)).trans fp
    have f22 := (hb12.block _ (Array.getElem?_eq_some_iff.1 F2.out).1).trans F2.out
    have f12 := (hb12.block _ (Array.getElem?_eq_some_iff.1 F1.out).1).trans F1.out
    rw [hbn] at f12
    obtain ⟨p0, p1, p2, y0, _, _, hps⟩ := part3 fp2
    obtain ⟨r0, r1, r2, z0, z1, z2, _⟩ := part3 f22
    obtain ⟨_, _, b2, _, _, _, _⟩ := part3 f12
    have FP2 := Lib.hid fp2; have F22 := Lib.hid f22; have HM := Lib.hid hm
    have HK2 := Lib.hid (HK1.out.trans (KW.ofBelow hb12 hSz))
    have HW2 := Lib.hid (HW1.out.below hb12)
    have hne : w1.heap.size ≠ w.heap.size + 1 + 1 := by omega
    have hne1 : w1.heap.size ≠ w.heap.size + 1 := by omega
    have HBL2 := Lib.hid ((HBL.out.keep HK1.out.keep3).below hb12)
    clear haf1 hbf1 hbp fp hb2 hb12 fp2 f22 f12 hm d0 d1 d3 d4
    go_wp2_with fail
    have hks1 := (KS.refl w2).setCell ⟨_, _, FP2.out⟩ (by decide) (by decide) (by decide) (by decide) 0 (.slice Am (mergeL a.first b.first).length cm)
    obtain ⟨e1, e2, e3, e4⟩ := part_end (p := behindP a b) (HK2.out.newCell (r := w1.heap.size) (by omega) hfit 0 _) (HW2.out.side hks1) HN.out (by rw [HF.out]; exact HM.out.keep hks1.keep3) (by rw [HL.out]; exact HBL2.out.keep hks1.keep3) ((Below.heap_setCell _ ⟨w1.heap.size, 0, none⟩ _ _ (Ne.symm hne)).trans F22.out) (by omega) hfit
    exact bodyPost_ret (ret_part rfl _ _ (w.heap.size + 2) _ _ _ (0, 0) rfl e1) rfl ⟨_, rfl, e2, e3, e4⟩
  · rw [han] at d2
    rw [hbn] at d5
    have HN : Hid ((behindP a b).none = true) := Lib.hid (by simp [behindP, han, hbn])
    have HF : Hid ((behindP a b).first = mergeL a.first b.first) := Lib.hid (by simp [behindP, han])
    have HL : Hid ((behindP a b).last = mergeL a.last b.last) := Lib.hid (by simp [behindP, hbn])
    go_wp2_with fail
    have haf1 := HAF.out.keep HK1.out.keep3
    have hbf1 := HBF.out.keep HK1.out.keep3
    obtain ⟨op, hop⟩ : ∃ op, op = Obj.cells #[.slice A1 a.first.length c1, .slice A4 b.last.length c4, .bool true] 52 := ⟨_, rfl⟩
    have hbp : Below w1.heap.size w1 (w1.alloc op) := (Below.refl _ _).alloc (Nat.le_refl _) _
    have fp := heap_a0 w1 op
    subst hop
    refine (merge_sl _ _ a.first b.first _ (IRT.below haf1 hbp) (IRT.below hbf1 hbp) (by omega)).mono ?_
    rintro e w2 ⟨Am, cm, rfl, hm, hb2⟩
    have hb12 : Below w1.heap.size w1 w2 := hbp.trans (hb2.mono (by simp))
    have fp2 := (hb2.block w1.heap.size (by simp)).trans fp
    have f22 := (hb12.block _ (Array.getElem?_eq_some_iff.1 F2.out).1).trans F2.out
    have f12 := (hb12.block _ (Array.getElem?_eq_some_iff.1 F1.out).1).trans F1.out
    have f02 := (hb12.block _ (Array.getElem?_eq_some_iff.1 F0.out).1).trans F0.out
    rw [hbn] at f12
    obtain ⟨p0, p1, p2, y0, y1, _, hps⟩ := part3 fp2
    obtain ⟨_, b1, b2, _, _, _, _⟩ := part3 f12
    obtain ⟨_, a1, _, _, _, _, _⟩ := part3 f02
    have FP2 := Lib.hid fp2; have F22 := Lib.hid f22; have HM := Lib.hid hm
    have HK2 := Lib.hid (HK1.out.trans (KW.ofBelow hb12 hSz))
    have HW2 := Lib.hid (HW1.out.below hb12)
    have hne : w1.heap.size ≠ w.heap.size + 1 + 1 := by omega
    have hne1 : w1.heap.size ≠ w.heap.size + 1 := by omega
    have hne0 : w1.heap.size ≠ w.heap.size := by omega
    have HAL2 := Lib.hid ((HAL.out.keep HK1.out.keep3).below hb12)
    have HBL2 := Lib.hid ((HBL.out.keep HK1.out.keep3).below hb12)
    clear haf1 hbf1 hbp fp hb2 hb12 fp2 f22 f12 f02 hm d0 d1 d3 d4 r0 r1 r2 z0 z1 z2
    go_wp2_with fail
    have hks1 := (KS.refl w2).setCell ⟨_, _, FP2.out⟩ (by decide) (by decide) (by decide) (by decide) 0 (.slice Am (mergeL a.first b.first).length cm)
    have hkw1 := HK2.out.newCell (r := w1.heap.size) (by omega) hfit 0 (.slice Am (mergeL a.first b.first).length cm)
    have fp3 := heap_setCell_same w2 w1.heap.size 0 (.slice Am (mergeL a.first b.first).length cm) FP2.out
    have f23 := (Below.heap_setCell w2 ⟨w1.heap.size, 0, none⟩ (.slice Am (mergeL a.first b.first).length cm) _ (Ne.symm hne)).trans F22.out
    refine (merge_sl _ _ a.last b.last _ (HAL2.out.keep hks1.keep3) (HBL2.out.keep hks1.keep3) (by omega)).mono ?_
    rintro e w3 ⟨An, cn, rfl, hm3, hb3⟩
    have hks3 := KS.ofBelow hb3
    have HK3 := Lib.hid (hkw1.trans (KW.ofBelow hb3 (by simp; omega)))
    have fp4 := (hb3.block w1.heap.size (by simp; omega)).trans fp3
    have f24 := (hb3.block _ (Array.getElem?_eq_some_iff.1 f23).1).trans f23
    simp only [List.setIfInBounds_toArray, List.set_cons_zero] at fp4
    obtain ⟨p0, p1, p2, y0, y1, _, hps⟩ := part3 fp4
    obtain ⟨r0, r1, r2, z0, z1, z2, _⟩ := part3 f24
    have FP4 := Lib.hid fp4; have F24 := Lib.hid f24; have HM3 := Lib.hid hm3
    have HW3 := Lib.hid ((HW2.out.side hks1).side hks3)
    have HMm := Lib.hid ((HM.out.keep hks1.keep3).keep hks3.keep3)
    clear hks1 hkw1 fp3 f23 hm3 hb3 hks3 fp4 f24
    go_wp2_with fail
    have hks4 := (KS.refl w3).setCell ⟨_, _, FP4.out⟩ (by decide) (by decide) (by decide) (by decide) 1 (.slice An (mergeL a.last b.last).length cn)
    obtain ⟨e1, e2, e3, e4⟩ := part_end (p := behindP a b) (HK3.out.newCell (r := w1.heap.size) (by omega) hfit 1 _) (HW3.out.side hks4) HN.out (by rw [HF.out]; exact HMm.out.keep hks4.keep3) (by rw [HL.out]; exact HM3.out.keep hks4.keep3) ((Below.heap_setCell _ ⟨w1.heap.size, 1, none⟩ _ _ (Ne.symm hne)).trans F24.out) (by omega) hfit
    exact bodyPost_ret (ret_part rfl _ _ (w.heap.size + 2) _ _ _ (0, 0) rfl e1) rfl ⟨_, rfl, e2, e3, e4⟩
end Go.Proofs.YtmcoaopcmjociaaDoor
