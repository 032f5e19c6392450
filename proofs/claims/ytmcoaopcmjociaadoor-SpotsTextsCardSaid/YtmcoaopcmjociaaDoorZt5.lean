/- (*writer).write of a One: a set more, a list more. (*writer).write and (*writer).often: facts that the walks want. (*writer).write of a Cat. -/
import Derived.Test.YtmcoaopcmjociaaDoorZt4
import Derived.Deep.RegionLaw
import Derived.Deep.AppendLies
import Derived.Deep.RegionWith
namespace Go.Proofs.YtmcoaopcmjociaaDoor
open Go Go.RowKit Go.Sort

/-- The writer's rows, whatever they hold. -/
structure WRows (B wb : Nat) (w : World) (ss : List S4) (nx : List (List Int)) (Sv Nv : Value) (vs : List Value) : Prop where
  base : B ≤ wb
  fits : B ≤ w.heap.size
  box : w.heap[wb]? = some (.cells #[Sv, .bool false, .slice none 0 0, .slice none 0 0, Nv] 50 (0, 0))
  sets : w.ownsRow B 24 4 Sv ss.length (cells4 ss)
  next : w.ownsRow B 32 1 Nv nx.length vs
  each : ∀ (i : Nat) (v : Value) (xs : List Int), vs[i]? = some v → nx[i]? = some xs → IRT w v xs
theorem WAt.rows {B wb : Nat} {w : World} {s : St} {Sv Nv : Value} {vs : List Value} (h : WAt B wb w s Sv Nv vs) : WRows B wb w s.sets s.next Sv Nv vs := ⟨h.base, h.fits, h.box, h.sets, h.next, h.each⟩
theorem WRows.to {B wb : Nat} {w : World} {s : St} {Sv Nv : Value} {vs : List Value} (h : WRows B wb w s.sets s.next Sv Nv vs) (hg : GoodSt s) (hf : s.sets.length ≤ 512) : WInv B wb w s := ⟨Sv, Nv, vs, h.base, h.fits, h.box, h.sets, h.next, h.each, hg, hf⟩
theorem WRows.below {B wb : Nat} {w w' : World} {sets : List S4} {next : List (List Int)} {Sv Nv : Value} {vs : List Value} (h : WRows B wb w sets next Sv Nv vs) (hb : Below w.heap.size w w') : WRows B wb w' sets next Sv Nv vs :=
  ⟨h.base, Nat.le_trans h.fits hb.size, (hb.block wb (Array.getElem?_eq_some_iff.1 h.box).1).trans h.box, own_keep h.sets fun k hk _ => hb.block k hk.lt, own_keep h.next fun k hk _ => hb.block k hk.lt,
    fun i v xs h1 h2 => IRT.below (h.each i v xs h1 h2) hb⟩
theorem WInv.fits {B wb : Nat} {w : World} {s : St} (h : WInv B wb w s) : B ≤ w.heap.size := by
  obtain ⟨_, _, _, h⟩ := h
  exact h.fits
theorem own_shape {w : World} {base n : Nat} {e : TypeId} {size : Nat} {v : Value} {xs : List Value} (h : w.ownsRow base e size v n xs) : ∃ A c, v = .slice A n c := by
  rcases h.2 with ⟨rfl, rfl⟩ | ⟨g, cap, cur, rfl, _⟩
  · exact ⟨_, _, rfl⟩
  · exact ⟨_, _, rfl⟩
theorem own_ty {w : World} {base n : Nat} {e : TypeId} {size : Nat} {v : Value} {xs : List Value} (h : w.ownsRow base e size v n xs) : ∀ k, v.ownBlock = some k → Ty w e k ∧ base ≤ k := by
  intro k hk
  rcases h.2 with ⟨rfl, _⟩ | ⟨g, cap, cur, rfl, hg, hh, _⟩
  · simp [Value.ownBlock] at hk
  · obtain rfl : g = k := by simpa [Value.ownBlock] using hk
    exact ⟨⟨cur, _, hh⟩, hg⟩
/-- Another row has been written: what is of another type stays. -/
theorem grown_ty {w w' : World} {row : Option Nat} (hg : w.grownBy w' row) {t : TypeId} (hr : ∀ k, row = some k → Ty w t k) {k : Nat} {t' : TypeId} (hk : Ty w t' k) (hne : t' ≠ t) : w'.heap[k]? = w.heap[k]? :=
  hg.block k hk.lt fun e => hk.ne (hr k e.symm) hne rfl
theorem KW.grown {B : Nat} {w w' : World} {row : Option Nat} (hg : w.grownBy w' row) (hB : B ≤ w.heap.size) {t : TypeId} (hr : ∀ k, row = some k → Ty w t k ∧ B ≤ k) (ht : t = 24 ∨ t = 32 ∨ t = 50) : KW B w w' :=
  ⟨hg.os, hg.tape, hg.output, hg.size, fun k hk => hg.block k (by omega) (fun e => by have := (hr k e.symm).2; omega),
    fun k t' hk h1 h2 h3 => grown_ty hg (fun k hk => (hr k hk).1) hk (by rintro rfl; rcases ht with h | h | h <;> contradiction)⟩
theorem WRows.addSet {B wb : Nat} {w w2 : World} {sets : List S4} {next : List (List Int)} {Sv Nv Sv' : Value} {vs : List Value} {x : S4} (h : WRows B wb w sets next Sv Nv vs) (ho : w2.ownsRow B 24 4 Sv' (sets.length + 1) (cells4 (sets ++ [x]))) (hg : w.grownBy w2 Sv.ownBlock) :
    WRows B wb (w2.setCell ⟨wb, 0, none⟩ Sv') (sets ++ [x]) next Sv' Nv vs ∧ KW B w (w2.setCell ⟨wb, 0, none⟩ Sv') := by
  have hr := own_ty h.sets
  have hk : ∀ k t, Ty w t k → t ≠ 24 → w2.heap[k]? = w.heap[k]? := fun k t ht hne => grown_ty hg (fun k hk => (hr k hk).1) ht hne
  have hb2 := (hk wb _ ⟨_, _, h.box⟩ (by decide)).trans h.box
  have hoth : ∀ k t, Ty w2 t k → t ≠ 50 → (w2.setCell ⟨wb, 0, none⟩ Sv').heap[k]? = w2.heap[k]? := fun k t ht hne => Below.heap_setCell w2 ⟨wb, 0, none⟩ Sv' k (ht.ne ⟨_, _, hb2⟩ hne)
  have hkw : KW B w w2 := KW.grown hg h.fits hr (.inl rfl)
  have hn2 : w2.ownsRow B 32 1 Nv next.length vs := own_keep h.next fun k ht _ => hk k _ ht (by decide)
  refine ⟨⟨h.base, by simpa using Nat.le_trans h.fits hg.size, heap_setCell_same w2 wb 0 Sv' hb2, ?_, own_keep hn2 fun k ht _ => hoth k _ ht (by decide), fun i v xs h1 h2 => ?_⟩, hkw.setCell ⟨_, _, hb2⟩ h.base (.inr (.inr rfl)) 0 Sv'⟩
  · rw [List.length_append]
    exact own_keep ho fun k ht _ => hoth k _ ht (by decide)
  · exact (IRT.keep (h.each i v xs h1 h2) hkw.keep3).keep ⟨by simp, fun k ht => hoth k _ ht (by decide)⟩
theorem WRows.addNext {B wb : Nat} {w w2 : World} {sets : List S4} {next : List (List Int)} {Sv Nv Nv' : Value} {vs : List Value} (h : WRows B wb w sets next Sv Nv vs) (ho : w2.ownsRow B 32 1 Nv' (next.length + 1) (vs ++ [.slice none 0 0])) (hg : w.grownBy w2 Nv.ownBlock) :
    WRows B wb (w2.setCell ⟨wb, 4, none⟩ Nv') sets (next ++ [[]]) Sv Nv' (vs ++ [.slice none 0 0]) ∧ KW B w (w2.setCell ⟨wb, 4, none⟩ Nv') := by
  have hr := own_ty h.next
  have hk : ∀ k t, Ty w t k → t ≠ 32 → w2.heap[k]? = w.heap[k]? := fun k t ht hne => grown_ty hg (fun k hk => (hr k hk).1) ht hne
  have hb2 := (hk wb _ ⟨_, _, h.box⟩ (by decide)).trans h.box
  have hoth : ∀ k t, Ty w2 t k → t ≠ 50 → (w2.setCell ⟨wb, 4, none⟩ Nv').heap[k]? = w2.heap[k]? := fun k t ht hne => Below.heap_setCell w2 ⟨wb, 4, none⟩ Nv' k (ht.ne ⟨_, _, hb2⟩ hne)
  have hkw : KW B w w2 := KW.grown hg h.fits hr (.inr (.inl rfl))
  have hs2 : w2.ownsRow B 24 4 Sv sets.length (cells4 sets) := own_keep h.sets fun k ht _ => hk k _ ht (by decide)
  have hk3 : Keep3 w2 (w2.setCell ⟨wb, 4, none⟩ Nv') := ⟨by simp, fun k ht => hoth k _ ht (by decide)⟩
  have hvl : vs.length = next.length := by simpa using h.next.1
  refine ⟨⟨h.base, by simpa using Nat.le_trans h.fits hg.size, heap_setCell_same w2 wb 4 Nv' hb2, own_keep hs2 fun k ht _ => hoth k _ ht (by decide), ?_, fun i v xs h1 h2 => ?_⟩, hkw.setCell ⟨_, _, hb2⟩ h.base (.inr (.inr rfl)) 4 Nv'⟩
  · rw [List.length_append]
    exact own_keep ho fun k ht _ => hoth k _ ht (by decide)
  · rcases Nat.lt_or_ge i next.length with hi | hi
    · rw [List.getElem?_append_left (by omega)] at h1 h2
      exact (IRT.keep (h.each i v xs h1 h2) hkw.keep3).keep hk3
    · have hin : i = next.length := by
        have := (List.getElem?_eq_some_iff.1 h2).1
        simp at this; omega
      subst hin
      rw [← hvl] at h1
      simp at h1 h2
      subst h1 h2
      exact IR.nil _ _

theorem heap_a2 (w : World) (o1 o2 o3 : Obj) : (((w.alloc o1).alloc o2).alloc o3).heap[w.heap.size + 1 + 1]? = some o3 := by
  have := heap_a0 ((w.alloc o1).alloc o2) o3
  simpa using this
theorem below_a3 (w : World) (o1 o2 o3 : Obj) : Below w.heap.size w (((w.alloc o1).alloc o2).alloc o3) := (((Below.refl _ _).alloc (Nat.le_refl _) _).alloc (by simp) _).alloc (by simp; omega) _
/-- Behind an append to the row of sets the writer's box is as it was. -/
theorem WRows.boxSets {B wb : Nat} {w W w1 : World} {ss : List S4} {nx : List (List Int)} {Sv Nv : Value} {vs : List Value} (h : WRows B wb w ss nx Sv Nv vs) (hb : Below w.heap.size w W) (hg : W.grownBy w1 Sv.ownBlock) :
    w1.heap[wb]? = some (.cells #[Sv, .bool false, .slice none 0 0, .slice none 0 0, Nv] 50 (0, 0)) := by
  have h1 := h.below hb
  have hr := own_ty h1.sets
  exact (grown_ty hg (fun k hk => (hr k hk).1) ⟨_, _, h1.box⟩ (by decide)).trans h1.box

/-- A box of another type is as it was behind an append to the row of sets. -/
theorem WRows.otherSets {B wb : Nat} {w W w1 : World} {ss : List S4} {nx : List (List Int)} {Sv Nv : Value} {vs : List Value} (h : WRows B wb w ss nx Sv Nv vs) (hb : Below w.heap.size w W) (hg : W.grownBy w1 Sv.ownBlock) {k : Nat} {cs : Array Value} {t : TypeId} {m : Nat × Nat}
    (hk : W.heap[k]? = some (.cells cs t m)) (ht : t ≠ 24) : w1.heap[k]? = some (.cells cs t m) := by
  have hr := own_ty (h.below hb).sets
  exact (grown_ty hg (fun k hk => (hr k hk).1) ⟨_, _, hk⟩ ht).trans hk
theorem heap_a1' (w : World) (o1 o2 o3 : Obj) : (((w.alloc o1).alloc o2).alloc o3).heap[w.heap.size + 1]? = some o2 := heap_a1 (by have := heap_a0 (w.alloc o1) o2; simpa using this)

theorem heap_aS (w : World) (a : Addr) (v : Value) (o : Obj) : ((w.setCell a v).alloc o).heap[w.heap.size]? = some o := by
  have := heap_a0 (w.setCell a v) o
  simpa using this
/-- Behind an append to the row of lists: a box of another type. -/
theorem WRows.otherNext {B wb : Nat} {w W w1 : World} {ss : List S4} {nx : List (List Int)} {Sv Nv : Value} {vs : List Value} (h : WRows B wb w ss nx Sv Nv vs) (hb : Below w.heap.size w W) (hg : W.grownBy w1 Nv.ownBlock) {k : Nat} {cs : Array Value} {t : TypeId} {m : Nat × Nat}
    (hk : W.heap[k]? = some (.cells cs t m)) (ht : t ≠ 32) : w1.heap[k]? = some (.cells cs t m) := by
  have hr := own_ty (h.below hb).next
  exact (grown_ty hg (fun k hk => (hr k hk).1) ⟨_, _, hk⟩ ht).trans hk

theorem GoodSt.one {s : St} (hs : GoodSt s) (x : S4) : GoodSt ⟨s.sets ++ [x], s.next ++ [[]]⟩ := by
  refine ⟨by simp [hs.len], fun l hl => ?_⟩
  rcases List.mem_append.1 hl with h2 | h2
  · exact (hs.good l h2).mono (by simp)
  · rw [List.mem_singleton.1 h2]; exact Good.nil _
/-- A new block that holds one number reads so. -/
theorem IRT.one {w : World} {k : Nat} {x : Int} {m : Nat × Nat} (h : w.heap[k]? = some (.cells #[.int .i64 x] 3 m)) : IRT w (.slice (some ⟨k, 0, none⟩) 1 1) [x] :=
  ⟨_, 1, rfl, by simp, by simp, fun _ => ⟨k, 0, rfl, ⟨_, _, h⟩, fun j hj => by
    have hj0 : j = 0 := by simp at hj; exact hj
    subst hj0
    exact cell_of h rfl⟩⟩

theorem setInfo4 : (Tryd.prog.info? 24).map (fun i => (i.zero, i.size, i.bytes)) = some (some (Value.agg #[.int .u64 0, .int .u64 0, .int .u64 0, .int .u64 0]), 4, 32) := by kernel_rfl
theorem listInfo : (Tryd.prog.info? 32).map (fun i => (i.zero, i.size, i.bytes)) = some (some (Value.slice none 0 0), 1, 24) := by kernel_rfl

set_option maxRecDepth 100000 in
set_option maxHeartbeats 2000000 in
theorem write_one (B wb : Nat) (s : St) (s0 s1 s2 s3 : Int) (l : List Tree) (mn mx : Int) (A : Option Addr) (c : Nat) (w : World) (hw : WInv B wb w s) (hf : s.sets.length + 1 ≤ 512) :
    Calls Tryd.prog 21 #[.pointer (some ⟨wb, 0, none⟩), (Tree.node 1 s0 s1 s2 s3 l mn mx).val A c] w fun e w' => ∃ v, e = .returned v ∧ PartIn w' v (writeT (.node 1 s0 s1 s2 s3 l mn mx) s).1 ∧ WInv B wb w' (writeT (.node 1 s0 s1 s2 s3 l mn mx) s).2 ∧ KW B w w' := by
  obtain ⟨Sv, Nv, vs, hat⟩ := hw
  obtain ⟨As, cs, rfl⟩ := own_shape hat.sets
  obtain ⟨An, cn, rfl⟩ := own_shape hat.next
  have hrows := hat.rows
  have hgood := Lib.hid hat.good
  have hbx := hat.box
  have q0 : w.cell? ⟨wb, 0, none⟩ = some (.slice As s.sets.length cs) := cell_of hbx rfl
  have q4 : w.cell? ⟨wb, 4, none⟩ = some (.slice An s.next.length cn) := cell_of hbx rfl
  have q0f : w.frozen? ⟨wb, 0, none⟩ = false := frozen_of hbx
  have hlt : wb < w.heap.size := World.block_lt_of_cell? w _ q0
  have HR := Lib.hid hrows
  have qa : ∀ o1 o2 o3, (((w.alloc o1).alloc o2).alloc o3).cell? ⟨wb, 0, none⟩ = some (.slice As s.sets.length cs) := fun o1 o2 o3 => cell_keep (below_a3 w o1 o2 o3) q0
  have hnl : s.next.length ≤ 512 := by rw [hat.good.len]; exact hat.few
  have hfit := hat.fits
  clear hat hrows hbx
  obtain ⟨i0, hi0, hz0, hz1, hz2⟩ := info_parts setInfo4
  have HI := Lib.hid (And.intro hi0 (And.intro hz0 (And.intro hz1 hz2)))
  clear hi0 hz0 hz1 hz2
  simp only [Tree.val, Tree.kind, Tree.s0, Tree.s1, Tree.s2, Tree.s3, Tree.kids, Tree.mn, Tree.mx]
  go_enter Tryd.func21, Tryd.ntmps21
  go_wp2_with fail
  obtain ⟨hi0, hz0, hz1, hz2⟩ := HI.out
  have hsets := HR.out.sets
  go_region_law ((refine step_append_lies _ (by rfl) _ _ _ (by rfl) B 24 i0 _ 4 32 Tryd.underlying31 hi0 hz0 hz1 hz2 rfl (by omega) _ s.sets.length (cells4 s.sets) (by rfl) ((((hsets.alloc _).alloc _).alloc _).drew) ⟨w.heap.size + 1 + 1, 0, none⟩ 1 1 [.int .u64 s0, .int .u64 s1, .int .u64 s2, .int .u64 s3] (by rfl) (by rfl) (World.news_of_block (cs := #[.int .u64 s0, .int .u64 s1, .int .u64 s2, .int .u64 s3]) (t := 24) (fr := (0, 0)) (heap_a2 _ _ _ _)) (by simp [Value.oneCell']) (by omega) (by unfold maxLen; omega) (by omega) (by simp; omega) (w.heap.size + 1 + 1 + 1) (by simp) ?_; intro g cap w1 hown1 hgrow hatg hltg; have hk1 := HR.out.boxSets (by exact (below_a3 _ _ _ _).drew) hgrow; have k0 := cell_of (j := 0) hk1 rfl; have k0f := frozen_of (j := 0) hk1))
  all_goals
    have hbW := (below_a3 w (Obj.cells #[.int .i64 1, .int .u64 s0, .int .u64 s1, .int .u64 s2, .int .u64 s3, .slice A l.length c, .int .i64 mn, .int .i64 mx] 27) (Obj.cells #[.slice none 0 0, .slice none 0 0, .bool false] 52) (Obj.cells #[.int .u64 s0, .int .u64 s1, .int .u64 s2, .int .u64 s3] 24)).drew
    have hrW := HR.out.below hbW
    have hfr := HR.out.otherSets hbW hgrow (heap_a1' w _ _ _) (by decide)
    obtain ⟨hR2, hKa⟩ := hrW.addSet (x := (s0, s1, s2, s3)) (by rw [cells4_snoc]; exact hown1) hgrow
    have hK2 := (KW.ofBelow hbW hfit).trans hKa
    have k4 := cell_of (j := 4) hk1 rfl
    have k4f : w1.frozen? ⟨wb, 4, none⟩ = false := frozen_of hk1
    have hl1 : wb < w1.heap.size := (Array.getElem?_eq_some_iff.1 hk1).1
    have hs1 : w.heap.size + 3 ≤ w1.heap.size := by have := hgrow.size; simp at this; omega
    have HR2 := Lib.hid hR2
    have HK2 := Lib.hid hK2
    have HFR := Lib.hid hfr
    obtain ⟨i1, hi1, hz1', hz2', hz3'⟩ := info_parts listInfo
    clear hown1 hgrow hbW hrW hR2 hKa hK2 hfr hk1 k0 k0f qa q0 q4 q0f hsets hi0 hz0 hz1 hz2 hatg
    go_wp2_with (at_builtin; refine wpList_append_lies _ rfl (.tmp 41) (.tmp 42) 33 rfl B 32 i1 (.slice none 0 0) 1 24 Tryd.underlying33 hi1 hz1' hz2' hz3' rfl (by decide) _ s.next.length vs rfl (HR2.out.next.alloc _) ⟨w1.heap.size, 0, none⟩ 1 1 [.slice none 0 0] rfl rfl (World.news_of_block (cs := #[.slice none 0 0]) (t := 32) (fr := (0, 0)) (heap_aS _ _ _ _)) (by simp [Value.oneCell']) (by omega) (by unfold maxLen; omega) (by omega) (by simp; omega) (w1.heap.size + 1) (by simp) ?_)
    intro g2 cap2 w3 hown3 hgrow3 hat3 hlt3
    have hb3 := ((Below.refl _ (w1.setCell ⟨wb, 0, none⟩ (.slice (some ⟨g, 0, none⟩) (s.sets.length + 1) cap))).alloc (Nat.le_refl _) (Obj.cells #[.slice none 0 0] 32))
    have hR2b := HR2.out.below hb3
    have hk3 := HR2.out.otherNext hb3 hgrow3 hR2b.box (by decide)
    have hfr3 := HR2.out.otherNext hb3 hgrow3 (heap_a1 ((Below.heap_setCell w1 ⟨wb, 0, none⟩ (.slice (some ⟨g, 0, none⟩) (s.sets.length + 1) cap) (w.heap.size + 1) (by show w.heap.size + 1 ≠ wb; omega)).trans HFR.out)) (by decide)
    obtain ⟨hR3, hKb⟩ := hR2b.addNext hown3 hgrow3
    have hK3 := (HK2.out.trans (KW.ofBelow hb3 HR2.out.fits)).trans hKb
    have m4 := cell_of (j := 4) hk3 rfl
    have m4f : w3.frozen? ⟨wb, 4, none⟩ = false := frozen_of hk3
    have hl3 : wb < w3.heap.size := (Array.getElem?_eq_some_iff.1 hk3).1
    have hr3 : w.heap.size + 1 < w3.heap.size := (Array.getElem?_eq_some_iff.1 hfr3).1
    have hfS := (Below.heap_setCell w3 ⟨wb, 4, none⟩ (.slice (some ⟨g2, 0, none⟩) (s.next.length + 1) cap2) (w.heap.size + 1) (by show w.heap.size + 1 ≠ wb; omega)).trans hfr3
    have r0 := fun o1 o2 => (part3 (heap_a1 (o' := o2) (heap_a1 (o' := o1) hfS))).1
    have r1 := fun o1 o2 => (part3 (heap_a1 (o' := o2) (heap_a1 (o' := o1) hfS))).2.1
    have r2 := fun o1 o2 => (part3 (heap_a1 (o' := o2) (heap_a1 (o' := o1) hfS))).2.2.1
    have z0 := fun o1 o2 => (part3 (heap_a1 (o' := o2) (heap_a1 (o' := o1) hfS))).2.2.2.1
    have z1 := fun o1 o2 => (part3 (heap_a1 (o' := o2) (heap_a1 (o' := o1) hfS))).2.2.2.2.1
    have z2 := fun o1 o2 => (part3 (heap_a1 (o' := o2) (heap_a1 (o' := o1) hfS))).2.2.2.2.2.1
    have HFS := Lib.hid hfS
    clear hfS
    have hne : wb ≠ w.heap.size + 1 := by omega
    have hne' : w.heap.size + 1 ≠ wb := by omega
    have HR3 := Lib.hid hR3
    have HK3 := Lib.hid hK3
    have HF3 := Lib.hid hfr3
    clear hown3 hgrow3 hat3 hb3 hR2b hk3 hfr3 hR3 hKb hK3 hi1 hz1' hz2' hz3' k4 k4f
    go_wp2_with fail
    have hwr : writeT (.node 1 s0 s1 s2 s3 l mn mx) s = (⟨[(s.sets.length : Int)], [(s.sets.length : Int)], false⟩, ⟨s.sets ++ [(s0, s1, s2, s3)], s.next ++ [[]]⟩) := by simp [writeT]
    rw [hwr]
    have hWe : WInv B wb (w3.setCell ⟨wb, 4, none⟩ (.slice (some ⟨g2, 0, none⟩) (s.next.length + 1) cap2)) ⟨s.sets ++ [(s0, s1, s2, s3)], s.next ++ [[]]⟩ := HR3.out.to (hgood.out.one _) (by simp; omega)
    have hal : Below (w3.setCell ⟨wb, 4, none⟩ (.slice (some ⟨g2, 0, none⟩) (s.next.length + 1) cap2)).heap.size (w3.setCell ⟨wb, 4, none⟩ (.slice (some ⟨g2, 0, none⟩) (s.next.length + 1) cap2)) (((w3.setCell ⟨wb, 4, none⟩ (.slice (some ⟨g2, 0, none⟩) (s.next.length + 1) cap2)).alloc (Obj.cells #[.int .i64 (s.sets.length : Int)] 3)).alloc (Obj.cells #[.int .i64 (s.sets.length : Int)] 3)) :=
      ((Below.refl _ _).alloc (Nat.le_refl _) _).alloc (by simp) _
    have b1 := heap_aS w3 ⟨wb, 4, none⟩ (.slice (some ⟨g2, 0, none⟩) (s.next.length + 1) cap2) (Obj.cells #[.int .i64 (s.sets.length : Int)] 3)
    have b2 := heap_a0 ((w3.setCell ⟨wb, 4, none⟩ (.slice (some ⟨g2, 0, none⟩) (s.next.length + 1) cap2)).alloc (Obj.cells #[.int .i64 (s.sets.length : Int)] 3)) (Obj.cells #[.int .i64 (s.sets.length : Int)] 3)
    have b2' : _ = some (Obj.cells #[.int .i64 (s.sets.length : Int)] 3) := b2
    rw [show ((w3.setCell ⟨wb, 4, none⟩ (.slice (some ⟨g2, 0, none⟩) (s.next.length + 1) cap2)).alloc (Obj.cells #[.int .i64 (s.sets.length : Int)] 3)).heap.size = w3.heap.size + 1 by simp] at b2'
    obtain ⟨e1, e2, e3, e4⟩ := part_end (p := ⟨[(s.sets.length : Int)], [(s.sets.length : Int)], false⟩) (bn := false) (HK3.out.trans (KW.ofBelow hal hWe.fits)) (hWe.below hal) rfl (IRT.one (heap_a1 b1)) (IRT.one b2') (heap_a1 (heap_a1 HFS.out)) (by omega) hfit
    exact bodyPost_ret (ret_part rfl _ _ (w.heap.size + 1) _ _ _ (0, 0) rfl e1) rfl ⟨_, rfl, e2, e3, e4⟩
end Go.Proofs.YtmcoaopcmjociaaDoor

namespace Go.Proofs.YtmcoaopcmjociaaDoor
open Go Go.RowKit Go.Sort

theorem writeCat_snoc : ∀ (l : List Tree) (t : Tree) (p : Part) (s : St), writeCat (l ++ [t]) p s = (behindP (writeCat l p s).1 (writeT t (writeCat l p s).2).1, behindS (writeT t (writeCat l p s).2).2 (writeCat l p s).1 (writeT t (writeCat l p s).2).1)
  | [], t, p, s => by simp [writeCat]
  | x :: l, t, p, s => by
    show writeCat (l ++ [t]) _ _ = _
    rw [writeCat_snoc l t]; rfl
theorem writeAlt_snoc : ∀ (l : List Tree) (t : Tree) (p : Part) (s : St), writeAlt (l ++ [t]) p s =
    (⟨mergeL (writeAlt l p s).1.first (writeT t (writeAlt l p s).2).1.first, mergeL (writeAlt l p s).1.last (writeT t (writeAlt l p s).2).1.last, (writeAlt l p s).1.none || (writeT t (writeAlt l p s).2).1.none⟩, (writeT t (writeAlt l p s).2).2)
  | [], t, p, s => by simp [writeAlt]
  | x :: l, t, p, s => by
    show writeAlt (l ++ [t]) _ _ = _
    rw [writeAlt_snoc l t]; rfl
theorem spotsNs_take (l : List Tree) : ∀ (j : Nat) (h : j < l.length), spotsNs (l.take j) + spotsN l[j] ≤ spotsNs l := by
  induction l with
  | nil => intro j h; simp at h
  | cons x l ih =>
    intro j h
    cases j with
    | zero => simp [spotsNs]
    | succ j =>
      have := ih j (by simpa using h)
      simp [spotsNs]; omega
theorem spotsNs_take_le (l : List Tree) : ∀ j, spotsNs (l.take j) ≤ spotsNs l := by
  induction l with
  | nil => intro j; simp
  | cons x l ih =>
    intro j
    cases j with
    | zero => simp [spotsNs]
    | succ j => have := ih j; simp [spotsNs]; omega

/-- A part's value, its lists' shapes told. -/
abbrev pval (p : Part) (A1 : Option Addr) (c1 : Nat) (A2 : Option Addr) (c2 : Nat) : Value := .agg #[.slice A1 p.first.length c1, .slice A2 p.last.length c2, .bool p.none]
def PartSl (w : World) (p : Part) (A1 : Option Addr) (c1 : Nat) (A2 : Option Addr) (c2 : Nat) : Prop := IRT w (.slice A1 p.first.length c1) p.first ∧ IRT w (.slice A2 p.last.length c2) p.last
theorem PartSl.keep {w w' : World} {p : Part} {A1 : Option Addr} {c1 : Nat} {A2 : Option Addr} {c2 : Nat} (h : PartSl w p A1 c1 A2 c2) (hk : Keep3 w w') : PartSl w' p A1 c1 A2 c2 := ⟨h.1.keep hk, h.2.keep hk⟩
theorem PartSl.part {w : World} {p : Part} {A1 : Option Addr} {c1 : Nat} {A2 : Option Addr} {c2 : Nat} (h : PartSl w p A1 c1 A2 c2) : PartIn w (pval p A1 c1 A2 c2) p := ⟨_, _, rfl, h.1, h.2⟩
theorem PartIn.sl {w : World} {v : Value} {p : Part} (h : PartIn w v p) : ∃ A1 c1 A2 c2, v = pval p A1 c1 A2 c2 ∧ PartSl w p A1 c1 A2 c2 := by
  obtain ⟨fv, lv, rfl, h1, h2⟩ := h
  obtain ⟨A1, c1, rfl, _⟩ := h1.form
  obtain ⟨A2, c2, rfl, _⟩ := h2.form
  exact ⟨A1, c1, A2, c2, rfl, h1, h2⟩
/-- What a call of the writer that hands back a part comes to. -/
def Wrote (B wb : Nat) (w : World) (p : Part) (s : St) (e : Ending) (w' : World) : Prop := ∃ A1 c1 A2 c2, e = .returned (pval p A1 c1 A2 c2) ∧ PartSl w' p A1 c1 A2 c2 ∧ WInv B wb w' s ∧ KW B w w'
theorem Wrote.of {B wb : Nat} {w : World} {p : Part} {s : St} {e : Ending} {w' : World} (h : ∃ v, e = .returned v ∧ PartIn w' v p ∧ WInv B wb w' s ∧ KW B w w') : Wrote B wb w p s e w' := by
  obtain ⟨v, rfl, hp, hw, hk⟩ := h
  obtain ⟨A1, c1, A2, c2, rfl, h⟩ := hp.sl
  exact ⟨A1, c1, A2, c2, rfl, h, hw, hk⟩
theorem behind_w (B wb : Nat) (s : St) (a b : Part) (A1 : Option Addr) (c1 : Nat) (A2 : Option Addr) (c2 : Nat) (A3 : Option Addr) (c3 : Nat) (A4 : Option Addr) (c4 : Nat) (w : World) (hw : WInv B wb w s) (ha : PartSl w a A1 c1 A2 c2) (hb : PartSl w b A3 c3 A4 c4) (ga : GoodPart s.sets.length a) (gb : GoodPart s.sets.length b) :
    Calls Tryd.prog 40 #[.pointer (some ⟨wb, 0, none⟩), pval a A1 c1 A2 c2, pval b A3 c3 A4 c4] w (Wrote B wb w (behindP a b) (behindS s a b)) :=
  (behind_any B wb s a b _ _ w hw ha.part hb.part ga gb).mono fun _ _ h => Wrote.of h
/-- A tree in the world in which the writing began; the contract of write for it. -/
def WriteOK (w0 : World) (wb : Nat) (T : Tree) (A : Option Addr) (c : Nat) : Prop := ∀ (s : St) (w : World), Below w0.heap.size w0 w → WInv w0.heap.size wb w s → s.sets.length + spotsN T ≤ 512 →
  Calls Tryd.prog 21 #[.pointer (some ⟨wb, 0, none⟩), T.val A c] w (Wrote w0.heap.size wb w (writeT T s).1 (writeT T s).2)
theorem box8 {w : World} {k : Nat} {v0 v1 v2 v3 v4 v5 v6 v7 : Value} {t : TypeId} {m : Nat × Nat} (h : w.heap[k]? = some (.cells #[v0, v1, v2, v3, v4, v5, v6, v7] t m)) :
    w.cell? ⟨k, 0, none⟩ = some v0 ∧ w.cell? ⟨k, 1, none⟩ = some v1 ∧ w.cell? ⟨k, 2, none⟩ = some v2 ∧ w.cell? ⟨k, 3, none⟩ = some v3 ∧ w.cell? ⟨k, 4, none⟩ = some v4 ∧ w.cell? ⟨k, 5, none⟩ = some v5 ∧ w.cell? ⟨k, 6, none⟩ = some v6 ∧ w.cell? ⟨k, 7, none⟩ = some v7 ∧ k < w.heap.size :=
  ⟨cell_of h rfl, cell_of h rfl, cell_of h rfl, cell_of h rfl, cell_of h rfl, cell_of h rfl, cell_of h rfl, cell_of h rfl, (Array.getElem?_eq_some_iff.1 h).1⟩

end Go.Proofs.YtmcoaopcmjociaaDoor

namespace Go.Proofs.YtmcoaopcmjociaaDoor
open Go Go.RowKit Go.Sort

set_option maxRecDepth 100000 in
set_option maxHeartbeats 4000000 in
theorem write_cat (w0 : World) (wb d : Nat) (k s0 s1 s2 s3 : Int) (l : List Tree) (mn mx : Int) (A : Option Addr) (c : Nat) (hk1 : k ≠ 1) (hk3 : k ≠ 3) (hk4 : k ≠ 4) (hr : ∀ t ∈ l, t.right = true) (hkids : KidsIn w0 (d + 1) l A)
    (ih : ∀ (t : Tree) (A : Option Addr) (c : Nat), t.right = true → KidsIn w0 d t.kids A → WriteOK w0 wb t A c) : WriteOK w0 wb (.node k s0 s1 s2 s3 l mn mx) A c := by
  intro s w h0 hw hf
  have hsp : spotsN (.node k s0 s1 s2 s3 l mn mx) = spotsNs l := by simp [spotsN, hk1, hk4]
  have hwr : writeT (.node k s0 s1 s2 s3 l mn mx) s = writeCat l emptyP s := by simp [writeT, hk1, hk3, hk4]
  rw [hsp] at hf
  rw [hwr]
  clear hsp hwr
  simp only [Tree.val, Tree.kind, Tree.s0, Tree.s1, Tree.s2, Tree.s3, Tree.kids, Tree.mn, Tree.mx]
  have e1 : (k == 1) = false := by simpa using hk1
  have e3 : (k == 3) = false := by simpa using hk3
  have e4 : (k == 4) = false := by simpa using hk4
  clear hk1 hk3 hk4
  have HW := Lib.hid hw
  have H0 := Lib.hid h0
  have HR := Lib.hid hr
  have HKI := Lib.hid hkids
  have IH := Lib.hid ih
  have hl := HKI.out.1
  have hgs : GoodSt s := by obtain ⟨_, _, _, h⟩ := hw; exact h.good
  have HGS := Lib.hid hgs
  have hfit := hw.fits
  clear hw h0 hr hkids ih hgs
  have hbW := Lib.hid (below_a3 w (Obj.cells #[.int .i64 k, .int .u64 s0, .int .u64 s1, .int .u64 s2, .int .u64 s3, .slice A l.length c, .int .i64 mn, .int .i64 mx] 27) (Obj.cells #[.slice none 0 0, .slice none 0 0, .bool false] 52) (Obj.cells #[.slice none 0 0, .slice none 0 0, .bool true] 52))
  have hrb := Lib.hid (heap_a1' w (Obj.cells #[.int .i64 k, .int .u64 s0, .int .u64 s1, .int .u64 s2, .int .u64 s3, .slice A l.length c, .int .i64 mn, .int .i64 mx] 27) (Obj.cells #[.slice none 0 0, .slice none 0 0, .bool false] 52) (Obj.cells #[.slice none 0 0, .slice none 0 0, .bool true] 52))
  have hpb := Lib.hid (heap_a2 w (Obj.cells #[.int .i64 k, .int .u64 s0, .int .u64 s1, .int .u64 s2, .int .u64 s3, .slice A l.length c, .int .i64 mn, .int .i64 mx] 27) (Obj.cells #[.slice none 0 0, .slice none 0 0, .bool false] 52) (Obj.cells #[.slice none 0 0, .slice none 0 0, .bool true] 52))
  go_enter Tryd.func21, Tryd.ntmps21
  go_wp2_with fail
  go_loopg [92] l.length (fun g i wr => ∃ j : Nat, j + g = l.length ∧ i = .int .i64 j ∧ Hid (∃ A1 c1 A2 c2, wr.heap[w.heap.size + 1 + 1]? = some (.cells #[.slice A1 (writeCat (l.take j) emptyP s).1.first.length c1, .slice A2 (writeCat (l.take j) emptyP s).1.last.length c2, .bool (writeCat (l.take j) emptyP s).1.none] 52 (0, 0)) ∧ PartSl wr (writeCat (l.take j) emptyP s).1 A1 c1 A2 c2) ∧
    Hid (wr.heap[w.heap.size + 1]? = some (.cells #[.slice none 0 0, .slice none 0 0, .bool false] 52 (0, 0))) ∧ Hid (WInv w0.heap.size wb wr (writeCat (l.take j) emptyP s).2) ∧ Hid (KW w0.heap.size w wr))
  case atStart => exact ⟨0, by omega, rfl, Lib.hid ⟨_, _, _, _, hpb.out, IR.nil _ _, IR.nil _ _⟩, hrb, Lib.hid (HW.out.below hbW.out), Lib.hid (KW.ofBelow hbW.out hfit)⟩
  case round =>
    obtain ⟨j, hj, rfl, HP, HRB, HWr, HK⟩ := hrel
    have hj1 : j ≤ l.length := by omega
    have Hj := Lib.hid hj; clear hj
    obtain ⟨A1, c1, A2, c2, hpb1, hps⟩ := HP.out
    have hrb1 := HRB.out
    have hsz : w.heap.size + 1 + 1 < wr.heap.size := (Array.getElem?_eq_some_iff.1 hpb1).1
    by_cases hlt : j < l.length
    · have hadds := writeCat_adds (l.take j) (fun t ht => HR.out t (List.mem_of_mem_take ht)) emptyP s HGS.out (GoodPart.empty _ _)
      have hfj := spotsNs_take l j hlt
      have hsn := writeCat_snoc (l.take j) l[j] emptyP s
      rw [← Tree.take_snoc l j hlt] at hsn
      obtain ⟨r, hrr⟩ : ∃ r, r = writeCat (l.take j) emptyP s := ⟨_, rfl⟩
      rw [← hrr] at hadds hsn hpb1 hps
      have hWr := HWr.out
      rw [← hrr] at hWr
      have hq := writeT_adds l[j] (HR.out _ (List.getElem_mem hlt)) r.2 hadds.1
      obtain ⟨q, hqq⟩ : ∃ q, q = writeT l[j] r.2 := ⟨_, rfl⟩
      rw [← hqq] at hsn hq
      obtain ⟨p, s1⟩ := r
      obtain ⟨q, s2⟩ := q
      simp only at hadds hsn hpb1 hps hWr hq
      have hb0 : Below w0.heap.size w0 wr := H0.out.trans HK.out.below
      obtain ⟨ad, A', c', rfl, hc, hk⟩ := HKI.out.2 j l[j] (List.getElem?_eq_getElem hlt)
      obtain ⟨d0, d1, d2, d3, d4, d5, d6, d7⟩ := hc.below hb0
      have hcall := IH.out l[j] A' c' (HR.out _ (List.getElem_mem hlt)) hk s1
      obtain ⟨tj, htj⟩ : ∃ tj, tj = l[j] := ⟨_, rfl⟩
      simp only at hqq
      rw [← htj] at d0 d1 d2 d3 d4 d5 d6 d7 hcall hq hfj hqq
      rw [← hqq] at hcall
      have hbt := (Below.refl wr.heap.size wr).alloc (Nat.le_refl _) (Obj.cells #[.int .i64 tj.kind, .int .u64 tj.s0, .int .u64 tj.s1, .int .u64 tj.s2, .int .u64 tj.s3, .slice A' tj.kids.length c', .int .i64 tj.mn, .int .i64 tj.mx] 27)
      have hkb := heap_a0 wr (Obj.cells #[.int .i64 tj.kind, .int .u64 tj.s0, .int .u64 tj.s1, .int .u64 tj.s2, .int .u64 tj.s3, .slice A' tj.kids.length c', .int .i64 tj.mn, .int .i64 tj.mx] 27)
      have hcall1 := hcall ((wr.alloc (Obj.cells #[.int .i64 tj.kind, .int .u64 tj.s0, .int .u64 tj.s1, .int .u64 tj.s2, .int .u64 tj.s3, .slice A' tj.kids.length c', .int .i64 tj.mn, .int .i64 tj.mx] 27)).drew) (hb0.trans ((hbt.drew).mono (Nat.le_trans hfit HK.out.size))) (hWr.below hbt.drew) (by omega)
      obtain ⟨P0, P1, P2, F0, F1, F2, _⟩ := part3 hpb1
      have Hadds := Lib.hid hadds; have Hq := Lib.hid hq; have Hsn := Lib.hid hsn; have Hps := Lib.hid hps; have HWr1 := Lib.hid hWr; have Hcall := Lib.hid hcall1; have Hhkb := Lib.hid hkb; have Hhbt := Lib.hid hbt; have Hpb1 := Lib.hid hpb1
      have Hrb1 := Lib.hid hrb1
      clear hadds hq hsn hps hWr hcall hcall1 hkb hbt hb0 hc hk hrr hqq htj hpb1 hrb1 HWr HP HRB
      go_wp2_with fail
      go_region_with (first | (go_at_call 21; refine Hcall.out.mono ?_; rintro e w1 ⟨A3, c3, A4, c4, rfl, hq1, hW1, hK1⟩; have hp1 := hK1.box (heap_a1 Hpb1.out) (by decide) (by decide) (by decide); have hr1 := Lib.hid (hK1.box (heap_a1 Hrb1.out) (by decide) (by decide) (by decide)); have hps1 := (Hps.out.keep (Keep3.below (by exact Hhbt.out.drew))).keep hK1.keep3; obtain ⟨t0, t1, t2, _, _, _, t6⟩ := part3 hp1) | (go_at_call 40; refine (behind_w _ wb s2 p q A1 c1 A2 c2 A3 c3 A4 c4 _ hW1 hps1 hq1 ?hg1 ?hg2).mono ?_; (case hg1 => exact Hadds.out.2.1.mono (by have := Hq.out.2.2; omega)); (case hg2 => exact Hq.out.2.1); rintro e w2 ⟨A5, c5, A6, c6, rfl, hpp, hW2, hK2⟩; have hp2 := hK2.box hp1 (by decide) (by decide) (by decide); obtain ⟨y0, y1, y2, x0, x1, x2, x6⟩ := part3 hp2))
      all_goals
        have hKa : KW w0.heap.size w w2 := ((HK.out.trans (KW.ofBelow (by exact Hhbt.out.drew) (Nat.le_trans hfit HK.out.size))).trans hK1).trans hK2
        have hr2 := hK2.box hr1.out (by decide) (by decide) (by decide)
        have hks := (KS.refl w2).store3 ⟨_, _, hp2⟩ (by decide) (by decide) (by decide) (by decide) (.slice A5 (behindP p q).first.length c5) (.slice A6 (behindP p q).last.length c6) (.bool (behindP p q).none)
        have hst := store3 hp2 (.slice A5 (behindP p q).first.length c5) (.slice A6 (behindP p q).last.length c6) (.bool (behindP p q).none)
        have hKb := ((hKa.newCell (r := w.heap.size + 1 + 1) (by omega) hfit 0 (.slice A5 (behindP p q).first.length c5)).newCell (r := w.heap.size + 1 + 1) (by omega) hfit 1 (.slice A6 (behindP p q).last.length c6)).newCell (r := w.heap.size + 1 + 1) (by omega) hfit 2 (.bool (behindP p q).none)
        have hrS := (Below.heap_setCell _ ⟨w.heap.size + 1 + 1, 2, none⟩ (.bool (behindP p q).none) (w.heap.size + 1) (by show w.heap.size + 1 ≠ w.heap.size + 1 + 1; omega)).trans ((Below.heap_setCell _ ⟨w.heap.size + 1 + 1, 1, none⟩ (.slice A6 (behindP p q).last.length c6) (w.heap.size + 1) (by show w.heap.size + 1 ≠ w.heap.size + 1 + 1; omega)).trans ((Below.heap_setCell w2 ⟨w.heap.size + 1 + 1, 0, none⟩ (.slice A5 (behindP p q).first.length c5) (w.heap.size + 1) (by show w.heap.size + 1 ≠ w.heap.size + 1 + 1; omega)).trans hr2))
        have E1 := Lib.hid hst; have E2 := Lib.hid (hpp.keep hks.keep3); have E3 := Lib.hid (hW2.side hks); have E4 := Lib.hid hKb; have E5 := Lib.hid hrS
        clear hKa hr2 hks hst hKb hrS hpp hW2 hK2 hp2 hp1 hps1 hq1 hW1 hK1
        go_wp2_with fail
        have hj := Hj.out
        go_roundg (gk - 1)
        case measure => omega
        case rel => exact ⟨j + 1, by omega, by go_num, Lib.hid (by rw [Hsn.out]; exact ⟨_, _, _, _, E1.out, E2.out⟩), E5, Lib.hid (by rw [Hsn.out]; exact E3.out), E4⟩
    · obtain rfl : j = l.length := by omega
      rw [List.take_length] at hpb1 hps
      have hWr := HWr.out
      rw [List.take_length] at hWr
      obtain ⟨r, hrr⟩ : ∃ r, r = writeCat l emptyP s := ⟨_, rfl⟩
      rw [← hrr] at hpb1 hps hWr
      obtain ⟨P0, P1, P2, _, _, _, _⟩ := part3 hpb1
      obtain ⟨R0, R1, R2, Z0, Z1, Z2, _⟩ := part3 hrb1
      obtain ⟨e1, e2, e3, e4⟩ := part_end (p := r.1) HK.out hWr rfl hps.1 hps.2 hrb1 (by omega) hfit
      have E1 := Lib.hid e1; have E2 := Lib.hid e2; have E3 := Lib.hid e3; have E4 := Lib.hid e4; have Hrr := Lib.hid hrr
      clear e1 e2 e3 e4 hpb1 hps hWr hrb1 hrr HP HRB HWr
      go_wp2_with fail
      refine bodyPost_ret (ret_part rfl _ _ (w.heap.size + 1) _ _ _ (0, 0) rfl E1.out) rfl ?_
      rw [← Hrr.out]
      exact Wrote.of ⟨_, rfl, E2.out, E3.out, E4.out⟩
end Go.Proofs.YtmcoaopcmjociaaDoor
