/- spots.Match: its closure; ContainsFunc over whole numbers; rows of bools. match: rows of marks; join, slices.Clone and slices.Equal over them. match.often, over the contract of match.moved. -/
import Derived.Test.YtmcoaopcmjociaaDoorZt10
import Derived.Test.YtmcoaopcmjociaaDoorZt6
import Derived.Lib.SliceRun
import Derived.Deep.Upon
import Derived.Lib.Walk
import Derived.Laws.CopyRow
import Derived.OwnWalk
namespace Go.Proofs.YtmcoaopcmjociaaDoor
open Go Go.RowKit Go.Sort

/-- A block of bools. -/
def BoolsAt (w : World) (g : Nat) (bs : List Bool) : Prop := w.heap[g]? = some (.cells (bs.map Value.bool).toArray 4 (0, 0))
theorem BoolsAt.cell {w : World} {g : Nat} {bs : List Bool} (h : BoolsAt w g bs) (i : Nat) (hi : i < bs.length) : w.cell? ⟨g, i, none⟩ = some (.bool bs[i]) := by
  refine cell_of h ?_
  simp [hi]
theorem BoolsAt.frozen {w : World} {g : Nat} {bs : List Bool} (h : BoolsAt w g bs) (i : Nat) : w.frozen? ⟨g, i, none⟩ = false := frozen_of h
theorem BoolsAt.set {w : World} {g : Nat} {bs : List Bool} (h : BoolsAt w g bs) (i : Nat) (b : Bool) : BoolsAt (w.setCell ⟨g, i, none⟩ (.bool b)) g (bs.set i b) := by
  have := heap_setCell_same w g i (.bool b) h
  unfold BoolsAt
  rw [this]
  simp [List.map_set]
theorem BoolsAt.lt {w : World} {g : Nat} {bs : List Bool} (h : BoolsAt w g bs) : g < w.heap.size := (Array.getElem?_eq_some_iff.1 h).1
theorem BoolsAt.made {w : World} {B g n : Nat} (h : w.ownsRow B 4 1 (.slice (some ⟨g, 0, none⟩) n n) n (madeCells #[Value.bool false] n).toList) : BoolsAt w g (List.replicate n false) := by
  rcases h.2 with ⟨he, _⟩ | ⟨g', cap, cur, he, _, hh, _, _, hs, ht⟩
  · injection he with h1 _ _; cases h1
  · injection he with h1 h2 h3
    injection h1 with h1
    injection h1 with h1
    subst h1
    subst h3
    unfold BoolsAt
    rw [hh]
    have hc : cur.toList = (madeCells #[Value.bool false] n).toList := by
      rw [← ht, List.take_of_length_le (by simp [hs])]
    have hc2 : cur = madeCells #[Value.bool false] n := Array.toList_inj.1 hc
    rw [hc2]
    congr 2
    simp [madeCells, Nat.mod_one]
    apply Array.ext <;> simp
theorem heap_setCells (t : TypeId) (m : Nat × Nat) (g : Nat) : ∀ (vs : List Value) (pre old : List Value) (w : World), old.length = vs.length → w.heap[g]? = some (.cells (pre ++ old).toArray t m) → (w.setCells g pre.length vs).heap[g]? = some (.cells (pre ++ vs).toArray t m)
  | [], pre, old, w, ho, h => by
    obtain rfl : old = [] := List.length_eq_zero_iff.1 ho
    exact h
  | v :: vs, pre, [], w, ho, h => by simp at ho
  | v :: vs, pre, o :: old, w, ho, h => by
    have h1 := heap_setCell_same w g pre.length v h
    have h2 : ((pre ++ o :: old).toArray.setIfInBounds pre.length v) = ((pre ++ [v]) ++ old).toArray := by simp
    rw [h2] at h1
    have h3 := heap_setCells t m g vs (pre ++ [v]) old _ (by simpa using ho) h1
    rw [List.length_append] at h3
    have h4 : (pre ++ [v]) ++ vs = pre ++ v :: vs := by simp
    rw [h4] at h3
    exact h3
/-- clear of a block of bools. -/
theorem BoolsAt.clear {w : World} {g : Nat} {bs : List Bool} (h : BoolsAt w g bs) : BoolsAt (w.setCells g 0 (List.replicate bs.length (.bool false))) g (List.replicate bs.length false) := by
  have := heap_setCells 4 (0, 0) g (List.replicate bs.length (.bool false)) [] (bs.map Value.bool) w (by simp) h
  unfold BoolsAt
  simp at this ⊢
  exact this
theorem run_clear_bools {w : World} {g : Nat} {bs : List Bool} (h : BoolsAt w g bs) (ty : TypeId) (c : Nat) : (Builtin.clear_ #[63] ty #[.slice (some ⟨g, 0, none⟩) bs.length c]).run Tryd.prog w = .ok (.tuple #[]) (w.setCells g 0 (List.replicate bs.length (.bool false))) := by
  rcases Nat.eq_zero_or_pos bs.length with h0 | h0
  · rw [h0]
    simp [Builtin.clear_, run_underlying Tryd.underlying63, World.setCells]
  · refine Lib.run_clear_slice w 63 4 ty (.bool false) Tryd.underlying63 (fun w => by kernel_rfl) rfl rfl g 0 bs.length c h0 (fun j hj => ?_) (fun j hj => ?_)
    · rw [Nat.zero_add, h.cell j hj]; rfl
    · exact h.frozen _
theorem KR.cells {B rb : Nat} : ∀ (vs : List Value) (o : Nat) (w : World), KR B rb w (w.setCells rb o vs)
  | [], _, w => KR.refl B rb w
  | v :: r, o, w => ((KR.refl B rb w).setR o v).trans (KR.cells r (o + 1) _)

set_option maxRecDepth 100000 in
theorem match1_any (k : Nat) (nb na n : Nat) (bs : List Bool) (w : World) (hk : k < bs.length) (hn : w.cell? ⟨nb, 0, none⟩ = some (.slice (some ⟨na, 0, none⟩) n n)) (hl : bs.length = n) (hb : BoolsAt w na bs) (h63 : n ≤ 1048576) :
    Calls Tryd.prog 31 #[.int .i64 k, .pointer (some ⟨nb, 0, none⟩)] w fun e w' => e = .returned (.bool bs[k]) ∧ w = w' := by
  have hc := hb.cell k hk
  have hkn : k < n := by omega
  obtain ⟨b, hbb⟩ : ∃ b, b = bs[k] := ⟨_, rfl⟩
  rw [← hbb] at hc ⊢
  clear hbb hb hl hk
  go_enter Tryd.func31, Tryd.ntmps31
  go_wp2_with fail
  go_ret
  exact ⟨rfl, rfl⟩

/-- Is a spot of a list marked? -/
def anyMark (bs : List Bool) (l : List Int) : Bool := l.any fun k => bs.getD k.toNat false

set_option maxRecDepth 100000 in
theorem index_marks {S : Nat → Prop} (va : Value) (xs : List Int) (nb na n : Nat) (bs : List Bool) (w : World) (h : IR S w va xs) (hg : ∀ x ∈ xs, 0 ≤ x ∧ x < n) (hn : w.cell? ⟨nb, 0, none⟩ = some (.slice (some ⟨na, 0, none⟩) n n)) (hl : bs.length = n) (hb : BoolsAt w na bs) (h63 : n ≤ 1048576) :
    Calls Tryd.prog 46 #[va, .func (Fn.func 31) #[] #[.pointer (some ⟨nb, 0, none⟩)]] w (IdxPost (anyMark bs xs) w) := by
  have hxl := h.len
  obtain ⟨A, c, rfl, hc, hcs⟩ := h.form
  have HC := Lib.hid hcs; have HG := Lib.hid hg; have HN := Lib.hid hn; have HB := Lib.hid hb; have HL := Lib.hid hl
  clear h hcs hg hn hb hl
  go_enter Tryd.func46, Tryd.ntmps46
  go_wp2_with fail
  go_loopg [8] xs.length (fun g i wr => ∃ j : Nat, j + g = xs.length ∧ i = .int .i64 j ∧ Hid (anyMark bs xs = anyMark bs (xs.drop j)) ∧ wr = w)
  case atStart => exact ⟨0, by omega, rfl, Lib.hid rfl, rfl⟩
  case round =>
    obtain ⟨j, hj, rfl, HI, rfl⟩ := hrel
    have Hj := Lib.hid hj
    by_cases hlt : j < xs.length
    · obtain ⟨b, off, rfl, _, hx⟩ := HC.out (by omega)
      have hxj := hx j hlt
      rw [List.getD_eq_getElem?_getD, List.getElem?_eq_getElem hlt] at hxj
      simp only [Option.getD_some] at hxj
      have HD := Lib.hid (List.drop_eq_getElem_cons hlt)
      obtain ⟨k, hk⟩ := Int.eq_ofNat_of_zero_le (HG.out xs[j] (List.getElem_mem hlt)).1
      have hkn := (HG.out xs[j] (List.getElem_mem hlt)).2
      obtain ⟨x, hxx⟩ : ∃ x, x = xs[j] := ⟨_, rfl⟩
      rw [← hxx] at hxj HD hk hkn
      subst hk
      have hkb : k < bs.length := by rw [HL.out]; omega
      have HR := Lib.hid (match1_any k nb na n bs _ hkb HN.out HL.out HB.out h63)
      have HV := Lib.hid (show bs.getD (k : Int).toNat false = bs[k] by rw [Int.toNat_natCast, List.getD_eq_getElem?_getD, List.getElem?_eq_getElem hkb]; rfl)
      clear hx hxx hj hkn
      go_wp2_with fail
      refine HR.out.mono ?_
      rintro e w1 ⟨rfl, rfl⟩
      cases hr : bs[k] with
      | false =>
        have hI : anyMark bs xs = anyMark bs (xs.drop (j + 1)) := by rw [HI.out, HD.out]; unfold anyMark; rw [List.any_cons, HV.out, hr]; rfl
        have HI2 := Lib.hid hI
        clear hI hr
        go_wp2_with fail
        have hj := Hj.out
        go_roundg (gk - 1)
        case measure => omega
        case rel => exact ⟨j + 1, by omega, by go_num, HI2, rfl⟩
      | true =>
        have hI : anyMark bs xs = true := by rw [HI.out, HD.out]; unfold anyMark; rw [List.any_cons, HV.out, hr]; rfl
        have HI2 := Lib.hid hI
        clear hI hr
        go_wp2_with fail
        go_ret
        exact ⟨j, by rw [HI2.out]; simp, rfl, rfl⟩
    · have hI : anyMark bs xs = false := by rw [HI.out, List.drop_eq_nil_of_le (by omega)]; rfl
      have HI2 := Lib.hid hI
      clear hI hj
      go_wp2_with fail
      go_ret
      exact ⟨-1, by rw [HI2.out]; simp, rfl, rfl⟩

set_option maxRecDepth 100000 in
theorem contains_marks {S : Nat → Prop} (va : Value) (xs : List Int) (nb na n : Nat) (bs : List Bool) (w : World) (h : IR S w va xs) (hg : ∀ x ∈ xs, 0 ≤ x ∧ x < n) (hn : w.cell? ⟨nb, 0, none⟩ = some (.slice (some ⟨na, 0, none⟩) n n)) (hl : bs.length = n) (hb : BoolsAt w na bs) (h63 : n ≤ 1048576) :
    Calls Tryd.prog 30 #[va, .func (Fn.func 31) #[] #[.pointer (some ⟨nb, 0, none⟩)]] w fun e w' => e = .returned (.bool (anyMark bs xs)) ∧ w = w' := by
  have H := Lib.hid (index_marks va xs nb na n bs w h hg hn hl hb h63)
  obtain ⟨A, c, rfl, _, _⟩ := h.form
  clear h hg hn hb hl
  go_enter Tryd.func30, Tryd.ntmps30
  go_wp2_with fail
  refine H.out.mono ?_
  rintro e w1 ⟨r, hr, rfl, rfl⟩
  cases hb : anyMark bs xs with
  | false =>
    rw [hb] at hr
    simp at hr
    subst hr
    have HB := Lib.hid hb
    clear hb
    go_wp2_with fail
    go_ret
    exact ⟨by rw [HB.out]; rfl, rfl⟩
  | true =>
    rw [hb] at hr
    simp at hr
    have hr2 : decide (0 ≤ r) = true := by simpa using hr
    have HB := Lib.hid hb
    clear hb
    go_wp2_with fail
    go_ret
    exact ⟨by rw [HB.out]; simp [hr], rfl⟩
end Go.Proofs.YtmcoaopcmjociaaDoor

namespace Go.Proofs.YtmcoaopcmjociaaDoor
open Go Go.RowKit Go.Sort

/-- A row of marks, spare places behind it. -/
def MR (w : World) (g : Nat) (bs : List Bool) : Prop := ∃ rest : List Value, w.heap[g]? = some (.cells (bs.map Value.bool ++ rest).toArray 4 (0, 0))
theorem MR.cell {w : World} {g : Nat} {bs : List Bool} (h : MR w g bs) (i : Nat) (hi : i < bs.length) : w.cell? ⟨g, i, none⟩ = some (.bool bs[i]) := by
  obtain ⟨rest, h⟩ := h
  refine cell_of h ?_
  rw [List.getElem?_toArray, List.getElem?_append_left (by simpa using hi)]
  simp [hi]
theorem MR.frozen {w : World} {g : Nat} {bs : List Bool} (h : MR w g bs) (i : Nat) : w.frozen? ⟨g, i, none⟩ = false := by
  obtain ⟨rest, h⟩ := h
  exact frozen_of h
theorem MR.set {w : World} {g : Nat} {bs : List Bool} (h : MR w g bs) (i : Nat) (hi : i < bs.length) (b : Bool) : MR (w.setCell ⟨g, i, none⟩ (.bool b)) g (bs.set i b) := by
  obtain ⟨rest, h⟩ := h
  have := heap_setCell_same w g i (.bool b) h
  refine ⟨rest, ?_⟩
  rw [this]
  congr 2
  rw [sA, List.set_append_left _ _ (by simpa using hi), List.map_set]
theorem MR.lt {w : World} {g : Nat} {bs : List Bool} (h : MR w g bs) : g < w.heap.size := by
  obtain ⟨rest, h⟩ := h
  exact (Array.getElem?_eq_some_iff.1 h).1
theorem MR.same {w w' : World} {g : Nat} {bs : List Bool} (h : MR w g bs) (hb : w'.heap[g]? = w.heap[g]?) : MR w' g bs := by
  obtain ⟨rest, h⟩ := h
  exact ⟨rest, hb.trans h⟩
theorem MR.below {w w' : World} {g : Nat} {bs : List Bool} (h : MR w g bs) (hb : Below w.heap.size w w') : MR w' g bs := h.same (hb.block g h.lt)
theorem MR.keepR {w w' : World} {g rb : Nat} {bs : List Bool} (h : MR w g bs) (hb : KR w.heap.size rb w w') (hn : g ≠ rb) : MR w' g bs := h.same (hb.block g h.lt hn)
theorem BoolsAt.row {w : World} {g : Nat} {bs : List Bool} (h : BoolsAt w g bs) : MR w g bs := ⟨[], by rw [List.append_nil]; exact h⟩
/-- An owned row of marks. -/
theorem MR.owned {w : World} {B n : Nat} {v : Value} {bs : List Bool} (h : w.ownsRow B 4 1 v n (bs.map Value.bool)) (hn : 0 < n) : ∃ g c, v = .slice (some ⟨g, 0, none⟩) n c ∧ B ≤ g ∧ MR w g bs := by
  rcases h.2 with ⟨rfl, he⟩ | ⟨g, cap, cur, rfl, hg, hh, _, _, hs, ht⟩
  · omega
  · refine ⟨g, cap, rfl, hg, cur.toList.drop n, ?_⟩
    rw [hh]
    congr 2
    rw [← ht]
    apply Array.ext'
    simp

theorem MR.get {w : World} {g n : Nat} {f : Nat → Bool} (h : MR w g (marksOf n f)) (i : Nat) (hi : i < n) : w.cell? ⟨g, i, none⟩ = some (.bool (f i)) := by
  have hl : i < (marksOf n f).length := by rw [marksOf_len]; exact hi
  rw [h.cell i hl]
  have := marksOf_get n f i hi
  rw [List.getElem?_eq_getElem hl] at this
  simpa using this

/-- Is a mark new? -/
def freshB (n : Nat) (f f' : Nat → Bool) : Bool := (List.range n).any fun i => f' i && !f i
theorem freshB_succ (n : Nat) (f f' : Nat → Bool) : freshB (n + 1) f f' = (freshB n f f' || f' n && !f n) := by
  unfold freshB
  rw [List.range_succ, List.any_append, List.any_cons, List.any_nil, Bool.or_false]
/-- Are marks the same? -/
def eqB (n : Nat) (f f' : Nat → Bool) : Bool := (List.range n).all fun i => f i == f' i
theorem eqB_succ (n : Nat) (f f' : Nat → Bool) : eqB (n + 1) f f' = (eqB n f f' && (f n == f' n)) := by
  unfold eqB
  rw [List.range_succ, List.all_append, List.all_cons, List.all_nil, Bool.and_true]
theorem eqB_stop {n j : Nat} (hj : j < n) {f f' : Nat → Bool} (h : (f j == f' j) = false) : eqB n f f' = false := by
  unfold eqB
  rw [List.all_eq_false]
  exact ⟨j, List.mem_range.2 hj, by simp [h]⟩

/-- Marks joined up to j. -/
def joinTo (j : Nat) (f f' : Nat → Bool) (i : Nat) : Bool := f i || (decide (i < j) && f' i)
theorem joinTo_set (n j : Nat) (f f' : Nat → Bool) : (marksOf n (joinTo j f f')).set j (f j || f' j) = marksOf n (joinTo (j + 1) f f') := by
  apply List.ext_getElem?
  intro i
  rcases Nat.lt_or_ge i n with h | h
  · by_cases hk : j = i
    · subst hk
      rw [List.getElem?_set_self (by rw [marksOf_len]; exact h), marksOf_get n _ j h]
      simp [joinTo]
    · rw [List.getElem?_set_ne hk, marksOf_get n _ i h, marksOf_get n _ i h]
      unfold joinTo
      rw [decide_eq_decide.2 (show i < j ↔ i < j + 1 by omega)]
  · rw [List.getElem?_eq_none (by rw [List.length_set, marksOf_len]; exact h), List.getElem?_eq_none (by rw [marksOf_len]; exact h)]
theorem joinTo_zero (f f' : Nat → Bool) : joinTo 0 f f' = f := by funext i; simp [joinTo]
theorem joinTo_at (j : Nat) (f f' : Nat → Bool) : joinTo j f f' j = f j := by simp [joinTo]
theorem joinTo_full (n : Nat) (f f' : Nat → Bool) : marksOf n (joinTo n f f') = marksOf n fun i => f i || f' i := marksOf_congr n fun i hi => by simp [joinTo, hi]

set_option maxRecDepth 100000 in
theorem join_marks (n g h c c' : Nat) (f f' : Nat → Bool) (w : World) (hg : MR w g (marksOf n f)) (hh : MR w h (marksOf n f')) (hne : h ≠ g) (h63 : n ≤ 1048577) :
    Calls Tryd.prog 59 #[.slice (some ⟨g, 0, none⟩) n c, .slice (some ⟨h, 0, none⟩) n c'] w fun e w' => e = .returned (.bool (freshB n f f')) ∧ MR w' g (marksOf n fun i => f i || f' i) ∧ KR w.heap.size g w w' := by
  have HG := Lib.hid hg; have HH := Lib.hid hh
  have hgl := hg.lt
  clear hg hh
  go_enter Tryd.func59, Tryd.ntmps59
  go_wp2_with fail
  go_loopg [5, 9] n (fun m fr i wr => ∃ j : Nat, j + m = n ∧ i = .int .i64 j ∧ fr = .bool (freshB j f f') ∧ Hid (MR wr g (marksOf n (joinTo j f f'))) ∧ Hid (MR wr h (marksOf n f')) ∧ Hid (KR w.heap.size g w wr))
  case atStart => exact ⟨0, by omega, rfl, rfl, by rw [joinTo_zero]; exact HG, HH, Lib.hid (KR.refl _ _ _)⟩
  case round =>
    obtain ⟨j, hj, rfl, rfl, HM, HL, HK⟩ := hrel
    have Hj := Lib.hid hj
    by_cases hlt : j < n
    · have x0 := HM.out.get j hlt
      rw [joinTo_at] at x0
      have x1 := HL.out.get j hlt
      have x2 := HM.out.frozen j
      have HS := Lib.hid (freshB_succ j f f')
      have hset := HM.out.set j (by rw [marksOf_len]; exact hlt) (f j || f' j)
      rw [joinTo_set] at hset
      have hl2 := HL.out.same (Below.heap_setCell wr ⟨g, j, none⟩ (.bool (f j || f' j)) h hne)
      have hk2 := HK.out.setR j (.bool (f j || f' j))
      obtain ⟨b1, hb1⟩ : ∃ b, b = freshB j f f' := ⟨_, rfl⟩
      obtain ⟨b2, hb2⟩ : ∃ b, b = f j := ⟨_, rfl⟩
      obtain ⟨b3, hb3⟩ : ∃ b, b = f' j := ⟨_, rfl⟩
      rw [← hb1, ← hb2, ← hb3] at HS
      rw [← hb2] at x0
      rw [← hb3] at x1
      rw [← hb2, ← hb3] at hset hl2 hk2
      rw [← hb1]
      have HSET := Lib.hid hset; have HL2 := Lib.hid hl2; have HK2 := Lib.hid hk2
      clear hb1 hb2 hb3 hset hl2 hk2 hj
      cases b1 <;> cases b2 <;> cases b3 <;>
      · go_wp2_with fail
        have hj := Hj.out
        go_roundg (gk - 1)
        case measure => omega
        case rel => exact ⟨j + 1, by omega, by go_num, by rw [HS.out]; rfl, HSET, HL2, HK2⟩
    · obtain rfl : j = n := by omega
      have hr := HM.out
      rw [joinTo_full] at hr
      have HR := Lib.hid hr
      clear hr hj
      go_wp2_with fail
      go_ret
      exact ⟨rfl, HR.out, HK.out⟩

set_option maxRecDepth 100000 in
theorem equal_marks (n g h c c' : Nat) (f f' : Nat → Bool) (w : World) (hg : MR w g (marksOf n f)) (hh : MR w h (marksOf n f')) (h63 : n ≤ 1048577) :
    Calls Tryd.prog 66 #[.slice (some ⟨g, 0, none⟩) n c, .slice (some ⟨h, 0, none⟩) n c'] w fun e w' => e = .returned (.bool (eqB n f f')) ∧ Below w.heap.size w w' := by
  have HG := Lib.hid hg; have HH := Lib.hid hh
  clear hg hh
  go_enter Tryd.func66, Tryd.ntmps66
  go_wp2_with fail
  go_loopg [13] n (fun m i wr => ∃ j : Nat, j + m = n ∧ i = .int .i64 j ∧ Hid (eqB j f f' = true) ∧ Hid (Below w.heap.size w wr))
  case atStart => exact ⟨0, by omega, rfl, Lib.hid rfl, Lib.hid (Below.refl _ _)⟩
  case round =>
    obtain ⟨j, hj, rfl, HI, HB⟩ := hrel
    have Hj := Lib.hid hj
    by_cases hlt : j < n
    · have x0 := (HG.out.below HB.out).get j hlt
      have x1 := (HH.out.below HB.out).get j hlt
      cases he : f j == f' j with
      | true =>
        have hs : eqB (j + 1) f f' = true := by rw [eqB_succ, HI.out, he]; rfl
        have HS := Lib.hid hs
        have e1 : f j = f' j := by simpa using he
        rw [e1] at x0
        obtain ⟨b, hb⟩ : ∃ b, b = f' j := ⟨_, rfl⟩
        rw [← hb] at x0 x1
        clear hs he e1 hb hj
        cases b <;>
        · go_wp2_with fail
          go_quiet (fail)
          go_wp2_with fail
          have hj := Hj.out
          go_roundg (gk - 1)
          case measure => omega
          case rel => exact ⟨j + 1, by omega, by go_num, HS, Lib.hid (below_drewN HB.out _)⟩
      | false =>
        have HS := Lib.hid (eqB_stop hlt he)
        have e1 : f j = !f' j := by revert he; cases f j <;> cases f' j <;> simp
        rw [e1] at x0
        obtain ⟨b, hb⟩ : ∃ b, b = f' j := ⟨_, rfl⟩
        rw [← hb] at x0 x1
        clear he e1 hb hj
        cases b <;>
        · go_wp2_with fail
          go_quiet (fail)
          go_wp2_with fail
          go_ret
          exact ⟨by rw [HS.out]; rfl, below_drewN HB.out _⟩
    · obtain rfl : j = n := by omega
      clear hj
      go_wp2_with fail
      go_ret
      exact ⟨by rw [HI.out]; rfl, HB.out⟩

theorem boolInfoM : (Tryd.prog.info? 4).map (fun i => (i.zero, i.size, i.bytes)) = some (some (Value.bool false), 1, 1) := by kernel_rfl
theorem marksU : Tryd.prog.underlying 84 = some (.slice 4) := Tryd.underlying84

set_option maxRecDepth 100000 in
theorem clone_marks (n g c : Nat) (bs : List Bool) (w : World) (hg : MR w g bs) (hl : bs.length = n) (h0 : 0 < n) (h63 : n ≤ 1048577) :
    Calls Tryd.prog 65 #[.slice (some ⟨g, 0, none⟩) n c] w fun e w' => ∃ g' c', e = .returned (.slice (some ⟨g', 0, none⟩) n c') ∧ w.heap.size ≤ g' ∧ MR w' g' bs ∧ Below w.heap.size w w' := by
  obtain ⟨i0, hi, hz0, hz1, hz2⟩ := info_parts boolInfoM
  have q22 : ∀ (w : World) (a : Option Addr) (n c n' c' : Nat), (binOp .eql 84 (.slice a n c) (.slice none n' c')).run Tryd.prog w = .ok (.bool a.isNone) w := fun w a n c n' c' => Lib.run_eql_slice_nil w _ _ a n c n' c' marksU
  have HG := Lib.hid hg; have HL := Lib.hid hl
  clear hg hl
  go_enter Tryd.func65, Tryd.ntmps65
  go_wp2_with (at_builtin; refine wpList_append_own _ rfl _ _ 84 rfl w.heap.size 4 i0 (.bool false) 1 1 marksU hi hz0 hz1 hz2 rfl (by decide) _ _ _ rfl (World.ownsRow_made w #[] 0 (Nat.le_refl _) (Nat.zero_le _) rfl) ⟨g, 0, none⟩ n c (bs.map Value.bool) rfl ?qc1 ?qc2 ?qc3 ?qc4 ?qc5 ?qc6 ?_)
  case qc1 => rw [List.length_map, HL.out, Nat.mul_one]
  case qc2 =>
    intro j u hj
    have hjn : j < bs.length := by
      have := (List.getElem?_eq_some_iff.1 hj).1
      simpa using this
    rw [Addr.add_lit]
    refine Lib.cell?_alloc_some _ ?_
    rw [Nat.zero_add, HG.out.cell j hjn, ← hj]
    simp [hjn]
  case qc3 => intro u hu; obtain ⟨x, _, rfl⟩ := List.mem_map.1 hu; rfl
  case qc4 => unfold maxLen; omega
  case qc5 => omega
  case qc6 => simp
  intro v' w1 hown hgrow hnil
  have hown' : w1.ownsRow w.heap.size 4 1 v' n (bs.map Value.bool) := by simpa using hown
  obtain ⟨g', c', rfl, hg', hm⟩ := MR.owned hown' h0
  have HM := Lib.hid hm
  have HB := Lib.hid (((Below.refl w.heap.size w).alloc (Nat.le_refl _) (Obj.cells #[] 4)).grown hgrow (by simp) (by intro k hk; simp [Value.ownBlock] at hk; omega))
  clear hm hown hown' hgrow hnil hi hz0 hz1 hz2
  go_wp2_with fail
  go_ret
  exact ⟨g', c', rfl, hg', HM.out, HB.out⟩
end Go.Proofs.YtmcoaopcmjociaaDoor

namespace Go.Proofs.YtmcoaopcmjociaaDoor
open Go Go.RowKit Go.Sort

/-- The contract of moved, for trees of that depth. -/
def MovedOK (t : ByteArray) (n d : Nat) : Prop := ∀ (T : Tree) (A : Option Addr) (c g cg : Nat) (f : Nat → Bool) (w : World), T.right = true → KidsIn w d T.kids A → MR w g (marksOf n f) →
  Calls Tryd.prog 48 #[T.val A c, .string t, .slice (some ⟨g, 0, none⟩) n cg] w fun e w' => ∃ g' c', e = .returned (.slice (some ⟨g', 0, none⟩) n c') ∧ w.heap.size ≤ g' ∧ MR w' g' (marksOf n (mvF (langT hasB T) (bytesN t) f)) ∧ Below w.heap.size w w'

theorem fresh_false {n : Nat} {F G : Nat → Bool} (h : freshB n F G = false) : ∀ i, i < n → G i = true → F i = true := by
  intro i hi hg
  unfold freshB at h
  rw [List.any_eq_false] at h
  have := h i (List.mem_range.2 hi)
  rw [hg] at this
  cases hf : F i with
  | true => rfl
  | false => rw [hf] at this; simp at this
theorem fresh_true {n : Nat} {F G : Nat → Bool} (h : freshB n F G = true) : ∃ i, i < n ∧ F i = false ∧ G i = true := by
  unfold freshB at h
  rw [List.any_eq_true] at h
  obtain ⟨i, hi, h⟩ := h
  simp only [Bool.and_eq_true, Bool.not_eq_true'] at h
  exact ⟨i, List.mem_range.1 hi, h.2, h.1⟩
theorem eqB_true {n : Nat} {F G : Nat → Bool} (h : eqB n F G = true) : ∀ i, i < n → F i = G i := by
  intro i hi
  unfold eqB at h
  rw [List.all_eq_true] at h
  simpa using h i (List.mem_range.2 hi)
theorem open_le (n : Nat) (F : Nat → Bool) : openN n F ≤ n := by
  unfold openN
  exact Nat.le_trans (List.length_filter_le _ _) (by simp)

set_option maxRecDepth 100000 in
set_option maxHeartbeats 4000000 in
theorem often_marks (t : ByteArray) (n d : Nat) (hn : n = t.size + 1) (h63 : n ≤ 1048577) (ih : MovedOK t n d) (x : Tree) (s0 s1 s2 s3 mn mx : Int) (A : Option Addr) (c g cg : Nat) (f : Nat → Bool) (w : World)
    (hr : x.right = true) (hm0 : 0 ≤ mn) (hm1 : mn ≤ 16) (hmx : mx = -1 ∨ (1 ≤ mx ∧ mn ≤ mx ∧ mx ≤ 16)) (hkids : KidsIn w (d + 1) [x] A) (hg : MR w g (marksOf n f)) :
    Calls Tryd.prog 60 #[.agg #[.int .i64 4, .int .u64 s0, .int .u64 s1, .int .u64 s2, .int .u64 s3, .slice A 1 c, .int .i64 mn, .int .i64 mx], .string t, .slice (some ⟨g, 0, none⟩) n cg] w fun e w' =>
      ∃ g' c', e = .returned (.slice (some ⟨g', 0, none⟩) n c') ∧ w.heap.size ≤ g' ∧ MR w' g' (marksOf n (mvF (langRep hasB [x] mn mx) (bytesN t) f)) ∧ Below w.heap.size w w' := by
  obtain ⟨m, rfl⟩ := Int.eq_ofNat_of_zero_le hm0
  obtain ⟨ad, A', c', rfl, hc, hk⟩ := hkids.2 0 x rfl
  obtain ⟨ab, ao, asp⟩ := ad
  obtain rfl : asp = none := by
    have h := hc.1
    simp only [Addr.add, Nat.zero_mul, if_true] at h
    cases asp with
    | none => rfl
    | some x => exact (cell?_spot h).elim
  have hix : ∀ (g cg : Nat) (f : Nat → Bool) (w1 : World), Below w.heap.size w w1 → MR w1 g (marksOf n f) → Calls Tryd.prog 48 #[x.val A' c', .string t, .slice (some ⟨g, 0, none⟩) n cg] w1 fun e w' => ∃ g' c', e = .returned (.slice (some ⟨g', 0, none⟩) n c') ∧ w1.heap.size ≤ g' ∧ MR w' g' (marksOf n (mvF (langT hasB x) (bytesN t) f)) ∧ Below w1.heap.size w1 w' :=
    fun g cg f w1 hb hm => ih x A' c' g cg f w1 hr (hk.below hb) hm
  have hrep : langRep hasB [x] m mx = fun u => ∃ k : Nat, (m : Int) ≤ k ∧ (mx = -1 ∨ (k : Int) ≤ mx) ∧ powL (langT hasB x) k u := by simp only [langRep]
  rw [hrep]
  have htl : ∀ j, j < n → j ≤ (bytesN t).length := fun j hj => by rw [bytesN_len]; omega
  have hlt' : (bytesN t).length < n := by rw [bytesN_len]; omega
  have HLT := Lib.hid hlt'
  clear hlt'
  obtain ⟨K, hK⟩ : ∃ K, K = langT hasB x := ⟨_, rfl⟩
  obtain ⟨tt, htt⟩ : ∃ tt, tt = bytesN t := ⟨_, rfl⟩
  rw [← hK, ← htt] at hix
  rw [← htt] at htl HLT
  rw [← hK, ← htt]
  obtain ⟨L, hL⟩ : ∃ L : Lang, L = fun u => ∃ k : Nat, (m : Int) ≤ k ∧ (mx = -1 ∨ (k : Int) ≤ mx) ∧ powL K k u := ⟨_, rfl⟩
  rw [← hL]
  have HL := Lib.hid hL
  clear hL
  have h0 : 0 < n := by omega
  have hb0 := (Below.refl w.heap.size w).alloc (Nat.le_refl _) (Obj.cells #[.int .i64 4, .int .u64 s0, .int .u64 s1, .int .u64 s2, .int .u64 s3, .slice (some ⟨ab, ao, none⟩) 1 c, .int .i64 m, .int .i64 mx] 27)
  have k0 := heap_a0 w (Obj.cells #[.int .i64 4, .int .u64 s0, .int .u64 s1, .int .u64 s2, .int .u64 s3, .slice (some ⟨ab, ao, none⟩) 1 c, .int .i64 m, .int .i64 mx] 27)
  have hcl := clone_marks n g cg (marksOf n f) (w.alloc (Obj.cells #[.int .i64 4, .int .u64 s0, .int .u64 s1, .int .u64 s2, .int .u64 s3, .slice (some ⟨ab, ao, none⟩) 1 c, .int .i64 m, .int .i64 mx] 27)) (hg.below hb0) (marksOf_len _ _) h0 h63
  have HIX := Lib.hid hix; have HTL := Lib.hid htl; have HCL := Lib.hid hcl; have HC := Lib.hid hc; have HB0 := Lib.hid hb0; have K0 := Lib.hid k0; have HMX := Lib.hid hmx
  clear hK htt hrep hix hcl hc hb0 k0 hkids ih hk htl hn hmx hg hr
  go_enter Tryd.func60, Tryd.ntmps60
  go_wp2_with fail
  refine HCL.out.mono ?_
  rintro e w1 ⟨g1, c1, rfl, hg1, hm1', hB1⟩
  have k1 := heap_aq hB1 K0.out
  obtain ⟨x0, x1, x2, x3, x4, x5, x6, x7, _⟩ := box8 k1
  have hg1' : w.heap.size < g1 := by simp at hg1; omega
  have HB1 := Lib.hid (HB0.out.trans (hB1.mono HB0.out.size)); have K1 := Lib.hid k1; have HM1 := Lib.hid hm1'
  clear hB1 k1 hm1' hg1
  go_wp2_with fail
  go_loopg [7, 15] m (fun gh nv i wr => ∃ (j gN cN : Nat), j + gh = m ∧ i = .int .i64 j ∧ nv = .slice (some ⟨gN, 0, none⟩) n cN ∧ w.heap.size < gN ∧ Hid (MR wr gN (marksOf n (mvF (powL K j) tt f))) ∧ Hid (wr.heap[w.heap.size]? = some (.cells #[.int .i64 4, .int .u64 s0, .int .u64 s1, .int .u64 s2, .int .u64 s3, .slice (some ⟨ab, ao, none⟩) 1 c, .int .i64 m, .int .i64 mx] 27 (0, 0))) ∧ Hid (Below w.heap.size w wr))
  case atStart => exact ⟨0, g1, c1, by omega, rfl, rfl, hg1', Lib.hid (by rw [show marksOf n (mvF (powL K 0) tt f) = marksOf n f from marksOf_congr n fun i hi => mv_eps tt f i (HTL.out i hi)]; exact HM1.out), K1, HB1⟩
  case round =>
    obtain ⟨j, gN, cN, hj, rfl, rfl, hgn, HM, HX, HB⟩ := hrel
    have Hj := Lib.hid hj
    obtain ⟨x0, x1, x2, x3, x4, x5, x6, x7, hlx⟩ := box8 HX.out
    by_cases hlt : j < m
    · have hmv := HIX.out gN cN (mvF (powL K j) tt f) wr HB.out HM.out
      obtain ⟨y0, y1, y2, y3, y4, y5, y6, y7⟩ := HC.out.below HB.out
      simp only [Addr.add, Nat.zero_mul, if_true] at y0 y1 y2 y3 y4 y5 y6 y7
      have HMV := Lib.hid hmv
      clear hmv hj
      go_wp2_with fail
      refine HMV.out.mono ?_
      rintro e w2 ⟨g2, c2, rfl, hg2, hm2, hB2⟩
      rw [show marksOf n (mvF K tt (mvF (powL K j) tt f)) = marksOf n (mvF (powL K (j + 1)) tt f) from marksOf_congr n fun i hi => (mv_more j i (HTL.out i hi)).symm] at hm2
      have heq := equal_marks n g2 gN c2 cN _ _ w2 hm2 (HM.out.below hB2) h63
      have HEQ := Lib.hid heq; have HM2 := Lib.hid hm2; have HB2 := Lib.hid (HB.out.trans (hB2.mono HB.out.size)); have HX2 := Lib.hid (heap_aq hB2 HX.out); have HMo := Lib.hid (HM.out.below hB2)
      clear heq hm2 hB2
      go_wp2_with fail
      refine HEQ.out.mono ?_
      rintro e w3 ⟨rfl, hB3⟩
      have HM3 := Lib.hid (HM2.out.below hB3); have HB3 := Lib.hid (HB2.out.trans (hB3.mono HB2.out.size)); have HX3 := Lib.hid (heap_aq hB3 HX2.out); have HMo3 := Lib.hid (HMo.out.below hB3)
      clear hB3
      cases he : eqB n (mvF (powL K (j + 1)) tt f) (mvF (powL K j) tt f) with
      | false =>
        clear he
        go_wp2_with fail
        have hj := Hj.out
        go_roundg (gk - 1)
        case measure => omega
        case rel => exact ⟨j + 1, g2, c2, by omega, by go_num, rfl, by omega, HM3, HX3, HB3⟩
      | true =>
        have hst : marksOf n (mvF (powL K j) tt f) = marksOf n (mvF (powL K m) tt f) := marksOf_congr n fun i hi => by
          have h1 := eqB_true he
          have h2 := mv_still (K := K) (t := tt) (f := f) (k := j) (fun q hq => h1 q (by have := HLT.out; omega)) (m - j) i (HTL.out i hi)
          rw [show j + (m - j) = m by have := Hj.out; omega] at h2
          exact h2.symm
        rw [hst] at HMo3
        have HMt := HMo3; have HXt := HX3; have HBt := HB3
        clear he hst HMo3 HX3 HB3
        obtain ⟨wt, rfl⟩ : ∃ wt : World, wt = w3 := ⟨_, rfl⟩
        clear x0 x1 x2 x3 x4 x5 x6 x7 y0 y1 y2 y3 y4 y5 y6 y7 hlx
        have hcl2 := clone_marks n gN cN _ wt HMt.out (marksOf_len _ _) h0 h63
        have HCL2 := Lib.hid hcl2
        clear hcl2
        go_wp2_with fail
        refine HCL2.out.mono ?_
        rintro e w5 ⟨gO, cO, rfl, hgO, hmO, hB5⟩
        have hx5 := heap_aq hB5 HXt.out
        obtain ⟨x0, x1, x2, x3, x4, x5, x6, x7, hlx⟩ := box8 hx5
        have hgN5 := HMt.out.lt
        have HX5 := Lib.hid hx5; have HM5 := Lib.hid (HMt.out.below hB5); have HB5 := Lib.hid (HBt.out.trans (hB5.mono HBt.out.size)); have HO5 := Lib.hid hmO
        clear hx5 hB5 hmO
        go_wp2_with fail
        have hgB : w.heap.size < gO := by have := HBt.out.size; omega
        go_loopg [7, 10] n (fun gh nv i wr => ∃ (k jj gN cN : Nat), k = m + jj ∧ jj + gh ≤ n ∧ openN n (sumF K tt f m jj) ≤ gh ∧ i = .int .i64 k ∧ nv = .slice (some ⟨gN, 0, none⟩) n cN ∧ gN ≠ gO ∧ (mx = -1 ∨ (k : Int) ≤ mx) ∧ Hid (MR wr gN (marksOf n (mvF (powL K k) tt f))) ∧ Hid (MR wr gO (marksOf n (sumF K tt f m jj))) ∧ Hid (wr.heap[w.heap.size]? = some (.cells #[.int .i64 4, .int .u64 s0, .int .u64 s1, .int .u64 s2, .int .u64 s3, .slice (some ⟨ab, ao, none⟩) 1 c, .int .i64 m, .int .i64 mx] 27 (0, 0))) ∧ Hid (Below w.heap.size w wr))
        case atStart =>
          have hmx := HMX.out
          exact ⟨m, 0, gN, cN, rfl, by omega, open_le _ _, rfl, rfl, by omega, by omega, HM5, Lib.hid (by rw [show marksOf n (sumF K tt f m 0) = marksOf n (mvF (powL K m) tt f) from marksOf_congr n fun i _ => sum_zero m i]; exact HO5.out), HX5, HB5⟩
        case round =>
          obtain ⟨k, jj, gA, cA, hkj, hjn, hop, rfl, rfl, hne, hkx, HA, HO, HXr, HBr⟩ := hrel
          have hmx := HMX.out
          obtain ⟨x0, x1, x2, x3, x4, x5, x6, x7, hlx⟩ := box8 HXr.out
          have HKX := Lib.hid hkx; have HKJ := Lib.hid hkj; have HOP := Lib.hid hop
          by_cases hgo : mx = -1 ∨ (k : Int) < mx
          · have hk16 : k ≤ 1048600 := by omega
            have hcs : (mx == -1) = true ∨ ((mx == -1) = false ∧ (k : Int) < mx) := by
              by_cases h : mx = -1
              · exact .inl (by simpa using h)
              · exact .inr ⟨by simpa using h, by omega⟩
            have hmv := HIX.out gA cA (mvF (powL K k) tt f) wr HBr.out HA.out
            obtain ⟨y0, y1, y2, y3, y4, y5, y6, y7⟩ := HC.out.below HBr.out
            simp only [Addr.add, Nat.zero_mul, if_true] at y0 y1 y2 y3 y4 y5 y6 y7
            have HMV := Lib.hid hmv; have HGO := Lib.hid hgo
            clear hmv hgo hkx hkj hop hmx
            rcases hcs with e1 | ⟨e1, e2⟩ <;>
            · go_wp2_with fail
              refine HMV.out.mono ?_
              rintro e w6 ⟨g6, c6, rfl, hg6, hm6, hB6⟩
              rw [show marksOf n (mvF K tt (mvF (powL K k) tt f)) = marksOf n (mvF (powL K (k + 1)) tt f) from marksOf_congr n fun i hi => (mv_more k i (HTL.out i hi)).symm] at hm6
              have hgl := HO.out.lt
              have hjo := join_marks n gO g6 cO c6 _ _ w6 (HO.out.below hB6) hm6 (by omega) h63
              have HJO := Lib.hid hjo; have HM6 := Lib.hid hm6; have HB6 := Lib.hid (HBr.out.trans (hB6.mono HBr.out.size)); have HX6 := Lib.hid (heap_aq hB6 HXr.out)
              have hs6 := hB6.size
              clear hjo hm6 hB6
              go_wp2_with fail
              refine HJO.out.mono ?_
              rintro e w7 ⟨rfl, hmO7, hK7⟩
              have hsc : marksOf n (fun i => sumF K tt f m jj i || mvF (powL K (k + 1)) tt f i) = marksOf n (sumF K tt f m (jj + 1)) := marksOf_congr n fun i _ => by
                rw [sum_succ, show m + (jj + 1) = k + 1 by have := HKJ.out; omega]
              have hB7 : Below w.heap.size w w7 := HB6.out.trans ((hK7.mono HB6.out.size).below (by omega))
              cases hfr : freshB n (sumF K tt f m jj) (mvF (powL K (k + 1)) tt f) with
              | false =>
                have hfin : marksOf n (fun i => sumF K tt f m jj i || mvF (powL K (k + 1)) tt f i) = marksOf n (mvF L tt f) := by
                  rw [HL.out]
                  refine marksOf_congr n fun i hi => ?_
                  have h1 := fresh_false hfr
                  have h2 : (sumF K tt f m jj i || mvF (powL K (k + 1)) tt f i) = sumF K tt f m jj i := by
                    cases hq : mvF (powL K (k + 1)) tt f i with
                    | false => simp
                    | true => rw [h1 i hi hq]; rfl
                  rw [h2]
                  refine sum_done mx (fun q hq => ?_) (by have := HKJ.out; have := HKX.out; omega) i (HTL.out i hi)
                  rw [show m + (jj + 1) = k + 1 by have := HKJ.out; omega]
                  exact h1 q (by have := HLT.out; omega)
                rw [hfin] at hmO7
                have HO7 := Lib.hid hmO7; have HB7 := Lib.hid hB7
                clear hfin hmO7 hB7 hsc hfr hK7
                go_wp2_with fail
                go_ret
                exact ⟨gO, cO, rfl, by omega, HO7.out, HB7.out⟩
              | true =>
                have hop2 : openN n (sumF K tt f m (jj + 1)) < openN n (sumF K tt f m jj) := open_less (fun i hi => by rw [sum_succ, hi]; rfl) (by
                  obtain ⟨i, hi, h1, h2⟩ := fresh_true hfr
                  exact ⟨i, hi, h1, by rw [sum_succ, show m + (jj + 1) = k + 1 by have := HKJ.out; omega, h2]; simp⟩)
                have HOP2 := Lib.hid hop2
                rw [hsc] at hmO7
                have HO7 := Lib.hid hmO7; have HB7 := Lib.hid hB7
                have HA7 := Lib.hid (HM6.out.keepR hK7 (by omega))
                have HX7 := Lib.hid ((hK7.block w.heap.size (by omega) (by omega)).trans HX6.out)
                clear hmO7 hB7 hsc hfr hK7 hop2
                go_wp2_with fail
                have hop := HOP.out; have hop2 := HOP2.out; have hkj := HKJ.out; have hgo := HGO.out
                go_roundg (gk - 1)
                case measure => omega
                case rel => exact ⟨k + 1, jj + 1, g6, c6, by omega, by omega, by omega, by go_num, rfl, by omega, by omega, HA7, HO7, HX7, HB7⟩
          · have hke : ((m + jj : Nat) : Int) = mx := by omega
            have e1 : (mx == -1) = false := by
              have : mx ≠ -1 := by omega
              simpa using this
            have e2 : ¬ (k : Int) < mx := by omega
            have hfin : marksOf n (sumF K tt f m jj) = marksOf n (mvF L tt f) := by
              rw [HL.out]
              exact marksOf_congr n fun i _ => sum_end mx hke i
            have hmO := HO.out
            rw [hfin] at hmO
            have HO7 := Lib.hid hmO
            clear hmO hfin hke hgo hmx hkj hop hjn
            go_wp2_with fail
            go_ret
            first
              | exact ⟨gO, cO, rfl, by omega, HO7.out, HBr.out⟩
              | exact ⟨gO, ⟨cO, rfl⟩, by omega, HO7.out, HBr.out⟩
    · obtain rfl : j = m := by omega
      have HMt := HM; have HXt := HX; have HBt := HB
      clear HM HX HB x0 x1 x2 x3 x4 x5 x6 x7 hlx hj
      obtain ⟨wt, rfl⟩ : ∃ wt : World, wt = wr := ⟨_, rfl⟩
      have hcl2 := clone_marks n gN cN _ wt HMt.out (marksOf_len _ _) h0 h63
      have HCL2 := Lib.hid hcl2
      clear hcl2
      go_wp2_with fail
      refine HCL2.out.mono ?_
      rintro e w5 ⟨gO, cO, rfl, hgO, hmO, hB5⟩
      have hx5 := heap_aq hB5 HXt.out
      obtain ⟨x0, x1, x2, x3, x4, x5, x6, x7, hlx⟩ := box8 hx5
      have hgN5 := HMt.out.lt
      have HX5 := Lib.hid hx5; have HM5 := Lib.hid (HMt.out.below hB5); have HB5 := Lib.hid (HBt.out.trans (hB5.mono HBt.out.size)); have HO5 := Lib.hid hmO
      clear hx5 hB5 hmO
      go_wp2_with fail
      have hgB : w.heap.size < gO := by have := HBt.out.size; omega
      go_loopg [7, 10] n (fun gh nv i wr => ∃ (k jj gN cN : Nat), k = j + jj ∧ jj + gh ≤ n ∧ openN n (sumF K tt f j jj) ≤ gh ∧ i = .int .i64 k ∧ nv = .slice (some ⟨gN, 0, none⟩) n cN ∧ gN ≠ gO ∧ (mx = -1 ∨ (k : Int) ≤ mx) ∧ Hid (MR wr gN (marksOf n (mvF (powL K k) tt f))) ∧ Hid (MR wr gO (marksOf n (sumF K tt f j jj))) ∧ Hid (wr.heap[w.heap.size]? = some (.cells #[.int .i64 4, .int .u64 s0, .int .u64 s1, .int .u64 s2, .int .u64 s3, .slice (some ⟨ab, ao, none⟩) 1 c, .int .i64 j, .int .i64 mx] 27 (0, 0))) ∧ Hid (Below w.heap.size w wr))
      case atStart =>
        have hmx := HMX.out
        exact ⟨j, 0, gN, cN, rfl, by omega, open_le _ _, rfl, rfl, by omega, by omega, HM5, Lib.hid (by rw [show marksOf n (sumF K tt f j 0) = marksOf n (mvF (powL K j) tt f) from marksOf_congr n fun i _ => sum_zero j i]; exact HO5.out), HX5, HB5⟩
      case round =>
        obtain ⟨k, jj, gA, cA, hkj, hjn, hop, rfl, rfl, hne, hkx, HA, HO, HXr, HBr⟩ := hrel
        have hmx := HMX.out
        obtain ⟨x0, x1, x2, x3, x4, x5, x6, x7, hlx⟩ := box8 HXr.out
        have HKX := Lib.hid hkx; have HKJ := Lib.hid hkj; have HOP := Lib.hid hop
        by_cases hgo : mx = -1 ∨ (k : Int) < mx
        · have hk16 : k ≤ 1048600 := by omega
          have hcs : (mx == -1) = true ∨ ((mx == -1) = false ∧ (k : Int) < mx) := by
            by_cases h : mx = -1
            · exact .inl (by simpa using h)
            · exact .inr ⟨by simpa using h, by omega⟩
          have hmv := HIX.out gA cA (mvF (powL K k) tt f) wr HBr.out HA.out
          obtain ⟨y0, y1, y2, y3, y4, y5, y6, y7⟩ := HC.out.below HBr.out
          simp only [Addr.add, Nat.zero_mul, if_true] at y0 y1 y2 y3 y4 y5 y6 y7
          have HMV := Lib.hid hmv; have HGO := Lib.hid hgo
          clear hmv hgo hkx hkj hop hmx
          rcases hcs with e1 | ⟨e1, e2⟩ <;>
          · go_wp2_with fail
            refine HMV.out.mono ?_
            rintro e w6 ⟨g6, c6, rfl, hg6, hm6, hB6⟩
            rw [show marksOf n (mvF K tt (mvF (powL K k) tt f)) = marksOf n (mvF (powL K (k + 1)) tt f) from marksOf_congr n fun i hi => (mv_more k i (HTL.out i hi)).symm] at hm6
            have hgl := HO.out.lt
            have hjo := join_marks n gO g6 cO c6 _ _ w6 (HO.out.below hB6) hm6 (by omega) h63
            have HJO := Lib.hid hjo; have HM6 := Lib.hid hm6; have HB6 := Lib.hid (HBr.out.trans (hB6.mono HBr.out.size)); have HX6 := Lib.hid (heap_aq hB6 HXr.out)
            have hs6 := hB6.size
            clear hjo hm6 hB6
            go_wp2_with fail
            refine HJO.out.mono ?_
            rintro e w7 ⟨rfl, hmO7, hK7⟩
            have hsc : marksOf n (fun i => sumF K tt f j jj i || mvF (powL K (k + 1)) tt f i) = marksOf n (sumF K tt f j (jj + 1)) := marksOf_congr n fun i _ => by
              rw [sum_succ, show j + (jj + 1) = k + 1 by have := HKJ.out; omega]
            have hB7 : Below w.heap.size w w7 := HB6.out.trans ((hK7.mono HB6.out.size).below (by omega))
            cases hfr : freshB n (sumF K tt f j jj) (mvF (powL K (k + 1)) tt f) with
            | false =>
              have hfin : marksOf n (fun i => sumF K tt f j jj i || mvF (powL K (k + 1)) tt f i) = marksOf n (mvF L tt f) := by
                rw [HL.out]
                refine marksOf_congr n fun i hi => ?_
                have h1 := fresh_false hfr
                have h2 : (sumF K tt f j jj i || mvF (powL K (k + 1)) tt f i) = sumF K tt f j jj i := by
                  cases hq : mvF (powL K (k + 1)) tt f i with
                  | false => simp
                  | true => rw [h1 i hi hq]; rfl
                rw [h2]
                refine sum_done mx (fun q hq => ?_) (by have := HKJ.out; have := HKX.out; omega) i (HTL.out i hi)
                rw [show j + (jj + 1) = k + 1 by have := HKJ.out; omega]
                exact h1 q (by have := HLT.out; omega)
              rw [hfin] at hmO7
              have HO7 := Lib.hid hmO7; have HB7 := Lib.hid hB7
              clear hfin hmO7 hB7 hsc hfr hK7
              go_wp2_with fail
              go_ret
              exact ⟨gO, cO, rfl, by omega, HO7.out, HB7.out⟩
            | true =>
              have hop2 : openN n (sumF K tt f j (jj + 1)) < openN n (sumF K tt f j jj) := open_less (fun i hi => by rw [sum_succ, hi]; rfl) (by
                obtain ⟨i, hi, h1, h2⟩ := fresh_true hfr
                exact ⟨i, hi, h1, by rw [sum_succ, show j + (jj + 1) = k + 1 by have := HKJ.out; omega, h2]; simp⟩)
              have HOP2 := Lib.hid hop2
              rw [hsc] at hmO7
              have HO7 := Lib.hid hmO7; have HB7 := Lib.hid hB7
              have HA7 := Lib.hid (HM6.out.keepR hK7 (by omega))
              have HX7 := Lib.hid ((hK7.block w.heap.size (by omega) (by omega)).trans HX6.out)
              clear hmO7 hB7 hsc hfr hK7 hop2
              go_wp2_with fail
              have hop := HOP.out; have hop2 := HOP2.out; have hkj := HKJ.out; have hgo := HGO.out
              go_roundg (gk - 1)
              case measure => omega
              case rel => exact ⟨k + 1, jj + 1, g6, c6, by omega, by omega, by omega, by go_num, rfl, by omega, by omega, HA7, HO7, HX7, HB7⟩
        · have hke : ((j + jj : Nat) : Int) = mx := by omega
          have e1 : (mx == -1) = false := by
            have : mx ≠ -1 := by omega
            simpa using this
          have e2 : ¬ (k : Int) < mx := by omega
          have hfin : marksOf n (sumF K tt f j jj) = marksOf n (mvF L tt f) := by
            rw [HL.out]
            exact marksOf_congr n fun i _ => sum_end mx hke i
          have hmO := HO.out
          rw [hfin] at hmO
          have HO7 := Lib.hid hmO
          clear hmO hfin hke hgo hmx hkj hop hjn
          go_wp2_with fail
          go_ret
          first
            | exact ⟨gO, cO, rfl, by omega, HO7.out, HBr.out⟩
            | exact ⟨gO, ⟨cO, rfl⟩, by omega, HO7.out, HBr.out⟩
end Go.Proofs.YtmcoaopcmjociaaDoor
