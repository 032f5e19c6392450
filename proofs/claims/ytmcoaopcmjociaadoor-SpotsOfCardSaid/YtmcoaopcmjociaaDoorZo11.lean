/- spots.Match: its closure; ContainsFunc over whole numbers; rows of bools. -/
import Derived.Test.YtmcoaopcmjociaaDoorZo10
import Derived.Test.YtmcoaopcmjociaaDoorZo6
import Derived.Lib.SliceRun
import Derived.Deep.Upon
namespace Go.Proofs.YtmcoaopcmjociaaDoor
open Go Go.RowKit Go.Sort

/-- A block of bools. -/
def BoolsAt (w : World) (g : Nat) (bs : List Bool) : Prop := w.heap[g]? = some (.cells (bs.map Value.bool).toArray 4 (0, 0))
theorem BoolsAt.cell {w : World} {g : Nat} {bs : List Bool} (h : BoolsAt w g bs) (i : Nat) (hi : i < bs.length) : w.cell? ⟨g, i, none⟩ = some (.bool bs[i]) := by
  refine cell_of h ?_
  simp [hi]
theorem BoolsAt.frozen {w : World} {g : Nat} {bs : List Bool} (h : BoolsAt w g bs) (i : Nat) : w.frozen? ⟨g, i, none⟩ = false := frozen_of h
theorem BoolsAt.set {w : World} {g : Nat} {bs : List Bool} (h : BoolsAt w g bs) (i : Nat) (b : Bool) : BoolsAt (w.setCell ⟨g, i, none⟩ (.bool b)) g (bs.set i b) := by
  have := heap_setCell_same w g i (.bool b) h
  unfold BoolsAt
  rw [this]
  simp [List.map_set]
theorem BoolsAt.lt {w : World} {g : Nat} {bs : List Bool} (h : BoolsAt w g bs) : g < w.heap.size := (Array.getElem?_eq_some_iff.1 h).1
theorem BoolsAt.made {w : World} {B g n : Nat} (h : w.ownsRow B 4 1 (.slice (some ⟨g, 0, none⟩) n n) n (madeCells #[Value.bool false] n).toList) : BoolsAt w g (List.replicate n false) := by
  rcases h.2 with ⟨he, _⟩ | ⟨g', cap, cur, he, _, hh, _, _, hs, ht⟩
  · injection he with h1 _ _; cases h1
  · injection he with h1 h2 h3
    injection h1 with h1
    injection h1 with h1
    subst h1
    subst h3
    unfold BoolsAt
    rw [hh]
    have hc : cur.toList = (madeCells #[Value.bool false] n).toList := by
      rw [← ht, List.take_of_length_le (by simp [hs])]
    have hc2 : cur = madeCells #[Value.bool false] n := Array.toList_inj.1 hc
    rw [hc2]
    congr 2
    simp [madeCells, Nat.mod_one]
    apply Array.ext <;> simp
theorem heap_setCells (t : TypeId) (m : Nat × Nat) (g : Nat) : ∀ (vs : List Value) (pre old : List Value) (w : World), old.length = vs.length → w.heap[g]? = some (.cells (pre ++ old).toArray t m) → (w.setCells g pre.length vs).heap[g]? = some (.cells (pre ++ vs).toArray t m)
  | [], pre, old, w, ho, h => by
    obtain rfl : old = [] := List.length_eq_zero_iff.1 ho
    exact h
  | v :: vs, pre, [], w, ho, h => by simp at ho
  | v :: vs, pre, o :: old, w, ho, h => by
    have h1 := heap_setCell_same w g pre.length v h
    have h2 : ((pre ++ o :: old).toArray.setIfInBounds pre.length v) = ((pre ++ [v]) ++ old).toArray := by simp
    rw [h2] at h1
    have h3 := heap_setCells t m g vs (pre ++ [v]) old _ (by simpa using ho) h1
    rw [List.length_append] at h3
    have h4 : (pre ++ [v]) ++ vs = pre ++ v :: vs := by simp
    rw [h4] at h3
    exact h3
/-- clear of a block of bools. -/
theorem BoolsAt.clear {w : World} {g : Nat} {bs : List Bool} (h : BoolsAt w g bs) : BoolsAt (w.setCells g 0 (List.replicate bs.length (.bool false))) g (List.replicate bs.length false) := by
  have := heap_setCells 4 (0, 0) g (List.replicate bs.length (.bool false)) [] (bs.map Value.bool) w (by simp) h
  unfold BoolsAt
  simp at this ⊢
  exact this
theorem run_clear_bools {w : World} {g : Nat} {bs : List Bool} (h : BoolsAt w g bs) (ty : TypeId) (c : Nat) : (Builtin.clear_ #[63] ty #[.slice (some ⟨g, 0, none⟩) bs.length c]).run Tryd.prog w = .ok (.tuple #[]) (w.setCells g 0 (List.replicate bs.length (.bool false))) := by
  rcases Nat.eq_zero_or_pos bs.length with h0 | h0
  · rw [h0]
    simp [Builtin.clear_, run_underlying Tryd.underlying63, World.setCells]
  · refine Lib.run_clear_slice w 63 4 ty (.bool false) Tryd.underlying63 (fun w => by kernel_rfl) rfl rfl g 0 bs.length c h0 (fun j hj => ?_) (fun j hj => ?_)
    · rw [Nat.zero_add, h.cell j hj]; rfl
    · exact h.frozen _
theorem KR.cells {B rb : Nat} : ∀ (vs : List Value) (o : Nat) (w : World), KR B rb w (w.setCells rb o vs)
  | [], _, w => KR.refl B rb w
  | v :: r, o, w => ((KR.refl B rb w).setR o v).trans (KR.cells r (o + 1) _)

set_option maxRecDepth 100000 in
theorem match1_any (k : Nat) (nb na n : Nat) (bs : List Bool) (w : World) (hk : k < bs.length) (hn : w.cell? ⟨nb, 0, none⟩ = some (.slice (some ⟨na, 0, none⟩) n n)) (hl : bs.length = n) (hb : BoolsAt w na bs) (h63 : n ≤ 1048576) :
    Calls Tryd.prog 31 #[.int .i64 k, .pointer (some ⟨nb, 0, none⟩)] w fun e w' => e = .returned (.bool bs[k]) ∧ w = w' := by
  have hc := hb.cell k hk
  have hkn : k < n := by omega
  obtain ⟨b, hbb⟩ : ∃ b, b = bs[k] := ⟨_, rfl⟩
  rw [← hbb] at hc ⊢
  clear hbb hb hl hk
  go_enter Tryd.func31, Tryd.ntmps31
  go_wp2_with fail
  go_ret
  exact ⟨rfl, rfl⟩

/-- Is a spot of a list marked? -/
def anyMark (bs : List Bool) (l : List Int) : Bool := l.any fun k => bs.getD k.toNat false

set_option maxRecDepth 100000 in
theorem index_marks {S : Nat → Prop} (va : Value) (xs : List Int) (nb na n : Nat) (bs : List Bool) (w : World) (h : IR S w va xs) (hg : ∀ x ∈ xs, 0 ≤ x ∧ x < n) (hn : w.cell? ⟨nb, 0, none⟩ = some (.slice (some ⟨na, 0, none⟩) n n)) (hl : bs.length = n) (hb : BoolsAt w na bs) (h63 : n ≤ 1048576) :
    Calls Tryd.prog 46 #[va, .func (Fn.func 31) #[] #[.pointer (some ⟨nb, 0, none⟩)]] w (IdxPost (anyMark bs xs) w) := by
  have hxl := h.len
  obtain ⟨A, c, rfl, hc, hcs⟩ := h.form
  have HC := Lib.hid hcs; have HG := Lib.hid hg; have HN := Lib.hid hn; have HB := Lib.hid hb; have HL := Lib.hid hl
  clear h hcs hg hn hb hl
  go_enter Tryd.func46, Tryd.ntmps46
  go_wp2_with fail
  go_loopg [8] xs.length (fun g i wr => ∃ j : Nat, j + g = xs.length ∧ i = .int .i64 j ∧ Hid (anyMark bs xs = anyMark bs (xs.drop j)) ∧ wr = w)
  case atStart => exact ⟨0, by omega, rfl, Lib.hid rfl, rfl⟩
  case round =>
    obtain ⟨j, hj, rfl, HI, rfl⟩ := hrel
    have Hj := Lib.hid hj
    by_cases hlt : j < xs.length
    · obtain ⟨b, off, rfl, _, hx⟩ := HC.out (by omega)
      have hxj := hx j hlt
      rw [List.getD_eq_getElem?_getD, List.getElem?_eq_getElem hlt] at hxj
      simp only [Option.getD_some] at hxj
      have HD := Lib.hid (List.drop_eq_getElem_cons hlt)
      obtain ⟨k, hk⟩ := Int.eq_ofNat_of_zero_le (HG.out xs[j] (List.getElem_mem hlt)).1
      have hkn := (HG.out xs[j] (List.getElem_mem hlt)).2
      obtain ⟨x, hxx⟩ : ∃ x, x = xs[j] := ⟨_, rfl⟩
      rw [← hxx] at hxj HD hk hkn
      subst hk
      have hkb : k < bs.length := by rw [HL.out]; omega
      have HR := Lib.hid (match1_any k nb na n bs _ hkb HN.out HL.out HB.out h63)
      have HV := Lib.hid (show bs.getD (k : Int).toNat false = bs[k] by rw [Int.toNat_natCast, List.getD_eq_getElem?_getD, List.getElem?_eq_getElem hkb]; rfl)
      clear hx hxx hj hkn
      go_wp2_with fail
      refine HR.out.mono ?_
      rintro e w1 ⟨rfl, rfl⟩
      cases hr : bs[k] with
      | false =>
        have hI : anyMark bs xs = anyMark bs (xs.drop (j + 1)) := by rw [HI.out, HD.out]; unfold anyMark; rw [List.any_cons, HV.out, hr]; rfl
        have HI2 := Lib.hid hI
        clear hI hr
        go_wp2_with fail
        have hj := Hj.out
        go_roundg (gk - 1)
        case measure => omega
        case rel => exact ⟨j + 1, by omega, by go_num, HI2, rfl⟩
      | true =>
        have hI : anyMark bs xs = true := by rw [HI.out, HD.out]; unfold anyMark; rw [List.any_cons, HV.out, hr]; rfl
        have HI2 := Lib.hid hI
        clear hI hr
        go_wp2_with fail
        go_ret
        exact ⟨j, by rw [HI2.out]; simp, rfl, rfl⟩
    · have hI : anyMark bs xs = false := by rw [HI.out, List.drop_eq_nil_of_le (by omega)]; rfl
      have HI2 := Lib.hid hI
      clear hI hj
      go_wp2_with fail
      go_ret
      exact ⟨-1, by rw [HI2.out]; simp, rfl, rfl⟩

set_option maxRecDepth 100000 in
theorem contains_marks {S : Nat → Prop} (va : Value) (xs : List Int) (nb na n : Nat) (bs : List Bool) (w : World) (h : IR S w va xs) (hg : ∀ x ∈ xs, 0 ≤ x ∧ x < n) (hn : w.cell? ⟨nb, 0, none⟩ = some (.slice (some ⟨na, 0, none⟩) n n)) (hl : bs.length = n) (hb : BoolsAt w na bs) (h63 : n ≤ 1048576) :
    Calls Tryd.prog 30 #[va, .func (Fn.func 31) #[] #[.pointer (some ⟨nb, 0, none⟩)]] w fun e w' => e = .returned (.bool (anyMark bs xs)) ∧ w = w' := by
  have H := Lib.hid (index_marks va xs nb na n bs w h hg hn hl hb h63)
  obtain ⟨A, c, rfl, _, _⟩ := h.form
  clear h hg hn hb hl
  go_enter Tryd.func30, Tryd.ntmps30
  go_wp2_with fail
  refine H.out.mono ?_
  rintro e w1 ⟨r, hr, rfl, rfl⟩
  cases hb : anyMark bs xs with
  | false =>
    rw [hb] at hr
    simp at hr
    subst hr
    have HB := Lib.hid hb
    clear hb
    go_wp2_with fail
    go_ret
    exact ⟨by rw [HB.out]; rfl, rfl⟩
  | true =>
    rw [hb] at hr
    simp at hr
    have hr2 : decide (0 ≤ r) = true := by simpa using hr
    have HB := Lib.hid hb
    clear hb
    go_wp2_with fail
    go_ret
    exact ⟨by rw [HB.out]; simp [hr], rfl⟩
end Go.Proofs.YtmcoaopcmjociaaDoor
