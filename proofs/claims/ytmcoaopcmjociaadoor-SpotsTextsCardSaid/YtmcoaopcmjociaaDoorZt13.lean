/- The reference's functions on trees: ref13.Size, law13.Great, ref16.count. -/
import Derived.Test.YtmcoaopcmjociaaDoorZt9
import Derived.Test.YtmcoaopcmjociaaDoorZt4
namespace Go.Proofs.YtmcoaopcmjociaaDoor
open Go Go.RowKit

theorem box_in {w wr : World} {o : Obj} (hB : Below (w.heap.size + 1) (w.alloc o) wr) : wr.heap[w.heap.size]? = some o := (hB.block _ (by omega)).trans (heap_alloc_new w o)
theorem box8' {w : World} {k : Nat} {v0 v1 v2 v3 v4 v5 v6 v7 : Value} {t : TypeId} {m : Nat × Nat} (h : w.heap[k]? = some (.cells #[v0, v1, v2, v3, v4, v5, v6, v7] t m)) :
    w.cell? ⟨k, 0, none⟩ = some v0 ∧ w.cell? ⟨k, 1, none⟩ = some v1 ∧ w.cell? ⟨k, 2, none⟩ = some v2 ∧ w.cell? ⟨k, 3, none⟩ = some v3 ∧ w.cell? ⟨k, 4, none⟩ = some v4 ∧ w.cell? ⟨k, 5, none⟩ = some v5 ∧ w.cell? ⟨k, 6, none⟩ = some v6 ∧ w.cell? ⟨k, 7, none⟩ = some v7 ∧ k < w.heap.size :=
  ⟨cell_of h rfl, cell_of h rfl, cell_of h rfl, cell_of h rfl, cell_of h rfl, cell_of h rfl, cell_of h rfl, cell_of h rfl, (Array.getElem?_eq_some_iff.1 h).1⟩

set_option maxRecDepth 100000 in
set_option maxHeartbeats 400000 in
theorem size_any (d : Nat) : ∀ (T : Tree) (A : Option Addr) (c : Nat) (w : World), KidsIn w d T.kids A →
    Calls Tryd.prog 16 #[T.val A c] w fun e w' => (∃ x y : Int, e = .returned (.tuple #[.int .i64 x, .int .i64 y])) ∧ Below w.heap.size w w' := by
  induction d with
  | zero => intro T A c w h; exact h.elim
  | succ d ih =>
    intro T A c w h
    cases T
    rename_i k s0 s1 s2 s3 l mn mx
    simp only [Tree.val, Tree.kind, Tree.s0, Tree.s1, Tree.s2, Tree.s3, Tree.kids, Tree.mn, Tree.mx] at h ⊢
    have H := Lib.hid h; clear h
    go_enter Tryd.func16, Tryd.ntmps16
    go_wp2
    go_loopg [4, 5, 6] l.length (fun g all deep i wr => ∃ (j : Nat) (x y : Int), j + g = l.length ∧ i = .int .i64 j ∧ all = .int .i64 x ∧ deep = .int .i64 y ∧ Hid (Below (w.heap.size + 1) (w.alloc (Obj.cells #[.int .i64 k, .int .u64 s0, .int .u64 s1, .int .u64 s2, .int .u64 s3, .slice A l.length c, .int .i64 mn, .int .i64 mx] 27)) wr))
    case atStart => exact ⟨0, 1, 0, by omega, rfl, rfl, rfl, Lib.hid (Below.refl _ _)⟩
    case round =>
      obtain ⟨j, x, y, hj, rfl, rfl, rfl, hB⟩ := hrel
      have hl := H.out.1
      have hj1 : j ≤ l.length := by omega
      have Hj := Lib.hid hj; clear hj
      have hsz : w.heap.size + 1 ≤ wr.heap.size := by have := hB.out.size; simpa using this
      obtain ⟨n0, n1, n2, n3, n4, n5, n6, n7, _⟩ := box8' (box_in hB.out)
      by_cases hlt : j < l.length
      · obtain ⟨ad, A', c', rfl, hc, hk⟩ := H.out.2 j l[j] (List.getElem?_eq_getElem hlt)
        have hbr := below_box hB.out
        obtain ⟨c0, c1, c2, c3, c4, c5, c6, c7⟩ := hc.below hbr
        have HK := Lib.hid (hk.below hbr); clear hk hc
        have HBR := Lib.hid hbr; clear hbr
        go_wp2_with fail
        refine (ih l[j] A' c' _ HK.out).mono ?_
        rintro e w1 ⟨⟨x1, y1, rfl⟩, hb⟩
        have HB1 := Lib.hid (hB.out.trans (hb.mono hsz)); clear hb
        go_wp2_with fail
        all_goals
          have hj := Hj.out
          go_roundg (gk - 1)
          case measure => omega
          case rel => exact ⟨j + 1, _, _, by omega, by go_num, rfl, rfl, HB1⟩
      · go_wp2_with fail
        refine bodyPost_ret (results_tmp2 rfl _ _ _) rfl ?_
        exact ⟨⟨_, _, rfl⟩, below_box hB.out⟩

/-- Some bool, whichever. -/
def SomeBool (e : Ending) : Prop := ∃ b : Bool, e = .returned (.bool b)
theorem great_any (d : Nat) (T : Tree) (A : Option Addr) (c : Nat) (w : World) (h : KidsIn w d T.kids A) :
    Calls Tryd.prog 5 #[T.val A c] w fun e w' => SomeBool e ∧ Below w.heap.size w w' := by
  have hb := (Below.refl w.heap.size w).alloc (Nat.le_refl _) (Obj.cells #[.int .i64 T.kind, .int .u64 T.s0, .int .u64 T.s1, .int .u64 T.s2, .int .u64 T.s3, .slice A T.kids.length c, .int .i64 T.mn, .int .i64 T.mx] 27)
  have hs := Lib.hid (size_any d T A c _ (h.below hb))
  have Hb := Lib.hid hb
  clear hb h
  go_enter Tryd.func5, Tryd.ntmps5
  go_wp2_with fail
  refine hs.out.mono ?_
  rintro e w1 ⟨⟨x, y, rfl⟩, hb1⟩
  have Hb1 := Lib.hid (Hb.out.trans (hb1.mono Hb.out.size)); clear hb1
  go_wp2_with fail
  all_goals
    exact bodyPost_ret (results_tmp rfl _ _ _) rfl ⟨⟨_, rfl⟩, Hb1.out⟩

/-- The sum of the kids' spots. -/
def rsum : List Tree → Int
  | [] => 0
  | t :: l => t.cnt + rsum l
theorem rsum_snoc : ∀ (l : List Tree) (t : Tree), rsum (l ++ [t]) = rsum l + t.cnt
  | [], t => by simp [rsum]
  | x :: l, t => by
    show x.cnt + rsum (l ++ [t]) = x.cnt + rsum l + t.cnt
    rw [rsum_snoc l t]; omega
theorem rsum_bd : ∀ (l : List Tree), (∀ t ∈ l, t.right = true) → 0 ≤ rsum l ∧ rsum l ≤ 513 * l.length
  | [], _ => by simp [rsum]
  | x :: l, h => by
    have h1 := rsum_bd l fun t ht => h t (List.mem_cons_of_mem _ ht)
    have h2 := Tree.cnt_bd x (h x (by simp))
    simp only [rsum, List.length_cons]
    omega
theorem rsum_cnts : ∀ (l : List Tree), (∀ t ∈ l, t.right = true) → ∀ a, 0 ≤ a → Tree.cnts l (min a 513) = min (a + rsum l) 513
  | [], _, a, h => by simp [Tree.cnts, rsum]
  | x :: l, h, a, ha => by
    have h2 := Tree.cnt_bd x (h x (by simp))
    show Tree.cnts l (min (min a 513 + x.cnt) 513) = _
    rw [show min (min a 513 + x.cnt) 513 = min (a + x.cnt) 513 by omega, rsum_cnts l (fun t ht => h t (List.mem_cons_of_mem _ ht)) _ (by omega)]
    simp only [rsum]
    rw [Int.add_assoc]
theorem rsum_cnts0 (l : List Tree) (h : ∀ t ∈ l, t.right = true) : Tree.cnts l 0 = min (rsum l) 513 := by
  have := rsum_cnts l h 0 (by omega)
  rw [Int.zero_add, show min (0 : Int) 513 = 0 by omega] at this
  exact this
theorem min_mul {a m : Int} (ha : 0 ≤ a) (hm : 1 ≤ m) : min (min a 513 * m) 513 = min (a * m) 513 := by
  by_cases h : a ≤ 513
  · rw [Int.min_eq_left h]
  · have h1 : 513 * 1 ≤ a * m := Int.mul_le_mul (by omega) hm (by omega) (by omega)
    have h2 : 513 * 1 ≤ 513 * m := Int.mul_le_mul (by omega) hm (by omega) (by omega)
    rw [Int.min_eq_right (show (513 : Int) ≤ a by omega), Int.min_eq_right (show (513 : Int) ≤ 513 * m by omega), Int.min_eq_right (show (513 : Int) ≤ a * m by omega)]

set_option maxRecDepth 100000 in
set_option maxHeartbeats 400000 in
theorem rcount_any (d : Nat) : ∀ (T : Tree) (A : Option Addr) (c : Nat) (w : World), T.right = true → KidsIn w d T.kids A →
    Calls Tryd.prog 19 #[T.val A c] w fun e w' => e = .returned (.int .i64 T.cnt) ∧ Below w.heap.size w w' := by
  induction d with
  | zero => intro T A c w _ h; exact h.elim
  | succ d ih =>
    intro T A c w hR h
    cases T
    rename_i k s0 s1 s2 s3 l mn mx
    have HR := Lib.hid hR; clear hR
    simp only [Tree.val, Tree.kind, Tree.s0, Tree.s1, Tree.s2, Tree.s3, Tree.kids, Tree.mn, Tree.mx] at h ⊢
    have H := Lib.hid h; clear h
    by_cases hk : k = 1
    · subst hk
      go_enter Tryd.func19, Tryd.ntmps19
      go_wp2
      go_ret
      exact ⟨by simp [Tree.cnt], (Below.refl _ _).alloc (Nat.le_refl _) _⟩
    · have hk0 : (k == 1) = false := by simpa using hk
      have Hk := Lib.hid hk; clear hk
      go_enter Tryd.func19, Tryd.ntmps19
      go_wp2
      go_loopg [3, 4] l.length (fun g all i wr => ∃ j : Nat, j + g = l.length ∧ i = .int .i64 j ∧ all = .int .i64 (rsum (l.take j)) ∧ Hid (Below (w.heap.size + 1) (w.alloc (Obj.cells #[.int .i64 k, .int .u64 s0, .int .u64 s1, .int .u64 s2, .int .u64 s3, .slice A l.length c, .int .i64 mn, .int .i64 mx] 27)) wr))
      case atStart => exact ⟨0, by omega, rfl, rfl, Lib.hid (Below.refl _ _)⟩
      case round =>
        obtain ⟨j, hj, rfl, rfl, hB⟩ := hrel
        have hl := H.out.1
        have hj1 : j ≤ l.length := by omega
        have Hj := Lib.hid hj; clear hj
        have hsz : w.heap.size + 1 ≤ wr.heap.size := by have := hB.out.size; simpa using this
        obtain ⟨n0, n1, n2, n3, n4, n5, n6, n7, _⟩ := box8' (box_in hB.out)
        have hb1 := rsum_bd (l.take j) (fun t ht => Tree.right_kids HR.out t (List.mem_of_mem_take ht))
        rw [List.length_take, Nat.min_eq_left hj1] at hb1
        by_cases hlt : j < l.length
        · obtain ⟨ad, A', c', rfl, hc, hk⟩ := H.out.2 j l[j] (List.getElem?_eq_getElem hlt)
          have hbr := below_box hB.out
          obtain ⟨c0, c1, c2, c3, c4, c5, c6, c7⟩ := hc.below hbr
          have HK := Lib.hid (hk.below hbr); clear hk hc
          have HBR := Lib.hid hbr; clear hbr
          have hRj := Tree.right_kids HR.out l[j] (List.getElem_mem hlt)
          have hb2 := Tree.cnt_bd l[j] hRj
          have HRj := Lib.hid hRj; clear hRj
          have hsn : Hid (rsum (l.take (j + 1)) = rsum (l.take j) + Tree.cnt l[j]) := by rw [Tree.take_snoc l j hlt, rsum_snoc]; exact Lib.hid rfl
          go_wp2_with fail
          refine (ih l[j] A' c' _ HRj.out HK.out).mono ?_
          rintro e w1 ⟨rfl, hb⟩
          have HB1 := Lib.hid (hB.out.trans (hb.mono hsz)); clear hb
          go_wp2_with fail
          all_goals
            have hj := Hj.out
            go_roundg (gk - 1)
            case measure => omega
            case rel => exact ⟨j + 1, by omega, by go_num, by rw [hsn.out], HB1⟩
        · obtain rfl : j = l.length := by omega
          rw [List.take_length] at hb1 ⊢
          have hcs := Lib.hid (rsum_cnts0 l fun t ht => Tree.right_kids HR.out t ht)
          by_cases h4 : k = 4
          · subst h4
            obtain ⟨_, hm0, hm1, hm2⟩ := Tree.right_rep HR.out rfl
            by_cases hx : mx = -1
            · subst hx
              have hmul : 0 ≤ rsum l * (mn + 1) := Int.mul_nonneg hb1.1 (by omega)
              have hmul2 : rsum l * (mn + 1) ≤ (513 * l.length) * 17 := Int.mul_le_mul hb1.2 (by omega) (by omega) (by omega)
              have hmm := Lib.hid (min_mul hb1.1 (show 1 ≤ mn + 1 by omega))
              go_wp2_with fail
              all_goals
                go_ret
                refine ⟨?_, below_box hB.out⟩
                have := hmm.out
                simp [Tree.cnt, hcs.out]
                omega
            · have hx0 : (mx == -1) = false := by simpa using hx
              have hmul : 0 ≤ rsum l * mx := Int.mul_nonneg hb1.1 (by omega)
              have hmul2 : rsum l * mx ≤ (513 * l.length) * 16 := Int.mul_le_mul hb1.2 (by omega) (by omega) (by omega)
              have hmm := Lib.hid (min_mul hb1.1 (show 1 ≤ mx by omega))
              have Hx := Lib.hid hx; clear hx
              go_wp2_with fail
              all_goals
                go_ret
                refine ⟨?_, below_box hB.out⟩
                have := hmm.out
                simp [Tree.cnt, Hx.out, hcs.out]
                omega
          · have h40 : (k != 4) = true := by simpa using h4
            have h41 : (k == 4) = false := by simpa using h4
            have H4 := Lib.hid h4; clear h4
            go_wp2_with fail
            all_goals
              go_ret
              refine ⟨?_, below_box hB.out⟩
              simp [Tree.cnt, Hk.out, H4.out, hcs.out]
              omega
end Go.Proofs.YtmcoaopcmjociaaDoor
