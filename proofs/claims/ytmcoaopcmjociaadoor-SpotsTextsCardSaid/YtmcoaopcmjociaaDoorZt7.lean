/- spots.count: how many spots a right pattern has. -/
import Derived.Test.YtmcoaopcmjociaaDoorRows
import Derived.Test.YtmcoaopcmjociaaDoorZt0
import Derived.Outline
namespace Go.Proofs.YtmcoaopcmjociaaDoor
open Go Go.RowKit

set_option maxRecDepth 100000 in
set_option maxHeartbeats 400000 in
theorem count_any (d : Nat) : ∀ (T : Tree) (A : Option Addr) (c : Nat) (w : World), T.right = true → KidsIn w d T.kids A →
    Calls Tryd.prog 17 #[T.val A c] w fun e w' => e = .returned (.int .i64 T.cnt) ∧ Below w.heap.size w w' := by
  induction d with
  | zero => intro T A c w _ h; exact h.elim
  | succ d ih =>
    intro T A c w hR h
    cases T
    rename_i k s0 s1 s2 s3 l mn mx
    have HR := Lib.hid hR; clear hR
    simp only [Tree.val, Tree.kind, Tree.s0, Tree.s1, Tree.s2, Tree.s3, Tree.kids, Tree.mn, Tree.mx] at h ⊢
    have H := Lib.hid h; clear h
    by_cases hk : k = 1
    · subst hk
      go_enter Tryd.func17, Tryd.ntmps17
      go_wp2
      go_ret
      exact ⟨by simp [Tree.cnt], (Below.refl _ _).alloc (Nat.le_refl _) _⟩
    · have hk0 : (k == 1) = false := by simpa using hk
      have Hk := Lib.hid hk; clear hk
      go_enter Tryd.func17, Tryd.ntmps17
      go_wp2
      go_loopg [3, 12] l.length (fun g all i wr => ∃ j : Nat, j + g = l.length ∧ i = .int .i64 j ∧ all = .int .i64 (Tree.cnts (l.take j) 0) ∧ Hid (Below (w.heap.size + 1) (w.alloc (Obj.cells #[.int .i64 k, .int .u64 s0, .int .u64 s1, .int .u64 s2, .int .u64 s3, .slice A l.length c, .int .i64 mn, .int .i64 mx] 27)) wr))
      case atStart => exact ⟨0, by omega, rfl, rfl, Lib.hid (Below.refl _ _)⟩
      case round =>
        obtain ⟨j, hj, rfl, rfl, hB⟩ := hrel
        have hl := H.out.1
        have hj1 : j ≤ l.length := by omega
        have Hj := Lib.hid hj; clear hj
        have hsz : w.heap.size + 1 ≤ wr.heap.size := by have := hB.out.size; simpa using this
        have hb1 := Tree.cnts_bd (l.take j) 0 (fun t ht => Tree.right_kids HR.out t (List.mem_of_mem_take ht)) (by omega) (by omega)
        by_cases hlt : j < l.length
        · obtain ⟨ad, A', c', rfl, hc, hk⟩ := H.out.2 j l[j] (List.getElem?_eq_getElem hlt)
          have hbr := below_box hB.out
          obtain ⟨c0, c1, c2, c3, c4, c5, c6, c7⟩ := hc.below hbr
          have HK := Lib.hid (hk.below hbr); clear hk hc
          have HBR := Lib.hid hbr; clear hbr
          have hRj := Tree.right_kids HR.out l[j] (List.getElem_mem hlt)
          have hb2 := Tree.cnt_bd l[j] hRj
          have HRj := Lib.hid hRj; clear hRj
          have hsn : Hid (Tree.cnts (l.take (j + 1)) 0 = min (Tree.cnts (l.take j) 0 + Tree.cnt l[j]) 513) := by rw [Tree.take_snoc l j hlt, Tree.cnts_snoc]; exact Lib.hid rfl
          go_wp2_with fail
          refine (ih l[j] A' c' _ HRj.out (KidsIn.below ((Below.refl _ _).alloc (Nat.le_refl _) _) HK.out)).mono ?_
          rintro e w1 ⟨rfl, hb⟩
          have HB1 := Lib.hid (below_on hB.out hsz _ hb); clear hb
          go_wp2_with fail
          all_goals
            have hj := Hj.out
            go_roundg (gk - 1)
            case measure => omega
            case rel => exact ⟨j + 1, by omega, by go_num, by rw [hsn.out]; congr 1; omega, HB1⟩
        · have hb := hB.out
          have c0 := hb.cell (p := ⟨w.heap.size, 0, none⟩) (by simp)
          have c3 := hb.cell (p := ⟨w.heap.size, 6, none⟩) (by simp)
          have c4 := hb.cell (p := ⟨w.heap.size, 7, none⟩) (by simp)
          simp at c0 c3 c4
          clear hb
          obtain rfl : j = l.length := by omega
          rw [List.take_length] at hb1 ⊢
          by_cases h4 : k = 4
          · subst h4
            obtain ⟨_, hm0, hm1, hm2⟩ := Tree.right_rep HR.out rfl
            by_cases hx : mx = -1
            · subst hx
              have hmul : 0 ≤ Tree.cnts l 0 * (mn + 1) := Int.mul_nonneg hb1.1 (by omega)
              have hmul2 : Tree.cnts l 0 * (mn + 1) ≤ 513 * 17 := Int.mul_le_mul hb1.2 (by omega) (by omega) (by omega)
              go_wp2_with fail
              all_goals
                go_ret
                refine ⟨?_, below_box hB.out⟩
                simp [Tree.cnt]
                omega
            · have hx0 : (mx == -1) = false := by simpa using hx
              have hmul : 0 ≤ Tree.cnts l 0 * mx := Int.mul_nonneg hb1.1 (by omega)
              have hmul2 : Tree.cnts l 0 * mx ≤ 513 * 16 := Int.mul_le_mul hb1.2 (by omega) (by omega) (by omega)
              have Hx := Lib.hid hx; clear hx
              go_wp2_with fail
              all_goals
                go_ret
                refine ⟨?_, below_box hB.out⟩
                simp [Tree.cnt, Hx.out]
                omega
          · have h40 : (k != 4) = true := by simpa using h4
            have H4 := Lib.hid h4; clear h4
            go_wp2_with fail
            go_ret
            exact ⟨by simp [Tree.cnt, Hk.out, H4.out], below_box hB.out⟩
end Go.Proofs.YtmcoaopcmjociaaDoor
