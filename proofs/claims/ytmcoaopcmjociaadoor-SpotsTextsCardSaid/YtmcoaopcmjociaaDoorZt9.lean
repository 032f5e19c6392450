/- regex.Right and regex.times tell whether a tree may be; spots.Count. -/
import Derived.Test.YtmcoaopcmjociaaDoorZt7
import Derived.BigGuardPart
namespace Go.Proofs.YtmcoaopcmjociaaDoor
open Go Go.RowKit

set_option maxHeartbeats 400000 in
theorem times_any (lo hi : Int) (w : World) : Calls Tryd.prog 25 #[.int .i64 lo, .int .i64 hi] w fun e w' => e = .returned (.bool (Tree.times lo hi)) ∧ w = w' := by
  by_cases h0 : lo < 0
  · have h1 : Tree.times lo hi = false := by simp [Tree.times]; omega
    have H1 := Lib.hid h1; clear h1
    go_enter Tryd.func25, Tryd.ntmps25
    go_wp2
    go_ret
    exact ⟨ret_bool H1.out.symm, rfl⟩
  · by_cases h2 : 16 < lo
    · have h1 : Tree.times lo hi = false := by simp [Tree.times]; omega
      have H1 := Lib.hid h1; clear h1
      go_enter Tryd.func25, Tryd.ntmps25
      go_wp2
      go_ret
      exact ⟨ret_bool H1.out.symm, rfl⟩
    · by_cases h3 : hi = -1
      · subst h3
        have h1 : Tree.times lo (-1) = true := by simp [Tree.times]; omega
        have H1 := Lib.hid h1; clear h1
        go_enter Tryd.func25, Tryd.ntmps25
        go_wp2
        go_ret
        exact ⟨ret_bool H1.out.symm, rfl⟩
      · have h3' : (hi == -1) = false := by simpa using h3
        have h1 : Tree.times lo hi = decide (max lo 1 ≤ hi ∧ hi ≤ 16) := by simp only [Tree.times]; apply decide_eq_decide.2; omega
        have H1 := Lib.hid h1; clear h1 h3
        go_enter Tryd.func25, Tryd.ntmps25
        go_wp2
        all_goals
          go_ret
          refine ⟨ret_bool ?_, rfl⟩
          rw [H1.out, Bool.eq_iff_iff]
          simp
          omega

theorem setSize : (Tryd.prog.info? 22).map (fun i => i.size) = some 1 := by kernel_rfl
theorem neqSet (w : World) (a0 a1 a2 a3 : Int) : (binOp .neq 24 (.agg #[.int .u64 a0, .int .u64 a1, .int .u64 a2, .int .u64 a3]) (.agg #[.int .u64 0, .int .u64 0, .int .u64 0, .int .u64 0])).run Tryd.prog w = .ok (.bool (!(a0 == 0 && (a1 == 0 && (a2 == 0 && a3 == 0))))) w := by
  have h := setSize
  cases hi : Tryd.prog.info? 22 with
  | none => rw [hi] at h; simp at h
  | some i => exact run_neq_set w Tryd.underlying24 Tryd.underlying22 hi (by rw [hi] at h; simpa using h) a0 a1 a2 a3 0 0 0 0

set_option maxRecDepth 100000 in
set_option maxHeartbeats 2000000 in
theorem right_any (d : Nat) : ∀ (T : Tree) (A : Option Addr) (c : Nat) (w : World), KidsIn w d T.kids A →
    Calls Tryd.prog 12 #[T.val A c] w fun e w' => e = .returned (.bool T.right) ∧ Below w.heap.size w w' := by
  induction d with
  | zero => intro T A c w h; exact h.elim
  | succ d ih =>
    intro T A c w h
    cases T
    rename_i k s0 s1 s2 s3 l mn mx
    simp only [Tree.val, Tree.kind, Tree.s0, Tree.s1, Tree.s2, Tree.s3, Tree.kids, Tree.mn, Tree.mx] at h ⊢
    have H := Lib.hid h; clear h
    go_enter Tryd.func12, Tryd.ntmps12
    go_wp2
    go_loopg [2, 8] l.length (fun g r i wr => ∃ j : Nat, j + g = l.length ∧ i = .int .i64 j ∧ r = .bool false ∧ Hid (Tree.rights k (l.take j) = true) ∧ Hid (Below (w.heap.size + 1) (w.alloc (Obj.cells #[.int .i64 k, .int .u64 s0, .int .u64 s1, .int .u64 s2, .int .u64 s3, .slice A l.length c, .int .i64 mn, .int .i64 mx] 27)) wr))
    case atStart => exact ⟨0, by omega, rfl, rfl, Lib.hid (by simp [Tree.rights]), Lib.hid (Below.refl _ _)⟩
    case round =>
      obtain ⟨j, hj, rfl, rfl, hRj, hB⟩ := hrel
      have hl := H.out.1
      have hj1 : j ≤ l.length := by omega
      have Hj := Lib.hid hj; clear hj
      have hsz : w.heap.size + 1 ≤ wr.heap.size := by have := hB.out.size; simpa using this
      by_cases hlt : j < l.length
      · obtain ⟨ad, A', c', rfl, hc, hk⟩ := H.out.2 j l[j] (List.getElem?_eq_getElem hlt)
        have hbr := below_box hB.out
        obtain ⟨c0, c1, c2, c3, c4, c5, c6, c7⟩ := hc.below hbr
        have HK := Lib.hid (hk.below hbr); clear hk hc
        have HBR := Lib.hid hbr; clear hbr
        have hne := Tree.rights_not k l j hlt
        have hsn : Hid (Tree.rights k (l.take (j + 1)) = (Tree.rights k (l.take j) && (Tree.right l[j] && (decide (k = 4) || !decide (l[j].kind = k))))) := by rw [Tree.take_snoc l j hlt, Tree.rights_snoc]; exact Lib.hid rfl
        have Hne := Lib.hid hne; clear hne
        cases hr : l[j].right with
        | false =>
          have HF : Hid (Tree.right (.node k s0 s1 s2 s3 l mn mx) = false) := Lib.hid (by simp [Tree.right, Hne.out (by simp [hr])])
          go_wp2_with fail
          refine (ih l[j] A' c' _ (KidsIn.below ((Below.refl _ _).alloc (Nat.le_refl _) _) HK.out)).mono ?_
          rintro e w1 ⟨rfl, hb⟩
          have HB1 := Lib.hid (below_on hB.out hsz _ hb); clear hb
          go_wp2_with fail
          go_ret
          exact ⟨ret_bool HF.out.symm, below_box HB1.out⟩
        | true =>
          go_wp2_with fail
          refine (ih l[j] A' c' _ (KidsIn.below ((Below.refl _ _).alloc (Nat.le_refl _) _) HK.out)).mono ?_
          rintro e w1 ⟨rfl, hb⟩
          have k0 := hb.cell (p := ⟨wr.heap.size, 0, none⟩) (by simp)
          have HB1 := Lib.hid (below_on hB.out hsz _ hb); clear hb
          have p0 := HB1.out.cell (p := ⟨w.heap.size, 0, none⟩) (by simp)
          simp at k0 p0
          by_cases hkk : l[j].kind = k
          · by_cases h4 : k = 4
            · have e1 : (k != 4) = false := by simpa using h4
              have e2 : (l[j].kind == k) = true := by simpa using hkk
              have HC := Lib.hid h4; clear h4 hkk
              go_wp2_with fail
              have hj := Hj.out
              go_roundg (gk - 1)
              case measure => omega
              case rel => exact ⟨j + 1, by omega, by go_num, rfl, Lib.hid (by rw [hsn.out, hRj.out, hr, HC.out]; simp), HB1⟩
            · have e1 : (k != 4) = true := by simpa using h4
              have e2 : (l[j].kind == k) = true := by simpa using hkk
              have HF : Hid (Tree.right (.node k s0 s1 s2 s3 l mn mx) = false) := Lib.hid (by simp [Tree.right, Hne.out (by simp [hkk, h4])])
              clear h4 hkk
              go_wp2_with fail
              go_ret
              exact ⟨ret_bool HF.out.symm, below_box HB1.out⟩
          · have e2 : (l[j].kind == k) = false := by simpa using hkk
            have HC := Lib.hid hkk; clear hkk
            go_wp2_with fail
            have hj := Hj.out
            go_roundg (gk - 1)
            case measure => omega
            case rel => exact ⟨j + 1, by omega, by go_num, rfl, Lib.hid (by rw [hsn.out, hRj.out, hr]; simp [HC.out]), HB1⟩
      · have hb := hB.out
        have p0 := hb.cell (p := ⟨w.heap.size, 0, none⟩) (by simp)
        have p1 := hb.cell (p := ⟨w.heap.size, 1, none⟩) (by simp)
        have p2 := hb.cell (p := ⟨w.heap.size, 2, none⟩) (by simp)
        have p3 := hb.cell (p := ⟨w.heap.size, 3, none⟩) (by simp)
        have p4 := hb.cell (p := ⟨w.heap.size, 4, none⟩) (by simp)
        have p5 := hb.cell (p := ⟨w.heap.size, 5, none⟩) (by simp)
        have p6 := hb.cell (p := ⟨w.heap.size, 6, none⟩) (by simp)
        have p7 := hb.cell (p := ⟨w.heap.size, 7, none⟩) (by simp)
        simp at p0 p1 p2 p3 p4 p5 p6 p7
        have HBox := Lib.hid (below_box hb)
        clear hb
        obtain rfl : j = l.length := by omega
        rw [List.take_length] at hRj
        have hneq := neqSet
        by_cases hk1 : k = 1
        · subst hk1
          by_cases hm : mn = 0
          · subst hm
            by_cases hx : mx = 0
            · subst hx
              go_wp2_with fail
              go_ret
              refine ⟨ret_bool ?_, HBox.out⟩
              simp [Tree.right, hRj.out]
              rw [Bool.eq_iff_iff]; simp
            · have e1 : (mx != 0) = true := by simpa using hx
              have HF : Hid (Tree.right (.node 1 s0 s1 s2 s3 l 0 mx) = false) := Lib.hid (by simp [Tree.right, hx])
              clear hx
              go_wp2_with fail
              go_ret
              exact ⟨ret_bool HF.out.symm, HBox.out⟩
          · have e1 : (mn != 0) = true := by simpa using hm
            have HF : Hid (Tree.right (.node 1 s0 s1 s2 s3 l mn mx) = false) := Lib.hid (by simp [Tree.right, hm])
            clear hm
            go_wp2_with fail
            go_ret
            exact ⟨ret_bool HF.out.symm, HBox.out⟩
        · have e0 : (k != 1) = true := by simpa using hk1
          have e0' : (k == 1) = false := by simpa using hk1
          have HK1 := Lib.hid hk1; clear hk1
          by_cases hs : s0 = 0 ∧ s1 = 0 ∧ s2 = 0 ∧ s3 = 0
          · obtain ⟨rfl, rfl, rfl, rfl⟩ := hs
            by_cases hk4 : k = 4
            · subst hk4
              clear HK1
              by_cases hl1 : l.length = 1
              · have HL := Lib.hid hl1
                have e5 : ((l.length : Int) == 1) = true := by simp [hl1]
                clear hl1
                go_wp2_with (go_at_call 25; refine (times_any _ _ _).mono ?_; rintro e w' ⟨rfl, rfl⟩)
                go_ret
                refine ⟨ret_bool ?_, HBox.out⟩
                simp [Tree.right, hRj.out, HL.out]
              · have HL := Lib.hid hl1
                have e5 : ((l.length : Int) == 1) = false := by simp; omega
                clear hl1
                go_wp2_with (go_at_call 25; refine (times_any _ _ _).mono ?_; rintro e w' ⟨rfl, rfl⟩)
                go_ret
                refine ⟨ret_bool ?_, HBox.out⟩
                simp [Tree.right, HL.out]
            · have e4 : (k != 4) = true := by simpa using hk4
              have e4' : (k == 4) = false := by simpa using hk4
              have HK4 := Lib.hid hk4; clear hk4
              by_cases hm : mn = 0
              · subst hm
                by_cases hx : mx = 0
                · subst hx
                  by_cases hk2 : k = 2
                  · subst hk2
                    clear HK1 HK4
                    go_wp2_with fail
                    go_ret
                    refine ⟨ret_bool ?_, HBox.out⟩
                    simp [Tree.right, hRj.out]
                    rw [Bool.eq_iff_iff]; simp; omega
                  · have e2 : (k == 2) = false := by simpa using hk2
                    have HK2 := Lib.hid hk2; clear hk2
                    by_cases hk3 : k = 3
                    · subst hk3
                      clear HK1 HK2 HK4
                      go_wp2_with fail
                      go_ret
                      refine ⟨ret_bool ?_, HBox.out⟩
                      simp [Tree.right, hRj.out]
                      omega
                    · have e3 : (k == 3) = false := by simpa using hk3
                      have HK3 := Lib.hid hk3; clear hk3
                      go_wp2_with fail
                      go_ret
                      refine ⟨ret_bool ?_, HBox.out⟩
                      simp [Tree.right, HK1.out, HK2.out, HK3.out, HK4.out]
                · have e1 : (mx != 0) = true := by simpa using hx
                  have HF : Hid (Tree.right (.node k 0 0 0 0 l 0 mx) = false) := Lib.hid (by simp [Tree.right, hx, HK4.out])
                  clear hx
                  go_wp2_with fail
                  go_ret
                  exact ⟨ret_bool HF.out.symm, HBox.out⟩
              · have e1 : (mn != 0) = true := by simpa using hm
                have HF : Hid (Tree.right (.node k 0 0 0 0 l mn mx) = false) := Lib.hid (by simp [Tree.right, hm, HK4.out])
                clear hm
                go_wp2_with fail
                go_ret
                exact ⟨ret_bool HF.out.symm, HBox.out⟩
          · have e6 : (s0 == 0 && (s1 == 0 && (s2 == 0 && s3 == 0))) = false := by rw [Bool.eq_false_iff]; simpa using hs
            have HF : Hid (Tree.right (.node k s0 s1 s2 s3 l mn mx) = false) := Lib.hid (by simp [Tree.right, hs, HK1.out])
            have hneq' : ∀ w : World, (binOp .neq 24 (.agg #[.int .u64 s0, .int .u64 s1, .int .u64 s2, .int .u64 s3]) (.agg #[.int .u64 0, .int .u64 0, .int .u64 0, .int .u64 0])).run Tryd.prog w = .ok (.bool true) w := fun w => by rw [neqSet, e6]; rfl
            clear hs hneq e6
            go_wp2_with fail
            go_ret
            exact ⟨ret_bool HF.out.symm, HBox.out⟩

/-- Count: of any tree. -/
def Tree.count (T : Tree) : Int := if T.right then T.cnt else 0
set_option maxRecDepth 100000 in
set_option maxHeartbeats 400000 in
theorem countOf_any (d : Nat) (T : Tree) (A : Option Addr) (c : Nat) (w : World) (h : KidsIn w d T.kids A) :
    Calls Tryd.prog 6 #[T.val A c] w fun e w' => e = .returned (.int .i64 T.count) ∧ Below w.heap.size w w' := by
  have H := Lib.hid h; clear h
  have hb0 : ∀ o : Obj, Hid (Below w.heap.size w (w.alloc o)) := fun o => Lib.hid ((Below.refl _ _).alloc (Nat.le_refl _) o)
  cases hr : T.right with
  | false =>
    go_enter Tryd.func6, Tryd.ntmps6
    go_wp2_with fail
    refine (right_any d T A c _ (KidsIn.below (hb0 _).out H.out)).mono ?_
    rintro e w1 ⟨rfl, hb⟩
    have HB := Lib.hid ((hb0 _).out.trans (hb.mono (by simp))); clear hb
    go_wp2_with fail
    go_ret
    exact ⟨ret_int (by simp [Tree.count, hr]), HB.out⟩
  | true =>
    go_enter Tryd.func6, Tryd.ntmps6
    go_wp2_with fail
    refine (right_any d T A c _ (KidsIn.below (hb0 _).out H.out)).mono ?_
    rintro e w1 ⟨rfl, hb⟩
    have b0 := hb.cell (p := ⟨w.heap.size, 0, none⟩) (by simp)
    have b1 := hb.cell (p := ⟨w.heap.size, 1, none⟩) (by simp)
    have b2 := hb.cell (p := ⟨w.heap.size, 2, none⟩) (by simp)
    have b3 := hb.cell (p := ⟨w.heap.size, 3, none⟩) (by simp)
    have b4 := hb.cell (p := ⟨w.heap.size, 4, none⟩) (by simp)
    have b5 := hb.cell (p := ⟨w.heap.size, 5, none⟩) (by simp)
    have b6 := hb.cell (p := ⟨w.heap.size, 6, none⟩) (by simp)
    have b7 := hb.cell (p := ⟨w.heap.size, 7, none⟩) (by simp)
    simp at b0 b1 b2 b3 b4 b5 b6 b7
    have HB := Lib.hid ((hb0 _).out.trans (hb.mono (by simp))); clear hb
    go_wp2_with fail
    refine (count_any d T A c _ hr (KidsIn.below HB.out H.out)).mono ?_
    rintro e w2 ⟨rfl, hb⟩
    have HB2 := Lib.hid (below_then HB.out HB.out.size hb); clear hb
    go_wp2_with fail
    go_ret
    exact ⟨ret_int (by simp [Tree.count, hr]), HB2.out⟩
end Go.Proofs.YtmcoaopcmjociaaDoor
