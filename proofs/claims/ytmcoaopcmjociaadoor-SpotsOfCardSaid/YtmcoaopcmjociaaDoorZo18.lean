/- ref13.times and ref13.Right. -/
import Derived.Test.YtmcoaopcmjociaaDoorZo13
import Derived.Test.YtmcoaopcmjociaaDoorWLast
namespace Go.Proofs.YtmcoaopcmjociaaDoor
open Go Go.RowKit Go.Proofs.YtmcoaopcmjociaaDoorW.PrintLast

set_option maxHeartbeats 1000000 in
theorem rtimes_any (lo hi : Int) (w : World) : Calls Tryd.prog 34 #[.int .i64 lo, .int .i64 hi] w fun e w' => e = .returned (.bool (Tree.times lo hi)) ∧ w = w' := by
  by_cases h0 : lo < 0
  · have H1 := Lib.hid (show Tree.times lo hi = false by simp [Tree.times]; omega)
    go_enter Tryd.func34, Tryd.ntmps34
    go_wp2
    go_ret
    exact ⟨ret_bool H1.out.symm, rfl⟩
  · by_cases h2 : lo > 16
    · have H1 := Lib.hid (show Tree.times lo hi = false by simp [Tree.times]; omega)
      go_enter Tryd.func34, Tryd.ntmps34
      go_wp2
      go_ret
      exact ⟨ret_bool H1.out.symm, rfl⟩
    · by_cases h3 : hi > 16
      · have H1 := Lib.hid (show Tree.times lo hi = false by simp [Tree.times]; omega)
        go_enter Tryd.func34, Tryd.ntmps34
        go_wp2
        go_ret
        exact ⟨ret_bool H1.out.symm, rfl⟩
      · by_cases h4 : hi < -1
        · have H1 := Lib.hid (show Tree.times lo hi = false by simp [Tree.times]; omega)
          go_enter Tryd.func34, Tryd.ntmps34
          go_wp2
          go_ret
          exact ⟨ret_bool H1.out.symm, rfl⟩
        · by_cases h5 : hi = 0
          · subst h5
            have H1 := Lib.hid (show Tree.times lo 0 = false by simp [Tree.times])
            go_enter Tryd.func34, Tryd.ntmps34
            go_wp2
            go_ret
            exact ⟨ret_bool H1.out.symm, rfl⟩
          · have e5 : (hi == 0) = false := by simpa using h5
            by_cases h6 : hi = -1
            · subst h6
              have H1 := Lib.hid (show Tree.times lo (-1) = true by simp [Tree.times]; omega)
              clear h5
              go_enter Tryd.func34, Tryd.ntmps34
              go_wp2
              go_ret
              exact ⟨ret_bool H1.out.symm, rfl⟩
            · have e6 : (hi == -1) = false := by simpa using h6
              have H1 := Lib.hid (show Tree.times lo hi = decide (lo ≤ hi) by simp only [Tree.times]; apply decide_eq_decide.2; omega)
              clear h5 h6
              go_enter Tryd.func34, Tryd.ntmps34
              go_wp2
              all_goals
                go_ret
                refine ⟨ret_bool ?_, rfl⟩
                rw [H1.out]

theorem heap_aq' {w w' : World} {k : Nat} {o : Obj} (hb : Below w.heap.size w w') (h : w.heap[k]? = some o) : w'.heap[k]? = some o := (hb.block k (Array.getElem?_eq_some_iff.1 h).1).trans h
abbrev setO : Obj := .cells #[.int .u64 0, .int .u64 0, .int .u64 0, .int .u64 0] 24
set_option maxRecDepth 100000 in
set_option maxHeartbeats 4000000 in
theorem rright_any (d : Nat) : ∀ (T : Tree) (A : Option Addr) (c : Nat) (w : World), KidsIn w d T.kids A →
    Calls Tryd.prog 18 #[T.val A c] w fun e w' => e = .returned (.bool T.right) ∧ Below w.heap.size w w' := by
  induction d with
  | zero => intro T A c w h; exact h.elim
  | succ d ih =>
    intro T A c w h
    cases T
    rename_i k s0 s1 s2 s3 l mn mx
    simp only [Tree.val, Tree.kind, Tree.s0, Tree.s1, Tree.s2, Tree.s3, Tree.kids, Tree.mn, Tree.mx] at h ⊢
    have H := Lib.hid h
    have hl := h.1
    clear h
    have Hb1 := Lib.hid ((Below.refl w.heap.size w).alloc (Nat.le_refl _) (Obj.cells #[.int .i64 k, .int .u64 s0, .int .u64 s1, .int .u64 s2, .int .u64 s3, .slice A l.length c, .int .i64 mn, .int .i64 mx] 27))
    have Hb2 := Lib.hid (((Below.refl w.heap.size w).alloc (Nat.le_refl _) (Obj.cells #[.int .i64 k, .int .u64 s0, .int .u64 s1, .int .u64 s2, .int .u64 s3, .slice A l.length c, .int .i64 mn, .int .i64 mx] 27)).alloc (by simp) setO)
    have hneq := neqSet
    by_cases hk0 : k < 1
    · have HF := Lib.hid (show Tree.right (.node k s0 s1 s2 s3 l mn mx) = false by simp [Tree.right]; omega)
      go_enter Tryd.func18, Tryd.ntmps18
      go_wp2_with fail
      go_ret
      exact ⟨ret_bool HF.out.symm, Hb1.out⟩
    by_cases hk5 : k > 4
    · have HF := Lib.hid (show Tree.right (.node k s0 s1 s2 s3 l mn mx) = false by simp [Tree.right]; omega)
      go_enter Tryd.func18, Tryd.ntmps18
      go_wp2_with fail
      go_ret
      exact ⟨ret_bool HF.out.symm, Hb1.out⟩
    by_cases hk1 : k = 1
    · subst hk1
      by_cases hm : mn = 0
      · subst hm
        by_cases hx : mx = 0
        · subst hx
          by_cases hn : l.length = 0
          · have hnil := List.length_eq_zero_iff.1 hn
            subst hnil
            have HT := Lib.hid (show Tree.right (.node 1 s0 s1 s2 s3 [] 0 0) = true by simp [Tree.right, Tree.rights])
            go_enter Tryd.func18, Tryd.ntmps18
            go_wp2_with fail
            go_loopg [5] 0 (fun g i wr => i = .int .i64 0 ∧ Hid (Below w.heap.size w wr))
            case atStart => exact ⟨rfl, Hb2⟩
            case round =>
              obtain ⟨rfl, hB⟩ := hrel
              go_wp2_with fail
              go_ret
              exact ⟨ret_bool HT.out.symm, hB.out⟩
          · have e1 : ((l.length : Int) != 0) = true := by simpa using hn
            have HF := Lib.hid (show Tree.right (.node 1 s0 s1 s2 s3 l 0 0) = false by simp [Tree.right, hn])
            clear hn
            go_enter Tryd.func18, Tryd.ntmps18
            go_wp2_with (go_at_call 34; refine (rtimes_any _ _ _).mono ?_; rintro e w' ⟨rfl, rfl⟩)
            all_goals
              go_ret
              exact ⟨ret_bool HF.out.symm, Hb2.out⟩
        · have e1 : (mx != 0) = true := by simpa using hx
          have HF := Lib.hid (show Tree.right (.node 1 s0 s1 s2 s3 l 0 mx) = false by simp [Tree.right, hx])
          clear hx
          go_enter Tryd.func18, Tryd.ntmps18
          go_wp2_with (go_at_call 34; refine (rtimes_any _ _ _).mono ?_; rintro e w' ⟨rfl, rfl⟩)
          all_goals
            go_ret
            exact ⟨ret_bool HF.out.symm, Hb2.out⟩
      · have e1 : (mn != 0) = true := by simpa using hm
        have HF := Lib.hid (show Tree.right (.node 1 s0 s1 s2 s3 l mn mx) = false by simp [Tree.right, hm])
        clear hm
        go_enter Tryd.func18, Tryd.ntmps18
        go_wp2_with (go_at_call 34; refine (rtimes_any _ _ _).mono ?_; rintro e w' ⟨rfl, rfl⟩)
        all_goals
          go_ret
          exact ⟨ret_bool HF.out.symm, Hb2.out⟩
    have ek1 : (k != 1) = true := by simpa using hk1
    have ek1' : (k == 1) = false := by simpa using hk1
    by_cases hs : ¬ (s0 = 0 ∧ s1 = 0 ∧ s2 = 0 ∧ s3 = 0)
    · have es : (s0 == 0 && (s1 == 0 && (s2 == 0 && s3 == 0))) = false := by rw [Bool.eq_false_iff]; simpa using hs
      have HF := Lib.hid (show Tree.right (.node k s0 s1 s2 s3 l mn mx) = false by simp [Tree.right, hs, hk1])
      clear hs hk1
      go_enter Tryd.func18, Tryd.ntmps18
      go_wp2_with (go_at_call 34; refine (rtimes_any _ _ _).mono ?_; rintro e w' ⟨rfl, rfl⟩)
      all_goals
        go_ret
        exact ⟨ret_bool HF.out.symm, Hb2.out⟩
    have hs' := Classical.not_not.1 hs
    clear hs
    obtain ⟨rfl, rfl, rfl, rfl⟩ := hs'
    by_cases hk4 : k = 4
    · subst hk4
      clear hk1 ek1 ek1' hk0 hk5
      by_cases hl1 : l.length = 1
      · have HL := Lib.hid hl1
        have el : ((l.length : Int) != 1) = false := by simp [hl1]
        cases htm : Tree.times mn mx with
        | false =>
          have htm2 := htm
          have HF := Lib.hid (show Tree.right (.node 4 0 0 0 0 l mn mx) = false by simp [Tree.right, htm2])
          clear htm2 hl1
          go_enter Tryd.func18, Tryd.ntmps18
          go_wp2_with (go_at_call 34; refine (rtimes_any _ _ _).mono ?_; rintro e w' ⟨rfl, rfl⟩; rw [htm])
          all_goals
            go_ret
            exact ⟨ret_bool HF.out.symm, Hb2.out⟩
        | true =>
          have HTm := Lib.hid htm
          clear hl1
          go_enter Tryd.func18, Tryd.ntmps18
          go_wp2_with (go_at_call 34; refine (rtimes_any _ _ _).mono ?_; rintro e w' ⟨rfl, rfl⟩; rw [htm])
          clear htm
          go_loopg [5] l.length (fun g i wr => ∃ j : Nat, j + g = l.length ∧ i = .int .i64 j ∧ Hid (Tree.rights 4 (l.take j) = true) ∧ Hid (Below (w.heap.size + 1) (w.alloc (Obj.cells #[.int .i64 4, .int .u64 0, .int .u64 0, .int .u64 0, .int .u64 0, .slice A l.length c, .int .i64 mn, .int .i64 mx] 27)) wr))
          case atStart => exact ⟨0, by omega, rfl, Lib.hid (by simp [Tree.rights]), Lib.hid ((Below.refl _ _).alloc (by simp) _)⟩
          case round =>
            obtain ⟨j, hj, rfl, hRj, hB⟩ := hrel
            have hj1 : j ≤ l.length := by omega
            have Hj := Lib.hid hj; clear hj
            have hsz : w.heap.size + 1 ≤ wr.heap.size := by have := hB.out.size; simpa using this
            by_cases hlt : j < l.length
            · obtain ⟨tj, htj⟩ : ∃ tj, l[j]? = some tj := ⟨_, List.getElem?_eq_getElem hlt⟩
              have htj2 : l[j] = tj := by have h := List.getElem?_eq_getElem hlt; rw [htj] at h; exact (Option.some.inj h).symm
              obtain ⟨ad, A', c', rfl, hc, hk⟩ := H.out.2 j tj htj
              have hbr := below_box hB.out
              have hc1 := hc.below hbr
              have hk1 := hk.below hbr; clear hk hc hbr
              have Hbox := Lib.hid (box_in hB.out)
              have hne := Tree.rights_not 4 l j hlt
              have hsn : (Tree.rights 4 (l.take (j + 1)) = (Tree.rights 4 (l.take j) && (Tree.right l[j] && (decide ((4 : Int) = 4) || !decide (l[j].kind = 4))))) := by rw [Tree.take_snoc l j hlt, Tree.rights_snoc]
              have Hlt := Lib.hid hlt
              have hih := ih tj A' c'
              simp only [htj2] at hne hsn
              have HC := Lib.hid hc1; have HK := Lib.hid hk1; have Hne := Lib.hid hne; have hsn := Lib.hid hsn
              clear htj htj2 hc1 hk1 hne
              have Hih := Lib.hid hih; clear hih
              obtain ⟨m0, m1, m2, m3, m4, m5, m6, m7, _⟩ := box8' Hbox.out
              go_wp2_with fail
              cases hr : tj.right with
              | false =>
                have HF := Lib.hid (show Tree.right (.node 4 0 0 0 0 l mn mx) = false by simp [Tree.right, Hne.out (by simp [hr])])
                refine start_ (n := 23) (S := fun w' => Below wr.heap.size wr w') (ds := []) #[false, false, false, false, false, false, false, false, false, false, false, false, false, false, false, false, false, false, false, false, false, false, false] (by kernel_rfl) rfl rfl ((Below.refl _ _).drew) (fun hHeld => ?_)
                refine pure_ (i := 0) (N := some 88) (v := ?_) (a' := ?_) #[true, false, false, false, false, false, false, false, false, false, false, false, false, false, false, false, false, false, false, false, false, false, false] rfl rfl (by kernel_rfl) (fun _ _ _ h => h) (Or.inl ⟨by rfl, ?_⟩) ?_ ?_
                rotate_left
                · intro w'
                  go_simp
                  with_reducible rfl
                rotate_left
                · simp only [Act.put, sA, sB, sC]
                  rfl
                refine take_ (i := 1) (N := some 89) (v := ?_) (a' := ?_) #[true, true, false, false, false, false, false, false, false, false, false, false, false, false, false, false, false, false, false, false, false, false, false] rfl rfl (by kernel_rfl) (fun _ _ _ h => h) (Or.inl ⟨by rfl, ?_⟩) hHeld ?_ ?_
                rotate_left
                · intro w' sb; obtain ⟨m0, m1, m2, m3, m4, m5, m6, m7, _⟩ := box8' (heap_aq' sb Hbox.out); obtain ⟨c0, c1, c2, c3, c4, c5, c6, c7⟩ := HC.out.below sb
                  go_simp
                  with_reducible rfl
                rotate_left
                · simp only [Act.put, sA, sB, sC]
                  rfl
                refine pure_ (i := 2) (N := some 90) (v := ?_) (a' := ?_) #[true, true, true, false, false, false, false, false, false, false, false, false, false, false, false, false, false, false, false, false, false, false, false] rfl rfl (by kernel_rfl) (fun _ _ _ h => h) (Or.inl ⟨by rfl, ?_⟩) ?_ ?_
                rotate_left
                · intro w'
                  go_simp
                  with_reducible rfl
                rotate_left
                · simp only [Act.put, sA, sB, sC]
                  rfl
                refine pure_ (i := 3) (N := some 91) (v := ?_) (a' := ?_) #[true, true, true, true, false, false, false, false, false, false, false, false, false, false, false, false, false, false, false, false, false, false, false] rfl rfl (by kernel_rfl) (fun _ _ _ h => h) (Or.inl ⟨by rfl, ?_⟩) ?_ ?_
                rotate_left
                · intro w'
                  go_simp
                  with_reducible rfl
                rotate_left
                · simp only [Act.put, sA, sB, sC]
                  rfl
                refine take_ (i := 4) (N := some 92) (v := ?_) (a' := ?_) #[true, true, true, true, true, false, false, false, false, false, false, false, false, false, false, false, false, false, false, false, false, false, false] rfl rfl (by kernel_rfl) (fun _ _ _ h => h) (Or.inl ⟨by rfl, ?_⟩) hHeld ?_ ?_
                rotate_left
                · intro w' sb; obtain ⟨m0, m1, m2, m3, m4, m5, m6, m7, _⟩ := box8' (heap_aq' sb Hbox.out); obtain ⟨c0, c1, c2, c3, c4, c5, c6, c7⟩ := HC.out.below sb
                  go_simp
                  with_reducible rfl
                rotate_left
                · simp only [Act.put, sA, sB, sC]
                  rfl
                refine one_ (i := 5) (N := some 93) #[true, true, true, true, true, true, false, false, false, false, false, false, false, false, false, false, false, false, false, false, false, false, false] rfl rfl (by kernel_rfl) (by decide) (fun K hK => ?_)
                refine goes_ Tryd.func18 (by kernel_rfl) rfl #[(.agg #[.int .i64 tj.kind, .int .u64 tj.s0, .int .u64 tj.s1, .int .u64 tj.s2, .int .u64 tj.s3, .slice A' tj.kids.length c', .int .i64 tj.mn, .int .i64 tj.mx])] (by rfl) rfl rfl (by (try simp only [List.map_toArray, List.map_cons, List.map_nil]); rfl) ?_
                refine (Hih.out _ (HK.out.below hHeld)).mono ?_
                rintro e w1 ⟨rfl, hb1⟩
                rw [hr]
                refine ⟨_, rfl, ?_⟩
                refine hK.out _ _ (hHeld.trans (hb1.mono hHeld.size)) (fun hHeld => ?_)
                clear hK K
                refine norm_ (a' := ?_) ?_ ?_
                rotate_left
                · show Act.put _ (some 93) _ = _
                  simp only [Act.put, sA, sB, sC]
                  rfl
                refine pure_ (i := 6) (N := some 94) (v := ?_) (a' := ?_) #[true, true, true, true, true, true, true, false, false, false, false, false, false, false, false, false, false, false, false, false, false, false, false] rfl rfl (by kernel_rfl) (fun _ _ _ h => h) (Or.inl ⟨by rfl, ?_⟩) ?_ ?_
                rotate_left
                · intro w'
                  go_simp
                  with_reducible rfl
                rotate_left
                · simp only [Act.put, sA, sB, sC]
                  rfl
                refine pure_ (i := 7) (N := some 95) (v := ?_) (a' := ?_) #[true, true, true, true, true, true, true, true, false, false, false, false, false, false, false, false, false, false, false, false, false, false, false] rfl rfl (by kernel_rfl) (fun _ _ _ h => h) (Or.inl ⟨by rfl, ?_⟩) ?_ ?_
                rotate_left
                · intro w'
                  go_simp
                  with_reducible rfl
                rotate_left
                · simp only [Act.put, sA, sB, sC]
                  rfl
                refine pure_ (i := 8) (N := some 96) (v := ?_) (a' := ?_) #[true, true, true, true, true, true, true, true, true, false, false, false, false, false, false, false, false, false, false, false, false, false, false] rfl rfl (by kernel_rfl) (fun _ _ _ h => h) (Or.inr ⟨by rfl, ?_⟩) ?_ ?_
                rotate_left
                · rfl
                rotate_left
                · simp only [Act.put, sA, sB, sC]
                  rfl
                refine pure_ (i := 9) (N := some 97) (v := ?_) (a' := ?_) #[true, true, true, true, true, true, true, true, true, true, false, false, false, false, false, false, false, false, false, false, false, false, false] rfl rfl (by kernel_rfl) (fun _ _ _ h => h) (Or.inr ⟨by rfl, ?_⟩) ?_ ?_
                rotate_left
                · rfl
                rotate_left
                · simp only [Act.put, sA, sB, sC]
                  rfl
                refine pure_ (i := 10) (N := some 98) (v := ?_) (a' := ?_) #[true, true, true, true, true, true, true, true, true, true, true, false, false, false, false, false, false, false, false, false, false, false, false] rfl rfl (by kernel_rfl) (fun _ _ _ h => h) (Or.inr ⟨by rfl, ?_⟩) ?_ ?_
                rotate_left
                · rfl
                rotate_left
                · simp only [Act.put, sA, sB, sC]
                  rfl
                refine pure_ (i := 11) (N := some 99) (v := ?_) (a' := ?_) #[true, true, true, true, true, true, true, true, true, true, true, true, false, false, false, false, false, false, false, false, false, false, false] rfl rfl (by kernel_rfl) (fun _ _ _ h => h) (Or.inr ⟨by rfl, ?_⟩) ?_ ?_
                rotate_left
                · rfl
                rotate_left
                · simp only [Act.put, sA, sB, sC]
                  rfl
                refine pure_ (i := 12) (N := some 100) (v := ?_) (a' := ?_) #[true, true, true, true, true, true, true, true, true, true, true, true, true, false, false, false, false, false, false, false, false, false, false] rfl rfl (by kernel_rfl) (fun _ _ _ h => h) (Or.inr ⟨by rfl, ?_⟩) ?_ ?_
                rotate_left
                · rfl
                rotate_left
                · simp only [Act.put, sA, sB, sC]
                  rfl
                refine pure_ (i := 13) (N := some 101) (v := ?_) (a' := ?_) #[true, true, true, true, true, true, true, true, true, true, true, true, true, true, false, false, false, false, false, false, false, false, false] rfl rfl (by kernel_rfl) (fun _ _ _ h => h) (Or.inr ⟨by rfl, ?_⟩) ?_ ?_
                rotate_left
                · rfl
                rotate_left
                · simp only [Act.put, sA, sB, sC]
                  rfl
                refine pure_ (i := 14) (N := some 102) (v := ?_) (a' := ?_) #[true, true, true, true, true, true, true, true, true, true, true, true, true, true, true, false, false, false, false, false, false, false, false] rfl rfl (by kernel_rfl) (fun _ _ _ h => h) (Or.inr ⟨by rfl, ?_⟩) ?_ ?_
                rotate_left
                · rfl
                rotate_left
                · simp only [Act.put, sA, sB, sC]
                  rfl
                refine pure_ (i := 15) (N := some 103) (v := ?_) (a' := ?_) #[true, true, true, true, true, true, true, true, true, true, true, true, true, true, true, true, false, false, false, false, false, false, false] rfl rfl (by kernel_rfl) (fun _ _ _ h => h) (Or.inr ⟨by rfl, ?_⟩) ?_ ?_
                rotate_left
                · rfl
                rotate_left
                · simp only [Act.put, sA, sB, sC]
                  rfl
                refine pure_ (i := 16) (N := some 104) (v := ?_) (a' := ?_) #[true, true, true, true, true, true, true, true, true, true, true, true, true, true, true, true, true, false, false, false, false, false, false] rfl rfl (by kernel_rfl) (fun _ _ _ h => h) (Or.inr ⟨by rfl, ?_⟩) ?_ ?_
                rotate_left
                · rfl
                rotate_left
                · simp only [Act.put, sA, sB, sC]
                  rfl
                refine pure_ (i := 17) (N := some 105) (v := ?_) (a' := ?_) #[true, true, true, true, true, true, true, true, true, true, true, true, true, true, true, true, true, true, false, false, false, false, false] rfl rfl (by kernel_rfl) (fun _ _ _ h => h) (Or.inr ⟨by rfl, ?_⟩) ?_ ?_
                rotate_left
                · rfl
                rotate_left
                · simp only [Act.put, sA, sB, sC]
                  rfl
                refine pure_ (i := 18) (N := some 106) (v := ?_) (a' := ?_) #[true, true, true, true, true, true, true, true, true, true, true, true, true, true, true, true, true, true, true, false, false, false, false] rfl rfl (by kernel_rfl) (fun _ _ _ h => h) (Or.inr ⟨by rfl, ?_⟩) ?_ ?_
                rotate_left
                · rfl
                rotate_left
                · simp only [Act.put, sA, sB, sC]
                  rfl
                refine pure_ (i := 19) (N := some 107) (v := ?_) (a' := ?_) #[true, true, true, true, true, true, true, true, true, true, true, true, true, true, true, true, true, true, true, true, false, false, false] rfl rfl (by kernel_rfl) (fun _ _ _ h => h) (Or.inr ⟨by rfl, ?_⟩) ?_ ?_
                rotate_left
                · rfl
                rotate_left
                · simp only [Act.put, sA, sB, sC]
                  rfl
                refine pure_ (i := 20) (N := some 108) (v := ?_) (a' := ?_) #[true, true, true, true, true, true, true, true, true, true, true, true, true, true, true, true, true, true, true, true, true, false, false] rfl rfl (by kernel_rfl) (fun _ _ _ h => h) (Or.inr ⟨by rfl, ?_⟩) ?_ ?_
                rotate_left
                · rfl
                rotate_left
                · simp only [Act.put, sA, sB, sC]
                  rfl
                refine pure_ (i := 21) (N := some 109) (v := ?_) (a' := ?_) #[true, true, true, true, true, true, true, true, true, true, true, true, true, true, true, true, true, true, true, true, true, true, false] rfl rfl (by kernel_rfl) (fun _ _ _ h => h) (Or.inr ⟨by rfl, ?_⟩) ?_ ?_
                rotate_left
                · rfl
                rotate_left
                · simp only [Act.put, sA, sB, sC]
                  rfl
                refine pure_ (i := 22) (N := some 110) (v := ?_) (a' := ?_) #[true, true, true, true, true, true, true, true, true, true, true, true, true, true, true, true, true, true, true, true, true, true, true] rfl rfl (by kernel_rfl) (fun _ _ _ h => h) (Or.inl ⟨by rfl, ?_⟩) ?_ ?_
                rotate_left
                · intro w'
                  go_simp
                  with_reducible rfl
                rotate_left
                · simp only [Act.put, sA, sB, sC]
                  rfl
                refine done_ (by kernel_rfl) ?_
                have HB1 := Lib.hid (hB.out.trans (hHeld.mono hsz))
                clear hHeld hb1
                go_wp2_with fail
                go_ret
                exact ⟨ret_bool HF.out.symm, below_box HB1.out⟩
              | true =>
                by_cases hkk : tj.kind = 4
                · have e2 : (tj.kind == 4) = true := by simpa using hkk
                  clear hkk
                  refine start_ (n := 23) (S := fun w' => Below wr.heap.size wr w') (ds := []) #[false, false, false, false, false, false, false, false, false, false, false, false, false, false, false, false, false, false, false, false, false, false, false] (by kernel_rfl) rfl rfl ((Below.refl _ _).drew) (fun hHeld => ?_)
                  refine pure_ (i := 0) (N := some 88) (v := ?_) (a' := ?_) #[true, false, false, false, false, false, false, false, false, false, false, false, false, false, false, false, false, false, false, false, false, false, false] rfl rfl (by kernel_rfl) (fun _ _ _ h => h) (Or.inl ⟨by rfl, ?_⟩) ?_ ?_
                  rotate_left
                  · intro w'
                    go_simp
                    with_reducible rfl
                  rotate_left
                  · simp only [Act.put, sA, sB, sC]
                    rfl
                  refine take_ (i := 1) (N := some 89) (v := ?_) (a' := ?_) #[true, true, false, false, false, false, false, false, false, false, false, false, false, false, false, false, false, false, false, false, false, false, false] rfl rfl (by kernel_rfl) (fun _ _ _ h => h) (Or.inl ⟨by rfl, ?_⟩) hHeld ?_ ?_
                  rotate_left
                  · intro w' sb; obtain ⟨m0, m1, m2, m3, m4, m5, m6, m7, _⟩ := box8' (heap_aq' sb Hbox.out); obtain ⟨c0, c1, c2, c3, c4, c5, c6, c7⟩ := HC.out.below sb
                    go_simp
                    with_reducible rfl
                  rotate_left
                  · simp only [Act.put, sA, sB, sC]
                    rfl
                  refine pure_ (i := 2) (N := some 90) (v := ?_) (a' := ?_) #[true, true, true, false, false, false, false, false, false, false, false, false, false, false, false, false, false, false, false, false, false, false, false] rfl rfl (by kernel_rfl) (fun _ _ _ h => h) (Or.inl ⟨by rfl, ?_⟩) ?_ ?_
                  rotate_left
                  · intro w'
                    go_simp
                    with_reducible rfl
                  rotate_left
                  · simp only [Act.put, sA, sB, sC]
                    rfl
                  refine pure_ (i := 3) (N := some 91) (v := ?_) (a' := ?_) #[true, true, true, true, false, false, false, false, false, false, false, false, false, false, false, false, false, false, false, false, false, false, false] rfl rfl (by kernel_rfl) (fun _ _ _ h => h) (Or.inl ⟨by rfl, ?_⟩) ?_ ?_
                  rotate_left
                  · intro w'
                    go_simp
                    with_reducible rfl
                  rotate_left
                  · simp only [Act.put, sA, sB, sC]
                    rfl
                  refine take_ (i := 4) (N := some 92) (v := ?_) (a' := ?_) #[true, true, true, true, true, false, false, false, false, false, false, false, false, false, false, false, false, false, false, false, false, false, false] rfl rfl (by kernel_rfl) (fun _ _ _ h => h) (Or.inl ⟨by rfl, ?_⟩) hHeld ?_ ?_
                  rotate_left
                  · intro w' sb; obtain ⟨m0, m1, m2, m3, m4, m5, m6, m7, _⟩ := box8' (heap_aq' sb Hbox.out); obtain ⟨c0, c1, c2, c3, c4, c5, c6, c7⟩ := HC.out.below sb
                    go_simp
                    with_reducible rfl
                  rotate_left
                  · simp only [Act.put, sA, sB, sC]
                    rfl
                  refine one_ (i := 5) (N := some 93) #[true, true, true, true, true, true, false, false, false, false, false, false, false, false, false, false, false, false, false, false, false, false, false] rfl rfl (by kernel_rfl) (by decide) (fun K hK => ?_)
                  refine goes_ Tryd.func18 (by kernel_rfl) rfl #[(.agg #[.int .i64 tj.kind, .int .u64 tj.s0, .int .u64 tj.s1, .int .u64 tj.s2, .int .u64 tj.s3, .slice A' tj.kids.length c', .int .i64 tj.mn, .int .i64 tj.mx])] (by rfl) rfl rfl (by (try simp only [List.map_toArray, List.map_cons, List.map_nil]); rfl) ?_
                  refine (Hih.out _ (HK.out.below hHeld)).mono ?_
                  rintro e w1 ⟨rfl, hb1⟩
                  rw [hr]
                  refine ⟨_, rfl, ?_⟩
                  refine hK.out _ _ (hHeld.trans (hb1.mono hHeld.size)) (fun hHeld => ?_)
                  clear hK K
                  refine norm_ (a' := ?_) ?_ ?_
                  rotate_left
                  · show Act.put _ (some 93) _ = _
                    simp only [Act.put, sA, sB, sC]
                    rfl
                  refine pure_ (i := 6) (N := some 94) (v := ?_) (a' := ?_) #[true, true, true, true, true, true, true, false, false, false, false, false, false, false, false, false, false, false, false, false, false, false, false] rfl rfl (by kernel_rfl) (fun _ _ _ h => h) (Or.inl ⟨by rfl, ?_⟩) ?_ ?_
                  rotate_left
                  · intro w'
                    go_simp
                    with_reducible rfl
                  rotate_left
                  · simp only [Act.put, sA, sB, sC]
                    rfl
                  refine pure_ (i := 7) (N := some 95) (v := ?_) (a' := ?_) #[true, true, true, true, true, true, true, true, false, false, false, false, false, false, false, false, false, false, false, false, false, false, false] rfl rfl (by kernel_rfl) (fun _ _ _ h => h) (Or.inl ⟨by rfl, ?_⟩) ?_ ?_
                  rotate_left
                  · intro w'
                    go_simp
                    with_reducible rfl
                  rotate_left
                  · simp only [Act.put, sA, sB, sC]
                    rfl
                  refine pure_ (i := 8) (N := some 96) (v := ?_) (a' := ?_) #[true, true, true, true, true, true, true, true, true, false, false, false, false, false, false, false, false, false, false, false, false, false, false] rfl rfl (by kernel_rfl) (fun _ _ _ h => h) (Or.inl ⟨by rfl, ?_⟩) ?_ ?_
                  rotate_left
                  · intro w'
                    go_simp
                    with_reducible rfl
                  rotate_left
                  · simp only [Act.put, sA, sB, sC]
                    rfl
                  refine take_ (i := 9) (N := some 97) (v := ?_) (a' := ?_) #[true, true, true, true, true, true, true, true, true, true, false, false, false, false, false, false, false, false, false, false, false, false, false] rfl rfl (by kernel_rfl) (fun _ _ _ h => h) (Or.inl ⟨by rfl, ?_⟩) hHeld ?_ ?_
                  rotate_left
                  · intro w' sb; obtain ⟨m0, m1, m2, m3, m4, m5, m6, m7, _⟩ := box8' (heap_aq' sb Hbox.out); obtain ⟨c0, c1, c2, c3, c4, c5, c6, c7⟩ := HC.out.below sb
                    go_simp
                    with_reducible rfl
                  rotate_left
                  · simp only [Act.put, sA, sB, sC]
                    rfl
                  refine pure_ (i := 10) (N := some 98) (v := ?_) (a' := ?_) #[true, true, true, true, true, true, true, true, true, true, true, false, false, false, false, false, false, false, false, false, false, false, false] rfl rfl (by kernel_rfl) (fun _ _ _ h => h) (Or.inl ⟨by rfl, ?_⟩) ?_ ?_
                  rotate_left
                  · intro w'
                    go_simp
                    with_reducible rfl
                  rotate_left
                  · simp only [Act.put, sA, sB, sC]
                    rfl
                  refine pure_ (i := 11) (N := some 99) (v := ?_) (a' := ?_) #[true, true, true, true, true, true, true, true, true, true, true, true, false, false, false, false, false, false, false, false, false, false, false] rfl rfl (by kernel_rfl) (fun _ _ _ h => h) (Or.inl ⟨by rfl, ?_⟩) ?_ ?_
                  rotate_left
                  · intro w'
                    go_simp
                    with_reducible rfl
                  rotate_left
                  · simp only [Act.put, sA, sB, sC]
                    rfl
                  refine pure_ (i := 12) (N := some 100) (v := ?_) (a' := ?_) #[true, true, true, true, true, true, true, true, true, true, true, true, true, false, false, false, false, false, false, false, false, false, false] rfl rfl (by kernel_rfl) (fun _ _ _ h => h) (Or.inl ⟨by rfl, ?_⟩) ?_ ?_
                  rotate_left
                  · intro w'
                    go_simp
                    with_reducible rfl
                  rotate_left
                  · simp only [Act.put, sA, sB, sC]
                    rfl
                  refine take_ (i := 13) (N := some 101) (v := ?_) (a' := ?_) #[true, true, true, true, true, true, true, true, true, true, true, true, true, true, false, false, false, false, false, false, false, false, false] rfl rfl (by kernel_rfl) (fun _ _ _ h => h) (Or.inl ⟨by rfl, ?_⟩) hHeld ?_ ?_
                  rotate_left
                  · intro w' sb; obtain ⟨m0, m1, m2, m3, m4, m5, m6, m7, _⟩ := box8' (heap_aq' sb Hbox.out); obtain ⟨c0, c1, c2, c3, c4, c5, c6, c7⟩ := HC.out.below sb
                    go_simp
                    with_reducible rfl
                  rotate_left
                  · simp only [Act.put, sA, sB, sC]
                    rfl
                  refine pure_ (i := 14) (N := some 102) (v := ?_) (a' := ?_) #[true, true, true, true, true, true, true, true, true, true, true, true, true, true, true, false, false, false, false, false, false, false, false] rfl rfl (by kernel_rfl) (fun _ _ _ h => h) (Or.inl ⟨by rfl, ?_⟩) ?_ ?_
                  rotate_left
                  · intro w'
                    go_simp
                    with_reducible rfl
                  rotate_left
                  · simp only [Act.put, sA, sB, sC]
                    rfl
                  refine take_ (i := 15) (N := some 103) (v := ?_) (a' := ?_) #[true, true, true, true, true, true, true, true, true, true, true, true, true, true, true, true, false, false, false, false, false, false, false] rfl rfl (by kernel_rfl) (fun _ _ _ h => h) (Or.inl ⟨by rfl, ?_⟩) hHeld ?_ ?_
                  rotate_left
                  · intro w' sb; obtain ⟨m0, m1, m2, m3, m4, m5, m6, m7, _⟩ := box8' (heap_aq' sb Hbox.out); obtain ⟨c0, c1, c2, c3, c4, c5, c6, c7⟩ := HC.out.below sb
                    go_simp
                    with_reducible rfl
                  rotate_left
                  · simp only [Act.put, sA, sB, sC]
                    rfl
                  refine pure_ (i := 16) (N := some 104) (v := ?_) (a' := ?_) #[true, true, true, true, true, true, true, true, true, true, true, true, true, true, true, true, true, false, false, false, false, false, false] rfl rfl (by kernel_rfl) (fun _ _ _ h => h) (Or.inl ⟨by rfl, ?_⟩) ?_ ?_
                  rotate_left
                  · intro w'
                    go_simp
                    with_reducible rfl
                  rotate_left
                  · simp only [Act.put, sA, sB, sC]
                    rfl
                  refine pure_ (i := 17) (N := some 105) (v := ?_) (a' := ?_) #[true, true, true, true, true, true, true, true, true, true, true, true, true, true, true, true, true, true, false, false, false, false, false] rfl rfl (by kernel_rfl) (fun _ _ _ h => h) (Or.inl ⟨by rfl, ?_⟩) ?_ ?_
                  rotate_left
                  · intro w'
                    go_simp
                    with_reducible rfl
                  rotate_left
                  · simp only [Act.put, sA, sB, sC]
                    rfl
                  refine pure_ (i := 18) (N := some 106) (v := ?_) (a' := ?_) #[true, true, true, true, true, true, true, true, true, true, true, true, true, true, true, true, true, true, true, false, false, false, false] rfl rfl (by kernel_rfl) (fun _ _ _ h => h) (Or.inl ⟨by rfl, ?_⟩) ?_ ?_
                  rotate_left
                  · intro w'
                    go_simp
                    with_reducible rfl
                  rotate_left
                  · simp only [Act.put, sA, sB, sC]
                    rfl
                  refine take_ (i := 19) (N := some 107) (v := ?_) (a' := ?_) #[true, true, true, true, true, true, true, true, true, true, true, true, true, true, true, true, true, true, true, true, false, false, false] rfl rfl (by kernel_rfl) (fun _ _ _ h => h) (Or.inl ⟨by rfl, ?_⟩) hHeld ?_ ?_
                  rotate_left
                  · intro w' sb; obtain ⟨m0, m1, m2, m3, m4, m5, m6, m7, _⟩ := box8' (heap_aq' sb Hbox.out); obtain ⟨c0, c1, c2, c3, c4, c5, c6, c7⟩ := HC.out.below sb
                    go_simp
                    with_reducible rfl
                  rotate_left
                  · simp only [Act.put, sA, sB, sC]
                    rfl
                  refine pure_ (i := 20) (N := some 108) (v := ?_) (a' := ?_) #[true, true, true, true, true, true, true, true, true, true, true, true, true, true, true, true, true, true, true, true, true, false, false] rfl rfl (by kernel_rfl) (fun _ _ _ h => h) (Or.inl ⟨by rfl, ?_⟩) ?_ ?_
                  rotate_left
                  · intro w'
                    go_simp
                    with_reducible rfl
                  rotate_left
                  · simp only [Act.put, sA, sB, sC]
                    rfl
                  refine pure_ (i := 21) (N := some 109) (v := ?_) (a' := ?_) #[true, true, true, true, true, true, true, true, true, true, true, true, true, true, true, true, true, true, true, true, true, true, false] rfl rfl (by kernel_rfl) (fun _ _ _ h => h) (Or.inl ⟨by rfl, ?_⟩) ?_ ?_
                  rotate_left
                  · intro w'
                    go_simp
                    with_reducible rfl
                  rotate_left
                  · simp only [Act.put, sA, sB, sC]
                    rfl
                  refine pure_ (i := 22) (N := some 110) (v := ?_) (a' := ?_) #[true, true, true, true, true, true, true, true, true, true, true, true, true, true, true, true, true, true, true, true, true, true, true] rfl rfl (by kernel_rfl) (fun _ _ _ h => h) (Or.inl ⟨by rfl, ?_⟩) ?_ ?_
                  rotate_left
                  · intro w'
                    go_simp
                    with_reducible rfl
                  rotate_left
                  · simp only [Act.put, sA, sB, sC]
                    rfl
                  refine done_ (by kernel_rfl) ?_
                  have HB1 := Lib.hid (hB.out.trans (hHeld.mono hsz))
                  clear hHeld hb1
                  go_wp2_with fail
                  have hj := Hj.out
                  have hlt := Hlt.out
                  go_roundg (gk - 1)
                  case measure => omega
                  case rel => exact ⟨j + 1, by omega, by go_num, Lib.hid (by rw [hsn.out, hRj.out, hr]; simp), HB1⟩
                · have e2 : (tj.kind == 4) = false := by simpa using hkk
                  have HKK := Lib.hid hkk
                  clear hkk
                  refine start_ (n := 23) (S := fun w' => Below wr.heap.size wr w') (ds := []) #[false, false, false, false, false, false, false, false, false, false, false, false, false, false, false, false, false, false, false, false, false, false, false] (by kernel_rfl) rfl rfl ((Below.refl _ _).drew) (fun hHeld => ?_)
                  refine pure_ (i := 0) (N := some 88) (v := ?_) (a' := ?_) #[true, false, false, false, false, false, false, false, false, false, false, false, false, false, false, false, false, false, false, false, false, false, false] rfl rfl (by kernel_rfl) (fun _ _ _ h => h) (Or.inl ⟨by rfl, ?_⟩) ?_ ?_
                  rotate_left
                  · intro w'
                    go_simp
                    with_reducible rfl
                  rotate_left
                  · simp only [Act.put, sA, sB, sC]
                    rfl
                  refine take_ (i := 1) (N := some 89) (v := ?_) (a' := ?_) #[true, true, false, false, false, false, false, false, false, false, false, false, false, false, false, false, false, false, false, false, false, false, false] rfl rfl (by kernel_rfl) (fun _ _ _ h => h) (Or.inl ⟨by rfl, ?_⟩) hHeld ?_ ?_
                  rotate_left
                  · intro w' sb; obtain ⟨m0, m1, m2, m3, m4, m5, m6, m7, _⟩ := box8' (heap_aq' sb Hbox.out); obtain ⟨c0, c1, c2, c3, c4, c5, c6, c7⟩ := HC.out.below sb
                    go_simp
                    with_reducible rfl
                  rotate_left
                  · simp only [Act.put, sA, sB, sC]
                    rfl
                  refine pure_ (i := 2) (N := some 90) (v := ?_) (a' := ?_) #[true, true, true, false, false, false, false, false, false, false, false, false, false, false, false, false, false, false, false, false, false, false, false] rfl rfl (by kernel_rfl) (fun _ _ _ h => h) (Or.inl ⟨by rfl, ?_⟩) ?_ ?_
                  rotate_left
                  · intro w'
                    go_simp
                    with_reducible rfl
                  rotate_left
                  · simp only [Act.put, sA, sB, sC]
                    rfl
                  refine pure_ (i := 3) (N := some 91) (v := ?_) (a' := ?_) #[true, true, true, true, false, false, false, false, false, false, false, false, false, false, false, false, false, false, false, false, false, false, false] rfl rfl (by kernel_rfl) (fun _ _ _ h => h) (Or.inl ⟨by rfl, ?_⟩) ?_ ?_
                  rotate_left
                  · intro w'
                    go_simp
                    with_reducible rfl
                  rotate_left
                  · simp only [Act.put, sA, sB, sC]
                    rfl
                  refine take_ (i := 4) (N := some 92) (v := ?_) (a' := ?_) #[true, true, true, true, true, false, false, false, false, false, false, false, false, false, false, false, false, false, false, false, false, false, false] rfl rfl (by kernel_rfl) (fun _ _ _ h => h) (Or.inl ⟨by rfl, ?_⟩) hHeld ?_ ?_
                  rotate_left
                  · intro w' sb; obtain ⟨m0, m1, m2, m3, m4, m5, m6, m7, _⟩ := box8' (heap_aq' sb Hbox.out); obtain ⟨c0, c1, c2, c3, c4, c5, c6, c7⟩ := HC.out.below sb
                    go_simp
                    with_reducible rfl
                  rotate_left
                  · simp only [Act.put, sA, sB, sC]
                    rfl
                  refine one_ (i := 5) (N := some 93) #[true, true, true, true, true, true, false, false, false, false, false, false, false, false, false, false, false, false, false, false, false, false, false] rfl rfl (by kernel_rfl) (by decide) (fun K hK => ?_)
                  refine goes_ Tryd.func18 (by kernel_rfl) rfl #[(.agg #[.int .i64 tj.kind, .int .u64 tj.s0, .int .u64 tj.s1, .int .u64 tj.s2, .int .u64 tj.s3, .slice A' tj.kids.length c', .int .i64 tj.mn, .int .i64 tj.mx])] (by rfl) rfl rfl (by (try simp only [List.map_toArray, List.map_cons, List.map_nil]); rfl) ?_
                  refine (Hih.out _ (HK.out.below hHeld)).mono ?_
                  rintro e w1 ⟨rfl, hb1⟩
                  rw [hr]
                  refine ⟨_, rfl, ?_⟩
                  refine hK.out _ _ (hHeld.trans (hb1.mono hHeld.size)) (fun hHeld => ?_)
                  clear hK K
                  refine norm_ (a' := ?_) ?_ ?_
                  rotate_left
                  · show Act.put _ (some 93) _ = _
                    simp only [Act.put, sA, sB, sC]
                    rfl
                  refine pure_ (i := 6) (N := some 94) (v := ?_) (a' := ?_) #[true, true, true, true, true, true, true, false, false, false, false, false, false, false, false, false, false, false, false, false, false, false, false] rfl rfl (by kernel_rfl) (fun _ _ _ h => h) (Or.inl ⟨by rfl, ?_⟩) ?_ ?_
                  rotate_left
                  · intro w'
                    go_simp
                    with_reducible rfl
                  rotate_left
                  · simp only [Act.put, sA, sB, sC]
                    rfl
                  refine pure_ (i := 7) (N := some 95) (v := ?_) (a' := ?_) #[true, true, true, true, true, true, true, true, false, false, false, false, false, false, false, false, false, false, false, false, false, false, false] rfl rfl (by kernel_rfl) (fun _ _ _ h => h) (Or.inl ⟨by rfl, ?_⟩) ?_ ?_
                  rotate_left
                  · intro w'
                    go_simp
                    with_reducible rfl
                  rotate_left
                  · simp only [Act.put, sA, sB, sC]
                    rfl
                  refine pure_ (i := 8) (N := some 96) (v := ?_) (a' := ?_) #[true, true, true, true, true, true, true, true, true, false, false, false, false, false, false, false, false, false, false, false, false, false, false] rfl rfl (by kernel_rfl) (fun _ _ _ h => h) (Or.inl ⟨by rfl, ?_⟩) ?_ ?_
                  rotate_left
                  · intro w'
                    go_simp
                    with_reducible rfl
                  rotate_left
                  · simp only [Act.put, sA, sB, sC]
                    rfl
                  refine take_ (i := 9) (N := some 97) (v := ?_) (a' := ?_) #[true, true, true, true, true, true, true, true, true, true, false, false, false, false, false, false, false, false, false, false, false, false, false] rfl rfl (by kernel_rfl) (fun _ _ _ h => h) (Or.inl ⟨by rfl, ?_⟩) hHeld ?_ ?_
                  rotate_left
                  · intro w' sb; obtain ⟨m0, m1, m2, m3, m4, m5, m6, m7, _⟩ := box8' (heap_aq' sb Hbox.out); obtain ⟨c0, c1, c2, c3, c4, c5, c6, c7⟩ := HC.out.below sb
                    go_simp
                    with_reducible rfl
                  rotate_left
                  · simp only [Act.put, sA, sB, sC]
                    rfl
                  refine pure_ (i := 10) (N := some 98) (v := ?_) (a' := ?_) #[true, true, true, true, true, true, true, true, true, true, true, false, false, false, false, false, false, false, false, false, false, false, false] rfl rfl (by kernel_rfl) (fun _ _ _ h => h) (Or.inl ⟨by rfl, ?_⟩) ?_ ?_
                  rotate_left
                  · intro w'
                    go_simp
                    with_reducible rfl
                  rotate_left
                  · simp only [Act.put, sA, sB, sC]
                    rfl
                  refine pure_ (i := 11) (N := some 99) (v := ?_) (a' := ?_) #[true, true, true, true, true, true, true, true, true, true, true, true, false, false, false, false, false, false, false, false, false, false, false] rfl rfl (by kernel_rfl) (fun _ _ _ h => h) (Or.inl ⟨by rfl, ?_⟩) ?_ ?_
                  rotate_left
                  · intro w'
                    go_simp
                    with_reducible rfl
                  rotate_left
                  · simp only [Act.put, sA, sB, sC]
                    rfl
                  refine pure_ (i := 12) (N := some 100) (v := ?_) (a' := ?_) #[true, true, true, true, true, true, true, true, true, true, true, true, true, false, false, false, false, false, false, false, false, false, false] rfl rfl (by kernel_rfl) (fun _ _ _ h => h) (Or.inl ⟨by rfl, ?_⟩) ?_ ?_
                  rotate_left
                  · intro w'
                    go_simp
                    with_reducible rfl
                  rotate_left
                  · simp only [Act.put, sA, sB, sC]
                    rfl
                  refine take_ (i := 13) (N := some 101) (v := ?_) (a' := ?_) #[true, true, true, true, true, true, true, true, true, true, true, true, true, true, false, false, false, false, false, false, false, false, false] rfl rfl (by kernel_rfl) (fun _ _ _ h => h) (Or.inl ⟨by rfl, ?_⟩) hHeld ?_ ?_
                  rotate_left
                  · intro w' sb; obtain ⟨m0, m1, m2, m3, m4, m5, m6, m7, _⟩ := box8' (heap_aq' sb Hbox.out); obtain ⟨c0, c1, c2, c3, c4, c5, c6, c7⟩ := HC.out.below sb
                    go_simp
                    with_reducible rfl
                  rotate_left
                  · simp only [Act.put, sA, sB, sC]
                    rfl
                  refine pure_ (i := 14) (N := some 102) (v := ?_) (a' := ?_) #[true, true, true, true, true, true, true, true, true, true, true, true, true, true, true, false, false, false, false, false, false, false, false] rfl rfl (by kernel_rfl) (fun _ _ _ h => h) (Or.inl ⟨by rfl, ?_⟩) ?_ ?_
                  rotate_left
                  · intro w'
                    go_simp
                    with_reducible rfl
                  rotate_left
                  · simp only [Act.put, sA, sB, sC]
                    rfl
                  refine take_ (i := 15) (N := some 103) (v := ?_) (a' := ?_) #[true, true, true, true, true, true, true, true, true, true, true, true, true, true, true, true, false, false, false, false, false, false, false] rfl rfl (by kernel_rfl) (fun _ _ _ h => h) (Or.inl ⟨by rfl, ?_⟩) hHeld ?_ ?_
                  rotate_left
                  · intro w' sb; obtain ⟨m0, m1, m2, m3, m4, m5, m6, m7, _⟩ := box8' (heap_aq' sb Hbox.out); obtain ⟨c0, c1, c2, c3, c4, c5, c6, c7⟩ := HC.out.below sb
                    go_simp
                    with_reducible rfl
                  rotate_left
                  · simp only [Act.put, sA, sB, sC]
                    rfl
                  refine pure_ (i := 16) (N := some 104) (v := ?_) (a' := ?_) #[true, true, true, true, true, true, true, true, true, true, true, true, true, true, true, true, true, false, false, false, false, false, false] rfl rfl (by kernel_rfl) (fun _ _ _ h => h) (Or.inl ⟨by rfl, ?_⟩) ?_ ?_
                  rotate_left
                  · intro w'
                    go_simp
                    with_reducible rfl
                  rotate_left
                  · simp only [Act.put, sA, sB, sC]
                    rfl
                  refine pure_ (i := 17) (N := some 105) (v := ?_) (a' := ?_) #[true, true, true, true, true, true, true, true, true, true, true, true, true, true, true, true, true, true, false, false, false, false, false] rfl rfl (by kernel_rfl) (fun _ _ _ h => h) (Or.inl ⟨by rfl, ?_⟩) ?_ ?_
                  rotate_left
                  · intro w'
                    go_simp
                    with_reducible rfl
                  rotate_left
                  · simp only [Act.put, sA, sB, sC]
                    rfl
                  refine pure_ (i := 18) (N := some 106) (v := ?_) (a' := ?_) #[true, true, true, true, true, true, true, true, true, true, true, true, true, true, true, true, true, true, true, false, false, false, false] rfl rfl (by kernel_rfl) (fun _ _ _ h => h) (Or.inr ⟨by rfl, ?_⟩) ?_ ?_
                  rotate_left
                  · rfl
                  rotate_left
                  · simp only [Act.put, sA, sB, sC]
                    rfl
                  refine pure_ (i := 19) (N := some 107) (v := ?_) (a' := ?_) #[true, true, true, true, true, true, true, true, true, true, true, true, true, true, true, true, true, true, true, true, false, false, false] rfl rfl (by kernel_rfl) (fun _ _ _ h => h) (Or.inr ⟨by rfl, ?_⟩) ?_ ?_
                  rotate_left
                  · rfl
                  rotate_left
                  · simp only [Act.put, sA, sB, sC]
                    rfl
                  refine pure_ (i := 20) (N := some 108) (v := ?_) (a' := ?_) #[true, true, true, true, true, true, true, true, true, true, true, true, true, true, true, true, true, true, true, true, true, false, false] rfl rfl (by kernel_rfl) (fun _ _ _ h => h) (Or.inr ⟨by rfl, ?_⟩) ?_ ?_
                  rotate_left
                  · rfl
                  rotate_left
                  · simp only [Act.put, sA, sB, sC]
                    rfl
                  refine pure_ (i := 21) (N := some 109) (v := ?_) (a' := ?_) #[true, true, true, true, true, true, true, true, true, true, true, true, true, true, true, true, true, true, true, true, true, true, false] rfl rfl (by kernel_rfl) (fun _ _ _ h => h) (Or.inl ⟨by rfl, ?_⟩) ?_ ?_
                  rotate_left
                  · intro w'
                    go_simp
                    with_reducible rfl
                  rotate_left
                  · simp only [Act.put, sA, sB, sC]
                    rfl
                  refine pure_ (i := 22) (N := some 110) (v := ?_) (a' := ?_) #[true, true, true, true, true, true, true, true, true, true, true, true, true, true, true, true, true, true, true, true, true, true, true] rfl rfl (by kernel_rfl) (fun _ _ _ h => h) (Or.inl ⟨by rfl, ?_⟩) ?_ ?_
                  rotate_left
                  · intro w'
                    go_simp
                    with_reducible rfl
                  rotate_left
                  · simp only [Act.put, sA, sB, sC]
                    rfl
                  refine done_ (by kernel_rfl) ?_
                  have HB1 := Lib.hid (hB.out.trans (hHeld.mono hsz))
                  clear hHeld hb1
                  go_wp2_with fail
                  have hj := Hj.out
                  have hlt := Hlt.out
                  go_roundg (gk - 1)
                  case measure => omega
                  case rel => exact ⟨j + 1, by omega, by go_num, Lib.hid (by rw [hsn.out, hRj.out, hr]; simp [HKK.out]), HB1⟩
            · obtain rfl : j = l.length := by omega
              have HT := Lib.hid (show Tree.right (.node 4 0 0 0 0 l mn mx) = true by have := hRj.out; rw [List.take_length] at this; simp [Tree.right, this, HL.out, HTm.out])
              go_wp2_with fail
              go_ret
              exact ⟨ret_bool HT.out.symm, below_box hB.out⟩
      · have el : ((l.length : Int) != 1) = true := by simp; omega
        have HF := Lib.hid (show Tree.right (.node 4 0 0 0 0 l mn mx) = false by simp [Tree.right, hl1])
        clear hl1
        go_enter Tryd.func18, Tryd.ntmps18
        go_wp2_with (go_at_call 34; refine (rtimes_any _ _ _).mono ?_; rintro e w' ⟨rfl, rfl⟩)
        all_goals
          go_ret
          exact ⟨ret_bool HF.out.symm, Hb2.out⟩
    have ek4 : (k != 4) = true := by simpa using hk4
    have ek4' : (k == 4) = false := by simpa using hk4
    by_cases hm : mn = 0
    case neg =>
      have em : (mn != 0) = true := by simpa using hm
      have HF := Lib.hid (show Tree.right (.node k 0 0 0 0 l mn mx) = false by simp [Tree.right, hm, hk4])
      clear hm hk1 hk4
      go_enter Tryd.func18, Tryd.ntmps18
      go_wp2_with (go_at_call 34; refine (rtimes_any _ _ _).mono ?_; rintro e w' ⟨rfl, rfl⟩)
      all_goals
        go_ret
        exact ⟨ret_bool HF.out.symm, Hb2.out⟩
    subst hm
    by_cases hx : mx = 0
    case neg =>
      have ex : (mx != 0) = true := by simpa using hx
      have HF := Lib.hid (show Tree.right (.node k 0 0 0 0 l 0 mx) = false by simp [Tree.right, hx, hk4])
      clear hx hk1 hk4
      go_enter Tryd.func18, Tryd.ntmps18
      go_wp2_with (go_at_call 34; refine (rtimes_any _ _ _).mono ?_; rintro e w' ⟨rfl, rfl⟩)
      all_goals
        go_ret
        exact ⟨ret_bool HF.out.symm, Hb2.out⟩
    subst hx
    by_cases hk2 : k = 2
    · subst hk2
      clear hk1 hk4 ek1 ek1' ek4 ek4' hk0 hk5
      by_cases hl1 : l.length = 1
      · have el : ((l.length : Int) == 1) = true := by simp [hl1]
        have HF := Lib.hid (show Tree.right (.node 2 0 0 0 0 l 0 0) = false by simp [Tree.right, hl1])
        clear hl1
        go_enter Tryd.func18, Tryd.ntmps18
        go_wp2_with (go_at_call 34; refine (rtimes_any _ _ _).mono ?_; rintro e w' ⟨rfl, rfl⟩)
        all_goals
          go_ret
          exact ⟨ret_bool HF.out.symm, Hb2.out⟩
      · have el : ((l.length : Int) == 1) = false := by simp; omega
        have HL := Lib.hid hl1
        go_enter Tryd.func18, Tryd.ntmps18
        go_wp2_with fail
        go_loopg [5] l.length (fun g i wr => ∃ j : Nat, j + g = l.length ∧ i = .int .i64 j ∧ Hid (Tree.rights 2 (l.take j) = true) ∧ Hid (Below (w.heap.size + 1) (w.alloc (Obj.cells #[.int .i64 2, .int .u64 0, .int .u64 0, .int .u64 0, .int .u64 0, .slice A l.length c, .int .i64 0, .int .i64 0] 27)) wr))
        case atStart => exact ⟨0, by omega, rfl, Lib.hid (by simp [Tree.rights]), Lib.hid ((Below.refl _ _).alloc (by simp) _)⟩
        case round =>
          obtain ⟨j, hj, rfl, hRj, hB⟩ := hrel
          have hj1 : j ≤ l.length := by omega
          have Hj := Lib.hid hj; clear hj
          have hsz : w.heap.size + 1 ≤ wr.heap.size := by have := hB.out.size; simpa using this
          by_cases hlt : j < l.length
          · obtain ⟨tj, htj⟩ : ∃ tj, l[j]? = some tj := ⟨_, List.getElem?_eq_getElem hlt⟩
            have htj2 : l[j] = tj := by have h := List.getElem?_eq_getElem hlt; rw [htj] at h; exact (Option.some.inj h).symm
            obtain ⟨ad, A', c', rfl, hc, hk⟩ := H.out.2 j tj htj
            have hbr := below_box hB.out
            have hc1 := hc.below hbr
            have hk1 := hk.below hbr; clear hk hc hbr
            have Hbox := Lib.hid (box_in hB.out)
            have hne := Tree.rights_not 2 l j hlt
            have hsn : (Tree.rights 2 (l.take (j + 1)) = (Tree.rights 2 (l.take j) && (Tree.right l[j] && (decide ((2 : Int) = 4) || !decide (l[j].kind = 2))))) := by rw [Tree.take_snoc l j hlt, Tree.rights_snoc]
            have Hlt := Lib.hid hlt
            have hih := ih tj A' c'
            simp only [htj2] at hne hsn
            have HC := Lib.hid hc1; have HK := Lib.hid hk1; have Hne := Lib.hid hne; have hsn := Lib.hid hsn
            clear htj htj2 hc1 hk1 hne
            have Hih := Lib.hid hih; clear hih
            obtain ⟨m0, m1, m2, m3, m4, m5, m6, m7, _⟩ := box8' Hbox.out
            go_wp2_with fail
            cases hr : tj.right with
            | false =>
              have HF := Lib.hid (show Tree.right (.node 2 0 0 0 0 l 0 0) = false by simp [Tree.right, Hne.out (by simp [hr])])
              refine start_ (n := 23) (S := fun w' => Below wr.heap.size wr w') (ds := []) #[false, false, false, false, false, false, false, false, false, false, false, false, false, false, false, false, false, false, false, false, false, false, false] (by kernel_rfl) rfl rfl ((Below.refl _ _).drew) (fun hHeld => ?_)
              refine pure_ (i := 0) (N := some 88) (v := ?_) (a' := ?_) #[true, false, false, false, false, false, false, false, false, false, false, false, false, false, false, false, false, false, false, false, false, false, false] rfl rfl (by kernel_rfl) (fun _ _ _ h => h) (Or.inl ⟨by rfl, ?_⟩) ?_ ?_
              rotate_left
              · intro w'
                go_simp
                with_reducible rfl
              rotate_left
              · simp only [Act.put, sA, sB, sC]
                rfl
              refine take_ (i := 1) (N := some 89) (v := ?_) (a' := ?_) #[true, true, false, false, false, false, false, false, false, false, false, false, false, false, false, false, false, false, false, false, false, false, false] rfl rfl (by kernel_rfl) (fun _ _ _ h => h) (Or.inl ⟨by rfl, ?_⟩) hHeld ?_ ?_
              rotate_left
              · intro w' sb; obtain ⟨m0, m1, m2, m3, m4, m5, m6, m7, _⟩ := box8' (heap_aq' sb Hbox.out); obtain ⟨c0, c1, c2, c3, c4, c5, c6, c7⟩ := HC.out.below sb
                go_simp
                with_reducible rfl
              rotate_left
              · simp only [Act.put, sA, sB, sC]
                rfl
              refine pure_ (i := 2) (N := some 90) (v := ?_) (a' := ?_) #[true, true, true, false, false, false, false, false, false, false, false, false, false, false, false, false, false, false, false, false, false, false, false] rfl rfl (by kernel_rfl) (fun _ _ _ h => h) (Or.inl ⟨by rfl, ?_⟩) ?_ ?_
              rotate_left
              · intro w'
                go_simp
                with_reducible rfl
              rotate_left
              · simp only [Act.put, sA, sB, sC]
                rfl
              refine pure_ (i := 3) (N := some 91) (v := ?_) (a' := ?_) #[true, true, true, true, false, false, false, false, false, false, false, false, false, false, false, false, false, false, false, false, false, false, false] rfl rfl (by kernel_rfl) (fun _ _ _ h => h) (Or.inl ⟨by rfl, ?_⟩) ?_ ?_
              rotate_left
              · intro w'
                go_simp
                with_reducible rfl
              rotate_left
              · simp only [Act.put, sA, sB, sC]
                rfl
              refine take_ (i := 4) (N := some 92) (v := ?_) (a' := ?_) #[true, true, true, true, true, false, false, false, false, false, false, false, false, false, false, false, false, false, false, false, false, false, false] rfl rfl (by kernel_rfl) (fun _ _ _ h => h) (Or.inl ⟨by rfl, ?_⟩) hHeld ?_ ?_
              rotate_left
              · intro w' sb; obtain ⟨m0, m1, m2, m3, m4, m5, m6, m7, _⟩ := box8' (heap_aq' sb Hbox.out); obtain ⟨c0, c1, c2, c3, c4, c5, c6, c7⟩ := HC.out.below sb
                go_simp
                with_reducible rfl
              rotate_left
              · simp only [Act.put, sA, sB, sC]
                rfl
              refine one_ (i := 5) (N := some 93) #[true, true, true, true, true, true, false, false, false, false, false, false, false, false, false, false, false, false, false, false, false, false, false] rfl rfl (by kernel_rfl) (by decide) (fun K hK => ?_)
              refine goes_ Tryd.func18 (by kernel_rfl) rfl #[(.agg #[.int .i64 tj.kind, .int .u64 tj.s0, .int .u64 tj.s1, .int .u64 tj.s2, .int .u64 tj.s3, .slice A' tj.kids.length c', .int .i64 tj.mn, .int .i64 tj.mx])] (by rfl) rfl rfl (by (try simp only [List.map_toArray, List.map_cons, List.map_nil]); rfl) ?_
              refine (Hih.out _ (HK.out.below hHeld)).mono ?_
              rintro e w1 ⟨rfl, hb1⟩
              rw [hr]
              refine ⟨_, rfl, ?_⟩
              refine hK.out _ _ (hHeld.trans (hb1.mono hHeld.size)) (fun hHeld => ?_)
              clear hK K
              refine norm_ (a' := ?_) ?_ ?_
              rotate_left
              · show Act.put _ (some 93) _ = _
                simp only [Act.put, sA, sB, sC]
                rfl
              refine pure_ (i := 6) (N := some 94) (v := ?_) (a' := ?_) #[true, true, true, true, true, true, true, false, false, false, false, false, false, false, false, false, false, false, false, false, false, false, false] rfl rfl (by kernel_rfl) (fun _ _ _ h => h) (Or.inl ⟨by rfl, ?_⟩) ?_ ?_
              rotate_left
              · intro w'
                go_simp
                with_reducible rfl
              rotate_left
              · simp only [Act.put, sA, sB, sC]
                rfl
              refine pure_ (i := 7) (N := some 95) (v := ?_) (a' := ?_) #[true, true, true, true, true, true, true, true, false, false, false, false, false, false, false, false, false, false, false, false, false, false, false] rfl rfl (by kernel_rfl) (fun _ _ _ h => h) (Or.inl ⟨by rfl, ?_⟩) ?_ ?_
              rotate_left
              · intro w'
                go_simp
                with_reducible rfl
              rotate_left
              · simp only [Act.put, sA, sB, sC]
                rfl
              refine pure_ (i := 8) (N := some 96) (v := ?_) (a' := ?_) #[true, true, true, true, true, true, true, true, true, false, false, false, false, false, false, false, false, false, false, false, false, false, false] rfl rfl (by kernel_rfl) (fun _ _ _ h => h) (Or.inr ⟨by rfl, ?_⟩) ?_ ?_
              rotate_left
              · rfl
              rotate_left
              · simp only [Act.put, sA, sB, sC]
                rfl
              refine pure_ (i := 9) (N := some 97) (v := ?_) (a' := ?_) #[true, true, true, true, true, true, true, true, true, true, false, false, false, false, false, false, false, false, false, false, false, false, false] rfl rfl (by kernel_rfl) (fun _ _ _ h => h) (Or.inr ⟨by rfl, ?_⟩) ?_ ?_
              rotate_left
              · rfl
              rotate_left
              · simp only [Act.put, sA, sB, sC]
                rfl
              refine pure_ (i := 10) (N := some 98) (v := ?_) (a' := ?_) #[true, true, true, true, true, true, true, true, true, true, true, false, false, false, false, false, false, false, false, false, false, false, false] rfl rfl (by kernel_rfl) (fun _ _ _ h => h) (Or.inr ⟨by rfl, ?_⟩) ?_ ?_
              rotate_left
              · rfl
              rotate_left
              · simp only [Act.put, sA, sB, sC]
                rfl
              refine pure_ (i := 11) (N := some 99) (v := ?_) (a' := ?_) #[true, true, true, true, true, true, true, true, true, true, true, true, false, false, false, false, false, false, false, false, false, false, false] rfl rfl (by kernel_rfl) (fun _ _ _ h => h) (Or.inr ⟨by rfl, ?_⟩) ?_ ?_
              rotate_left
              · rfl
              rotate_left
              · simp only [Act.put, sA, sB, sC]
                rfl
              refine pure_ (i := 12) (N := some 100) (v := ?_) (a' := ?_) #[true, true, true, true, true, true, true, true, true, true, true, true, true, false, false, false, false, false, false, false, false, false, false] rfl rfl (by kernel_rfl) (fun _ _ _ h => h) (Or.inr ⟨by rfl, ?_⟩) ?_ ?_
              rotate_left
              · rfl
              rotate_left
              · simp only [Act.put, sA, sB, sC]
                rfl
              refine pure_ (i := 13) (N := some 101) (v := ?_) (a' := ?_) #[true, true, true, true, true, true, true, true, true, true, true, true, true, true, false, false, false, false, false, false, false, false, false] rfl rfl (by kernel_rfl) (fun _ _ _ h => h) (Or.inr ⟨by rfl, ?_⟩) ?_ ?_
              rotate_left
              · rfl
              rotate_left
              · simp only [Act.put, sA, sB, sC]
                rfl
              refine pure_ (i := 14) (N := some 102) (v := ?_) (a' := ?_) #[true, true, true, true, true, true, true, true, true, true, true, true, true, true, true, false, false, false, false, false, false, false, false] rfl rfl (by kernel_rfl) (fun _ _ _ h => h) (Or.inr ⟨by rfl, ?_⟩) ?_ ?_
              rotate_left
              · rfl
              rotate_left
              · simp only [Act.put, sA, sB, sC]
                rfl
              refine pure_ (i := 15) (N := some 103) (v := ?_) (a' := ?_) #[true, true, true, true, true, true, true, true, true, true, true, true, true, true, true, true, false, false, false, false, false, false, false] rfl rfl (by kernel_rfl) (fun _ _ _ h => h) (Or.inr ⟨by rfl, ?_⟩) ?_ ?_
              rotate_left
              · rfl
              rotate_left
              · simp only [Act.put, sA, sB, sC]
                rfl
              refine pure_ (i := 16) (N := some 104) (v := ?_) (a' := ?_) #[true, true, true, true, true, true, true, true, true, true, true, true, true, true, true, true, true, false, false, false, false, false, false] rfl rfl (by kernel_rfl) (fun _ _ _ h => h) (Or.inr ⟨by rfl, ?_⟩) ?_ ?_
              rotate_left
              · rfl
              rotate_left
              · simp only [Act.put, sA, sB, sC]
                rfl
              refine pure_ (i := 17) (N := some 105) (v := ?_) (a' := ?_) #[true, true, true, true, true, true, true, true, true, true, true, true, true, true, true, true, true, true, false, false, false, false, false] rfl rfl (by kernel_rfl) (fun _ _ _ h => h) (Or.inr ⟨by rfl, ?_⟩) ?_ ?_
              rotate_left
              · rfl
              rotate_left
              · simp only [Act.put, sA, sB, sC]
                rfl
              refine pure_ (i := 18) (N := some 106) (v := ?_) (a' := ?_) #[true, true, true, true, true, true, true, true, true, true, true, true, true, true, true, true, true, true, true, false, false, false, false] rfl rfl (by kernel_rfl) (fun _ _ _ h => h) (Or.inr ⟨by rfl, ?_⟩) ?_ ?_
              rotate_left
              · rfl
              rotate_left
              · simp only [Act.put, sA, sB, sC]
                rfl
              refine pure_ (i := 19) (N := some 107) (v := ?_) (a' := ?_) #[true, true, true, true, true, true, true, true, true, true, true, true, true, true, true, true, true, true, true, true, false, false, false] rfl rfl (by kernel_rfl) (fun _ _ _ h => h) (Or.inr ⟨by rfl, ?_⟩) ?_ ?_
              rotate_left
              · rfl
              rotate_left
              · simp only [Act.put, sA, sB, sC]
                rfl
              refine pure_ (i := 20) (N := some 108) (v := ?_) (a' := ?_) #[true, true, true, true, true, true, true, true, true, true, true, true, true, true, true, true, true, true, true, true, true, false, false] rfl rfl (by kernel_rfl) (fun _ _ _ h => h) (Or.inr ⟨by rfl, ?_⟩) ?_ ?_
              rotate_left
              · rfl
              rotate_left
              · simp only [Act.put, sA, sB, sC]
                rfl
              refine pure_ (i := 21) (N := some 109) (v := ?_) (a' := ?_) #[true, true, true, true, true, true, true, true, true, true, true, true, true, true, true, true, true, true, true, true, true, true, false] rfl rfl (by kernel_rfl) (fun _ _ _ h => h) (Or.inr ⟨by rfl, ?_⟩) ?_ ?_
              rotate_left
              · rfl
              rotate_left
              · simp only [Act.put, sA, sB, sC]
                rfl
              refine pure_ (i := 22) (N := some 110) (v := ?_) (a' := ?_) #[true, true, true, true, true, true, true, true, true, true, true, true, true, true, true, true, true, true, true, true, true, true, true] rfl rfl (by kernel_rfl) (fun _ _ _ h => h) (Or.inl ⟨by rfl, ?_⟩) ?_ ?_
              rotate_left
              · intro w'
                go_simp
                with_reducible rfl
              rotate_left
              · simp only [Act.put, sA, sB, sC]
                rfl
              refine done_ (by kernel_rfl) ?_
              have HB1 := Lib.hid (hB.out.trans (hHeld.mono hsz))
              clear hHeld hb1
              go_wp2_with fail
              go_ret
              exact ⟨ret_bool HF.out.symm, below_box HB1.out⟩
            | true =>
              by_cases hkk : tj.kind = 2
              · have e2 : (tj.kind == 2) = true := by simpa using hkk
                have HF := Lib.hid (show Tree.right (.node 2 0 0 0 0 l 0 0) = false by simp [Tree.right, Hne.out (by simp [hkk])])
                clear hkk
                refine start_ (n := 23) (S := fun w' => Below wr.heap.size wr w') (ds := []) #[false, false, false, false, false, false, false, false, false, false, false, false, false, false, false, false, false, false, false, false, false, false, false] (by kernel_rfl) rfl rfl ((Below.refl _ _).drew) (fun hHeld => ?_)
                refine pure_ (i := 0) (N := some 88) (v := ?_) (a' := ?_) #[true, false, false, false, false, false, false, false, false, false, false, false, false, false, false, false, false, false, false, false, false, false, false] rfl rfl (by kernel_rfl) (fun _ _ _ h => h) (Or.inl ⟨by rfl, ?_⟩) ?_ ?_
                rotate_left
                · intro w'
                  go_simp
                  with_reducible rfl
                rotate_left
                · simp only [Act.put, sA, sB, sC]
                  rfl
                refine take_ (i := 1) (N := some 89) (v := ?_) (a' := ?_) #[true, true, false, false, false, false, false, false, false, false, false, false, false, false, false, false, false, false, false, false, false, false, false] rfl rfl (by kernel_rfl) (fun _ _ _ h => h) (Or.inl ⟨by rfl, ?_⟩) hHeld ?_ ?_
                rotate_left
                · intro w' sb; obtain ⟨m0, m1, m2, m3, m4, m5, m6, m7, _⟩ := box8' (heap_aq' sb Hbox.out); obtain ⟨c0, c1, c2, c3, c4, c5, c6, c7⟩ := HC.out.below sb
                  go_simp
                  with_reducible rfl
                rotate_left
                · simp only [Act.put, sA, sB, sC]
                  rfl
                refine pure_ (i := 2) (N := some 90) (v := ?_) (a' := ?_) #[true, true, true, false, false, false, false, false, false, false, false, false, false, false, false, false, false, false, false, false, false, false, false] rfl rfl (by kernel_rfl) (fun _ _ _ h => h) (Or.inl ⟨by rfl, ?_⟩) ?_ ?_
                rotate_left
                · intro w'
                  go_simp
                  with_reducible rfl
                rotate_left
                · simp only [Act.put, sA, sB, sC]
                  rfl
                refine pure_ (i := 3) (N := some 91) (v := ?_) (a' := ?_) #[true, true, true, true, false, false, false, false, false, false, false, false, false, false, false, false, false, false, false, false, false, false, false] rfl rfl (by kernel_rfl) (fun _ _ _ h => h) (Or.inl ⟨by rfl, ?_⟩) ?_ ?_
                rotate_left
                · intro w'
                  go_simp
                  with_reducible rfl
                rotate_left
                · simp only [Act.put, sA, sB, sC]
                  rfl
                refine take_ (i := 4) (N := some 92) (v := ?_) (a' := ?_) #[true, true, true, true, true, false, false, false, false, false, false, false, false, false, false, false, false, false, false, false, false, false, false] rfl rfl (by kernel_rfl) (fun _ _ _ h => h) (Or.inl ⟨by rfl, ?_⟩) hHeld ?_ ?_
                rotate_left
                · intro w' sb; obtain ⟨m0, m1, m2, m3, m4, m5, m6, m7, _⟩ := box8' (heap_aq' sb Hbox.out); obtain ⟨c0, c1, c2, c3, c4, c5, c6, c7⟩ := HC.out.below sb
                  go_simp
                  with_reducible rfl
                rotate_left
                · simp only [Act.put, sA, sB, sC]
                  rfl
                refine one_ (i := 5) (N := some 93) #[true, true, true, true, true, true, false, false, false, false, false, false, false, false, false, false, false, false, false, false, false, false, false] rfl rfl (by kernel_rfl) (by decide) (fun K hK => ?_)
                refine goes_ Tryd.func18 (by kernel_rfl) rfl #[(.agg #[.int .i64 tj.kind, .int .u64 tj.s0, .int .u64 tj.s1, .int .u64 tj.s2, .int .u64 tj.s3, .slice A' tj.kids.length c', .int .i64 tj.mn, .int .i64 tj.mx])] (by rfl) rfl rfl (by (try simp only [List.map_toArray, List.map_cons, List.map_nil]); rfl) ?_
                refine (Hih.out _ (HK.out.below hHeld)).mono ?_
                rintro e w1 ⟨rfl, hb1⟩
                rw [hr]
                refine ⟨_, rfl, ?_⟩
                refine hK.out _ _ (hHeld.trans (hb1.mono hHeld.size)) (fun hHeld => ?_)
                clear hK K
                refine norm_ (a' := ?_) ?_ ?_
                rotate_left
                · show Act.put _ (some 93) _ = _
                  simp only [Act.put, sA, sB, sC]
                  rfl
                refine pure_ (i := 6) (N := some 94) (v := ?_) (a' := ?_) #[true, true, true, true, true, true, true, false, false, false, false, false, false, false, false, false, false, false, false, false, false, false, false] rfl rfl (by kernel_rfl) (fun _ _ _ h => h) (Or.inl ⟨by rfl, ?_⟩) ?_ ?_
                rotate_left
                · intro w'
                  go_simp
                  with_reducible rfl
                rotate_left
                · simp only [Act.put, sA, sB, sC]
                  rfl
                refine pure_ (i := 7) (N := some 95) (v := ?_) (a' := ?_) #[true, true, true, true, true, true, true, true, false, false, false, false, false, false, false, false, false, false, false, false, false, false, false] rfl rfl (by kernel_rfl) (fun _ _ _ h => h) (Or.inl ⟨by rfl, ?_⟩) ?_ ?_
                rotate_left
                · intro w'
                  go_simp
                  with_reducible rfl
                rotate_left
                · simp only [Act.put, sA, sB, sC]
                  rfl
                refine pure_ (i := 8) (N := some 96) (v := ?_) (a' := ?_) #[true, true, true, true, true, true, true, true, true, false, false, false, false, false, false, false, false, false, false, false, false, false, false] rfl rfl (by kernel_rfl) (fun _ _ _ h => h) (Or.inl ⟨by rfl, ?_⟩) ?_ ?_
                rotate_left
                · intro w'
                  go_simp
                  with_reducible rfl
                rotate_left
                · simp only [Act.put, sA, sB, sC]
                  rfl
                refine take_ (i := 9) (N := some 97) (v := ?_) (a' := ?_) #[true, true, true, true, true, true, true, true, true, true, false, false, false, false, false, false, false, false, false, false, false, false, false] rfl rfl (by kernel_rfl) (fun _ _ _ h => h) (Or.inl ⟨by rfl, ?_⟩) hHeld ?_ ?_
                rotate_left
                · intro w' sb; obtain ⟨m0, m1, m2, m3, m4, m5, m6, m7, _⟩ := box8' (heap_aq' sb Hbox.out); obtain ⟨c0, c1, c2, c3, c4, c5, c6, c7⟩ := HC.out.below sb
                  go_simp
                  with_reducible rfl
                rotate_left
                · simp only [Act.put, sA, sB, sC]
                  rfl
                refine pure_ (i := 10) (N := some 98) (v := ?_) (a' := ?_) #[true, true, true, true, true, true, true, true, true, true, true, false, false, false, false, false, false, false, false, false, false, false, false] rfl rfl (by kernel_rfl) (fun _ _ _ h => h) (Or.inl ⟨by rfl, ?_⟩) ?_ ?_
                rotate_left
                · intro w'
                  go_simp
                  with_reducible rfl
                rotate_left
                · simp only [Act.put, sA, sB, sC]
                  rfl
                refine pure_ (i := 11) (N := some 99) (v := ?_) (a' := ?_) #[true, true, true, true, true, true, true, true, true, true, true, true, false, false, false, false, false, false, false, false, false, false, false] rfl rfl (by kernel_rfl) (fun _ _ _ h => h) (Or.inl ⟨by rfl, ?_⟩) ?_ ?_
                rotate_left
                · intro w'
                  go_simp
                  with_reducible rfl
                rotate_left
                · simp only [Act.put, sA, sB, sC]
                  rfl
                refine pure_ (i := 12) (N := some 100) (v := ?_) (a' := ?_) #[true, true, true, true, true, true, true, true, true, true, true, true, true, false, false, false, false, false, false, false, false, false, false] rfl rfl (by kernel_rfl) (fun _ _ _ h => h) (Or.inl ⟨by rfl, ?_⟩) ?_ ?_
                rotate_left
                · intro w'
                  go_simp
                  with_reducible rfl
                rotate_left
                · simp only [Act.put, sA, sB, sC]
                  rfl
                refine take_ (i := 13) (N := some 101) (v := ?_) (a' := ?_) #[true, true, true, true, true, true, true, true, true, true, true, true, true, true, false, false, false, false, false, false, false, false, false] rfl rfl (by kernel_rfl) (fun _ _ _ h => h) (Or.inl ⟨by rfl, ?_⟩) hHeld ?_ ?_
                rotate_left
                · intro w' sb; obtain ⟨m0, m1, m2, m3, m4, m5, m6, m7, _⟩ := box8' (heap_aq' sb Hbox.out); obtain ⟨c0, c1, c2, c3, c4, c5, c6, c7⟩ := HC.out.below sb
                  go_simp
                  with_reducible rfl
                rotate_left
                · simp only [Act.put, sA, sB, sC]
                  rfl
                refine pure_ (i := 14) (N := some 102) (v := ?_) (a' := ?_) #[true, true, true, true, true, true, true, true, true, true, true, true, true, true, true, false, false, false, false, false, false, false, false] rfl rfl (by kernel_rfl) (fun _ _ _ h => h) (Or.inl ⟨by rfl, ?_⟩) ?_ ?_
                rotate_left
                · intro w'
                  go_simp
                  with_reducible rfl
                rotate_left
                · simp only [Act.put, sA, sB, sC]
                  rfl
                refine take_ (i := 15) (N := some 103) (v := ?_) (a' := ?_) #[true, true, true, true, true, true, true, true, true, true, true, true, true, true, true, true, false, false, false, false, false, false, false] rfl rfl (by kernel_rfl) (fun _ _ _ h => h) (Or.inl ⟨by rfl, ?_⟩) hHeld ?_ ?_
                rotate_left
                · intro w' sb; obtain ⟨m0, m1, m2, m3, m4, m5, m6, m7, _⟩ := box8' (heap_aq' sb Hbox.out); obtain ⟨c0, c1, c2, c3, c4, c5, c6, c7⟩ := HC.out.below sb
                  go_simp
                  with_reducible rfl
                rotate_left
                · simp only [Act.put, sA, sB, sC]
                  rfl
                refine pure_ (i := 16) (N := some 104) (v := ?_) (a' := ?_) #[true, true, true, true, true, true, true, true, true, true, true, true, true, true, true, true, true, false, false, false, false, false, false] rfl rfl (by kernel_rfl) (fun _ _ _ h => h) (Or.inl ⟨by rfl, ?_⟩) ?_ ?_
                rotate_left
                · intro w'
                  go_simp
                  with_reducible rfl
                rotate_left
                · simp only [Act.put, sA, sB, sC]
                  rfl
                refine pure_ (i := 17) (N := some 105) (v := ?_) (a' := ?_) #[true, true, true, true, true, true, true, true, true, true, true, true, true, true, true, true, true, true, false, false, false, false, false] rfl rfl (by kernel_rfl) (fun _ _ _ h => h) (Or.inl ⟨by rfl, ?_⟩) ?_ ?_
                rotate_left
                · intro w'
                  go_simp
                  with_reducible rfl
                rotate_left
                · simp only [Act.put, sA, sB, sC]
                  rfl
                refine pure_ (i := 18) (N := some 106) (v := ?_) (a' := ?_) #[true, true, true, true, true, true, true, true, true, true, true, true, true, true, true, true, true, true, true, false, false, false, false] rfl rfl (by kernel_rfl) (fun _ _ _ h => h) (Or.inl ⟨by rfl, ?_⟩) ?_ ?_
                rotate_left
                · intro w'
                  go_simp
                  with_reducible rfl
                rotate_left
                · simp only [Act.put, sA, sB, sC]
                  rfl
                refine take_ (i := 19) (N := some 107) (v := ?_) (a' := ?_) #[true, true, true, true, true, true, true, true, true, true, true, true, true, true, true, true, true, true, true, true, false, false, false] rfl rfl (by kernel_rfl) (fun _ _ _ h => h) (Or.inl ⟨by rfl, ?_⟩) hHeld ?_ ?_
                rotate_left
                · intro w' sb; obtain ⟨m0, m1, m2, m3, m4, m5, m6, m7, _⟩ := box8' (heap_aq' sb Hbox.out); obtain ⟨c0, c1, c2, c3, c4, c5, c6, c7⟩ := HC.out.below sb
                  go_simp
                  with_reducible rfl
                rotate_left
                · simp only [Act.put, sA, sB, sC]
                  rfl
                refine pure_ (i := 20) (N := some 108) (v := ?_) (a' := ?_) #[true, true, true, true, true, true, true, true, true, true, true, true, true, true, true, true, true, true, true, true, true, false, false] rfl rfl (by kernel_rfl) (fun _ _ _ h => h) (Or.inl ⟨by rfl, ?_⟩) ?_ ?_
                rotate_left
                · intro w'
                  go_simp
                  with_reducible rfl
                rotate_left
                · simp only [Act.put, sA, sB, sC]
                  rfl
                refine pure_ (i := 21) (N := some 109) (v := ?_) (a' := ?_) #[true, true, true, true, true, true, true, true, true, true, true, true, true, true, true, true, true, true, true, true, true, true, false] rfl rfl (by kernel_rfl) (fun _ _ _ h => h) (Or.inl ⟨by rfl, ?_⟩) ?_ ?_
                rotate_left
                · intro w'
                  go_simp
                  with_reducible rfl
                rotate_left
                · simp only [Act.put, sA, sB, sC]
                  rfl
                refine pure_ (i := 22) (N := some 110) (v := ?_) (a' := ?_) #[true, true, true, true, true, true, true, true, true, true, true, true, true, true, true, true, true, true, true, true, true, true, true] rfl rfl (by kernel_rfl) (fun _ _ _ h => h) (Or.inl ⟨by rfl, ?_⟩) ?_ ?_
                rotate_left
                · intro w'
                  go_simp
                  with_reducible rfl
                rotate_left
                · simp only [Act.put, sA, sB, sC]
                  rfl
                refine done_ (by kernel_rfl) ?_
                have HB1 := Lib.hid (hB.out.trans (hHeld.mono hsz))
                clear hHeld hb1
                go_wp2_with fail
                go_ret
                exact ⟨ret_bool HF.out.symm, below_box HB1.out⟩
              · have e2 : (tj.kind == 2) = false := by simpa using hkk
                have HKK := Lib.hid hkk
                clear hkk
                refine start_ (n := 23) (S := fun w' => Below wr.heap.size wr w') (ds := []) #[false, false, false, false, false, false, false, false, false, false, false, false, false, false, false, false, false, false, false, false, false, false, false] (by kernel_rfl) rfl rfl ((Below.refl _ _).drew) (fun hHeld => ?_)
                refine pure_ (i := 0) (N := some 88) (v := ?_) (a' := ?_) #[true, false, false, false, false, false, false, false, false, false, false, false, false, false, false, false, false, false, false, false, false, false, false] rfl rfl (by kernel_rfl) (fun _ _ _ h => h) (Or.inl ⟨by rfl, ?_⟩) ?_ ?_
                rotate_left
                · intro w'
                  go_simp
                  with_reducible rfl
                rotate_left
                · simp only [Act.put, sA, sB, sC]
                  rfl
                refine take_ (i := 1) (N := some 89) (v := ?_) (a' := ?_) #[true, true, false, false, false, false, false, false, false, false, false, false, false, false, false, false, false, false, false, false, false, false, false] rfl rfl (by kernel_rfl) (fun _ _ _ h => h) (Or.inl ⟨by rfl, ?_⟩) hHeld ?_ ?_
                rotate_left
                · intro w' sb; obtain ⟨m0, m1, m2, m3, m4, m5, m6, m7, _⟩ := box8' (heap_aq' sb Hbox.out); obtain ⟨c0, c1, c2, c3, c4, c5, c6, c7⟩ := HC.out.below sb
                  go_simp
                  with_reducible rfl
                rotate_left
                · simp only [Act.put, sA, sB, sC]
                  rfl
                refine pure_ (i := 2) (N := some 90) (v := ?_) (a' := ?_) #[true, true, true, false, false, false, false, false, false, false, false, false, false, false, false, false, false, false, false, false, false, false, false] rfl rfl (by kernel_rfl) (fun _ _ _ h => h) (Or.inl ⟨by rfl, ?_⟩) ?_ ?_
                rotate_left
                · intro w'
                  go_simp
                  with_reducible rfl
                rotate_left
                · simp only [Act.put, sA, sB, sC]
                  rfl
                refine pure_ (i := 3) (N := some 91) (v := ?_) (a' := ?_) #[true, true, true, true, false, false, false, false, false, false, false, false, false, false, false, false, false, false, false, false, false, false, false] rfl rfl (by kernel_rfl) (fun _ _ _ h => h) (Or.inl ⟨by rfl, ?_⟩) ?_ ?_
                rotate_left
                · intro w'
                  go_simp
                  with_reducible rfl
                rotate_left
                · simp only [Act.put, sA, sB, sC]
                  rfl
                refine take_ (i := 4) (N := some 92) (v := ?_) (a' := ?_) #[true, true, true, true, true, false, false, false, false, false, false, false, false, false, false, false, false, false, false, false, false, false, false] rfl rfl (by kernel_rfl) (fun _ _ _ h => h) (Or.inl ⟨by rfl, ?_⟩) hHeld ?_ ?_
                rotate_left
                · intro w' sb; obtain ⟨m0, m1, m2, m3, m4, m5, m6, m7, _⟩ := box8' (heap_aq' sb Hbox.out); obtain ⟨c0, c1, c2, c3, c4, c5, c6, c7⟩ := HC.out.below sb
                  go_simp
                  with_reducible rfl
                rotate_left
                · simp only [Act.put, sA, sB, sC]
                  rfl
                refine one_ (i := 5) (N := some 93) #[true, true, true, true, true, true, false, false, false, false, false, false, false, false, false, false, false, false, false, false, false, false, false] rfl rfl (by kernel_rfl) (by decide) (fun K hK => ?_)
                refine goes_ Tryd.func18 (by kernel_rfl) rfl #[(.agg #[.int .i64 tj.kind, .int .u64 tj.s0, .int .u64 tj.s1, .int .u64 tj.s2, .int .u64 tj.s3, .slice A' tj.kids.length c', .int .i64 tj.mn, .int .i64 tj.mx])] (by rfl) rfl rfl (by (try simp only [List.map_toArray, List.map_cons, List.map_nil]); rfl) ?_
                refine (Hih.out _ (HK.out.below hHeld)).mono ?_
                rintro e w1 ⟨rfl, hb1⟩
                rw [hr]
                refine ⟨_, rfl, ?_⟩
                refine hK.out _ _ (hHeld.trans (hb1.mono hHeld.size)) (fun hHeld => ?_)
                clear hK K
                refine norm_ (a' := ?_) ?_ ?_
                rotate_left
                · show Act.put _ (some 93) _ = _
                  simp only [Act.put, sA, sB, sC]
                  rfl
                refine pure_ (i := 6) (N := some 94) (v := ?_) (a' := ?_) #[true, true, true, true, true, true, true, false, false, false, false, false, false, false, false, false, false, false, false, false, false, false, false] rfl rfl (by kernel_rfl) (fun _ _ _ h => h) (Or.inl ⟨by rfl, ?_⟩) ?_ ?_
                rotate_left
                · intro w'
                  go_simp
                  with_reducible rfl
                rotate_left
                · simp only [Act.put, sA, sB, sC]
                  rfl
                refine pure_ (i := 7) (N := some 95) (v := ?_) (a' := ?_) #[true, true, true, true, true, true, true, true, false, false, false, false, false, false, false, false, false, false, false, false, false, false, false] rfl rfl (by kernel_rfl) (fun _ _ _ h => h) (Or.inl ⟨by rfl, ?_⟩) ?_ ?_
                rotate_left
                · intro w'
                  go_simp
                  with_reducible rfl
                rotate_left
                · simp only [Act.put, sA, sB, sC]
                  rfl
                refine pure_ (i := 8) (N := some 96) (v := ?_) (a' := ?_) #[true, true, true, true, true, true, true, true, true, false, false, false, false, false, false, false, false, false, false, false, false, false, false] rfl rfl (by kernel_rfl) (fun _ _ _ h => h) (Or.inl ⟨by rfl, ?_⟩) ?_ ?_
                rotate_left
                · intro w'
                  go_simp
                  with_reducible rfl
                rotate_left
                · simp only [Act.put, sA, sB, sC]
                  rfl
                refine take_ (i := 9) (N := some 97) (v := ?_) (a' := ?_) #[true, true, true, true, true, true, true, true, true, true, false, false, false, false, false, false, false, false, false, false, false, false, false] rfl rfl (by kernel_rfl) (fun _ _ _ h => h) (Or.inl ⟨by rfl, ?_⟩) hHeld ?_ ?_
                rotate_left
                · intro w' sb; obtain ⟨m0, m1, m2, m3, m4, m5, m6, m7, _⟩ := box8' (heap_aq' sb Hbox.out); obtain ⟨c0, c1, c2, c3, c4, c5, c6, c7⟩ := HC.out.below sb
                  go_simp
                  with_reducible rfl
                rotate_left
                · simp only [Act.put, sA, sB, sC]
                  rfl
                refine pure_ (i := 10) (N := some 98) (v := ?_) (a' := ?_) #[true, true, true, true, true, true, true, true, true, true, true, false, false, false, false, false, false, false, false, false, false, false, false] rfl rfl (by kernel_rfl) (fun _ _ _ h => h) (Or.inl ⟨by rfl, ?_⟩) ?_ ?_
                rotate_left
                · intro w'
                  go_simp
                  with_reducible rfl
                rotate_left
                · simp only [Act.put, sA, sB, sC]
                  rfl
                refine pure_ (i := 11) (N := some 99) (v := ?_) (a' := ?_) #[true, true, true, true, true, true, true, true, true, true, true, true, false, false, false, false, false, false, false, false, false, false, false] rfl rfl (by kernel_rfl) (fun _ _ _ h => h) (Or.inl ⟨by rfl, ?_⟩) ?_ ?_
                rotate_left
                · intro w'
                  go_simp
                  with_reducible rfl
                rotate_left
                · simp only [Act.put, sA, sB, sC]
                  rfl
                refine pure_ (i := 12) (N := some 100) (v := ?_) (a' := ?_) #[true, true, true, true, true, true, true, true, true, true, true, true, true, false, false, false, false, false, false, false, false, false, false] rfl rfl (by kernel_rfl) (fun _ _ _ h => h) (Or.inl ⟨by rfl, ?_⟩) ?_ ?_
                rotate_left
                · intro w'
                  go_simp
                  with_reducible rfl
                rotate_left
                · simp only [Act.put, sA, sB, sC]
                  rfl
                refine take_ (i := 13) (N := some 101) (v := ?_) (a' := ?_) #[true, true, true, true, true, true, true, true, true, true, true, true, true, true, false, false, false, false, false, false, false, false, false] rfl rfl (by kernel_rfl) (fun _ _ _ h => h) (Or.inl ⟨by rfl, ?_⟩) hHeld ?_ ?_
                rotate_left
                · intro w' sb; obtain ⟨m0, m1, m2, m3, m4, m5, m6, m7, _⟩ := box8' (heap_aq' sb Hbox.out); obtain ⟨c0, c1, c2, c3, c4, c5, c6, c7⟩ := HC.out.below sb
                  go_simp
                  with_reducible rfl
                rotate_left
                · simp only [Act.put, sA, sB, sC]
                  rfl
                refine pure_ (i := 14) (N := some 102) (v := ?_) (a' := ?_) #[true, true, true, true, true, true, true, true, true, true, true, true, true, true, true, false, false, false, false, false, false, false, false] rfl rfl (by kernel_rfl) (fun _ _ _ h => h) (Or.inl ⟨by rfl, ?_⟩) ?_ ?_
                rotate_left
                · intro w'
                  go_simp
                  with_reducible rfl
                rotate_left
                · simp only [Act.put, sA, sB, sC]
                  rfl
                refine take_ (i := 15) (N := some 103) (v := ?_) (a' := ?_) #[true, true, true, true, true, true, true, true, true, true, true, true, true, true, true, true, false, false, false, false, false, false, false] rfl rfl (by kernel_rfl) (fun _ _ _ h => h) (Or.inl ⟨by rfl, ?_⟩) hHeld ?_ ?_
                rotate_left
                · intro w' sb; obtain ⟨m0, m1, m2, m3, m4, m5, m6, m7, _⟩ := box8' (heap_aq' sb Hbox.out); obtain ⟨c0, c1, c2, c3, c4, c5, c6, c7⟩ := HC.out.below sb
                  go_simp
                  with_reducible rfl
                rotate_left
                · simp only [Act.put, sA, sB, sC]
                  rfl
                refine pure_ (i := 16) (N := some 104) (v := ?_) (a' := ?_) #[true, true, true, true, true, true, true, true, true, true, true, true, true, true, true, true, true, false, false, false, false, false, false] rfl rfl (by kernel_rfl) (fun _ _ _ h => h) (Or.inl ⟨by rfl, ?_⟩) ?_ ?_
                rotate_left
                · intro w'
                  go_simp
                  with_reducible rfl
                rotate_left
                · simp only [Act.put, sA, sB, sC]
                  rfl
                refine pure_ (i := 17) (N := some 105) (v := ?_) (a' := ?_) #[true, true, true, true, true, true, true, true, true, true, true, true, true, true, true, true, true, true, false, false, false, false, false] rfl rfl (by kernel_rfl) (fun _ _ _ h => h) (Or.inl ⟨by rfl, ?_⟩) ?_ ?_
                rotate_left
                · intro w'
                  go_simp
                  with_reducible rfl
                rotate_left
                · simp only [Act.put, sA, sB, sC]
                  rfl
                refine pure_ (i := 18) (N := some 106) (v := ?_) (a' := ?_) #[true, true, true, true, true, true, true, true, true, true, true, true, true, true, true, true, true, true, true, false, false, false, false] rfl rfl (by kernel_rfl) (fun _ _ _ h => h) (Or.inr ⟨by rfl, ?_⟩) ?_ ?_
                rotate_left
                · rfl
                rotate_left
                · simp only [Act.put, sA, sB, sC]
                  rfl
                refine pure_ (i := 19) (N := some 107) (v := ?_) (a' := ?_) #[true, true, true, true, true, true, true, true, true, true, true, true, true, true, true, true, true, true, true, true, false, false, false] rfl rfl (by kernel_rfl) (fun _ _ _ h => h) (Or.inr ⟨by rfl, ?_⟩) ?_ ?_
                rotate_left
                · rfl
                rotate_left
                · simp only [Act.put, sA, sB, sC]
                  rfl
                refine pure_ (i := 20) (N := some 108) (v := ?_) (a' := ?_) #[true, true, true, true, true, true, true, true, true, true, true, true, true, true, true, true, true, true, true, true, true, false, false] rfl rfl (by kernel_rfl) (fun _ _ _ h => h) (Or.inr ⟨by rfl, ?_⟩) ?_ ?_
                rotate_left
                · rfl
                rotate_left
                · simp only [Act.put, sA, sB, sC]
                  rfl
                refine pure_ (i := 21) (N := some 109) (v := ?_) (a' := ?_) #[true, true, true, true, true, true, true, true, true, true, true, true, true, true, true, true, true, true, true, true, true, true, false] rfl rfl (by kernel_rfl) (fun _ _ _ h => h) (Or.inl ⟨by rfl, ?_⟩) ?_ ?_
                rotate_left
                · intro w'
                  go_simp
                  with_reducible rfl
                rotate_left
                · simp only [Act.put, sA, sB, sC]
                  rfl
                refine pure_ (i := 22) (N := some 110) (v := ?_) (a' := ?_) #[true, true, true, true, true, true, true, true, true, true, true, true, true, true, true, true, true, true, true, true, true, true, true] rfl rfl (by kernel_rfl) (fun _ _ _ h => h) (Or.inl ⟨by rfl, ?_⟩) ?_ ?_
                rotate_left
                · intro w'
                  go_simp
                  with_reducible rfl
                rotate_left
                · simp only [Act.put, sA, sB, sC]
                  rfl
                refine done_ (by kernel_rfl) ?_
                have HB1 := Lib.hid (hB.out.trans (hHeld.mono hsz))
                clear hHeld hb1
                go_wp2_with fail
                have hj := Hj.out
                have hlt := Hlt.out
                go_roundg (gk - 1)
                case measure => omega
                case rel => exact ⟨j + 1, by omega, by go_num, Lib.hid (by rw [hsn.out, hRj.out, hr]; simp [HKK.out]), HB1⟩
          · obtain rfl : j = l.length := by omega
            have HT := Lib.hid (show Tree.right (.node 2 0 0 0 0 l 0 0) = true by have := hRj.out; rw [List.take_length] at this; simp [Tree.right, this]; omega)
            go_wp2_with fail
            go_ret
            exact ⟨ret_bool HT.out.symm, below_box hB.out⟩
    · obtain rfl : k = 3 := by omega
      clear hk1 hk4 ek1 ek1' ek4 ek4' hk0 hk5 hk2
      by_cases hl1 : l.length < 2
      · have el : (l.length : Int) < 2 := by omega
        have HF := Lib.hid (show Tree.right (.node 3 0 0 0 0 l 0 0) = false by simp [Tree.right]; omega)
        clear hl1
        go_enter Tryd.func18, Tryd.ntmps18
        go_wp2_with (go_at_call 34; refine (rtimes_any _ _ _).mono ?_; rintro e w' ⟨rfl, rfl⟩)
        all_goals
          go_ret
          exact ⟨ret_bool HF.out.symm, Hb2.out⟩
      · have el : ¬ (l.length : Int) < 2 := by omega
        go_enter Tryd.func18, Tryd.ntmps18
        go_wp2_with fail
        go_loopg [5] l.length (fun g i wr => ∃ j : Nat, j + g = l.length ∧ i = .int .i64 j ∧ Hid (Tree.rights 3 (l.take j) = true) ∧ Hid (Below (w.heap.size + 1) (w.alloc (Obj.cells #[.int .i64 3, .int .u64 0, .int .u64 0, .int .u64 0, .int .u64 0, .slice A l.length c, .int .i64 0, .int .i64 0] 27)) wr))
        case atStart => exact ⟨0, by omega, rfl, Lib.hid (by simp [Tree.rights]), Lib.hid ((Below.refl _ _).alloc (by simp) _)⟩
        case round =>
          obtain ⟨j, hj, rfl, hRj, hB⟩ := hrel
          have hj1 : j ≤ l.length := by omega
          have Hj := Lib.hid hj; clear hj
          have hsz : w.heap.size + 1 ≤ wr.heap.size := by have := hB.out.size; simpa using this
          by_cases hlt : j < l.length
          · obtain ⟨tj, htj⟩ : ∃ tj, l[j]? = some tj := ⟨_, List.getElem?_eq_getElem hlt⟩
            have htj2 : l[j] = tj := by have h := List.getElem?_eq_getElem hlt; rw [htj] at h; exact (Option.some.inj h).symm
            obtain ⟨ad, A', c', rfl, hc, hk⟩ := H.out.2 j tj htj
            have hbr := below_box hB.out
            have hc1 := hc.below hbr
            have hk1 := hk.below hbr; clear hk hc hbr
            have Hbox := Lib.hid (box_in hB.out)
            have hne := Tree.rights_not 3 l j hlt
            have hsn : (Tree.rights 3 (l.take (j + 1)) = (Tree.rights 3 (l.take j) && (Tree.right l[j] && (decide ((3 : Int) = 4) || !decide (l[j].kind = 3))))) := by rw [Tree.take_snoc l j hlt, Tree.rights_snoc]
            have Hlt := Lib.hid hlt
            have hih := ih tj A' c'
            simp only [htj2] at hne hsn
            have HC := Lib.hid hc1; have HK := Lib.hid hk1; have Hne := Lib.hid hne; have hsn := Lib.hid hsn
            clear htj htj2 hc1 hk1 hne
            have Hih := Lib.hid hih; clear hih
            obtain ⟨m0, m1, m2, m3, m4, m5, m6, m7, _⟩ := box8' Hbox.out
            go_wp2_with fail
            cases hr : tj.right with
            | false =>
              have HF := Lib.hid (show Tree.right (.node 3 0 0 0 0 l 0 0) = false by simp [Tree.right, Hne.out (by simp [hr])])
              refine start_ (n := 23) (S := fun w' => Below wr.heap.size wr w') (ds := []) #[false, false, false, false, false, false, false, false, false, false, false, false, false, false, false, false, false, false, false, false, false, false, false] (by kernel_rfl) rfl rfl ((Below.refl _ _).drew) (fun hHeld => ?_)
              refine pure_ (i := 0) (N := some 88) (v := ?_) (a' := ?_) #[true, false, false, false, false, false, false, false, false, false, false, false, false, false, false, false, false, false, false, false, false, false, false] rfl rfl (by kernel_rfl) (fun _ _ _ h => h) (Or.inl ⟨by rfl, ?_⟩) ?_ ?_
              rotate_left
              · intro w'
                go_simp
                with_reducible rfl
              rotate_left
              · simp only [Act.put, sA, sB, sC]
                rfl
              refine take_ (i := 1) (N := some 89) (v := ?_) (a' := ?_) #[true, true, false, false, false, false, false, false, false, false, false, false, false, false, false, false, false, false, false, false, false, false, false] rfl rfl (by kernel_rfl) (fun _ _ _ h => h) (Or.inl ⟨by rfl, ?_⟩) hHeld ?_ ?_
              rotate_left
              · intro w' sb; obtain ⟨m0, m1, m2, m3, m4, m5, m6, m7, _⟩ := box8' (heap_aq' sb Hbox.out); obtain ⟨c0, c1, c2, c3, c4, c5, c6, c7⟩ := HC.out.below sb
                go_simp
                with_reducible rfl
              rotate_left
              · simp only [Act.put, sA, sB, sC]
                rfl
              refine pure_ (i := 2) (N := some 90) (v := ?_) (a' := ?_) #[true, true, true, false, false, false, false, false, false, false, false, false, false, false, false, false, false, false, false, false, false, false, false] rfl rfl (by kernel_rfl) (fun _ _ _ h => h) (Or.inl ⟨by rfl, ?_⟩) ?_ ?_
              rotate_left
              · intro w'
                go_simp
                with_reducible rfl
              rotate_left
              · simp only [Act.put, sA, sB, sC]
                rfl
              refine pure_ (i := 3) (N := some 91) (v := ?_) (a' := ?_) #[true, true, true, true, false, false, false, false, false, false, false, false, false, false, false, false, false, false, false, false, false, false, false] rfl rfl (by kernel_rfl) (fun _ _ _ h => h) (Or.inl ⟨by rfl, ?_⟩) ?_ ?_
              rotate_left
              · intro w'
                go_simp
                with_reducible rfl
              rotate_left
              · simp only [Act.put, sA, sB, sC]
                rfl
              refine take_ (i := 4) (N := some 92) (v := ?_) (a' := ?_) #[true, true, true, true, true, false, false, false, false, false, false, false, false, false, false, false, false, false, false, false, false, false, false] rfl rfl (by kernel_rfl) (fun _ _ _ h => h) (Or.inl ⟨by rfl, ?_⟩) hHeld ?_ ?_
              rotate_left
              · intro w' sb; obtain ⟨m0, m1, m2, m3, m4, m5, m6, m7, _⟩ := box8' (heap_aq' sb Hbox.out); obtain ⟨c0, c1, c2, c3, c4, c5, c6, c7⟩ := HC.out.below sb
                go_simp
                with_reducible rfl
              rotate_left
              · simp only [Act.put, sA, sB, sC]
                rfl
              refine one_ (i := 5) (N := some 93) #[true, true, true, true, true, true, false, false, false, false, false, false, false, false, false, false, false, false, false, false, false, false, false] rfl rfl (by kernel_rfl) (by decide) (fun K hK => ?_)
              refine goes_ Tryd.func18 (by kernel_rfl) rfl #[(.agg #[.int .i64 tj.kind, .int .u64 tj.s0, .int .u64 tj.s1, .int .u64 tj.s2, .int .u64 tj.s3, .slice A' tj.kids.length c', .int .i64 tj.mn, .int .i64 tj.mx])] (by rfl) rfl rfl (by (try simp only [List.map_toArray, List.map_cons, List.map_nil]); rfl) ?_
              refine (Hih.out _ (HK.out.below hHeld)).mono ?_
              rintro e w1 ⟨rfl, hb1⟩
              rw [hr]
              refine ⟨_, rfl, ?_⟩
              refine hK.out _ _ (hHeld.trans (hb1.mono hHeld.size)) (fun hHeld => ?_)
              clear hK K
              refine norm_ (a' := ?_) ?_ ?_
              rotate_left
              · show Act.put _ (some 93) _ = _
                simp only [Act.put, sA, sB, sC]
                rfl
              refine pure_ (i := 6) (N := some 94) (v := ?_) (a' := ?_) #[true, true, true, true, true, true, true, false, false, false, false, false, false, false, false, false, false, false, false, false, false, false, false] rfl rfl (by kernel_rfl) (fun _ _ _ h => h) (Or.inl ⟨by rfl, ?_⟩) ?_ ?_
              rotate_left
              · intro w'
                go_simp
                with_reducible rfl
              rotate_left
              · simp only [Act.put, sA, sB, sC]
                rfl
              refine pure_ (i := 7) (N := some 95) (v := ?_) (a' := ?_) #[true, true, true, true, true, true, true, true, false, false, false, false, false, false, false, false, false, false, false, false, false, false, false] rfl rfl (by kernel_rfl) (fun _ _ _ h => h) (Or.inl ⟨by rfl, ?_⟩) ?_ ?_
              rotate_left
              · intro w'
                go_simp
                with_reducible rfl
              rotate_left
              · simp only [Act.put, sA, sB, sC]
                rfl
              refine pure_ (i := 8) (N := some 96) (v := ?_) (a' := ?_) #[true, true, true, true, true, true, true, true, true, false, false, false, false, false, false, false, false, false, false, false, false, false, false] rfl rfl (by kernel_rfl) (fun _ _ _ h => h) (Or.inr ⟨by rfl, ?_⟩) ?_ ?_
              rotate_left
              · rfl
              rotate_left
              · simp only [Act.put, sA, sB, sC]
                rfl
              refine pure_ (i := 9) (N := some 97) (v := ?_) (a' := ?_) #[true, true, true, true, true, true, true, true, true, true, false, false, false, false, false, false, false, false, false, false, false, false, false] rfl rfl (by kernel_rfl) (fun _ _ _ h => h) (Or.inr ⟨by rfl, ?_⟩) ?_ ?_
              rotate_left
              · rfl
              rotate_left
              · simp only [Act.put, sA, sB, sC]
                rfl
              refine pure_ (i := 10) (N := some 98) (v := ?_) (a' := ?_) #[true, true, true, true, true, true, true, true, true, true, true, false, false, false, false, false, false, false, false, false, false, false, false] rfl rfl (by kernel_rfl) (fun _ _ _ h => h) (Or.inr ⟨by rfl, ?_⟩) ?_ ?_
              rotate_left
              · rfl
              rotate_left
              · simp only [Act.put, sA, sB, sC]
                rfl
              refine pure_ (i := 11) (N := some 99) (v := ?_) (a' := ?_) #[true, true, true, true, true, true, true, true, true, true, true, true, false, false, false, false, false, false, false, false, false, false, false] rfl rfl (by kernel_rfl) (fun _ _ _ h => h) (Or.inr ⟨by rfl, ?_⟩) ?_ ?_
              rotate_left
              · rfl
              rotate_left
              · simp only [Act.put, sA, sB, sC]
                rfl
              refine pure_ (i := 12) (N := some 100) (v := ?_) (a' := ?_) #[true, true, true, true, true, true, true, true, true, true, true, true, true, false, false, false, false, false, false, false, false, false, false] rfl rfl (by kernel_rfl) (fun _ _ _ h => h) (Or.inr ⟨by rfl, ?_⟩) ?_ ?_
              rotate_left
              · rfl
              rotate_left
              · simp only [Act.put, sA, sB, sC]
                rfl
              refine pure_ (i := 13) (N := some 101) (v := ?_) (a' := ?_) #[true, true, true, true, true, true, true, true, true, true, true, true, true, true, false, false, false, false, false, false, false, false, false] rfl rfl (by kernel_rfl) (fun _ _ _ h => h) (Or.inr ⟨by rfl, ?_⟩) ?_ ?_
              rotate_left
              · rfl
              rotate_left
              · simp only [Act.put, sA, sB, sC]
                rfl
              refine pure_ (i := 14) (N := some 102) (v := ?_) (a' := ?_) #[true, true, true, true, true, true, true, true, true, true, true, true, true, true, true, false, false, false, false, false, false, false, false] rfl rfl (by kernel_rfl) (fun _ _ _ h => h) (Or.inr ⟨by rfl, ?_⟩) ?_ ?_
              rotate_left
              · rfl
              rotate_left
              · simp only [Act.put, sA, sB, sC]
                rfl
              refine pure_ (i := 15) (N := some 103) (v := ?_) (a' := ?_) #[true, true, true, true, true, true, true, true, true, true, true, true, true, true, true, true, false, false, false, false, false, false, false] rfl rfl (by kernel_rfl) (fun _ _ _ h => h) (Or.inr ⟨by rfl, ?_⟩) ?_ ?_
              rotate_left
              · rfl
              rotate_left
              · simp only [Act.put, sA, sB, sC]
                rfl
              refine pure_ (i := 16) (N := some 104) (v := ?_) (a' := ?_) #[true, true, true, true, true, true, true, true, true, true, true, true, true, true, true, true, true, false, false, false, false, false, false] rfl rfl (by kernel_rfl) (fun _ _ _ h => h) (Or.inr ⟨by rfl, ?_⟩) ?_ ?_
              rotate_left
              · rfl
              rotate_left
              · simp only [Act.put, sA, sB, sC]
                rfl
              refine pure_ (i := 17) (N := some 105) (v := ?_) (a' := ?_) #[true, true, true, true, true, true, true, true, true, true, true, true, true, true, true, true, true, true, false, false, false, false, false] rfl rfl (by kernel_rfl) (fun _ _ _ h => h) (Or.inr ⟨by rfl, ?_⟩) ?_ ?_
              rotate_left
              · rfl
              rotate_left
              · simp only [Act.put, sA, sB, sC]
                rfl
              refine pure_ (i := 18) (N := some 106) (v := ?_) (a' := ?_) #[true, true, true, true, true, true, true, true, true, true, true, true, true, true, true, true, true, true, true, false, false, false, false] rfl rfl (by kernel_rfl) (fun _ _ _ h => h) (Or.inr ⟨by rfl, ?_⟩) ?_ ?_
              rotate_left
              · rfl
              rotate_left
              · simp only [Act.put, sA, sB, sC]
                rfl
              refine pure_ (i := 19) (N := some 107) (v := ?_) (a' := ?_) #[true, true, true, true, true, true, true, true, true, true, true, true, true, true, true, true, true, true, true, true, false, false, false] rfl rfl (by kernel_rfl) (fun _ _ _ h => h) (Or.inr ⟨by rfl, ?_⟩) ?_ ?_
              rotate_left
              · rfl
              rotate_left
              · simp only [Act.put, sA, sB, sC]
                rfl
              refine pure_ (i := 20) (N := some 108) (v := ?_) (a' := ?_) #[true, true, true, true, true, true, true, true, true, true, true, true, true, true, true, true, true, true, true, true, true, false, false] rfl rfl (by kernel_rfl) (fun _ _ _ h => h) (Or.inr ⟨by rfl, ?_⟩) ?_ ?_
              rotate_left
              · rfl
              rotate_left
              · simp only [Act.put, sA, sB, sC]
                rfl
              refine pure_ (i := 21) (N := some 109) (v := ?_) (a' := ?_) #[true, true, true, true, true, true, true, true, true, true, true, true, true, true, true, true, true, true, true, true, true, true, false] rfl rfl (by kernel_rfl) (fun _ _ _ h => h) (Or.inr ⟨by rfl, ?_⟩) ?_ ?_
              rotate_left
              · rfl
              rotate_left
              · simp only [Act.put, sA, sB, sC]
                rfl
              refine pure_ (i := 22) (N := some 110) (v := ?_) (a' := ?_) #[true, true, true, true, true, true, true, true, true, true, true, true, true, true, true, true, true, true, true, true, true, true, true] rfl rfl (by kernel_rfl) (fun _ _ _ h => h) (Or.inl ⟨by rfl, ?_⟩) ?_ ?_
              rotate_left
              · intro w'
                go_simp
                with_reducible rfl
              rotate_left
              · simp only [Act.put, sA, sB, sC]
                rfl
              refine done_ (by kernel_rfl) ?_
              have HB1 := Lib.hid (hB.out.trans (hHeld.mono hsz))
              clear hHeld hb1
              go_wp2_with fail
              go_ret
              exact ⟨ret_bool HF.out.symm, below_box HB1.out⟩
            | true =>
              by_cases hkk : tj.kind = 3
              · have e2 : (tj.kind == 3) = true := by simpa using hkk
                have HF := Lib.hid (show Tree.right (.node 3 0 0 0 0 l 0 0) = false by simp [Tree.right, Hne.out (by simp [hkk])])
                clear hkk
                refine start_ (n := 23) (S := fun w' => Below wr.heap.size wr w') (ds := []) #[false, false, false, false, false, false, false, false, false, false, false, false, false, false, false, false, false, false, false, false, false, false, false] (by kernel_rfl) rfl rfl ((Below.refl _ _).drew) (fun hHeld => ?_)
                refine pure_ (i := 0) (N := some 88) (v := ?_) (a' := ?_) #[true, false, false, false, false, false, false, false, false, false, false, false, false, false, false, false, false, false, false, false, false, false, false] rfl rfl (by kernel_rfl) (fun _ _ _ h => h) (Or.inl ⟨by rfl, ?_⟩) ?_ ?_
                rotate_left
                · intro w'
                  go_simp
                  with_reducible rfl
                rotate_left
                · simp only [Act.put, sA, sB, sC]
                  rfl
                refine take_ (i := 1) (N := some 89) (v := ?_) (a' := ?_) #[true, true, false, false, false, false, false, false, false, false, false, false, false, false, false, false, false, false, false, false, false, false, false] rfl rfl (by kernel_rfl) (fun _ _ _ h => h) (Or.inl ⟨by rfl, ?_⟩) hHeld ?_ ?_
                rotate_left
                · intro w' sb; obtain ⟨m0, m1, m2, m3, m4, m5, m6, m7, _⟩ := box8' (heap_aq' sb Hbox.out); obtain ⟨c0, c1, c2, c3, c4, c5, c6, c7⟩ := HC.out.below sb
                  go_simp
                  with_reducible rfl
                rotate_left
                · simp only [Act.put, sA, sB, sC]
                  rfl
                refine pure_ (i := 2) (N := some 90) (v := ?_) (a' := ?_) #[true, true, true, false, false, false, false, false, false, false, false, false, false, false, false, false, false, false, false, false, false, false, false] rfl rfl (by kernel_rfl) (fun _ _ _ h => h) (Or.inl ⟨by rfl, ?_⟩) ?_ ?_
                rotate_left
                · intro w'
                  go_simp
                  with_reducible rfl
                rotate_left
                · simp only [Act.put, sA, sB, sC]
                  rfl
                refine pure_ (i := 3) (N := some 91) (v := ?_) (a' := ?_) #[true, true, true, true, false, false, false, false, false, false, false, false, false, false, false, false, false, false, false, false, false, false, false] rfl rfl (by kernel_rfl) (fun _ _ _ h => h) (Or.inl ⟨by rfl, ?_⟩) ?_ ?_
                rotate_left
                · intro w'
                  go_simp
                  with_reducible rfl
                rotate_left
                · simp only [Act.put, sA, sB, sC]
                  rfl
                refine take_ (i := 4) (N := some 92) (v := ?_) (a' := ?_) #[true, true, true, true, true, false, false, false, false, false, false, false, false, false, false, false, false, false, false, false, false, false, false] rfl rfl (by kernel_rfl) (fun _ _ _ h => h) (Or.inl ⟨by rfl, ?_⟩) hHeld ?_ ?_
                rotate_left
                · intro w' sb; obtain ⟨m0, m1, m2, m3, m4, m5, m6, m7, _⟩ := box8' (heap_aq' sb Hbox.out); obtain ⟨c0, c1, c2, c3, c4, c5, c6, c7⟩ := HC.out.below sb
                  go_simp
                  with_reducible rfl
                rotate_left
                · simp only [Act.put, sA, sB, sC]
                  rfl
                refine one_ (i := 5) (N := some 93) #[true, true, true, true, true, true, false, false, false, false, false, false, false, false, false, false, false, false, false, false, false, false, false] rfl rfl (by kernel_rfl) (by decide) (fun K hK => ?_)
                refine goes_ Tryd.func18 (by kernel_rfl) rfl #[(.agg #[.int .i64 tj.kind, .int .u64 tj.s0, .int .u64 tj.s1, .int .u64 tj.s2, .int .u64 tj.s3, .slice A' tj.kids.length c', .int .i64 tj.mn, .int .i64 tj.mx])] (by rfl) rfl rfl (by (try simp only [List.map_toArray, List.map_cons, List.map_nil]); rfl) ?_
                refine (Hih.out _ (HK.out.below hHeld)).mono ?_
                rintro e w1 ⟨rfl, hb1⟩
                rw [hr]
                refine ⟨_, rfl, ?_⟩
                refine hK.out _ _ (hHeld.trans (hb1.mono hHeld.size)) (fun hHeld => ?_)
                clear hK K
                refine norm_ (a' := ?_) ?_ ?_
                rotate_left
                · show Act.put _ (some 93) _ = _
                  simp only [Act.put, sA, sB, sC]
                  rfl
                refine pure_ (i := 6) (N := some 94) (v := ?_) (a' := ?_) #[true, true, true, true, true, true, true, false, false, false, false, false, false, false, false, false, false, false, false, false, false, false, false] rfl rfl (by kernel_rfl) (fun _ _ _ h => h) (Or.inl ⟨by rfl, ?_⟩) ?_ ?_
                rotate_left
                · intro w'
                  go_simp
                  with_reducible rfl
                rotate_left
                · simp only [Act.put, sA, sB, sC]
                  rfl
                refine pure_ (i := 7) (N := some 95) (v := ?_) (a' := ?_) #[true, true, true, true, true, true, true, true, false, false, false, false, false, false, false, false, false, false, false, false, false, false, false] rfl rfl (by kernel_rfl) (fun _ _ _ h => h) (Or.inl ⟨by rfl, ?_⟩) ?_ ?_
                rotate_left
                · intro w'
                  go_simp
                  with_reducible rfl
                rotate_left
                · simp only [Act.put, sA, sB, sC]
                  rfl
                refine pure_ (i := 8) (N := some 96) (v := ?_) (a' := ?_) #[true, true, true, true, true, true, true, true, true, false, false, false, false, false, false, false, false, false, false, false, false, false, false] rfl rfl (by kernel_rfl) (fun _ _ _ h => h) (Or.inl ⟨by rfl, ?_⟩) ?_ ?_
                rotate_left
                · intro w'
                  go_simp
                  with_reducible rfl
                rotate_left
                · simp only [Act.put, sA, sB, sC]
                  rfl
                refine take_ (i := 9) (N := some 97) (v := ?_) (a' := ?_) #[true, true, true, true, true, true, true, true, true, true, false, false, false, false, false, false, false, false, false, false, false, false, false] rfl rfl (by kernel_rfl) (fun _ _ _ h => h) (Or.inl ⟨by rfl, ?_⟩) hHeld ?_ ?_
                rotate_left
                · intro w' sb; obtain ⟨m0, m1, m2, m3, m4, m5, m6, m7, _⟩ := box8' (heap_aq' sb Hbox.out); obtain ⟨c0, c1, c2, c3, c4, c5, c6, c7⟩ := HC.out.below sb
                  go_simp
                  with_reducible rfl
                rotate_left
                · simp only [Act.put, sA, sB, sC]
                  rfl
                refine pure_ (i := 10) (N := some 98) (v := ?_) (a' := ?_) #[true, true, true, true, true, true, true, true, true, true, true, false, false, false, false, false, false, false, false, false, false, false, false] rfl rfl (by kernel_rfl) (fun _ _ _ h => h) (Or.inl ⟨by rfl, ?_⟩) ?_ ?_
                rotate_left
                · intro w'
                  go_simp
                  with_reducible rfl
                rotate_left
                · simp only [Act.put, sA, sB, sC]
                  rfl
                refine pure_ (i := 11) (N := some 99) (v := ?_) (a' := ?_) #[true, true, true, true, true, true, true, true, true, true, true, true, false, false, false, false, false, false, false, false, false, false, false] rfl rfl (by kernel_rfl) (fun _ _ _ h => h) (Or.inl ⟨by rfl, ?_⟩) ?_ ?_
                rotate_left
                · intro w'
                  go_simp
                  with_reducible rfl
                rotate_left
                · simp only [Act.put, sA, sB, sC]
                  rfl
                refine pure_ (i := 12) (N := some 100) (v := ?_) (a' := ?_) #[true, true, true, true, true, true, true, true, true, true, true, true, true, false, false, false, false, false, false, false, false, false, false] rfl rfl (by kernel_rfl) (fun _ _ _ h => h) (Or.inl ⟨by rfl, ?_⟩) ?_ ?_
                rotate_left
                · intro w'
                  go_simp
                  with_reducible rfl
                rotate_left
                · simp only [Act.put, sA, sB, sC]
                  rfl
                refine take_ (i := 13) (N := some 101) (v := ?_) (a' := ?_) #[true, true, true, true, true, true, true, true, true, true, true, true, true, true, false, false, false, false, false, false, false, false, false] rfl rfl (by kernel_rfl) (fun _ _ _ h => h) (Or.inl ⟨by rfl, ?_⟩) hHeld ?_ ?_
                rotate_left
                · intro w' sb; obtain ⟨m0, m1, m2, m3, m4, m5, m6, m7, _⟩ := box8' (heap_aq' sb Hbox.out); obtain ⟨c0, c1, c2, c3, c4, c5, c6, c7⟩ := HC.out.below sb
                  go_simp
                  with_reducible rfl
                rotate_left
                · simp only [Act.put, sA, sB, sC]
                  rfl
                refine pure_ (i := 14) (N := some 102) (v := ?_) (a' := ?_) #[true, true, true, true, true, true, true, true, true, true, true, true, true, true, true, false, false, false, false, false, false, false, false] rfl rfl (by kernel_rfl) (fun _ _ _ h => h) (Or.inl ⟨by rfl, ?_⟩) ?_ ?_
                rotate_left
                · intro w'
                  go_simp
                  with_reducible rfl
                rotate_left
                · simp only [Act.put, sA, sB, sC]
                  rfl
                refine take_ (i := 15) (N := some 103) (v := ?_) (a' := ?_) #[true, true, true, true, true, true, true, true, true, true, true, true, true, true, true, true, false, false, false, false, false, false, false] rfl rfl (by kernel_rfl) (fun _ _ _ h => h) (Or.inl ⟨by rfl, ?_⟩) hHeld ?_ ?_
                rotate_left
                · intro w' sb; obtain ⟨m0, m1, m2, m3, m4, m5, m6, m7, _⟩ := box8' (heap_aq' sb Hbox.out); obtain ⟨c0, c1, c2, c3, c4, c5, c6, c7⟩ := HC.out.below sb
                  go_simp
                  with_reducible rfl
                rotate_left
                · simp only [Act.put, sA, sB, sC]
                  rfl
                refine pure_ (i := 16) (N := some 104) (v := ?_) (a' := ?_) #[true, true, true, true, true, true, true, true, true, true, true, true, true, true, true, true, true, false, false, false, false, false, false] rfl rfl (by kernel_rfl) (fun _ _ _ h => h) (Or.inl ⟨by rfl, ?_⟩) ?_ ?_
                rotate_left
                · intro w'
                  go_simp
                  with_reducible rfl
                rotate_left
                · simp only [Act.put, sA, sB, sC]
                  rfl
                refine pure_ (i := 17) (N := some 105) (v := ?_) (a' := ?_) #[true, true, true, true, true, true, true, true, true, true, true, true, true, true, true, true, true, true, false, false, false, false, false] rfl rfl (by kernel_rfl) (fun _ _ _ h => h) (Or.inl ⟨by rfl, ?_⟩) ?_ ?_
                rotate_left
                · intro w'
                  go_simp
                  with_reducible rfl
                rotate_left
                · simp only [Act.put, sA, sB, sC]
                  rfl
                refine pure_ (i := 18) (N := some 106) (v := ?_) (a' := ?_) #[true, true, true, true, true, true, true, true, true, true, true, true, true, true, true, true, true, true, true, false, false, false, false] rfl rfl (by kernel_rfl) (fun _ _ _ h => h) (Or.inl ⟨by rfl, ?_⟩) ?_ ?_
                rotate_left
                · intro w'
                  go_simp
                  with_reducible rfl
                rotate_left
                · simp only [Act.put, sA, sB, sC]
                  rfl
                refine take_ (i := 19) (N := some 107) (v := ?_) (a' := ?_) #[true, true, true, true, true, true, true, true, true, true, true, true, true, true, true, true, true, true, true, true, false, false, false] rfl rfl (by kernel_rfl) (fun _ _ _ h => h) (Or.inl ⟨by rfl, ?_⟩) hHeld ?_ ?_
                rotate_left
                · intro w' sb; obtain ⟨m0, m1, m2, m3, m4, m5, m6, m7, _⟩ := box8' (heap_aq' sb Hbox.out); obtain ⟨c0, c1, c2, c3, c4, c5, c6, c7⟩ := HC.out.below sb
                  go_simp
                  with_reducible rfl
                rotate_left
                · simp only [Act.put, sA, sB, sC]
                  rfl
                refine pure_ (i := 20) (N := some 108) (v := ?_) (a' := ?_) #[true, true, true, true, true, true, true, true, true, true, true, true, true, true, true, true, true, true, true, true, true, false, false] rfl rfl (by kernel_rfl) (fun _ _ _ h => h) (Or.inl ⟨by rfl, ?_⟩) ?_ ?_
                rotate_left
                · intro w'
                  go_simp
                  with_reducible rfl
                rotate_left
                · simp only [Act.put, sA, sB, sC]
                  rfl
                refine pure_ (i := 21) (N := some 109) (v := ?_) (a' := ?_) #[true, true, true, true, true, true, true, true, true, true, true, true, true, true, true, true, true, true, true, true, true, true, false] rfl rfl (by kernel_rfl) (fun _ _ _ h => h) (Or.inl ⟨by rfl, ?_⟩) ?_ ?_
                rotate_left
                · intro w'
                  go_simp
                  with_reducible rfl
                rotate_left
                · simp only [Act.put, sA, sB, sC]
                  rfl
                refine pure_ (i := 22) (N := some 110) (v := ?_) (a' := ?_) #[true, true, true, true, true, true, true, true, true, true, true, true, true, true, true, true, true, true, true, true, true, true, true] rfl rfl (by kernel_rfl) (fun _ _ _ h => h) (Or.inl ⟨by rfl, ?_⟩) ?_ ?_
                rotate_left
                · intro w'
                  go_simp
                  with_reducible rfl
                rotate_left
                · simp only [Act.put, sA, sB, sC]
                  rfl
                refine done_ (by kernel_rfl) ?_
                have HB1 := Lib.hid (hB.out.trans (hHeld.mono hsz))
                clear hHeld hb1
                go_wp2_with fail
                go_ret
                exact ⟨ret_bool HF.out.symm, below_box HB1.out⟩
              · have e2 : (tj.kind == 3) = false := by simpa using hkk
                have HKK := Lib.hid hkk
                clear hkk
                refine start_ (n := 23) (S := fun w' => Below wr.heap.size wr w') (ds := []) #[false, false, false, false, false, false, false, false, false, false, false, false, false, false, false, false, false, false, false, false, false, false, false] (by kernel_rfl) rfl rfl ((Below.refl _ _).drew) (fun hHeld => ?_)
                refine pure_ (i := 0) (N := some 88) (v := ?_) (a' := ?_) #[true, false, false, false, false, false, false, false, false, false, false, false, false, false, false, false, false, false, false, false, false, false, false] rfl rfl (by kernel_rfl) (fun _ _ _ h => h) (Or.inl ⟨by rfl, ?_⟩) ?_ ?_
                rotate_left
                · intro w'
                  go_simp
                  with_reducible rfl
                rotate_left
                · simp only [Act.put, sA, sB, sC]
                  rfl
                refine take_ (i := 1) (N := some 89) (v := ?_) (a' := ?_) #[true, true, false, false, false, false, false, false, false, false, false, false, false, false, false, false, false, false, false, false, false, false, false] rfl rfl (by kernel_rfl) (fun _ _ _ h => h) (Or.inl ⟨by rfl, ?_⟩) hHeld ?_ ?_
                rotate_left
                · intro w' sb; obtain ⟨m0, m1, m2, m3, m4, m5, m6, m7, _⟩ := box8' (heap_aq' sb Hbox.out); obtain ⟨c0, c1, c2, c3, c4, c5, c6, c7⟩ := HC.out.below sb
                  go_simp
                  with_reducible rfl
                rotate_left
                · simp only [Act.put, sA, sB, sC]
                  rfl
                refine pure_ (i := 2) (N := some 90) (v := ?_) (a' := ?_) #[true, true, true, false, false, false, false, false, false, false, false, false, false, false, false, false, false, false, false, false, false, false, false] rfl rfl (by kernel_rfl) (fun _ _ _ h => h) (Or.inl ⟨by rfl, ?_⟩) ?_ ?_
                rotate_left
                · intro w'
                  go_simp
                  with_reducible rfl
                rotate_left
                · simp only [Act.put, sA, sB, sC]
                  rfl
                refine pure_ (i := 3) (N := some 91) (v := ?_) (a' := ?_) #[true, true, true, true, false, false, false, false, false, false, false, false, false, false, false, false, false, false, false, false, false, false, false] rfl rfl (by kernel_rfl) (fun _ _ _ h => h) (Or.inl ⟨by rfl, ?_⟩) ?_ ?_
                rotate_left
                · intro w'
                  go_simp
                  with_reducible rfl
                rotate_left
                · simp only [Act.put, sA, sB, sC]
                  rfl
                refine take_ (i := 4) (N := some 92) (v := ?_) (a' := ?_) #[true, true, true, true, true, false, false, false, false, false, false, false, false, false, false, false, false, false, false, false, false, false, false] rfl rfl (by kernel_rfl) (fun _ _ _ h => h) (Or.inl ⟨by rfl, ?_⟩) hHeld ?_ ?_
                rotate_left
                · intro w' sb; obtain ⟨m0, m1, m2, m3, m4, m5, m6, m7, _⟩ := box8' (heap_aq' sb Hbox.out); obtain ⟨c0, c1, c2, c3, c4, c5, c6, c7⟩ := HC.out.below sb
                  go_simp
                  with_reducible rfl
                rotate_left
                · simp only [Act.put, sA, sB, sC]
                  rfl
                refine one_ (i := 5) (N := some 93) #[true, true, true, true, true, true, false, false, false, false, false, false, false, false, false, false, false, false, false, false, false, false, false] rfl rfl (by kernel_rfl) (by decide) (fun K hK => ?_)
                refine goes_ Tryd.func18 (by kernel_rfl) rfl #[(.agg #[.int .i64 tj.kind, .int .u64 tj.s0, .int .u64 tj.s1, .int .u64 tj.s2, .int .u64 tj.s3, .slice A' tj.kids.length c', .int .i64 tj.mn, .int .i64 tj.mx])] (by rfl) rfl rfl (by (try simp only [List.map_toArray, List.map_cons, List.map_nil]); rfl) ?_
                refine (Hih.out _ (HK.out.below hHeld)).mono ?_
                rintro e w1 ⟨rfl, hb1⟩
                rw [hr]
                refine ⟨_, rfl, ?_⟩
                refine hK.out _ _ (hHeld.trans (hb1.mono hHeld.size)) (fun hHeld => ?_)
                clear hK K
                refine norm_ (a' := ?_) ?_ ?_
                rotate_left
                · show Act.put _ (some 93) _ = _
                  simp only [Act.put, sA, sB, sC]
                  rfl
                refine pure_ (i := 6) (N := some 94) (v := ?_) (a' := ?_) #[true, true, true, true, true, true, true, false, false, false, false, false, false, false, false, false, false, false, false, false, false, false, false] rfl rfl (by kernel_rfl) (fun _ _ _ h => h) (Or.inl ⟨by rfl, ?_⟩) ?_ ?_
                rotate_left
                · intro w'
                  go_simp
                  with_reducible rfl
                rotate_left
                · simp only [Act.put, sA, sB, sC]
                  rfl
                refine pure_ (i := 7) (N := some 95) (v := ?_) (a' := ?_) #[true, true, true, true, true, true, true, true, false, false, false, false, false, false, false, false, false, false, false, false, false, false, false] rfl rfl (by kernel_rfl) (fun _ _ _ h => h) (Or.inl ⟨by rfl, ?_⟩) ?_ ?_
                rotate_left
                · intro w'
                  go_simp
                  with_reducible rfl
                rotate_left
                · simp only [Act.put, sA, sB, sC]
                  rfl
                refine pure_ (i := 8) (N := some 96) (v := ?_) (a' := ?_) #[true, true, true, true, true, true, true, true, true, false, false, false, false, false, false, false, false, false, false, false, false, false, false] rfl rfl (by kernel_rfl) (fun _ _ _ h => h) (Or.inl ⟨by rfl, ?_⟩) ?_ ?_
                rotate_left
                · intro w'
                  go_simp
                  with_reducible rfl
                rotate_left
                · simp only [Act.put, sA, sB, sC]
                  rfl
                refine take_ (i := 9) (N := some 97) (v := ?_) (a' := ?_) #[true, true, true, true, true, true, true, true, true, true, false, false, false, false, false, false, false, false, false, false, false, false, false] rfl rfl (by kernel_rfl) (fun _ _ _ h => h) (Or.inl ⟨by rfl, ?_⟩) hHeld ?_ ?_
                rotate_left
                · intro w' sb; obtain ⟨m0, m1, m2, m3, m4, m5, m6, m7, _⟩ := box8' (heap_aq' sb Hbox.out); obtain ⟨c0, c1, c2, c3, c4, c5, c6, c7⟩ := HC.out.below sb
                  go_simp
                  with_reducible rfl
                rotate_left
                · simp only [Act.put, sA, sB, sC]
                  rfl
                refine pure_ (i := 10) (N := some 98) (v := ?_) (a' := ?_) #[true, true, true, true, true, true, true, true, true, true, true, false, false, false, false, false, false, false, false, false, false, false, false] rfl rfl (by kernel_rfl) (fun _ _ _ h => h) (Or.inl ⟨by rfl, ?_⟩) ?_ ?_
                rotate_left
                · intro w'
                  go_simp
                  with_reducible rfl
                rotate_left
                · simp only [Act.put, sA, sB, sC]
                  rfl
                refine pure_ (i := 11) (N := some 99) (v := ?_) (a' := ?_) #[true, true, true, true, true, true, true, true, true, true, true, true, false, false, false, false, false, false, false, false, false, false, false] rfl rfl (by kernel_rfl) (fun _ _ _ h => h) (Or.inl ⟨by rfl, ?_⟩) ?_ ?_
                rotate_left
                · intro w'
                  go_simp
                  with_reducible rfl
                rotate_left
                · simp only [Act.put, sA, sB, sC]
                  rfl
                refine pure_ (i := 12) (N := some 100) (v := ?_) (a' := ?_) #[true, true, true, true, true, true, true, true, true, true, true, true, true, false, false, false, false, false, false, false, false, false, false] rfl rfl (by kernel_rfl) (fun _ _ _ h => h) (Or.inl ⟨by rfl, ?_⟩) ?_ ?_
                rotate_left
                · intro w'
                  go_simp
                  with_reducible rfl
                rotate_left
                · simp only [Act.put, sA, sB, sC]
                  rfl
                refine take_ (i := 13) (N := some 101) (v := ?_) (a' := ?_) #[true, true, true, true, true, true, true, true, true, true, true, true, true, true, false, false, false, false, false, false, false, false, false] rfl rfl (by kernel_rfl) (fun _ _ _ h => h) (Or.inl ⟨by rfl, ?_⟩) hHeld ?_ ?_
                rotate_left
                · intro w' sb; obtain ⟨m0, m1, m2, m3, m4, m5, m6, m7, _⟩ := box8' (heap_aq' sb Hbox.out); obtain ⟨c0, c1, c2, c3, c4, c5, c6, c7⟩ := HC.out.below sb
                  go_simp
                  with_reducible rfl
                rotate_left
                · simp only [Act.put, sA, sB, sC]
                  rfl
                refine pure_ (i := 14) (N := some 102) (v := ?_) (a' := ?_) #[true, true, true, true, true, true, true, true, true, true, true, true, true, true, true, false, false, false, false, false, false, false, false] rfl rfl (by kernel_rfl) (fun _ _ _ h => h) (Or.inl ⟨by rfl, ?_⟩) ?_ ?_
                rotate_left
                · intro w'
                  go_simp
                  with_reducible rfl
                rotate_left
                · simp only [Act.put, sA, sB, sC]
                  rfl
                refine take_ (i := 15) (N := some 103) (v := ?_) (a' := ?_) #[true, true, true, true, true, true, true, true, true, true, true, true, true, true, true, true, false, false, false, false, false, false, false] rfl rfl (by kernel_rfl) (fun _ _ _ h => h) (Or.inl ⟨by rfl, ?_⟩) hHeld ?_ ?_
                rotate_left
                · intro w' sb; obtain ⟨m0, m1, m2, m3, m4, m5, m6, m7, _⟩ := box8' (heap_aq' sb Hbox.out); obtain ⟨c0, c1, c2, c3, c4, c5, c6, c7⟩ := HC.out.below sb
                  go_simp
                  with_reducible rfl
                rotate_left
                · simp only [Act.put, sA, sB, sC]
                  rfl
                refine pure_ (i := 16) (N := some 104) (v := ?_) (a' := ?_) #[true, true, true, true, true, true, true, true, true, true, true, true, true, true, true, true, true, false, false, false, false, false, false] rfl rfl (by kernel_rfl) (fun _ _ _ h => h) (Or.inl ⟨by rfl, ?_⟩) ?_ ?_
                rotate_left
                · intro w'
                  go_simp
                  with_reducible rfl
                rotate_left
                · simp only [Act.put, sA, sB, sC]
                  rfl
                refine pure_ (i := 17) (N := some 105) (v := ?_) (a' := ?_) #[true, true, true, true, true, true, true, true, true, true, true, true, true, true, true, true, true, true, false, false, false, false, false] rfl rfl (by kernel_rfl) (fun _ _ _ h => h) (Or.inl ⟨by rfl, ?_⟩) ?_ ?_
                rotate_left
                · intro w'
                  go_simp
                  with_reducible rfl
                rotate_left
                · simp only [Act.put, sA, sB, sC]
                  rfl
                refine pure_ (i := 18) (N := some 106) (v := ?_) (a' := ?_) #[true, true, true, true, true, true, true, true, true, true, true, true, true, true, true, true, true, true, true, false, false, false, false] rfl rfl (by kernel_rfl) (fun _ _ _ h => h) (Or.inr ⟨by rfl, ?_⟩) ?_ ?_
                rotate_left
                · rfl
                rotate_left
                · simp only [Act.put, sA, sB, sC]
                  rfl
                refine pure_ (i := 19) (N := some 107) (v := ?_) (a' := ?_) #[true, true, true, true, true, true, true, true, true, true, true, true, true, true, true, true, true, true, true, true, false, false, false] rfl rfl (by kernel_rfl) (fun _ _ _ h => h) (Or.inr ⟨by rfl, ?_⟩) ?_ ?_
                rotate_left
                · rfl
                rotate_left
                · simp only [Act.put, sA, sB, sC]
                  rfl
                refine pure_ (i := 20) (N := some 108) (v := ?_) (a' := ?_) #[true, true, true, true, true, true, true, true, true, true, true, true, true, true, true, true, true, true, true, true, true, false, false] rfl rfl (by kernel_rfl) (fun _ _ _ h => h) (Or.inr ⟨by rfl, ?_⟩) ?_ ?_
                rotate_left
                · rfl
                rotate_left
                · simp only [Act.put, sA, sB, sC]
                  rfl
                refine pure_ (i := 21) (N := some 109) (v := ?_) (a' := ?_) #[true, true, true, true, true, true, true, true, true, true, true, true, true, true, true, true, true, true, true, true, true, true, false] rfl rfl (by kernel_rfl) (fun _ _ _ h => h) (Or.inl ⟨by rfl, ?_⟩) ?_ ?_
                rotate_left
                · intro w'
                  go_simp
                  with_reducible rfl
                rotate_left
                · simp only [Act.put, sA, sB, sC]
                  rfl
                refine pure_ (i := 22) (N := some 110) (v := ?_) (a' := ?_) #[true, true, true, true, true, true, true, true, true, true, true, true, true, true, true, true, true, true, true, true, true, true, true] rfl rfl (by kernel_rfl) (fun _ _ _ h => h) (Or.inl ⟨by rfl, ?_⟩) ?_ ?_
                rotate_left
                · intro w'
                  go_simp
                  with_reducible rfl
                rotate_left
                · simp only [Act.put, sA, sB, sC]
                  rfl
                refine done_ (by kernel_rfl) ?_
                have HB1 := Lib.hid (hB.out.trans (hHeld.mono hsz))
                clear hHeld hb1
                go_wp2_with fail
                have hj := Hj.out
                have hlt := Hlt.out
                go_roundg (gk - 1)
                case measure => omega
                case rel => exact ⟨j + 1, by omega, by go_num, Lib.hid (by rw [hsn.out, hRj.out, hr]; simp [HKK.out]), HB1⟩
          · obtain rfl : j = l.length := by omega
            have HT := Lib.hid (show Tree.right (.node 3 0 0 0 0 l 0 0) = true by have := hRj.out; rw [List.take_length] at this; simp [Tree.right, this]; omega)
            go_wp2_with fail
            go_ret
            exact ⟨ret_bool HT.out.symm, below_box hB.out⟩
end Go.Proofs.YtmcoaopcmjociaaDoor
