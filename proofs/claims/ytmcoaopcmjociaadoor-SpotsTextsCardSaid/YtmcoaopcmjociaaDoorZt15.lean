/- A tree that came in, opened. -/
import Derived.Test.YtmcoaopcmjociaaDoorZt6
import Derived.ProofKit
import Derived.OpenShut
import Derived.SizedLaws
import Derived.Deep.Slices
namespace Go.Proofs.YtmcoaopcmjociaaDoor
open Go Go.RowKit Go.ChangeShapes Go.WideShapes

theorem cellsNode : Tryd.prog.cellsOf 27 = 8 := by kernel_rfl
theorem cellsSet : Tryd.prog.cellsOf 24 = 4 := by kernel_rfl
theorem cellsInt : Tryd.prog.cellsOf 3 = 1 := by kernel_rfl
theorem cellsU64 : Tryd.prog.cellsOf 22 = 1 := by kernel_rfl
theorem cellsNodes : Tryd.prog.cellsOf 25 = 1 := by kernel_rfl
theorem bytesNode : Tryd.prog.bytesOf 27 = 80 := by kernel_rfl

theorem KidsIn.deeper {w : World} : ∀ {d d' : Nat} {l : List Tree} {A : Option Addr}, KidsIn w d l A → d ≤ d' → KidsIn w d' l A
  | 0, _, _, _, h, _ => h.elim
  | d + 1, 0, _, _, _, h' => by omega
  | d + 1, d' + 1, l, A, h, h' => ⟨h.1, fun i t ht => by
      obtain ⟨ad, A', c', hA, hc, hk⟩ := h.2 i t ht
      exact ⟨ad, A', c', hA, hc, KidsIn.deeper hk (by omega)⟩⟩
theorem add_at (a : Addr) (j : Nat) (h : 0 < j) : a.add j = { block := a.block, off := a.off + j } := by
  obtain ⟨j, rfl⟩ : ∃ i, j = i + 1 := ⟨j - 1, by omega⟩
  simp [Addr.add]
section
variable {H : Type} {enc : TypeId × Value → H} {w : World} {base : Nat} {spare : Nat → Bool} {held : Bool}
theorem weightsAll_mem {P : Program} {e : TypeId} {n : Nat} : ∀ {ds : List (DataW H)} {d : DataW H}, d ∈ ds → n ∈ d.weights P e → n ∈ DataW.weightsAll P e ds
  | [], _, hd, _ => by simp at hd
  | x :: ds, d, hd, hn => by
    rw [DataW.weightsAll, List.mem_append]
    rcases List.mem_cons.1 hd with rfl | hd
    · exact .inl hn
    · exact .inr (weightsAll_mem hd hn)
set_option maxRecDepth 10000 in
/-- A set's four words. -/
theorem open_set {fuel : Nat} {cs : List Value} {x : DataW H × List MemPlace} (h : DataW.trod enc Tryd.prog w base spare held fuel 24 cs = some x) : ∃ s : S4, cs = [.int .u64 s.1, .int .u64 s.2.1, .int .u64 s.2.2.1, .int .u64 s.2.2.2] := by
  obtain ⟨xs, m, rfl, rfl, hl, hx, hi⟩ := DataW.trod_array Tryd.underlying24 h
  rw [cellsSet] at hl
  match cs, hl with
  | [c0, c1, c2, c3], _ =>
    rw [cellsU64] at hi
    have g := fun i (hlt : i < 4) => (show ∃ y, xs[i]? = some y from ⟨xs[i]'(by omega), List.getElem?_eq_getElem _⟩)
    have f : ∀ i, i < 4 → ∃ n, (([c0, c1, c2, c3] : List Value).drop (i * 1)).take 1 = [.int .u64 n] := fun i hlt => by
      obtain ⟨y, hy⟩ := g i hlt
      have h1 := hi i hlt
      rw [hy] at h1
      obtain ⟨n, hn, _⟩ := DataW.trod_int Tryd.underlying22 h1
      exact ⟨n, hn⟩
    obtain ⟨n0, e0⟩ := f 0 (by omega)
    obtain ⟨n1, e1⟩ := f 1 (by omega)
    obtain ⟨n2, e2⟩ := f 2 (by omega)
    obtain ⟨n3, e3⟩ := f 3 (by omega)
    simp at e0 e1 e2 e3
    subst e0 e1 e2 e3
    exact ⟨(n0, n1, n2, n3), rfl⟩

set_option maxRecDepth 100000 in
/-- A node. -/
theorem open_node : ∀ (fuel : Nat) (cs : List Value) (x : DataW H × List MemPlace), DataW.trod enc Tryd.prog w base spare held fuel 27 cs = some x → (x.1.weights Tryd.prog 27).all (· ≤ reachBytes) = true →
    ∃ (T : Tree) (A : Option Addr) (c : Nat), cs = nodeC T (A, c) ∧ KidsIn w fuel T.kids A := by
  intro fuel
  induction fuel using Nat.strongRecOn with
  | _ fuel ih =>
    intro cs x h hw
    obtain ⟨xs, m, rfl, rfl, hl, hx, hi⟩ := DataW.trod_struct Tryd.underlying27 h
    rw [cellsNode] at hl
    match cs, hl, xs, hx with
    | [c0, c1, c2, c3, c4, c5, c6, c7], _, [y0, y1, y2, y3, y4], _ =>
      have g0 : DataW.trod enc Tryd.prog w base spare held m 3 [c0] = some y0 := by
        have h1 : DataW.trod enc Tryd.prog w base spare held m 3 ((([c0, c1, c2, c3, c4, c5, c6, c7] : List Value).drop 0).take (Tryd.prog.cellsOf 3)) = some y0 := hi 0 _ rfl
        rw [cellsInt] at h1
        exact h1
      have g1 : DataW.trod enc Tryd.prog w base spare held m 24 [c1, c2, c3, c4] = some y1 := by
        have h1 : DataW.trod enc Tryd.prog w base spare held m 24 ((([c0, c1, c2, c3, c4, c5, c6, c7] : List Value).drop 1).take (Tryd.prog.cellsOf 24)) = some y1 := hi 1 _ rfl
        rw [cellsSet] at h1
        exact h1
      have g2 : DataW.trod enc Tryd.prog w base spare held m 25 [c5] = some y2 := by
        have h1 : DataW.trod enc Tryd.prog w base spare held m 25 ((([c0, c1, c2, c3, c4, c5, c6, c7] : List Value).drop 5).take (Tryd.prog.cellsOf 25)) = some y2 := hi 2 _ rfl
        rw [cellsNodes] at h1
        exact h1
      have g3 : DataW.trod enc Tryd.prog w base spare held m 3 [c6] = some y3 := by
        have h1 : DataW.trod enc Tryd.prog w base spare held m 3 ((([c0, c1, c2, c3, c4, c5, c6, c7] : List Value).drop 6).take (Tryd.prog.cellsOf 3)) = some y3 := hi 3 _ rfl
        rw [cellsInt] at h1
        exact h1
      have g4 : DataW.trod enc Tryd.prog w base spare held m 3 [c7] = some y4 := by
        have h1 : DataW.trod enc Tryd.prog w base spare held m 3 ((([c0, c1, c2, c3, c4, c5, c6, c7] : List Value).drop 7).take (Tryd.prog.cellsOf 3)) = some y4 := hi 4 _ rfl
        rw [cellsInt] at h1
        exact h1
      obtain ⟨k, e0, _⟩ := DataW.trod_int Tryd.underlying3 g0
      obtain ⟨s4, e1⟩ := open_set g1
      obtain ⟨mn, e3, _⟩ := DataW.trod_int Tryd.underlying3 g3
      obtain ⟨mx, e4, _⟩ := DataW.trod_int Tryd.underlying3 g4
      simp only [List.cons.injEq, and_true] at e0 e1 e3 e4
      obtain ⟨rfl, rfl, rfl, rfl⟩ := e1
      subst e0 e3 e4
      have hw2 : ∀ n ∈ y2.1.weights Tryd.prog 25, n ≤ reachBytes := by
        intro n hn
        have h1 := List.all_eq_true.1 hw n
        simp only [List.map_cons, List.map_nil, DataW.weights, Tryd.underlying27, DataW.weightsEach, List.mem_append] at h1
        simpa using h1 (by simp [hn])
      rcases DataW.trod_slice Tryd.underlying25 g2 with ⟨e2, _⟩ | ⟨a, len, cap, elems, rest, n, hmn, e2, hy, _, hlc, hcm, hel, hea, _, _⟩
      · simp only [List.cons.injEq, and_true] at e2
        subst e2
        exact ⟨.node k s4.1 s4.2.1 s4.2.2.1 s4.2.2.2 [] mn mx, none, 0, rfl, by simp [Tree.kids], fun i t ht => by simp [Tree.kids] at ht⟩
      · simp only [List.cons.injEq, and_true] at e2
        subst e2 hmn
        rw [hy] at hw2
        simp only [DataW.weights, Tryd.underlying25, bytesNode, List.mem_cons, List.mem_append, List.length_map] at hw2
        have hlen : len ≤ 17592186044416 := by
          have := hw2 _ (.inl rfl)
          unfold reachBytes at this
          omega
        have hk : ∀ i, i < len → ∃ (T : Tree) (A' : Option Addr) (c' : Nat), NodeAt w (a.add (i * 8)) T A' c' ∧ KidsIn w n T.kids A' := by
          intro i hlt
          have h1 := hea i hlt
          rw [cellsNode, List.getElem?_eq_getElem (by omega)] at h1
          obtain ⟨cs', hc1, hc2⟩ := Option.bind_eq_some_iff.1 h1
          obtain ⟨_, hl8, hc3⟩ := World.cells?_some hc1
          obtain ⟨T, A', c', rfl, hkid⟩ := ih n (by omega) cs' elems[i] hc2 (List.all_eq_true.2 fun q hq => decide_eq_true (hw2 q (.inr (.inl (weightsAll_mem (List.mem_map.2 ⟨elems[i], List.getElem_mem (by omega), rfl⟩) hq)))))
          have f := fun j (hj : j < 8) => hc3 j hj
          refine ⟨T, A', c', ⟨?_, ?_, ?_, ?_, ?_, ?_, ?_, ?_⟩, hkid⟩
          · have := f 0 (by omega); rw [Addr.add_zero'] at this; exact this
          · have := f 1 (by omega); rw [add_at _ 1 (by omega)] at this; exact this
          · have := f 2 (by omega); rw [add_at _ 2 (by omega)] at this; exact this
          · have := f 3 (by omega); rw [add_at _ 3 (by omega)] at this; exact this
          · have := f 4 (by omega); rw [add_at _ 4 (by omega)] at this; exact this
          · have := f 5 (by omega); rw [add_at _ 5 (by omega)] at this; exact this
          · have := f 6 (by omega); rw [add_at _ 6 (by omega)] at this; exact this
          · have := f 7 (by omega); rw [add_at _ 7 (by omega)] at this; exact this
        have hk2 : ∃ F : Nat → Tree, ∀ i, i < len → ∃ (A' : Option Addr) (c' : Nat), NodeAt w (a.add (i * 8)) (F i) A' c' ∧ KidsIn w n (F i).kids A' := by
          have : Inhabited Tree := ⟨.node 0 0 0 0 0 [] 0 0⟩
          exact Deep.choose_lt hk
        obtain ⟨F, hF⟩ := hk2
        refine ⟨.node k s4.1 s4.2.1 s4.2.2.1 s4.2.2.2 ((List.range len).map F) mn mx, some a, cap, by simp [nodeC, Tree.kind, Tree.s0, Tree.s1, Tree.s2, Tree.s3, Tree.kids, Tree.mn, Tree.mx], by simpa [Tree.kids] using hlen, fun i t ht => ?_⟩
        simp only [Tree.kids] at ht
        have hi2 : i < len := by
          have := (List.getElem?_eq_some_iff.1 ht).1
          simpa using this
        have ht2 : t = F i := by
          have h5 : ((List.range len).map F)[i]? = some (F i) := by simp [hi2]
          rw [h5] at ht
          exact (Option.some.inj ht).symm
        subst ht2
        obtain ⟨A', c', h6, h7⟩ := hF i hi2
        exact ⟨a, A', c', rfl, h6, h7.deeper (by omega)⟩
end
end Go.Proofs.YtmcoaopcmjociaaDoor
