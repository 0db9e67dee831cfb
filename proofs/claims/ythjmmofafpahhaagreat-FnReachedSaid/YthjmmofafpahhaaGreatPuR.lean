/- Plain laws: heaps drawn out of bytes; what is kept is what is reached. -/
import Derived.Test.YthjmmofafpahhaaGreatPuQ
namespace Go.Proofs.YthjmmofafpahhaaGreat.Sx
open Go
set_option linter.unusedVariables false
set_option linter.unusedSimpArgs false

section
theorem p_s_l3DrawHeap {b : List Int} {i h : Int} (hc : Cu b i) {K : List Int → Int → Int → List Int → List Int → Prop} (hK : ∀ i' h' s r, Cu b i' → s.length ≤ 2000 → 0 < s.length → r.length ≤ 2000 → K b i' h' s r) : m_s_l3DrawHeap b i h K := by
  refine ⟨?_⟩
  unfold b_s_l3DrawHeap
  simp only [gwE]
  refine p_l1PickInt hc (by simp) fun i0 h0 r0 c0 m0 => ?_
  have hr0 : 2 ≤ r0 ∧ r0 ≤ 2000 := by
    simp only [List.mem_cons, List.not_mem_nil, or_false] at m0
    omega
  refine p_s_SlabNew (fun hh => absurd hr0 hh) fun _ _ s hs1 hs2 => p_l1Below c0 fun i1 h1 r1 c1 a1 b1 _ => p_s_IntOf fun _ => p_s_BoolOf fun _ => p_l1Below c1 fun i2 h2 r2 c2 a2 b2 _ => ?_
  have hr2 := b2 (by omega)
  refine loopP_intro (fun x => x.2.2.1 = b ∧ Cu b x.2.2.2.1 ∧ x.2.2.2.2.2.1.length ≤ 2000 ∧ 0 < x.2.2.2.2.2.1.length ∧ 0 ≤ x.2.1 ∧ x.2.1 ≤ 25 ∧ 0 < x.1.length ∧ x.1.length ≤ 10 + x.2.1) (fun x => (r2 - x.2.1).toNat) ⟨rfl, c2, by dsimp only; omega, by dsimp only; omega, Int.le_refl _, by dsimp only; omega, by simp, by simp⟩ ?_
  rintro ⟨r, j, b', i3, h3, s3, _⟩ ⟨g0, g1, g2, g3, g4, g5, g6, g7⟩
  dsimp only at *
  subst g0
  have hl3 : s3.length ≤ 1000000 := by omega
  refine ⟨fun e1 => ?_, fun _ => hK _ _ _ _ g1 g2 g3 (by omega)⟩
  refine JoinP.mk ⟨fun y => y.2.1 = b' ∧ Cu b' y.2.2.1 ∧ y.2.2.2.2.1.length ≤ 2000 ∧ 0 < y.2.2.2.2.1.length ∧ 0 < y.1.length ∧ y.1.length ≤ 11 + j, ?_, ?_⟩
  · have fresh : ∀ (i' h' : Int), Cu b' i' → m_s_SlabNew 30 fun r18 _ => (fun y : List Int × List Int × Int × Int × List Int × PUnit => y.2.1 = b' ∧ Cu b' y.2.2.1 ∧ y.2.2.2.2.1.length ≤ 2000 ∧ 0 < y.2.2.2.2.1.length ∧ 0 < y.1.length ∧ y.1.length ≤ 11 + j) ([0, 1], b', i', h', r18, ()) := fun i' h' c => p_s_SlabNew (fun hh => absurd (by omega) hh) fun _ _ ws hw _ => ⟨rfl, c, by dsimp only; omega, by dsimp only; omega, by simp, by simp only [List.length_cons, List.length_nil]; omega⟩
    have old : ∀ (i' h' : Int) (s' : List Int), Cu b' i' → s'.length ≤ 2000 → ¬ ((s'.length : Int) = 0) → (fun y : List Int × List Int × Int × Int × List Int × PUnit => y.2.1 = b' ∧ Cu b' y.2.2.1 ∧ y.2.2.2.2.1.length ≤ 2000 ∧ 0 < y.2.2.2.2.1.length ∧ 0 < y.1.length ∧ y.1.length ≤ 11 + j) (r, b', i', h', s', ()) := fun i' h' s' c l1 l2 => ⟨rfl, c, l1, by dsimp only; omega, g6, by dsimp only; omega⟩
    have more : ∀ (v i' h' : Int) (s' : List Int), Cu b' i' → s'.length ≤ 2000 → ¬ ((s'.length : Int) = 0) → List.length r + List.length [v] ≤ 1000000000000 ∧ (fun y : List Int × List Int × Int × Int × List Int × PUnit => y.2.1 = b' ∧ Cu b' y.2.2.1 ∧ y.2.2.2.2.1.length ≤ 2000 ∧ 0 < y.2.2.2.2.1.length ∧ 0 < y.1.length ∧ y.1.length ≤ 11 + j) (r ++ [v], b', i', h', s', ()) := fun v i' h' s' c l1 l2 => ⟨by simp only [List.length_cons, List.length_nil]; omega, rfl, c, l1, by dsimp only; omega, by simp, by simp only [List.length_append, List.length_cons, List.length_nil]; omega⟩
    refine p_l1Below g1 fun i4 h4 r4 c4 a4 b4 _ => ⟨⟨a4, b4 (by omega)⟩, p_l1Below c4 fun i5 h5 r5 c5 a5 b5 _ => ⟨⟨a5, b5 (by omega)⟩, p_l1Below c5 fun i6 h6 r6 c6 a6 b6 _ => ⟨⟨a6, b6 (by omega)⟩, p_l1Below c6 fun i7 h7 r7 c7 a7 b7 _ => ?_⟩⟩⟩

    refine ⟨fun _ => ⟨fun _ => p_l1Pick c7 (by simp) fun i8 h8 r8 c8 _ => p_s_TextPut hl3 fun s' v ok e => ⟨fun _ => fresh _ _ c8, fun e2 => ⟨fun _ => more _ _ _ _ c8 e e2, fun _ => old _ _ _ c8 e e2⟩⟩, fun _ => ?_⟩, fun _ => ⟨fun _ => p_l1Pick c7 (by simp) fun i8 h8 r8 c8 _ => p_s_TextPut hl3 fun s' v ok e => ⟨fun _ => fresh _ _ c8, fun e2 => ⟨fun _ => more _ _ _ _ c8 e e2, fun _ => old _ _ _ c8 e e2⟩⟩, fun _ => ?_⟩⟩
    all_goals
      refine ⟨fun _ => p_s_ObjNew hl3 fun s' v ok e => ⟨fun _ => fresh _ _ c7, fun e2 => ⟨fun _ => more _ _ _ _ c7 e e2, fun _ => old _ _ _ c7 e e2⟩⟩, fun _ => ⟨fun _ => p_s_ObjNew hl3 fun s' v ok e => ⟨fun _ => fresh _ _ c7, fun e2 => ⟨fun _ => more _ _ _ _ c7 e e2, fun _ => old _ _ _ c7 e e2⟩⟩, fun _ => ⟨fun _ => p_l1Below c7 fun i8 h8 r8 c8 _ _ _ => p_s_ScopeNew hl3 fun s' v ok e => ⟨fun _ => fresh _ _ c8, fun e2 => ⟨fun _ => more _ _ _ _ c8 e e2, fun _ => old _ _ _ c8 e e2⟩⟩, fun _ => ⟨fun _ => p_l1Below c7 fun i8 h8 r8 c8 _ _ _ => p_s_FunNew hl3 fun s' v ok e => ⟨fun _ => fresh _ _ c8, fun e2 => ⟨fun _ => more _ _ _ _ c8 e e2, fun _ => old _ _ _ c8 e e2⟩⟩, fun _ => ⟨fun _ => p_s_PropSet hl3 fun s' ok e => ⟨fun _ => fresh _ _ c7, fun e2 => old _ _ _ c7 e e2⟩, fun _ => ⟨fun _ => p_l1Below c7 fun i8 h8 r8 c8 _ _ _ => p_s_VarSet hl3 fun s' ok e => ⟨fun _ => fresh _ _ c8, fun e2 => old _ _ _ c8 e e2⟩, fun _ => ⟨fun _ => fresh _ _ c7, fun e2 => old _ _ _ c7 g2 e2⟩⟩⟩⟩⟩⟩⟩
  · rintro ⟨r4, b4, i4, h4, s4, _⟩ ⟨y1, y2, y3, y4, y5, y6⟩
    dsimp only at *
    subst y1
    exact ⟨i64ok_of (by omega) (by omega), ⟨rfl, y2, y3, y4, by omega, by omega, y5, by omega⟩, by omega⟩
theorem p_s_l3Draw {b : List Int} {i h : Int} (hc : Cu b i) {K : List Int → Int → Int → List Int → List Int → Prop} (hK : ∀ i' h' s r, Cu b i' → s.length ≤ 3000 → r.length ≤ 3000 → K b i' h' s r) : m_s_l3Draw b i h K := by
  refine ⟨?_⟩
  unfold b_s_l3Draw
  refine p_s_l3DrawHeap hc fun i1 h1 s r c1 s1 s2 hr => p_l1Below c1 fun i2 h2 r2 c2 _ _ _ => ⟨fun _ => p_l1Below c2 fun i3 h3 r3 c3 a3 b3 _ => p_l1DrawAny c3 fun i4 h4 r4 c4 => ⟨⟨a3, b3 (by omega)⟩, hK _ _ _ _ c4 (by simp only [List.length_set]; omega) (by omega)⟩, fun _ => ⟨fun _ => p_l1DrawAny c2 fun i4 h4 r4 c4 => ⟨by simp only [List.length_cons, List.length_nil]; omega, hK _ _ _ _ c4 (by omega) (by simp only [List.length_append, List.length_cons, List.length_nil]; omega)⟩, fun _ => ⟨fun _ => p_s_l2Draw c2 fun i4 h4 s4 c4 l4 => hK _ _ _ _ c4 (by omega) (by omega), fun _ => hK _ _ _ _ c2 (by omega) (by omega)⟩⟩⟩
theorem p_s_l7DrawSome {b : List Int} {i h : Int} (hc : Cu b i) {r : List Int} {K : List Int → Int → Int → List Int → Prop} (hK : ∀ i' h' s, Cu b i' → s.length ≤ 3000 → K b i' h' s) : m_s_l7DrawSome b i h r K := by
  refine ⟨?_⟩
  unfold b_s_l7DrawSome
  simp only [gwE]
  refine loopP_intro (fun x => x.2.2.1 = b ∧ Cu b x.2.2.2.1 ∧ 0 ≤ x.2.1 ∧ x.2.1 ≤ 5 ∧ (x.1.length : Int) = x.2.1) (fun x => (5 - x.2.1).toNat) ⟨rfl, hc, Int.le_refl _, by dsimp only; omega, rfl⟩ ?_
  rintro ⟨l, j, b', i1, h1, _⟩ ⟨g0, g1, g2, g3, g4⟩
  dsimp only at *
  subst g0
  refine p_l1Below g1 fun i2 h2 r2 c2 a2 b2 _ => ?_
  have hr2 := b2 (by omega)
  exact ⟨fun e1 => ⟨fun e2 => p_l1Below c2 fun i3 h3 r3 c3 a3 b3 _ => ⟨⟨a3, b3 e2⟩, by simp only [List.length_cons, List.length_nil]; omega, i64ok_of (by omega) (by omega), ⟨rfl, c3, by omega, by omega, by simp only [List.length_append, List.length_cons, List.length_nil]; omega⟩, by omega⟩, fun _ => hK _ _ _ c2 (by omega)⟩, fun _ => hK _ _ _ c2 (by omega)⟩
theorem p_s_DrawCollect {code : List Int} (hb : ∀ x, x ∈ code → 0 ≤ x ∧ x < 256) (hl : code.length ≤ 1048576) {K : List Int → List Int → Prop} (h : ∀ s roots, s.length ≤ 1000000 → roots.length ≤ 1000000 → K s roots) : m_s_DrawCollect code K := by
  refine ⟨?_⟩
  unfold b_s_DrawCollect
  refine ⟨?_⟩
  unfold b_s_l7Draw
  exact p_l1New hb hl fun x c0 => p_s_l3Draw c0 fun i1 h1 s r c1 l1 l2 => p_s_l7DrawSome c1 fun i2 h2 r2 c2 l3 => h _ _ (by omega) (by omega)
/-- The law: true for every code. -/
theorem law_FnReached {code : List Int} (hb : ∀ x, x ∈ code → 0 ≤ x ∧ x < 256) : m_l_FnReached code fun r => r = true := law_reached fun _ h hl => p_s_DrawCollect hb hl h
end
end Go.Proofs.YthjmmofafpahhaaGreat.Sx
