/- Plain laws: what is drawn is safe, and its rows are short. -/
import Derived.Test.YthjmmofafpahhaaGreatPuP
namespace Go.Proofs.YthjmmofafpahhaaGreat.Sx
open Go
set_option linter.unusedVariables false
set_option linter.unusedSimpArgs false

section
variable {ws : List Int}
/-! ### Giving -/
def fillP (a0 : List Int) (e z : Int) (K : List Int → Prop) : Prop := LoopP (fun (x4 : List Int × List Int × Int × PUnit) (k4 : List Int × List Int × Int × PUnit → Prop) => (x4.snd.snd.fst < e → ((0 : Int) ≤ x4.snd.snd.fst ∧ x4.snd.snd.fst < (↑(List.length x4.fst) : Int)) ∧ i64ok (x4.snd.snd.fst + (1 : Int)) ∧ k4 (List.set x4.fst (Int.toNat x4.snd.snd.fst) (0 : Int), [], x4.snd.snd.fst + (1 : Int), ())) ∧ (¬x4.snd.snd.fst < e → i64ok (e - z) ∧ i64ok ((8 : Int) * (e - z)) ∧ ((0 : Int) ≤ z ∧ z < (↑(List.length x4.fst) : Int)) ∧ K (List.set x4.fst (Int.toNat z) ((8 : Int) * (e - z))))) (a0, [], z, ())
def fromP (a0 : List Int) (a1 : Int) (F : Int → Prop) : Prop := LoopP (fun (x2 : Int × Int × PUnit) (k2 : Int × Int × PUnit → Prop) => (x2.snd.fst < a1 → ((0 : Int) ≤ x2.snd.fst ∧ x2.snd.fst < (↑(List.length a0) : Int)) ∧ m_s_l2Size (gw a0 x2.snd.fst) fun (r4 : Int) => i64ok (x2.snd.fst + r4) ∧ (x2.snd.fst + r4 = a1 → ((0 : Int) ≤ x2.snd.fst ∧ x2.snd.fst < (↑(List.length a0) : Int)) ∧ m_s_l2Kind (gw a0 x2.snd.fst) fun (r6 : Int) => (r6 = (0 : Int) → ((0 : Int) ≤ x2.snd.fst ∧ x2.snd.fst < (↑(List.length a0) : Int)) ∧ m_s_l2Size (gw a0 x2.snd.fst) fun (r8 : Int) => i64ok (x2.snd.fst + r8) ∧ k2 (x2.snd.fst, x2.snd.fst + r8, ())) ∧ (¬r6 = (0 : Int) → ((0 : Int) ≤ x2.snd.fst ∧ x2.snd.fst < (↑(List.length a0) : Int)) ∧ m_s_l2Size (gw a0 x2.snd.fst) fun (r8 : Int) => i64ok (x2.snd.fst + r8) ∧ k2 (x2.fst, x2.snd.fst + r8, ()))) ∧ (¬x2.snd.fst + r4 = a1 → ((0 : Int) ≤ x2.snd.fst ∧ x2.snd.fst < (↑(List.length a0) : Int)) ∧ m_s_l2Size (gw a0 x2.snd.fst) fun (r6 : Int) => i64ok (x2.snd.fst + r6) ∧ k2 (x2.fst, x2.snd.fst + r6, ()))) ∧ (¬x2.snd.fst < a1 → F x2.fst)) (a1, (0 : Int), ())
theorem fillP_of {p q : Int} (h0 : 0 ≤ p) (h1 : p < q) (h2 : q ≤ ws.length) (hl : ws.length ≤ 1000000) {K : List Int → Prop} (h : K (frd ws p q)) : fillP ws q p K := by
  refine loopP_intro (fun x => p ≤ x.2.2.1 ∧ x.2.2.1 ≤ q ∧ x.1.length = ws.length ∧ ∀ i : Int, 0 ≤ i → i < ws.length → gw x.1 i = if p ≤ i ∧ i < x.2.2.1 then 0 else gw ws i) (fun x => (q - x.2.2.1).toNat) ⟨Int.le_refl _, Int.le_of_lt h1, rfl, fun i i0 i1 => by dsimp only; rw [if_neg (by omega)]⟩ ?_
  rintro ⟨c, d, y, _⟩ ⟨g0, g1, g2, g3⟩
  dsimp only at *
  refine ⟨fun e => ⟨⟨by omega, by omega⟩, i64ok_of (by omega) (by omega), ⟨by omega, by omega, by simp [g2], fun i i0 i1 => ?_⟩, by omega⟩, fun e => ⟨i64ok_of (by omega) (by omega), i64ok_of (by omega) (by omega), ⟨h0, by omega⟩, ?_⟩⟩
  · rw [gw_set (by omega) (by omega) i0, g3 i i0 i1]
    by_cases q1 : i = y
    · rw [if_pos q1, if_pos (by omega)]
    · rw [if_neg q1]
      by_cases q2 : p ≤ i ∧ i < y
      · rw [if_pos q2, if_pos (by omega)]
      · rw [if_neg q2, if_neg (by omega)]
  · rw [list_ext (a := List.set c (Int.toNat p) (8 * (q - p))) (b := frd ws p q) (by rw [frd_len h0 (Int.le_of_lt h1) h2, List.length_set, g2]) fun i i0 i1 => ?_]
    · exact h
    · rw [List.length_set, g2] at i1
      rw [gw_set h0 (by omega) i0, gw_frd h0 h1 h2 i0, g3 i i0 i1]
      by_cases q1 : i = p
      · rw [if_pos q1, if_pos q1]
      · rw [if_neg q1, if_neg q1]
        by_cases q2 : p ≤ i ∧ i < y
        · rw [if_pos q2, if_pos (by omega)]
        · rw [if_neg q2, if_neg (by omega)]
theorem fromP_of {a : Int} {A0 : List Int} (hA : Seg ws 0 a A0) (ha : a < ws.length) (hl : ws.length ≤ 1000000) {F : Int → Prop} (h : ∀ p A, Seg ws 0 p A → p ≤ a → (∀ x, x ∈ A0 → x ∈ A ∨ (gw ws x % 8 = 0 ∧ p ≤ x)) → (∀ x, x ∈ A → x ∈ A0) → F p) : fromP ws a F := by
  have a0 := hA.le
  refine loopP_intro (fun x => 0 ≤ x.2.1 ∧ x.2.1 ≤ a ∧ (∃ M, Seg ws 0 x.2.1 M) ∧ (x.1 = a ∨ (x.2.1 = a ∧ x.1 ∈ A0 ∧ gw ws x.1 % 8 = 0 ∧ x.1 + gw ws x.1 / 8 = a))) (fun x => (a - x.2.1).toNat) ⟨Int.le_refl _, a0, ⟨_, .nil _⟩, .inl rfl⟩ ?_
  rintro ⟨f, x, _⟩ ⟨g0, g1, ⟨M, g2⟩, g3⟩
  dsimp only at *
  refine ⟨fun e1 => ?_, fun e1 => ?_⟩
  · obtain ⟨M', e, kk⟩ := g2.det hA g1
    obtain ⟨M2, e2, hb, k2⟩ := kk.head e1
    have hx : x ∈ A0 := by rw [e, e2]; simp
    have z1 := hb.2.1
    have z2 := k2.le
    have hf : f = a := g3.resolve_right fun hh => by omega
    have hr : 0 ≤ x ∧ x < (ws.length : Int) := ⟨g0, by omega⟩
    have nx : ∀ f' : Int, (f' = a ∨ (x + gw ws x / 8 = a ∧ f' ∈ A0 ∧ gw ws f' % 8 = 0 ∧ f' + gw ws f' / 8 = a)) → i64ok (x + gw ws x / 8) ∧ (0 ≤ x + gw ws x / 8 ∧ x + gw ws x / 8 ≤ a ∧ (∃ M, Seg ws 0 (x + gw ws x / 8) M) ∧ (f' = a ∨ (x + gw ws x / 8 = a ∧ f' ∈ A0 ∧ gw ws f' % 8 = 0 ∧ f' + gw ws f' / 8 = a))) ∧ (a - (x + gw ws x / 8)).toNat < (a - x).toNat := fun f' hf' => ⟨i64ok_of (by omega) (by omega), ⟨by omega, z2, ⟨_, g2.snoc hb⟩, hf'⟩, by omega⟩
    exact ⟨hr, p_s_l2Size ⟨i64ok_of (by omega) (by omega), fun e3 => ⟨hr, p_s_l2Kind ⟨fun e4 => ⟨hr, p_s_l2Size (nx x (.inr ⟨e3, hx, e4, e3⟩))⟩, fun _ => ⟨hr, p_s_l2Size (nx f (.inl hf))⟩⟩⟩, fun _ => ⟨hr, p_s_l2Size (nx f (.inl hf))⟩⟩⟩
  · rcases g3 with rfl | ⟨g4, g5, g6, g7⟩
    · exact h _ A0 hA (Int.le_refl _) (fun x hx => .inl hx) fun x hx => hx
    · obtain ⟨A1, A2, e2, k1, hb, k2⟩ := hA.split g5
      have hs := k1.snoc hb
      rw [g7] at hs
      have := hs.uniq hA
      refine h _ A1 k1 (by have := hb.2.1; omega) (fun x hx => ?_) fun x hx => by rw [← this]; exact List.mem_append_left _ hx
      rw [← this] at hx
      rcases List.mem_append.1 hx with hx | hx
      · exact .inl hx
      · rw [List.mem_singleton.1 hx]; exact .inr ⟨g6, Int.le_refl _⟩
theorem p_s_l2Give {a : Int} (hb : a ∈ bl ws) {K : List Int → Prop} (h : ∀ p q A B, Gvn ws a p q A B → K (frd ws p q)) : m_s_l2Give ws a K := by
  obtain ⟨hw, h0, h1, hblk⟩ := bl_mem hb
  have hl : ws.length ≤ 1000000 := by have := hw.1; omega
  obtain ⟨A0, B0, hAB, hA, _, hB⟩ := (bl_seg hw).split hb
  obtain ⟨_, z1, z2, z3⟩ := id hblk
  have hpw := bl_pair (ws := ws)
  rw [hAB, List.pairwise_append, List.pairwise_cons] at hpw
  -- with what is behind
  have main : ∀ y B, Seg ws y ws.length B → a + gw ws a / 8 ≤ y → y ≤ ws.length → (∀ x, x ∈ B0 → x ∈ B ∨ (gw ws x % 8 = 0 ∧ x < y)) → (∀ x, x ∈ B → x ∈ B0) → (y = if a + gw ws a / 8 < ws.length ∧ gw ws (a + gw ws a / 8) % 8 = 0 then a + gw ws a / 8 + gw ws (a + gw ws a / 8) / 8 else a + gw ws a / 8) → fromP ws a fun z => fillP ws y z K := by
    intro y B hB1 hy hyl hB2 hB3 hnx
    refine fromP_of hA h1 hl fun p A hA1 hp hA2 hA3 => ?_
    have hp0 := hA1.le
    refine fillP_of hp0 (by omega) hyl hl (h p y A B ⟨hA1, hB1, hp, hy, fun x hx => ?_, fun x hx => ?_, hnx⟩)
    · rw [hAB] at hx
      rcases List.mem_append.1 hx with hx | hx
      · rcases hA2 x hx with g | ⟨g1, g2⟩
        · exact .inl g
        · have := hpw.2.2 x hx a List.mem_cons_self
          exact .inr (.inr (.inr ⟨g1, g2, by omega⟩))
      · rcases List.mem_cons.1 hx with rfl | hx
        · exact .inr (.inr (.inl rfl))
        · rcases hB2 x hx with g | ⟨g1, g2⟩
          · exact .inr (.inl g)
          · have := hpw.2.1.1 x hx
            exact .inr (.inr (.inr ⟨g1, by omega, by omega⟩))
    · rw [hAB]
      rcases hx with hx | hx
      · have := hpw.2.2 x (hA3 x hx) a List.mem_cons_self
        exact ⟨List.mem_append_left _ (hA3 x hx), by omega⟩
      · have := hpw.2.1.1 x (hB3 x hx)
        exact ⟨List.mem_append_right _ (List.mem_cons_of_mem _ (hB3 x hx)), by omega⟩
  refine ⟨?_⟩
  unfold b_s_l2Give
  simp only [gwE]
  refine ⟨⟨h0, h1⟩, p_s_l2Size ⟨i64ok_of (by omega) (by omega), fun e1 => ⟨⟨by omega, e1⟩, p_s_l2Kind ⟨fun e2 => ⟨⟨by omega, e1⟩, p_s_l2Size ?_⟩, fun e2 => ?_⟩⟩, fun e1 => ?_⟩⟩
  · obtain ⟨B, hB1, hb2, hB2⟩ := hB.head e1
    have hb21 := hb2.2.1
    have hb22 := hb2.2.2.1
    refine ⟨i64ok_of (by omega) (by omega), main _ B hB2 (by omega) hb22 (fun x hx => ?_) (fun x hx => by rw [hB1]; exact List.mem_cons_of_mem _ hx) (by rw [if_pos ⟨e1, e2⟩])⟩
    rw [hB1] at hx
    rcases List.mem_cons.1 hx with rfl | hx
    · exact .inr ⟨e2, by omega⟩
    · exact .inl hx
  · exact main _ B0 hB (Int.le_refl _) z2 (fun x hx => .inl hx) (fun x hx => hx) (by rw [if_neg (fun hh => e2 hh.2)])
  · exact main _ B0 hB (Int.le_refl _) z2 (fun x hx => .inl hx) (fun x hx => hx) (by rw [if_neg (fun hh => e1 hh.1)])
theorem p_s_Give (hl : ws.length ≤ 1000000) {a : Int} {K : List Int → Prop} (h1 : kindAt ws a ≤ 0 → K ws) (h2 : a ∈ bl ws → gw ws a % 8 ≠ 0 → ∀ p q A B, Gvn ws a p q A B → K (frd ws p q)) : m_s_Give ws a K := by
  have no : ¬ (a ∈ bl ws ∧ gw ws a % 8 ≠ 0) → m_s_l2Copy ws fun r => K r := fun hh => p_s_l2Copy hl (h1 (by
    have := kind_pos (ws := ws) (p := a)
    exact Classical.byContradiction fun hn => hh (this.1 hn)))
  refine ⟨?_⟩
  unfold b_s_Give
  simp only [gwE]
  refine p_s_SlabOk hl ?_
  rw [nn_eq, tf_eq]
  refine ⟨fun hw => p_s_l2Is hw ?_, fun hw => no fun hh => hw (bl_mem hh.1).1⟩
  rw [nn_eq, tf_eq]
  refine ⟨fun hb => ⟨⟨(bl_mem hb).2.1, (bl_mem hb).2.2.1⟩, p_s_l2Kind ⟨fun e => no fun hh => hh.2 e, fun e => p_s_l2Copy hl (p_s_l2Give hb (h2 hb e))⟩⟩, fun hb => no fun hh => hb hh.1⟩
theorem p_s_Take (hw : Slb ws) {k n : Int} (hn : n ≤ 1000000) {K : List Int → Int → Bool → Prop} (h : ∀ ws' at' b, ws'.length = ws.length → Slb ws' → (b = true → at' ∈ bl ws') → K ws' at' b) : m_s_Take ws k n K := by
  have hl : ws.length ≤ 1000000 := by have := hw.1; omega
  have no : m_s_l2Copy ws fun r => K r 0 false := p_s_l2Copy hl (h _ _ _ rfl hw (fun e => absurd e (by simp)))
  refine ⟨?_⟩
  unfold b_s_Take
  refine p_s_SlabOk hl ?_
  rw [nn_eq, tf_of hw]
  refine ⟨fun e => absurd rfl e, fun _ => p_s_l1In ?_⟩
  rw [nn_eq, tf_eq]
  exact ⟨fun hk => ⟨fun _ => no, fun e => p_s_l2Copy hl (take_any hw (by omega) hn hk fun ws' at' b e1 e2 e3 => h _ _ _ e1 e3 fun e => (e2 e).2.2)⟩, fun _ => no⟩

/-! ### Slabs -/
theorem slb_set {p v : Int} (hw : Slb ws) (hp : p ∈ bl ws) : Slb (List.set ws (Int.toNat (p + 1)) v) ∧ p + 1 < ws.length := by
  obtain ⟨_, h0, h1, hb⟩ := bl_mem hp
  have z1 := hb.2.1
  have z2 := hb.2.2.1
  refine ⟨⟨by rw [List.length_set]; exact hw.1, bl ws, ?_⟩, by omega⟩
  rw [List.length_set]
  refine (bl_seg hw).congr (by simp) fun x hx => ?_
  rw [gw_set (by omega) (by omega) (bl_mem hx).2.1, if_neg]
  rintro rfl
  obtain ⟨A, B, e, k1, _, k2⟩ := (bl_seg hw).split hp
  rw [e] at hx
  rcases List.mem_append.1 hx with hx | hx
  · have := (k1.mem hx).2.1; omega
  · rcases List.mem_cons.1 hx with hx | hx
    · omega
    · have := (k2.mem hx).1; omega
theorem slb_new {n : Int} (h0 : 2 ≤ n) (h1 : n ≤ 2000) {ws : List Int} (hl : ws.length = n.toNat) (h : ∀ i, 0 ≤ i → i < n → gw ws i = if i = 0 then 8 * n else 0) : Slb ws := by
  have h2 := h 0 (Int.le_refl _) (by omega)
  rw [if_pos rfl] at h2
  refine ⟨by omega, [0], ?_⟩
  have := Seg.one (ws := ws) (p := 0) ⟨Int.le_refl _, by omega, by omega, by omega⟩
  rw [show 0 + gw ws 0 / 8 = (ws.length : Int) by omega] at this
  exact this
theorem bl_pos (hw : Slb ws) (h : 0 < ws.length) : 0 < (bl ws).length := by
  obtain ⟨M, e, _⟩ := (bl_seg hw).head (by omega)
  rw [e]; simp
theorem p_s_l2DrawRight {b : List Int} {i h : Int} (hc : Cu b i) {K : List Int → Int → Int → List Int → Prop} (hK : ∀ i' h' s, Cu b i' → 0 < s.length → s.length ≤ 2000 → K b i' h' s) : m_s_l2DrawRight b i h K := by
  refine ⟨?_⟩
  unfold b_s_l2DrawRight
  simp only [gwE]
  refine p_l1PickInt hc (by simp) fun i0 h0 r0 c0 m0 => ?_
  have hr0 : 2 ≤ r0 ∧ r0 ≤ 2000 := by
    simp only [List.mem_cons, List.not_mem_nil, or_false] at m0
    omega
  refine p_s_SlabNew (fun hh => absurd hr0 hh) fun _ _ s hs1 hs2 => p_l1Below c0 fun i1 h1 r1 c1 a1 b1 _ => ?_
  have hr1 := b1 (by omega)
  refine loopP_intro (fun x => x.2.2.1 = b ∧ Cu b x.2.2.2.1 ∧ Slb x.2.2.2.2.2.1 ∧ 0 < x.2.2.2.2.2.1.length ∧ 0 ≤ x.2.1) (fun x => (r1 - x.2.1).toNat) ⟨rfl, c1, slb_new hr0.1 hr0.2 hs1 hs2, by dsimp only; omega, Int.le_refl _⟩ ?_
  rintro ⟨d, j, b', i2, h2, s2, _⟩ ⟨g0, g1, g2, g3, g4⟩
  dsimp only at *
  subst g0
  have hl2 : s2.length ≤ 1000000 := by have := g2.1; omega
  have hbp := bl_pos g2 g3
  have hbl := bl_len' (ws := s2)
  refine ⟨fun e1 => p_l1Once g1 fun i3 h3 r3 c3 => ⟨fun _ => p_s_Blocks hl2 (p_l1Below c3 fun i4 h4 r4 c4 a4 b4 _ => ?_), fun _ => ?_⟩, fun _ => hK _ _ _ g1 g3 g2.1⟩
  · have := b4 (by omega)
    refine ⟨⟨a4, this⟩, p_s_Give hl2 (fun _ => ⟨i64ok_of (by omega) (by omega), ⟨rfl, c4, g2, g3, by omega⟩, by omega⟩) fun hb _ p q A B hG => ?_⟩
    have hlen : (frd s2 p q).length = s2.length := by
      obtain ⟨q0, q1, q2⟩ := hG.lt hb
      exact frd_len q0 (Int.le_of_lt q1) q2
    exact ⟨i64ok_of (by omega) (by omega), ⟨rfl, c4, (hG.bl hb).1, by omega, by omega⟩, by omega⟩
  · refine JoinP.mk ⟨fun y => Slb y.1.1 ∧ 0 < y.1.1.length ∧ (y.2.2.1 = true → y.2.1 ∈ bl y.1.1) ∧ y.2.2.2.1 = b' ∧ Cu b' y.2.2.2.2.1, ?_, ?_⟩
    · refine p_l1Below c3 fun i4 h4 r4 c4 a4 b4 _ => ?_
      have := b4 (by omega)
      refine ⟨i64ok_of (by omega) (by omega), p_l1Below c4 fun i5 h5 r5 c5 a5 b5 _ => ?_⟩
      have := b5 (by omega)
      exact ⟨i64ok_of (by omega) (by omega), p_s_Take g2 (by omega) fun ws' at' ok e1 e2 e3 => ⟨e2, by dsimp only; omega, e3, rfl, c5⟩⟩
    · rintro ⟨⟨s3, _⟩, at', ok, b5, i5, h5, _⟩ ⟨y1, y2, y3, y4, y5⟩
      dsimp only at *
      subst y4
      refine ⟨fun e2 => p_l1Once y5 fun i6 h6 r6 c6 => ⟨fun _ => ?_, fun _ => ⟨i64ok_of (by omega) (by omega), ⟨rfl, c6, y1, y2, by omega⟩, by omega⟩⟩, fun _ => ⟨i64ok_of (by omega) (by omega), ⟨rfl, y5, y1, y2, by omega⟩, by omega⟩⟩
      have hm := y3 e2
      obtain ⟨z1, z2⟩ := bl_mem hm
      have := z1.1
      refine ⟨i64ok_of (by omega) (by omega), p_l1Below c6 fun i7 h7 r7 c7 _ _ _ => ⟨⟨by omega, (slb_set (v := 0) y1 hm).2⟩, i64ok_of (by omega) (by omega), ⟨rfl, c7, (slb_set y1 hm).1, by simp only [List.length_set]; exact y2, by omega⟩, by omega⟩⟩
theorem p_s_l2Draw {b : List Int} {i h : Int} (hc : Cu b i) {K : List Int → Int → Int → List Int → Prop} (hK : ∀ i' h' s, Cu b i' → s.length ≤ 2001 → K b i' h' s) : m_s_l2Draw b i h K := by
  refine ⟨?_⟩
  unfold b_s_l2Draw
  refine p_s_l2DrawRight hc fun i1 h1 s c1 s0 s1 => p_l1Below c1 fun i2 h2 r2 c2 _ _ _ => ⟨fun _ => p_l1PickInt c2 (by simp) fun i3 h3 r3 c3 _ => ⟨⟨by omega, by omega⟩, hK _ _ _ c3 (by simp only [List.length_set]; omega)⟩, fun _ => ⟨fun _ => ⟨by simp only [List.length_cons, List.length_nil]; omega, hK _ _ _ c2 (by simp only [List.length_append, List.length_cons, List.length_nil]; omega)⟩, fun _ => ⟨fun _ => ⟨⟨by omega, by omega, by omega⟩, hK _ _ _ c2 (by simp only [List.length_take, List.length_drop]; omega)⟩, fun _ => ⟨fun _ => hK _ _ _ c2 (by simp), fun _ => hK _ _ _ c2 (by omega)⟩⟩⟩⟩
end
end Go.Proofs.YthjmmofafpahhaaGreat.Sx
