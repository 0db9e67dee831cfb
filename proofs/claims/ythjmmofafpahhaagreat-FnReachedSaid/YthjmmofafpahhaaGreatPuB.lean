/- Plain laws: lists of blocks, looking a block up. -/
import Derived.Test.YthjmmofafpahhaaGreatPuA
namespace Go.Proofs.YthjmmofafpahhaaGreat.Sx
open Go
set_option linter.unusedVariables false
set_option linter.unusedSimpArgs false

theorem wrapI {n : Int} (h : -9223372036854775808 ≤ n) (h' : n ≤ 9223372036854775807) : IntKind.wrap IntKind.i64 n = n := by
  rw [IntKind.wrap_i64]; omega
theorem wrapU {n : Int} (h : 0 ≤ n) (h' : n ≤ 9223372036854775807) : IntKind.wrap IntKind.u64 n = n := by
  rw [IntKind.wrap_u64]; omega
theorem half {a b : Int} (h : 0 ≤ a) (h' : 0 ≤ b) (h2 : a ≤ 1000000000000) (h3 : b ≤ 1000000000000) : IntKind.wrap IntKind.i64 (IntKind.wrap IntKind.u64 (a + b) / 2 ^ 1) = (a + b) / 2 := by
  rw [wrapU (by omega) (by omega), Int.pow_one, wrapI (by omega) (by omega)]

section
variable {ws : List Int}
theorem p_s_l2Blocks (hw : Slb ws) {K : List Int → Prop} (h : K (bl ws)) : m_s_l2Blocks ws K := by
  have hS := bl_seg hw
  have hl := hw.1
  refine ⟨?_⟩
  unfold b_s_l2Blocks
  simp only [gwE]
  refine loopP_intro (fun x => 0 ≤ x.2.1 ∧ x.2.1 ≤ ws.length ∧ Seg ws 0 x.2.1 x.1) (fun x => (ws.length - x.2.1).toNat) ⟨Int.le_refl _, by simp, .nil _⟩ ?_
  rintro ⟨M, x, _⟩ ⟨h0, h1, hL⟩
  dsimp only at *
  refine ⟨fun h2 => ?_, fun h2 => ?_⟩
  · obtain ⟨M', e, k⟩ := hL.det hS h1
    obtain ⟨_, _, hb, _⟩ := k.head h2
    have := hL.len
    have := hb.2.1
    have := hb.2.2.1
    refine ⟨by simp only [List.length_cons, List.length_nil]; omega, ⟨h0, h2⟩, p_s_l2Size ⟨i64ok_of (by omega) (by omega), ⟨by omega, by omega, hL.snoc hb⟩, by omega⟩⟩
  · have hx : x = ws.length := by omega
    subst hx
    rwa [bl_eq hl hL] at h
theorem p_s_Blocks (hl : ws.length ≤ 1000000) {K : List Int → Prop} (h : K (bl ws)) : m_s_Blocks ws K := by
  refine ⟨?_⟩
  unfold b_s_Blocks
  refine p_s_SlabOk hl ?_
  rw [nn_eq, tf_eq]
  refine ⟨fun h1 => ?_, fun h1 => p_s_l2Blocks h1 h⟩
  rwa [bl_not h1] at h
theorem p_i_places (hl : ws.length ≤ 1000000) {K : List Int → Bool → Prop} (h : K (bl ws) (tf (Slb ws))) : m_i_places ws K := by
  refine ⟨?_⟩
  unfold b_i_places
  simp only [gwE]
  refine ⟨fun h1 => ?_, fun h1 => ?_⟩
  · have hn : ¬ Slb ws := fun hs => by have := hs.1; omega
    rwa [bl_not hn, tf_not hn] at h
  · have bad : ¬ Slb ws → K [] false := fun hn => by rwa [bl_not hn, tf_not hn] at h
    refine loopP_intro (fun x => 0 ≤ x.2.1 ∧ x.2.1 ≤ ws.length ∧ Seg ws 0 x.2.1 x.1) (fun x => (ws.length - x.2.1).toNat) ⟨Int.le_refl _, by simp, .nil _⟩ ?_
    rintro ⟨M, x, _⟩ ⟨h0, h1', hL⟩
    dsimp only at *
    refine ⟨fun h2 => ⟨⟨h0, h2⟩, ⟨h0, h2⟩, i64ok_of (by omega) (by omega), p_i_within ?_⟩, fun h2 => ?_⟩
    · rw [nn_eq, tf_eq]
      refine ⟨fun h3 => ⟨fun h4 => ?_, fun h4 => ?_⟩, fun h3 => ?_⟩
      · exact bad (not_slb hL h2 fun hb => by have := hb.2.2.2; omega)
      · have := hL.len
        refine ⟨by simp only [List.length_cons, List.length_nil]; omega, i64ok_of (by omega) (by omega), ⟨by omega, by omega, hL.snoc ⟨h0, by omega, by omega, by omega⟩⟩, by omega⟩
      · exact bad (not_slb hL h2 fun hb => h3 ⟨hb.2.1, by have := hb.2.2.1; omega⟩)
    · have hx : x = ws.length := by omega
      subst hx
      have hs : Slb ws := ⟨by omega, _, hL⟩
      rwa [bl_eq hs.1 hL, tf_of hs] at h
theorem p_i_SlabOk (hl : ws.length ≤ 1000000) {K : Bool → Prop} (h : K (tf (Slb ws))) : m_i_SlabOk ws K := by
  refine ⟨?_⟩
  unfold b_i_SlabOk
  exact p_i_places hl h
theorem p_i_Blocks (hl : ws.length ≤ 1000000) {K : List Int → Prop} (h : K (bl ws)) : m_i_Blocks ws K := by
  refine ⟨?_⟩
  unfold b_i_Blocks
  exact p_i_places hl h
theorem bl_len (hw : Slb ws) : (bl ws).length ≤ 2000 := by
  have := (bl_seg hw).len
  have := hw.1
  omega
theorem bl_len' : (bl ws).length ≤ 2000 := by
  by_cases h : Slb ws
  · exact bl_len h
  · rw [bl_not h]; simp
theorem bl_pair : (bl ws).Pairwise (· < ·) := by
  by_cases h : Slb ws
  · exact (bl_seg h).pairwise
  · rw [bl_not h]; exact .nil
theorem bl_mem {p : Int} (h : p ∈ bl ws) : Slb ws ∧ 0 ≤ p ∧ p < ws.length ∧ Blk ws p := by
  by_cases hs : Slb ws
  · obtain ⟨h1, h2, h3, _⟩ := (bl_seg hs).mem h
    exact ⟨hs, h1, h2, h3⟩
  · rw [bl_not hs] at h; cases h
end

/-! ### Looking up in order -/
theorem count_lt {L : List Int} {x : Int} {i : Nat} (hi : i ≤ L.length) (h1 : ∀ (t : Nat) (y : Int), t < i → L[t]? = some y → y < x) (h2 : ∀ (t : Nat) (y : Int), i ≤ t → L[t]? = some y → x ≤ y) : L.countP (· < x) = i := by
  rw [← List.take_append_drop i L, List.countP_append]
  have e1 : (L.take i).countP (· < x) = i := by
    rw [List.countP_eq_length.2, List.length_take, Nat.min_eq_left hi]
    intro y hy
    obtain ⟨t, ht⟩ := List.getElem?_of_mem hy
    rw [List.getElem?_take] at ht
    split at ht
    · rename_i h; simpa using h1 t y h ht
    · cases ht
  have e2 : (L.drop i).countP (· < x) = 0 := by
    rw [List.countP_eq_zero]
    intro y hy
    obtain ⟨t, ht⟩ := List.getElem?_of_mem hy
    rw [List.getElem?_drop] at ht
    have := h2 (i + t) y (by omega) ht
    simp
    omega
  omega
theorem gw_get {L : List Int} {t : Nat} {y : Int} (h : L[t]? = some y) : gw L t = y := by
  simp [gw, h]
theorem get_gw {L : List Int} {t : Int} (h0 : 0 ≤ t) (h : t < L.length) : L[t.toNat]? = some (gw L t) := by
  have : t.toNat < L.length := by omega
  simp [gw, this]
theorem gw_mem {L : List Int} {t : Int} (h0 : 0 ≤ t) (h : t < L.length) : gw L t ∈ L := List.mem_of_getElem? (get_gw h0 h)
theorem p_Less {a b : Int} {K : Bool → Prop} (h : K (tf (a < b))) : m_g_cmp_Less_int_ a b K := by
  refine ⟨?_⟩
  unfold b_g_cmp_Less_int_
  refine ⟨?_⟩
  unfold b_g_cmp_isNaN_int_
  refine ⟨fun h1 => absurd h1 (by rw [tf_not (by simp)]; simp), fun _ => h⟩
theorem p_search {L : List Int} {x : Int} (hs : L.Pairwise (· ≤ ·)) (hl : L.length ≤ 1000000) {K : Int → Bool → Prop} (h : K (L.countP (· < x)) (tf (x ∈ L))) : m_g_slices_BinarySearch___int_int_ L x K := by
  have hle : ∀ (s t : Nat) (y z : Int), s ≤ t → L[s]? = some y → L[t]? = some z → y ≤ z := fun s t y z hst hy hz => by
    rcases Nat.lt_or_eq_of_le hst with h | h
    · have h1 := (List.getElem?_eq_some_iff.1 hy)
      have h2 := (List.getElem?_eq_some_iff.1 hz)
      have := List.pairwise_iff_getElem.1 hs s t h1.1 h2.1 h
      rw [h1.2, h2.2] at this
      exact this
    · subst h
      rw [hy] at hz
      cases hz
      exact Int.le_refl _
  refine ⟨?_⟩
  unfold b_g_slices_BinarySearch___int_int_
  refine loopP_intro (fun q => 0 ≤ q.1 ∧ q.1 ≤ q.2.1 ∧ q.2.1 ≤ L.length ∧ (∀ (t : Nat) (y : Int), (t : Int) < q.1 → L[t]? = some y → y < x) ∧ ∀ (t : Nat) (y : Int), q.2.1 ≤ t → L[t]? = some y → x ≤ y) (fun q => (q.2.1 - q.1).toNat)
    ⟨Int.le_refl _, by simp, by simp, fun t y ht => by simp at ht; omega, fun t y ht hy => by have := (List.getElem?_eq_some_iff.1 hy).1; simp at ht; omega⟩ ?_
  rintro ⟨i, j, _⟩ ⟨h0, h1, h2, h3, h4⟩
  dsimp only at *
  refine ⟨fun h5 => ?_, fun h5 => ?_⟩
  · rw [half h0 (by omega) (by omega) (by omega)]
    simp only [gwE]
    have hm := get_gw (L := L) (t := (i + j) / 2) (by omega) (by omega)
    refine ⟨i64ok_of (by omega) (by omega), ⟨by omega, by omega⟩, p_Less ?_⟩
    rw [tf_eq, tf_false]
    refine ⟨fun h6 => ⟨i64ok_of (by omega) (by omega), ⟨by omega, by omega, by omega, fun t y ht hy => ?_, h4⟩, by omega⟩, fun h6 => ⟨⟨by omega, by omega, by omega, h3, fun t y ht hy => ?_⟩, by omega⟩⟩
    · have := hle t _ _ _ (by omega) hy hm
      omega
    · have := hle _ t _ _ (by omega) hm hy
      omega
  · have hij : j = i := by omega
    subst hij
    have hc := count_lt (L := L) (x := x) (i := j.toNat) (by omega) (fun t y ht hy => h3 t y (by omega) hy) (fun t y ht hy => h4 t y (by omega) hy)
    rw [hc, Int.toNat_of_nonneg h0] at h
    simp only [gwE]
    refine ⟨fun h6 => ?_, fun h6 => ?_⟩
    · have hm := get_gw (L := L) h0 h6
      refine ⟨⟨h0, h6⟩, fun h7 => ?_, fun h7 => ?_⟩
      · have hn : x ∉ L := fun hx => by
          obtain ⟨t, ht⟩ := List.getElem?_of_mem hx
          by_cases h8 : (t : Int) < j
          · have := h3 t x h8 ht; omega
          · have h9 := hle j.toNat t _ _ (by omega) hm ht
            have h10 := h4 j.toNat _ (by omega) hm
            omega
        rw [tf_not hn] at h
        refine ⟨⟨h0, h6⟩, ⟨?_⟩⟩
        unfold b_g_slices_isNaN_int_
        exact ⟨fun h1 => absurd h1 (by rw [tf_not (by simp)]; simp), fun _ => h⟩
      · rwa [tf_of (show x ∈ L from h7 ▸ gw_mem h0 h6)] at h
    · have hn : x ∉ L := fun hx => by
        obtain ⟨t, ht⟩ := List.getElem?_of_mem hx
        have h7 := (List.getElem?_eq_some_iff.1 ht).1
        have := h3 t x (by omega) ht
        omega
      rwa [tf_not hn] at h
theorem lt_le {L : List Int} (h : L.Pairwise (· < ·)) : L.Pairwise (· ≤ ·) := h.imp fun h => Int.le_of_lt h

section
variable {ws : List Int}
theorem p_i_isBlock (hl : ws.length ≤ 1000000) {p : Int} {K : Bool → Prop} (h : K (tf (p ∈ bl ws))) : m_i_isBlock ws p K := by
  refine ⟨?_⟩
  unfold b_i_isBlock
  exact p_i_Blocks hl (p_search (lt_le bl_pair) (by have := bl_len' (ws := ws); omega) h)
open Classical in
noncomputable def kindAt (ws : List Int) (p : Int) : Int := if p ∈ bl ws then gw ws p % 8 else -1
open Classical in
noncomputable def sizeAt (ws : List Int) (p : Int) : Int := if p ∈ bl ws then gw ws p / 8 else 0
theorem p_i_KindAt (hl : ws.length ≤ 1000000) {p : Int} {K : Int → Prop} (h : K (kindAt ws p)) : m_i_KindAt ws p K := by
  refine ⟨?_⟩
  unfold b_i_KindAt
  simp only [gwE]
  refine p_i_isBlock hl ?_
  rw [nn_eq, tf_eq]
  unfold kindAt at h
  refine ⟨fun h1 => ?_, fun h1 => ?_⟩
  · rwa [if_neg h1] at h
  · obtain ⟨h2, h3, h4, _⟩ := bl_mem h1
    rw [if_pos h1] at h
    exact ⟨⟨h3, h4⟩, h⟩
theorem p_i_SizeAt (hl : ws.length ≤ 1000000) {p : Int} {K : Int → Prop} (h : K (sizeAt ws p)) : m_i_SizeAt ws p K := by
  refine ⟨?_⟩
  unfold b_i_SizeAt
  simp only [gwE]
  refine p_i_isBlock hl ?_
  rw [nn_eq, tf_eq]
  unfold sizeAt at h
  refine ⟨fun h1 => ?_, fun h1 => ?_⟩
  · rwa [if_neg h1] at h
  · obtain ⟨h2, h3, h4, _⟩ := bl_mem h1
    rw [if_pos h1] at h
    exact ⟨⟨h3, h4⟩, h⟩
theorem p_s_l2Is (hw : Slb ws) {p : Int} {K : Bool → Prop} (h : K (tf (p ∈ bl ws))) : m_s_l2Is ws p K := by
  have hS := bl_seg hw
  have hl := hw.1
  refine ⟨?_⟩
  unfold b_s_l2Is
  simp only [gwE]
  refine loopP_intro (fun x => 0 ≤ x.1 ∧ x.1 ≤ ws.length ∧ (∃ M, Seg ws 0 x.1 M) ∧ ∀ y, y ∈ bl ws → y < x.1 → y < p) (fun x => (ws.length - x.1).toNat) ⟨Int.le_refl _, by simp, ⟨_, .nil _⟩, fun y hy h => by have := (bl_mem hy).2.1; omega⟩ ?_
  rintro ⟨x, _⟩ ⟨h0, h1, ⟨M, hL⟩, hlt⟩
  dsimp only at *
  have fin : (ws.length ≤ x ∨ p ≤ x) → (x = p → K (tf (p < ws.length))) ∧ (¬ x = p → K false) := fun hx => by
    obtain ⟨M', e, k⟩ := hL.det hS h1
    refine ⟨fun h2 => ?_, fun h2 => ?_⟩
    · subst h2
      rwa [tf_congr (show x ∈ bl ws ↔ x < ws.length from ⟨fun hm => (bl_mem hm).2.2.1, fun hx => by
        obtain ⟨M2, e2, _⟩ := k.head hx
        rw [e, e2]; simp⟩)] at h
    · have hn : p ∉ bl ws := fun hp => by
        obtain ⟨q1, q2, q3, q4⟩ := bl_mem hp
        rcases hx with hx | hx
        · have := hlt p hp (by omega); omega
        · have := hlt p hp (by omega); omega
      rwa [tf_not hn] at h
  refine ⟨fun h2 => ⟨fun h3 => ?_, fun h3 => fin (.inr (by omega))⟩, fun h2 => fin (.inl (by omega))⟩
  obtain ⟨M', e, k⟩ := hL.det hS h1
  obtain ⟨M2, e2, hb, k2⟩ := k.head h2
  have := hb.2.1
  have := hb.2.2.1
  refine ⟨⟨h0, h2⟩, p_s_l2Size ⟨i64ok_of (by omega) (by omega), ⟨by omega, by omega, ⟨_, hL.snoc hb⟩, fun y hy hyl => ?_⟩, by omega⟩⟩
  rw [e, e2] at hy
  rcases List.mem_append.1 hy with hy | hy
  · have := (hL.mem hy).2.1
    omega
  · rcases List.mem_cons.1 hy with rfl | hy
    · exact h3
    · have := (k2.mem hy).1
      omega
end
end Go.Proofs.YthjmmofafpahhaaGreat.Sx
