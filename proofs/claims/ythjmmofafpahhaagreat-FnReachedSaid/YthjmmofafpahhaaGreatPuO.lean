/- Plain laws: what is drawn out of bytes. -/
import Derived.Test.YthjmmofafpahhaaGreatPuN
namespace Go.Proofs.YthjmmofafpahhaaGreat.Sx
open Go
set_option linter.unusedVariables false
set_option linter.unusedSimpArgs false

/-- A cursor over bytes. -/
def Cu (b : List Int) (i : Int) : Prop := (∀ x, x ∈ b → 0 ≤ x ∧ x < 256) ∧ b.length ≤ 1048576 ∧ 0 ≤ i
theorem p_l1New {code : List Int} (hb : ∀ x, x ∈ code → 0 ≤ x ∧ x < 256) (hl : code.length ≤ 1048576) {K : List Int → Int → Int → Prop} (h : ∀ x, Cu code 0 → K code 0 x) : m_s_l1New code K := by
  have hc : Cu code 0 := ⟨hb, hl, Int.le_refl _⟩
  refine ⟨?_⟩
  unfold b_s_l1New
  simp only [gwE]
  refine loopP_intro (fun x => 0 ≤ x.2.1 ∧ x.2.1 ≤ code.length) (fun x => (code.length - x.2.1).toNat) ⟨Int.le_refl _, by simp⟩ ?_
  rintro ⟨x, i, _⟩ ⟨g0, g1⟩
  dsimp only at *
  refine ⟨fun e1 => ⟨fun e2 => ⟨⟨g0, e1⟩, hb _ (gw_mem g0 e1), ?_⟩, fun _ => h x hc⟩, fun _ => h x hc⟩
  rw [wrapI (n := i + 1) (by omega) (by omega)]
  exact ⟨⟨by omega, by omega⟩, by omega⟩
theorem p_l1Byte {b : List Int} {i h : Int} (hc : Cu b i) {K : List Int → Int → Int → Int → Prop} (hK : ∀ i' h' r, Cu b i' → 0 ≤ r → r < 256 → K b i' h' r) : m_s_l1Byte b i h K := by
  obtain ⟨c1, c2, c3⟩ := hc
  refine ⟨?_⟩
  unfold b_s_l1Byte
  simp only [gwE]
  refine ⟨fun e => ⟨⟨c3, e⟩, c1 _ (gw_mem c3 e), ?_⟩, fun e => hK _ _ _ ⟨c1, c2, c3⟩ (Int.emod_nonneg _ (by omega)) (Int.emod_lt_of_pos _ (by omega))⟩
  rw [wrapI (n := i + 1) (by omega) (by omega)]
  exact hK _ _ _ ⟨c1, c2, by omega⟩ (Int.emod_nonneg _ (by omega)) (Int.emod_lt_of_pos _ (by omega))
theorem p_l1Below {b : List Int} {i h n : Int} (hc : Cu b i) {K : List Int → Int → Int → Int → Prop} (hK : ∀ i' h' r, Cu b i' → 0 ≤ r → (0 < n → r < n) → (n ≤ 0 → r = 0) → K b i' h' r) : m_s_l1Below b i h n K := by
  refine ⟨?_⟩
  unfold b_s_l1Below
  refine ⟨fun e => hK _ _ _ hc (Int.le_refl _) (fun e2 => by omega) (fun _ => rfl), fun e => ⟨fun e2 => p_l1Byte hc fun i' h' r c' r0 r1 => ⟨⟨r0, by omega⟩, hK _ _ _ c' (Int.emod_nonneg _ (by omega)) (fun _ => Int.emod_lt_of_pos _ (by omega)) (fun e3 => by omega)⟩, fun e2 => ?_⟩⟩
  refine p_l1Byte hc fun i1 h1 r1 c1 a1 b1 => p_l1Byte c1 fun i2 h2 r2 c2 a2 b2 => p_l1Byte c2 fun i3 h3 r3 c3 a3 b3 => p_l1Byte c3 fun i4 h4 r4 c4 a4 b4 => ?_
  exact ⟨i64ok_of (by omega) (by omega), i64ok_of (by omega) (by omega), i64ok_of (by omega) (by omega), i64ok_of (by omega) (by omega), i64ok_of (by omega) (by omega), i64ok_of (by omega) (by omega), ⟨by omega, by omega⟩, hK _ _ _ c4 (Int.emod_nonneg _ (by omega)) (fun _ => Int.emod_lt_of_pos _ (by omega)) (fun e3 => by omega)⟩
theorem p_l1Once {b : List Int} {i h n : Int} (hc : Cu b i) {K : List Int → Int → Int → Bool → Prop} (hK : ∀ i' h' r, Cu b i' → K b i' h' r) : m_s_l1Once b i h n K := by
  refine ⟨?_⟩
  unfold b_s_l1Once
  exact p_l1Below hc fun i' h' r c' _ _ _ => hK _ _ _ c'
theorem p_l1PickInt {b l : List Int} {i h : Int} (hc : Cu b i) (hl : 0 < l.length) {K : List Int → Int → Int → Int → Prop} (hK : ∀ i' h' r, Cu b i' → r ∈ l → K b i' h' r) : m_s_l1PickInt b i h l K := by
  refine ⟨?_⟩
  unfold b_s_l1PickInt
  simp only [gwE]
  refine p_l1Below hc fun i' h' r c' r0 r1 _ => ?_
  have hr := r1 (by omega)
  exact ⟨⟨r0, hr⟩, hK _ _ _ c' (gw_mem r0 hr)⟩
theorem p_l1Pick {b : List Int} {l : List ByteArray} {i h : Int} (hc : Cu b i) (hl : 0 < l.length) {K : List Int → Int → Int → ByteArray → Prop} (hK : ∀ i' h' r, Cu b i' → r ∈ l → K b i' h' r) : m_s_l1Pick b i h l K := by
  refine ⟨?_⟩
  unfold b_s_l1Pick
  refine p_l1Below hc fun i' h' r c' r0 r1 _ => ?_
  have hr := r1 (by omega)
  have hm : List.getD l (Int.toNat r) { data := #[] } ∈ l := by
    rw [List.getD_eq_getElem?_getD, List.getElem?_eq_getElem (by omega)]
    exact List.getElem_mem _
  exact ⟨⟨r0, hr⟩, hK _ _ _ c' hm⟩
theorem p_l1DrawAny {b : List Int} {i h : Int} (hc : Cu b i) {K : List Int → Int → Int → Int → Prop} (hK : ∀ i' h' r, Cu b i' → K b i' h' r) : m_s_l1DrawAny b i h K := by
  refine ⟨?_⟩
  unfold b_s_l1DrawAny
  refine p_l1Once hc fun i' h' r c' => ⟨fun _ => ⟨?_⟩, fun _ => p_l1PickInt c' (by simp) fun i2 h2 r2 c2 m2 => ?_⟩
  · unfold b_s_l1DrawNum
    exact p_l1PickInt c' (by simp) fun i2 h2 r2 c2 _ => hK _ _ _ c2
  · have : -1 ≤ r2 ∧ r2 ≤ 2000 := by
      simp only [List.mem_cons, List.not_mem_nil, or_false] at m2
      omega
    exact ⟨i64ok_of (by omega) (by omega), p_l1Below c2 fun i3 h3 r3 c3 a3 b3 _ => ⟨i64ok_of (by omega) (by have := b3 (by omega); omega), hK _ _ _ c3⟩⟩
theorem p_s_SlabNew {n : Int} {K : List Int → Bool → Prop} (h1 : ¬ (2 ≤ n ∧ n ≤ 2000) → K [] false) (h2 : 2 ≤ n → n ≤ 2000 → ∀ ws, ws.length = n.toNat → (∀ i, 0 ≤ i → i < n → gw ws i = if i = 0 then 8 * n else 0) → K ws true) : m_s_SlabNew n K := by
  refine ⟨?_⟩
  unfold b_s_SlabNew
  refine p_s_l1In ?_
  rw [nn_eq, tf_eq]
  refine ⟨h1, fun e => ⟨⟨by omega, by omega⟩, i64ok_of (by omega) (by omega), ⟨by omega, by simp only [List.length_replicate]; omega⟩, h2 e.1 e.2 _ (by simp) fun i g0 g1 => ?_⟩⟩
  rw [gw_set (by omega) (by simp only [List.length_replicate]; omega) g0]
  split
  · rfl
  · exact gw_rep g0 (by omega)
theorem p_s_l2Copy {ws : List Int} (hl : ws.length ≤ 1000000) {K : List Int → Prop} (h : K ws) : m_s_l2Copy ws K := by
  refine ⟨?_⟩
  unfold b_s_l2Copy
  exact ⟨by simp only [List.length_nil]; omega, h⟩
theorem p_s_RefOf {k a : Int} {K : Int → Prop} (h1 : ¬ ((4 ≤ k ∧ k ≤ 7) ∧ 0 ≤ a ∧ a ≤ 1999) → K 0) (h2 : 4 ≤ k → k ≤ 7 → 0 ≤ a → a ≤ 1999 → K (8 * a + k)) : m_s_RefOf k a K := by
  refine ⟨?_⟩
  unfold b_s_RefOf
  refine p_s_l1In ?_
  rw [nn_eq, tf_eq]
  refine ⟨fun e1 => p_s_l1In ?_, fun e1 => h1 fun hh => e1 hh.1⟩
  rw [nn_eq, tf_eq]
  exact ⟨fun e2 => h1 fun hh => e2 hh.2, fun e2 => ⟨i64ok_of (by omega) (by omega), i64ok_of (by omega) (by omega), h2 e1.1 e1.2 e2.1 e2.2⟩⟩
theorem list_ext {a b : List Int} (hl : a.length = b.length) (h : ∀ i : Int, 0 ≤ i → i < a.length → gw a i = gw b i) : a = b := by
  apply List.ext_getElem?
  intro t
  by_cases e : t < a.length
  · have q1 := get_gw (L := a) (t := (t : Int)) (by omega) (by omega)
    have q2 := get_gw (L := b) (t := (t : Int)) (by omega) (by omega)
    rw [Int.toNat_natCast] at q1 q2
    rw [q1, q2, h _ (by omega) (by omega)]
  · rw [List.getElem?_eq_none (by omega), List.getElem?_eq_none (by omega)]

/-! ### Taking -/
/-- The words behind a taking. -/
def tkw (ws : List Int) (at' m k : Int) (i : Int) : Int := if i = at' then 8 * m + k else if at' < i ∧ i < at' + m then 0 else if i = at' + m ∧ m < gw ws at' / 8 then 8 * (gw ws at' / 8 - m) else gw ws i
/-- How many words are taken. -/
def tkn (sz n : Int) : Int := if sz - n < 2 then sz else n
structure Tkn (ws : List Int) (k n at' : Int) (ws' : List Int) : Prop where
  blk : at' ∈ bl ws
  free : gw ws at' % 8 = 0
  fits : n ≤ gw ws at' / 8
  first : ∀ p, p ∈ bl ws → p < at' → ¬ (gw ws p % 8 = 0 ∧ n ≤ gw ws p / 8)
  len : ws'.length = ws.length
  words : ∀ i : Int, 0 ≤ i → i < ws.length → gw ws' i = tkw ws at' (tkn (gw ws at' / 8) n) k i
section
variable {ws ws' : List Int} {k n at' : Int}
theorem Tkn.size (h : Tkn ws k n at' ws') (hn : 2 ≤ n) : n ≤ tkn (gw ws at' / 8) n ∧ tkn (gw ws at' / 8) n ≤ gw ws at' / 8 ∧ (tkn (gw ws at' / 8) n < gw ws at' / 8 → 2 ≤ gw ws at' / 8 - tkn (gw ws at' / 8) n) := by
  have := h.fits
  unfold tkn
  split <;> omega
theorem Tkn.bl (h : Tkn ws k n at' ws') (hn : 2 ≤ n) (hk : 1 ≤ k ∧ k ≤ 5) : Slb ws' ∧ at' ∈ Sx.bl ws' ∧ gw ws' at' / 8 = tkn (gw ws at' / 8) n ∧ gw ws' at' % 8 = k := by
  obtain ⟨s1, s2, s3⟩ := h.size hn
  obtain ⟨hw, h0, h1, hb⟩ := bl_mem h.blk
  have b2 := hb.2.2.1
  obtain ⟨A, B, e, hA, _, hB⟩ := (bl_seg hw).split h.blk
  generalize hm : tkn (gw ws at' / 8) n = m at *
  have hwd := h.words
  have hat : gw ws' at' = 8 * m + k := by rw [hwd at' h0 h1, hm]; simp [tkw]
  have hA' : Seg ws' 0 at' A := hA.congr h.len fun x hx => by
    have := hA.mem hx
    rw [hwd x (by omega) (by omega), hm]
    unfold tkw
    rw [if_neg (by omega), if_neg (by omega), if_neg (by omega)]
  have hB' : Seg ws' (at' + gw ws at' / 8) ws.length B := hB.congr h.len fun x hx => by
    have := hB.mem hx
    have hx2 := this.2.2.1.2.1
    rw [hwd x (by omega) (by omega), hm]
    unfold tkw
    rw [if_neg (by omega), if_neg (by omega), if_neg (by omega)]
  have hblk : Blk ws' at' := ⟨h0, by omega, by rw [h.len]; omega, by omega⟩
  have hmid : Seg ws' at' (at' + gw ws at' / 8) (at' :: if m < gw ws at' / 8 then [at' + m] else []) := by
    refine .cons hblk ?_
    rw [show at' + gw ws' at' / 8 = at' + m by omega]
    split
    · rename_i e2
      have h3 := s3 e2
      have hat2 : gw ws' (at' + m) = 8 * (gw ws at' / 8 - m) := by
        rw [hwd _ (by omega) (by omega), hm]
        unfold tkw
        rw [if_neg (by omega), if_neg (by omega), if_pos ⟨rfl, e2⟩]
      have hone := Seg.one (ws := ws') (p := at' + m) ⟨by omega, by omega, by rw [h.len]; omega, by omega⟩
      rw [show at' + m + gw ws' (at' + m) / 8 = at' + gw ws at' / 8 by omega] at hone
      exact hone
    · rw [show at' + m = at' + gw ws at' / 8 by omega]
      exact .nil _
  have hs := (hA'.append hmid).append hB'
  rw [← h.len] at hs
  have hl : ws'.length ≤ 2000 := by have := hw.1; have := h.len; omega
  exact ⟨⟨hl, _, hs⟩, by rw [bl_eq hl hs]; simp, by omega, by omega⟩
theorem p_s_l2Take (hw : Slb ws) (hn : 2 ≤ n) (hn2 : n ≤ 1000000) (hk : 0 ≤ k ∧ k ≤ 100) {K : List Int → Int → Bool → Prop} (h1 : (∀ p, p ∈ bl ws → ¬ (gw ws p % 8 = 0 ∧ n ≤ gw ws p / 8)) → K ws 0 false) (h2 : ∀ ws' at', Tkn ws k n at' ws' → K ws' at' true) : m_s_l2Take ws k n K := by
  have hl := hw.1
  have hS := bl_seg hw
  refine ⟨?_⟩
  unfold b_s_l2Take
  simp only [gwE]
  refine loopP_intro (fun x => x.1 = ws ∧ x.2.1 = n ∧ 0 ≤ x.2.2.1 ∧ x.2.2.1 ≤ ws.length ∧ (∃ M, Seg ws 0 x.2.2.1 M) ∧ ∀ p, p ∈ bl ws → p < x.2.2.1 → ¬ (gw ws p % 8 = 0 ∧ n ≤ gw ws p / 8)) (fun x => (ws.length - x.2.2.1).toNat) ⟨rfl, rfl, Int.le_refl _, by simp, ⟨_, .nil _⟩, fun p hp h => by have := (bl_mem hp).2.1; dsimp only at h; omega⟩ ?_
  rintro ⟨d, m, x, j, _⟩ ⟨g0, g1, g2, g3, ⟨M, g4⟩, g5⟩
  dsimp only at *
  subst g0 g1
  refine ⟨fun e1 => ?_, fun e1 => ?_⟩
  · obtain ⟨M', e, kk⟩ := g4.det hS g3
    obtain ⟨M2, e2, hb, k2⟩ := kk.head e1
    have hx : x ∈ bl d := by rw [e, e2]; simp
    have z1 := hb.2.1
    have z2 := hb.2.2.1
    have next : ¬ (gw d x % 8 = 0 ∧ m ≤ gw d x / 8) → (∃ M, Seg d 0 (x + gw d x / 8) M) ∧ ∀ p, p ∈ bl d → p < x + gw d x / 8 → ¬ (gw d p % 8 = 0 ∧ m ≤ gw d p / 8) := fun hn' => by
      refine ⟨⟨_, g4.snoc hb⟩, fun p hp hlt => ?_⟩
      rw [e, e2] at hp
      rcases List.mem_append.1 hp with hp' | hp'
      · exact g5 p (by rw [e]; exact List.mem_append_left _ hp') (g4.mem hp').2.1
      · rcases List.mem_cons.1 hp' with rfl | hp'
        · exact hn'
        · have := (k2.mem hp').1; omega
    refine ⟨⟨g2, e1⟩, p_s_l2Size ⟨⟨g2, e1⟩, p_s_l2Kind ⟨fun e3 => ⟨fun e4 => ⟨⟨g2, e1⟩, p_s_l2Size ⟨i64ok_of (by omega) (by omega), ⟨rfl, rfl, by omega, by omega, next (fun hh => by omega)⟩, by omega⟩⟩, fun e4 => ⟨i64ok_of (by omega) (by omega), fun e5 => ?_, fun e5 => ?_⟩⟩, fun e3 => ⟨⟨g2, e1⟩, p_s_l2Size ⟨i64ok_of (by omega) (by omega), ⟨rfl, rfl, by omega, by omega, next (fun hh => e3 hh.1)⟩, by omega⟩⟩⟩⟩⟩
    · have hm : tkn (gw d x / 8) m = gw d x / 8 := if_pos e5
      refine ⟨i64ok_of (by omega) (by omega), i64ok_of (by omega) (by omega), ⟨g2, e1⟩, ?_⟩
      refine loopP_intro (fun y => 1 ≤ y.2.2.1 ∧ y.2.2.1 ≤ gw d x / 8 ∧ y.1.length = d.length ∧ ∀ i : Int, 0 ≤ i → i < d.length → gw y.1 i = if i = x then 8 * (gw d x / 8) + k else if x < i ∧ i < x + y.2.2.1 then 0 else gw d i) (fun y => (gw d x / 8 - y.2.2.1).toNat) ⟨Int.le_refl _, by dsimp only; omega, by simp, fun i i0 i1 => ?_⟩ ?_
      · dsimp only
        rw [gw_set g2 e1 i0]
        split
        · rfl
        · rw [if_neg (by omega)]
      · rintro ⟨c, j', y, _⟩ ⟨k0, k1, k2', k3⟩
        dsimp only at *
        refine ⟨fun e6 => ⟨i64ok_of (by omega) (by omega), ⟨by omega, by omega⟩, i64ok_of (by omega) (by omega), ⟨by omega, by omega, by simp [k2'], fun i i0 i1 => ?_⟩, by omega⟩, fun e6 => h2 c x ⟨hx, by omega, by omega, fun p hp hlt => g5 p hp hlt, k2', fun i i0 i1 => ?_⟩⟩
        · rw [gw_set (by omega) (by omega) i0, k3 i i0 i1]
          by_cases q1 : i = x + y
          · rw [if_pos q1, if_neg (by omega), if_pos (by omega)]
          · rw [if_neg q1]
            by_cases q2 : i = x
            · rw [if_pos q2, if_pos q2]
            · rw [if_neg q2, if_neg q2]
              by_cases q3 : x < i ∧ i < x + y
              · rw [if_pos q3, if_pos (by omega)]
              · rw [if_neg q3, if_neg (by omega)]
        · rw [k3 i i0 i1, hm]
          unfold tkw
          have : y = gw d x / 8 := by omega
          rw [this]
          by_cases q2 : i = x
          · rw [if_pos q2, if_pos q2]
          · rw [if_neg q2, if_neg q2]
            by_cases q3 : x < i ∧ i < x + gw d x / 8
            · rw [if_pos q3, if_pos q3]
            · rw [if_neg q3, if_neg q3, if_neg (by omega)]
    · have hm : tkn (gw d x / 8) m = m := if_neg e5
      refine ⟨i64ok_of (by omega) (by omega), i64ok_of (by omega) (by omega), ⟨by omega, by omega⟩, i64ok_of (by omega) (by omega), i64ok_of (by omega) (by omega), ⟨g2, by simp only [List.length_set]; omega⟩, ?_⟩
      refine loopP_intro (fun y => 1 ≤ y.2.2.1 ∧ y.2.2.1 ≤ m ∧ y.1.length = d.length ∧ ∀ i : Int, 0 ≤ i → i < d.length → gw y.1 i = if i = x then 8 * m + k else if x < i ∧ i < x + y.2.2.1 then 0 else if i = x + m then 8 * (gw d x / 8 - m) else gw d i) (fun y => (m - y.2.2.1).toNat) ⟨Int.le_refl _, by dsimp only; omega, by simp, fun i i0 i1 => ?_⟩ ?_
      · dsimp only
        rw [gw_set g2 (by simp only [List.length_set]; omega) i0, gw_set (by omega) (by omega) i0]
        by_cases q2 : i = x
        · rw [if_pos q2, if_pos q2]
        · rw [if_neg q2, if_neg q2, if_neg (show ¬ (x < i ∧ i < x + 1) by omega)]
      · rintro ⟨c, j', y, _⟩ ⟨k0, k1, k2', k3⟩
        dsimp only at *
        refine ⟨fun e6 => ⟨i64ok_of (by omega) (by omega), ⟨by omega, by omega⟩, i64ok_of (by omega) (by omega), ⟨by omega, by omega, by simp [k2'], fun i i0 i1 => ?_⟩, by omega⟩, fun e6 => h2 c x ⟨hx, by omega, by omega, fun p hp hlt => g5 p hp hlt, k2', fun i i0 i1 => ?_⟩⟩
        · rw [gw_set (by omega) (by omega) i0, k3 i i0 i1]
          by_cases q1 : i = x + y
          · rw [if_pos q1, if_neg (by omega), if_pos (by omega)]
          · rw [if_neg q1]
            by_cases q2 : i = x
            · rw [if_pos q2, if_pos q2]
            · rw [if_neg q2, if_neg q2]
              by_cases q3 : x < i ∧ i < x + y
              · rw [if_pos q3, if_pos (by omega)]
              · rw [if_neg q3, if_neg (show ¬ (x < i ∧ i < x + (y + 1)) by omega)]
        · rw [k3 i i0 i1, hm]
          unfold tkw
          have : y = m := by omega
          rw [this]
          by_cases q2 : i = x
          · rw [if_pos q2, if_pos q2]
          · rw [if_neg q2, if_neg q2]
            by_cases q3 : x < i ∧ i < x + m
            · rw [if_pos q3, if_pos q3]
            · rw [if_neg q3, if_neg q3]
              by_cases q4 : i = x + m
              · rw [if_pos q4, if_pos ⟨q4, by omega⟩]
              · rw [if_neg q4, if_neg (fun hh => q4 hh.1)]
  · have : x = d.length := by omega
    subst this
    exact h1 fun p hp => g5 p hp (bl_mem hp).2.2.1
end
end Go.Proofs.YthjmmofafpahhaaGreat.Sx
