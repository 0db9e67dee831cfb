/- Plain laws: heaps and roots of the program; the places of values; what is met, in order. -/
import Derived.Test.YthjmmofafpahhaaGreatPuD
namespace Go.Proofs.YthjmmofafpahhaaGreat.Sx
open Go
set_option linter.unusedVariables false
set_option linter.unusedSimpArgs false

section
variable {ws : List Int}
theorem p_i_anyShape {all : List Int} (ha : Kds ws all) {l : List Int} (hsub : ∀ p, p ∈ l → p ∈ bl ws) (hll : l.length ≤ 1000000) {K : List Int → List Int → Bool → Prop} (h : K ws all (tf (∃ p, p ∈ l ∧ ¬ Shp ws p))) : m_g_slices_ContainsFunc___int_int__i_HeapOk_1 l ws all K := by
  refine ⟨?_⟩
  unfold b_g_slices_ContainsFunc___int_int__i_HeapOk_1
  refine ⟨?_⟩
  unfold b_g_slices_IndexFunc___int_int__i_HeapOk_1
  simp only [gwE]
  refine loopP_intro (fun x => 0 ≤ x.1 ∧ ∀ (t : Nat) (v : Int), (t : Int) < x.1 → l[t]? = some v → Shp ws v) (fun x => (l.length - x.1).toNat) ⟨Int.le_refl _, fun t p h1 _ => by dsimp only at h1; omega⟩ ?_
  rintro ⟨x, _⟩ ⟨h0, h2⟩
  dsimp only at *
  refine ⟨fun h3 => ⟨⟨h0, h3⟩, ⟨?_⟩⟩, fun h3 => ?_⟩
  · unfold b_i_HeapOk_1
    have hm := hsub _ (gw_mem h0 h3)
    refine p_i_shapeOk ha (bl_mem hm).1 hm ?_
    simp only [tf_eq, tf_false]
    refine ⟨fun h4 => ?_, fun h4 => ⟨i64ok_of (by omega) (by omega), ⟨trivial, trivial⟩, ⟨by omega, fun t p g1 g2 => ?_⟩, by omega⟩⟩
    · rw [tf_of h0]
      exact Eq.mp (congrArg (K ws all) (tf_of ⟨_, gw_mem h0 h3, h4⟩)) h
    · by_cases e : (t : Int) = x
      · rw [show t = x.toNat by omega, get_gw h0 h3] at g2
        cases g2
        exact Classical.not_not.1 h4
      · exact h2 t p (by omega) g2
  · rw [tf_not (show ¬ (0 : Int) ≤ -1 by omega)]
    refine Eq.mp (congrArg (K ws all) (tf_not ?_)) h
    rintro ⟨v, hv, hn⟩
    obtain ⟨t, ht⟩ := List.getElem?_of_mem hv
    have := (List.getElem?_eq_some_iff.1 ht).1
    exact hn (h2 t v (by omega) ht)
theorem p_i_HeapOk (hl : ws.length ≤ 1000000) {K : Bool → Prop} (h : K (tf (Hok ws))) : m_i_HeapOk ws K := by
  refine ⟨?_⟩
  unfold b_i_HeapOk
  refine p_i_places hl ?_
  rw [nn_eq, tf_eq]
  refine ⟨fun h1 => ?_, fun h1 => p_i_kinds hl fun all ha => p_i_anyShape ha (fun p hp => hp) (by have := bl_len' (ws := ws); omega) ?_⟩
  · rwa [tf_not (fun hh => h1 hh.1)] at h
  · rw [tf_eq]
    refine Eq.mp (congrArg K (tf_congr ?_)) h
    constructor
    · rintro ⟨_, hh⟩ ⟨p, hp, hn⟩
      exact hn (hh p hp)
    · intro hh
      exact ⟨h1, fun p hp => Classical.byContradiction fun hn => hh ⟨p, hp, hn⟩⟩
theorem lead5 {v : Int} : Lead ws v 5 ↔ Pla ws v ∨ Rfr ws 7 5 v := by
  constructor
  · intro h
    by_cases e : v % 8 = 7
    · exact .inr ⟨e, h.2.2.2.2 e⟩
    · exact .inl ⟨e, h.1, h.2.1, h.2.2.1, h.2.2.2.1, fun e' => absurd e' e⟩
  · rintro (h | h)
    · exact ⟨h.2.1, h.2.2.1, h.2.2.2.1, h.2.2.2.2.1, fun e' => absurd e' h.1⟩
    · exact (lead_ref h.1 (.inr (.inr (.inr ⟨rfl, rfl⟩)))).2 h.2
theorem p_i_rootOk {all : List Int} (ha : Kds ws all) (hw : Slb ws) {v : Int} {K : Bool → Prop} (h : K (tf (Lead ws v 5))) : m_i_rootOk all v K := by
  have hl : ws.length ≤ 1000000 := by have := hw.1; omega
  refine ⟨?_⟩
  unfold b_i_rootOk
  refine p_i_plainOk ha hw ?_
  rw [tf_eq, tf_false]
  rw [tf_congr lead5] at h
  refine ⟨fun e => p_i_leadsTo ha hl (by omega) ?_, fun e => ?_⟩
  · exact Eq.mp (congrArg K (tf_congr ⟨fun hh => hh.resolve_left e, .inr⟩)) h
  · exact Eq.mp (congrArg K (tf_of (.inl e))) h
theorem p_i_anyRoot {all : List Int} (ha : Kds ws all) (hw : Slb ws) {l : List Int} (hll : l.length ≤ 1000000) {K : List Int → Bool → Prop} (h : K all (tf (∃ v, v ∈ l ∧ ¬ Lead ws v 5))) : m_g_slices_ContainsFunc___int_int__i_RootsOk_1 l all K := by
  refine ⟨?_⟩
  unfold b_g_slices_ContainsFunc___int_int__i_RootsOk_1
  refine ⟨?_⟩
  unfold b_g_slices_IndexFunc___int_int__i_RootsOk_1
  simp only [gwE]
  refine loopP_intro (fun x => 0 ≤ x.1 ∧ ∀ (t : Nat) (v : Int), (t : Int) < x.1 → l[t]? = some v → Lead ws v 5) (fun x => (l.length - x.1).toNat) ⟨Int.le_refl _, fun t p h1 _ => by dsimp only at h1; omega⟩ ?_
  rintro ⟨x, _⟩ ⟨h0, h2⟩
  dsimp only at *
  refine ⟨fun h3 => ⟨⟨h0, h3⟩, ⟨?_⟩⟩, fun h3 => ?_⟩
  · unfold b_i_RootsOk_1
    refine p_i_rootOk ha hw ?_
    simp only [tf_eq, tf_false]
    refine ⟨fun h4 => ?_, fun h4 => ⟨i64ok_of (by omega) (by omega), trivial, ⟨by omega, fun t p g1 g2 => ?_⟩, by omega⟩⟩
    · rw [tf_of h0]
      exact Eq.mp (congrArg (K all) (tf_of ⟨_, gw_mem h0 h3, h4⟩)) h
    · by_cases e : (t : Int) = x
      · rw [show t = x.toNat by omega, get_gw h0 h3] at g2
        cases g2
        exact Classical.not_not.1 h4
      · exact h2 t p (by omega) g2
  · rw [tf_not (show ¬ (0 : Int) ≤ -1 by omega)]
    refine Eq.mp (congrArg (K all) (tf_not ?_)) h
    rintro ⟨v, hv, hn⟩
    obtain ⟨t, ht⟩ := List.getElem?_of_mem hv
    have := (List.getElem?_eq_some_iff.1 ht).1
    exact hn (h2 t v (by omega) ht)
theorem p_i_RootsOk (hl : ws.length ≤ 1000000) {roots : List Int} (hr : roots.length ≤ 1000000) {K : Bool → Prop} (h : K (tf (Rok ws roots))) : m_i_RootsOk ws roots K := by
  refine ⟨?_⟩
  unfold b_i_RootsOk
  refine p_i_HeapOk hl ?_
  rw [nn_eq, tf_eq]
  refine ⟨fun h1 => ?_, fun h1 => p_i_kinds hl fun all ha => p_i_anyRoot ha h1.1 hr ?_⟩
  · rwa [tf_not (fun hh => h1 hh.1)] at h
  · rw [tf_eq]
    refine Eq.mp (congrArg K (tf_congr ?_)) h
    constructor
    · rintro ⟨_, hh⟩ ⟨p, hp, hn⟩
      exact hn (hh p hp)
    · intro hh
      exact ⟨h1, fun p hp => Classical.byContradiction fun hn => hh ⟨p, hp, hn⟩⟩
end

/-! ### The places of values -/
/-- Whole numbers from p on, below q. -/
def rng (p q : Int) : List Int := (List.range (q - p).toNat).map fun (i : Nat) => p + i
theorem rng_nil {p q : Int} (h : q ≤ p) : rng p q = [] := by
  have : (q - p).toNat = 0 := by omega
  simp [rng, this]
theorem rng_snoc {p q : Int} (h : p ≤ q) : rng p (q + 1) = rng p q ++ [q] := by
  have e : (q + 1 - p).toNat = (q - p).toNat + 1 := by omega
  unfold rng
  rw [e, List.range_succ, List.map_append]
  simp only [List.map_cons, List.map_nil]
  congr 2
  omega
theorem rng_mem {p q x : Int} : x ∈ rng p q ↔ p ≤ x ∧ x < q := by
  unfold rng
  simp only [List.mem_map, List.mem_range]
  constructor
  · rintro ⟨i, h1, rfl⟩; omega
  · rintro ⟨h1, h2⟩; exact ⟨(x - p).toNat, by omega, by omega⟩
theorem rng_len {p q : Int} (h : p ≤ q) : ((rng p q).length : Int) = q - p := by
  simp [rng]
  omega
/-- The places of the values of the block at a place. -/
def slo (ws : List Int) (p : Int) : List Int :=
  if gw ws p % 8 = 2 then rng (p + 1) (min (p + 3) (p + gw ws p / 8))
  else if gw ws p % 8 = 3 then rng (p + 1) (min (p + 4) (p + gw ws p / 8))
  else if gw ws p % 8 = 4 then rng (p + 2) (min (p + 3) (p + gw ws p / 8))
  else if gw ws p % 8 = 5 then rng (p + 1) (p + gw ws p / 8) else []
theorem slo_mem {ws : List Int} {p x : Int} (hb : Blk ws p) (h : x ∈ slo ws p) : p < x ∧ x < p + gw ws p / 8 := by
  unfold slo at h
  split at h
  · rw [rng_mem] at h; omega
  · split at h
    · rw [rng_mem] at h; omega
    · split at h
      · rw [rng_mem] at h; omega
      · split at h
        · rw [rng_mem] at h; omega
        · cases h
theorem slo_len {ws : List Int} {p : Int} (hb : Blk ws p) (hl : ws.length ≤ 1000000) : (slo ws p).length ≤ 1000000 := by
  obtain ⟨h0, h1, h2, _⟩ := hb
  have key : ∀ a b : Int, a ≥ p → b ≤ p + gw ws p / 8 → (rng a b).length ≤ 1000000 := fun a b ha hb => by
    by_cases h : a ≤ b
    · have := rng_len h; omega
    · rw [rng_nil (by omega)]; simp
  unfold slo
  split
  · exact key _ _ (by omega) (by omega)
  · split
    · exact key _ _ (by omega) (by omega)
    · split
      · exact key _ _ (by omega) (by omega)
      · split
        · exact key _ _ (by omega) (by omega)
        · simp
section
variable {ws : List Int}
theorem some_loop {a m n : Int} (h0 : 0 ≤ a) (ha : a ≤ 1000000) (hm : m ≤ 1000000) {K : List Int → Prop} (h : K (rng a (a + min m n))) : m_s_l3Some a m n K := by
  refine ⟨?_⟩
  unfold b_s_l3Some
  refine loopP_intro (fun x => 0 ≤ x.2.1 ∧ (x.2.1 ≤ m ∨ x.2.1 = 0) ∧ (x.2.1 ≤ n ∨ x.2.1 = 0) ∧ x.1 = rng a (a + x.2.1)) (fun x => (m - x.2.1).toNat) ⟨Int.le_refl _, .inr rfl, .inr rfl, by dsimp only; rw [rng_nil (by omega)]⟩ ?_
  rintro ⟨l, x, _⟩ ⟨g0, g1, g2, g3⟩
  dsimp only at *
  have fin : ¬ x < m ∨ ¬ x < n → K l := fun hx => by
    rw [g3]
    by_cases e : 0 ≤ min m n
    · have : x = min m n := by omega
      rw [this]
      exact h
    · have : x = 0 := by omega
      subst this
      rw [rng_nil (by omega)]
      rwa [rng_nil (by omega)] at h
  refine ⟨fun e1 => ⟨fun e2 => ⟨i64ok_of (by omega) (by omega), ?_, i64ok_of (by omega) (by omega), ⟨by omega, .inl (by omega), .inl (by omega), ?_⟩, by omega⟩, fun e2 => fin (.inr e2)⟩, fun e1 => fin (.inl e1)⟩
  · have := rng_len (p := a) (q := a + x) (by omega)
    rw [← g3] at this
    simp only [List.length_cons, List.length_nil]
    omega
  · rw [g3, show a + (x + 1) = a + x + 1 by omega, rng_snoc (by omega)]
theorem p_s_l3Slots {p : Int} (hb : Blk ws p) (hl : ws.length ≤ 1000000) {K : List Int → Prop} (h : K (slo ws p)) : m_s_l3Slots ws p K := by
  obtain ⟨h0, b1, b2, b3⟩ := hb
  unfold slo at h
  refine ⟨?_⟩
  unfold b_s_l3Slots
  simp only [gwE]
  refine ⟨⟨h0, by omega⟩, p_s_l2Size ⟨⟨h0, by omega⟩, p_s_l2Kind ⟨fun k2 => ⟨i64ok_of (by omega) (by omega), i64ok_of (by omega) (by omega), some_loop (by omega) (by omega) (by omega) ?_⟩, fun k2 => ⟨fun k3 => ⟨i64ok_of (by omega) (by omega), i64ok_of (by omega) (by omega), some_loop (by omega) (by omega) (by omega) ?_⟩, fun k3 => ⟨fun k4 => ⟨i64ok_of (by omega) (by omega), i64ok_of (by omega) (by omega), some_loop (by omega) (by omega) (by omega) ?_⟩, fun k4 => ⟨fun k5 => ⟨i64ok_of (by omega) (by omega), i64ok_of (by omega) (by omega), i64ok_of (by omega) (by omega), some_loop (by omega) (by omega) (by omega) ?_⟩, fun k5 => ?_⟩⟩⟩⟩⟩⟩
  · rw [if_pos k2] at h
    rwa [show p + 1 + min 2 (gw ws p / 8 - 1) = min (p + 3) (p + gw ws p / 8) by omega]
  · rw [if_neg k2, if_pos k3] at h
    rwa [show p + 1 + min 3 (gw ws p / 8 - 1) = min (p + 4) (p + gw ws p / 8) by omega]
  · rw [if_neg k2, if_neg k3, if_pos k4] at h
    rwa [show p + 2 + min 1 (gw ws p / 8 - 2) = min (p + 3) (p + gw ws p / 8) by omega]
  · rw [if_neg k2, if_neg k3, if_neg k4, if_pos k5] at h
    rwa [show p + 1 + min (gw ws p / 8 - 1) (gw ws p / 8 - 1) = p + gw ws p / 8 by omega]
  · rwa [if_neg k2, if_neg k3, if_neg k4, if_neg k5] at h
theorem slots_loop {a b c : Int} (h0 : 0 ≤ a) (ha : a ≤ 1000000) (hm : b ≤ 1000000) (hc : i64ok c) {K : List Int → Prop} (h : K (rng a b)) :
    LoopP (fun (x1 : List Int × Int × PUnit) (k1 : List Int × Int × PUnit → Prop) => i64ok c ∧ (x1.2.1 < b → List.length x1.1 + List.length [x1.2.1] ≤ 1000000000000 ∧ i64ok (x1.2.1 + 1) ∧ k1 (x1.1 ++ [x1.2.1], x1.2.1 + 1, ())) ∧ (¬ x1.2.1 < b → K x1.1)) ([], a, ()) := by
  refine loopP_intro (fun x => a ≤ x.2.1 ∧ (x.2.1 ≤ b ∨ x.2.1 = a) ∧ x.1 = rng a x.2.1) (fun x => (b - x.2.1).toNat) ⟨Int.le_refl _, .inr rfl, by dsimp only; rw [rng_nil (by omega)]⟩ ?_
  rintro ⟨l, x, _⟩ ⟨g0, g1, g3⟩
  dsimp only at *
  refine ⟨hc, fun e1 => ⟨?_, i64ok_of (by omega) (by omega), ⟨by omega, .inl (by omega), ?_⟩, by omega⟩, fun e1 => ?_⟩
  · have := rng_len (p := a) (q := x) (by omega)
    rw [← g3] at this
    simp only [List.length_cons, List.length_nil]
    omega
  · rw [g3, rng_snoc g0]
  · rw [g3]
    by_cases e : a ≤ b
    · rwa [show x = b by omega]
    · rw [rng_nil (by omega)]
      rwa [rng_nil (by omega)] at h
theorem p_i_slots {p : Int} (hb : Blk ws p) (hl : ws.length ≤ 1000000) {K : List Int → Prop} (h : K (slo ws p)) : m_i_slots ws p K := by
  obtain ⟨h0, b1, b2, b3⟩ := hb
  unfold slo at h
  refine ⟨?_⟩
  unfold b_i_slots
  simp only [gwE]
  have ok : ∀ n, 0 ≤ n → n ≤ 2000000 → i64ok n := fun n h1 h2 => i64ok_of (by omega) (by omega)
  refine ⟨⟨h0, by omega⟩, ok _ (by omega) (by omega), ok _ (by omega) (by omega), ⟨h0, by omega⟩, fun k2 => ⟨ok _ (by omega) (by omega), slots_loop (by omega) (by omega) (by omega) (ok _ (by omega) (by omega)) ?_⟩, fun k2 => ⟨fun k3 => ⟨ok _ (by omega) (by omega), slots_loop (by omega) (by omega) (by omega) (ok _ (by omega) (by omega)) ?_⟩, fun k3 => ⟨fun k4 => ⟨ok _ (by omega) (by omega), ok _ (by omega) (by omega), slots_loop (by omega) (by omega) (by omega) (ok _ (by omega) (by omega)) ?_⟩, fun k4 => ⟨fun k5 => ⟨ok _ (by omega) (by omega), slots_loop (by omega) (by omega) (by omega) (ok _ (by omega) (by omega)) ?_⟩, fun k5 => slots_loop (by omega) (by omega) (by omega) (ok _ (by omega) (by omega)) ?_⟩⟩⟩⟩
  · rwa [if_pos k2] at h
  · rwa [if_neg k2, if_pos k3] at h
  · rwa [if_neg k2, if_neg k3, if_pos k4] at h
  · rw [if_neg k2, if_neg k3, if_neg k4, if_pos k5] at h
    rwa [show min (p + gw ws p / 8) (p + gw ws p / 8) = p + gw ws p / 8 by omega]
  · rw [if_neg k2, if_neg k3, if_neg k4, if_neg k5] at h
    rwa [rng_nil (by omega)]
end
end Go.Proofs.YthjmmofafpahhaaGreat.Sx
