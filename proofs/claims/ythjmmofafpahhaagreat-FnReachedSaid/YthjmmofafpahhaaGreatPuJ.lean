/- Plain laws: a marker that is right. -/
import Derived.Test.YthjmmofafpahhaaGreatPuI
namespace Go.Proofs.YthjmmofafpahhaaGreat.Sx
open Go
set_option linter.unusedVariables false
set_option linter.unusedSimpArgs false

/-- What is black ahead of a place, and what black blocks lead to. -/
def Swp (ws bk : List Int) (at' : Int) : Prop := (∀ p, p ∈ bl ws → p < at' → gw ws p % 8 ≠ 0 → p ∈ bk) ∧ ∀ p, p ∈ bk → Shp ws p ∧ ∀ v, v ∈ vals ws p → 4 ≤ v % 8 → v / 8 ∈ bk
/-- A marker that is right. -/
def MkOk (ws : List Int) (ph : Int) (gr bk : List Int) (at' : Int) : Prop :=
  Slb ws ∧ Mem ws gr bk ∧ ((ph = 0 ∧ Hok ws ∧ at' = 0 ∧ gr = [] ∧ bk = []) ∨ (ph = 1 ∧ Hok ws ∧ at' = 0) ∨ (ph = 2 ∧ gr = [] ∧ (at' = ws.length ∨ at' ∈ bl ws) ∧ Swp ws bk at'))
section
variable {ws : List Int}
theorem p_black {ph at' x : Int} {gr bk : List Int} (hs : bk.Pairwise (· ≤ ·)) (hb : bk.length ≤ 1000000) {K : Bool → Prop} (h : K (tf (x ∈ bk))) : m_i_isBlack ph gr bk at' x K := by
  refine ⟨?_⟩
  unfold b_i_isBlack
  exact p_search hs hb h
theorem p_hasPlace {v : Int} {K : Bool → Prop} (h : K (tf (4 ≤ v % 8))) : m_i_hasPlace v K := by
  refine ⟨?_⟩
  unfold b_i_hasPlace
  exact p_i_Kind h
theorem sweep_rest {all : List Int} (ha : Kds ws all) (hw : Slb ws) {ph at' : Int} {gr bk : List Int} (hm : Mem ws gr bk) (hb : bk.length ≤ 1000000) (h0 : 0 ≤ at') (h1 : at' ≤ ws.length) {K : Bool → Prop} (h : K (tf (Swp ws bk at'))) :
    LoopP (fun (x2 : Int × PUnit) (k2 : Int × PUnit → Prop) => (x2.1 < ((part all 0 at').length : Int) → ((0 : Int) ≤ x2.1 ∧ x2.1 < ((part all 0 at').length : Int)) ∧ ((0 : Int) < gw (part all 0 at') x2.1 → m_i_isBlack ph gr bk at' x2.1 fun (r5 : Bool) => (¬r5 = true → K false) ∧ (¬¬r5 = true → i64ok (x2.1 + (1 : Int)) ∧ k2 (x2.1 + (1 : Int), ()))) ∧ (¬(0 : Int) < gw (part all 0 at') x2.1 → i64ok (x2.1 + (1 : Int)) ∧ k2 (x2.1 + (1 : Int), ()))) ∧ (¬x2.1 < ((part all 0 at').length : Int) →
      LoopP (fun (x4 : Int × PUnit) (k4 : Int × PUnit → Prop) => (x4.1 < (bk.length : Int) → ((0 : Int) ≤ x4.1 ∧ x4.1 < (bk.length : Int)) ∧ m_i_shapeOk ws all (gw bk x4.1) fun (r6 : Bool) => (¬r6 = true → K false) ∧ (¬¬r6 = true → m_i_slots ws (gw bk x4.1) fun (r8 : List Int) =>
        LoopP (fun (x9 : Int × PUnit) (k9 : Int × PUnit → Prop) => (x9.1 < (r8.length : Int) → ((0 : Int) ≤ x9.1 ∧ x9.1 < (r8.length : Int)) ∧ ((0 : Int) ≤ gw r8 x9.1 ∧ gw r8 x9.1 < (ws.length : Int)) ∧ m_i_hasPlace (gw ws (gw r8 x9.1)) fun (r11 : Bool) => (r11 = true → m_i_Num (gw ws (gw r8 x9.1)) fun (r13 : Int) => m_i_isBlack ph gr bk at' r13 fun (r14 : Bool) => (¬r14 = true → K false) ∧ (¬¬r14 = true → i64ok (x9.1 + (1 : Int)) ∧ k9 (x9.1 + (1 : Int), ()))) ∧ (r11 = false → i64ok (x9.1 + (1 : Int)) ∧ k9 (x9.1 + (1 : Int), ()))) ∧ (¬x9.1 < (r8.length : Int) → i64ok (x4.1 + (1 : Int)) ∧ k4 (x4.1 + (1 : Int), ()))) ((0 : Int), ()))) ∧ (¬x4.1 < (bk.length : Int) → K true)) ((0 : Int), ()))) ((0 : Int), ()) := by
  obtain ⟨a1, a2⟩ := id ha
  have hl : ws.length ≤ 1000000 := by have := hw.1; omega
  have hpl : ((part all 0 at').length : Int) = at' := by rw [part_len (by omega) h0 (by omega)]; omega
  have hbm : ∀ p, p ∈ bk → p ∈ bl ws := fun p hp => (hm.1 p (List.mem_append_right _ hp)).1
  have hbs := hm.2.2
  rw [hpl]
  refine loopP_intro (fun x => 0 ≤ x.1 ∧ ∀ p, p ∈ bl ws → p < x.1 → gw ws p % 8 ≠ 0 → p ∈ bk) (fun x => (at' - x.1).toNat) ⟨Int.le_refl _, fun p hp h => by have := (bl_mem hp).2.1; dsimp only at h; omega⟩ ?_
  rintro ⟨x, _⟩ ⟨g0, g1⟩
  dsimp only at *
  refine ⟨fun e => ?_, fun e => ?_⟩
  · rw [gw_part (by omega) g0 (by omega) (by omega), Int.zero_add, a2 _ g0 (by omega)]
    refine ⟨⟨g0, e⟩, fun e2 => p_black hbs hb ?_, fun e2 => ⟨i64ok_of (by omega) (by omega), ⟨by omega, fun p hp hlt hk => ?_⟩, by omega⟩⟩
    · rw [nn_eq, tf_eq]
      have hk := kind_pos.1 (show ¬ kindAt ws x ≤ 0 by omega)
      refine ⟨fun e3 => ?_, fun e3 => ⟨i64ok_of (by omega) (by omega), ⟨by omega, fun p hp hlt hk => ?_⟩, by omega⟩⟩
      · exact Eq.mp (congrArg K (tf_not fun hh => e3 (hh.1 x hk.1 e hk.2))) h
      · by_cases e4 : p = x
        · subst e4; exact e3
        · exact g1 p hp (by omega) hk
    · by_cases e4 : p = x
      · subst e4; exact absurd (kind_pos.2 ⟨hp, hk⟩) (by omega)
      · exact g1 p hp (by omega) hk
  · have hA : ∀ p, p ∈ bl ws → p < at' → gw ws p % 8 ≠ 0 → p ∈ bk := fun p hp hlt hk => g1 p hp (by omega) hk
    refine loopP_intro (fun y => 0 ≤ y.1 ∧ ∀ (t : Nat) (p : Int), (t : Int) < y.1 → bk[t]? = some p → Shp ws p ∧ ∀ v, v ∈ vals ws p → 4 ≤ v % 8 → v / 8 ∈ bk) (fun y => (bk.length - y.1).toNat) ⟨Int.le_refl _, fun t p h1 _ => by dsimp only at h1; omega⟩ ?_
    rintro ⟨y, _⟩ ⟨k0, k1⟩
    dsimp only at *
    refine ⟨fun e2 => ⟨⟨k0, e2⟩, ?_⟩, fun e2 => ?_⟩
    · have hpm := gw_mem k0 e2
      have hpb := hbm _ hpm
      have hblk := (bl_mem hpb).2.2.2
      have hsl := slo_len hblk hl
      refine p_i_shapeOk ha hw hpb ?_
      rw [nn_eq, tf_eq]
      refine ⟨fun e3 => ?_, fun e3 => p_i_slots hblk hl ?_⟩
      · exact Eq.mp (congrArg K (tf_not fun hh => e3 (hh.2 _ hpm).1)) h
      · refine loopP_intro (fun z => 0 ≤ z.1 ∧ ∀ (t : Nat) (q : Int), (t : Int) < z.1 → (slo ws (gw bk y))[t]? = some q → 4 ≤ gw ws q % 8 → gw ws q / 8 ∈ bk) (fun z => ((slo ws (gw bk y)).length - z.1).toNat) ⟨Int.le_refl _, fun t p h1 _ => by dsimp only at h1; omega⟩ ?_
        rintro ⟨z, _⟩ ⟨j0, j1⟩
        dsimp only at *
        refine ⟨fun e4 => ?_, fun e4 => ⟨i64ok_of (by omega) (by omega), ⟨by omega, fun t p h2 h3 => ?_⟩, by omega⟩⟩
        · have hq := gw_mem j0 e4
          have hs2 := slo_mem hblk hq
          have hb2 := hblk.2.2.1
          have hb0 := hblk.1
          have more : (4 ≤ gw ws (gw (slo ws (gw bk y)) z) % 8 → gw ws (gw (slo ws (gw bk y)) z) / 8 ∈ bk) → i64ok (z + 1) ∧ (0 ≤ z + 1 ∧ ∀ (t : Nat) (q : Int), (t : Int) < z + 1 → (slo ws (gw bk y))[t]? = some q → 4 ≤ gw ws q % 8 → gw ws q / 8 ∈ bk) ∧ ((slo ws (gw bk y)).length - (z + 1)).toNat < ((slo ws (gw bk y)).length - z).toNat := fun hn => by
            refine ⟨i64ok_of (by omega) (by omega), ⟨by omega, fun t q h2 h3 => ?_⟩, by omega⟩
            by_cases e5 : (t : Int) = z
            · rw [show t = z.toNat by omega, get_gw j0 e4] at h3
              cases h3
              exact hn
            · exact j1 t q (by omega) h3
          refine ⟨⟨j0, e4⟩, ⟨by omega, by omega⟩, p_hasPlace ?_⟩
          rw [tf_eq, tf_false]
          refine ⟨fun e5 => p_i_Num (p_black hbs hb ?_), fun e5 => more fun hh => absurd hh e5⟩
          rw [nn_eq, tf_eq]
          refine ⟨fun e6 => ?_, fun e6 => more fun _ => e6⟩
          exact Eq.mp (congrArg K (tf_not fun hh => e6 ((hh.2 _ hpm).2 _ (List.mem_map.2 ⟨_, hq, rfl⟩) e5))) h
        · by_cases e5 : (t : Int) = y
          · rw [show t = y.toNat by omega, get_gw k0 e2] at h3
            cases h3
            refine ⟨e3, fun v hv h4 => ?_⟩
            obtain ⟨q, hq, rfl⟩ := List.mem_map.1 hv
            obtain ⟨t', ht'⟩ := List.getElem?_of_mem hq
            have := (List.getElem?_eq_some_iff.1 ht').1
            exact j1 t' q (by omega) ht' h4
          · exact k1 t p (by omega) h3
    · refine Eq.mp (congrArg K (tf_of ⟨hA, fun p hp => ?_⟩)) h
      obtain ⟨t, ht⟩ := List.getElem?_of_mem hp
      have := (List.getElem?_eq_some_iff.1 ht).1
      exact k1 t p (by omega) ht
theorem p_i_sweepOk {all : List Int} (ha : Kds ws all) (hw : Slb ws) {ph at' : Int} {gr bk : List Int} (hm : Mem ws gr bk) (hb : bk.length ≤ 1000000) {K : Bool → Prop} (h : K (tf (gr = [] ∧ (at' = ws.length ∨ at' ∈ bl ws) ∧ Swp ws bk at'))) : m_i_sweepOk ws all ph gr bk at' K := by
  obtain ⟨a1, a2⟩ := id ha
  have hl : ws.length ≤ 1000000 := by have := hw.1; omega
  refine ⟨?_⟩
  unfold b_i_sweepOk
  simp only [gwE, partE]
  refine ⟨fun e => ?_, fun e => ?_⟩
  · have hg : gr = [] := List.eq_nil_of_length_eq_zero (by omega)
    replace h := tf_and_of (r := True) hg h
    refine ⟨fun e2 => ⟨i64ok_of (by omega) (by omega), p_i_within ?_⟩, fun e2 => ?_⟩
    · rw [nn_eq, tf_eq]
      refine ⟨fun e3 => ⟨⟨by omega, by omega⟩, fun e4 => ?_, fun e4 => ?_⟩, fun e3 => ?_⟩
      · rw [a2 _ (by omega) (by omega)] at e4
        refine Eq.mp (congrArg K (tf_not fun hh => ?_)) h
        have := hh.1.resolve_left e2
        rw [kind_in this] at e4
        omega
      · rw [a2 _ (by omega) (by omega)] at e4
        have : at' ∈ bl ws := Classical.byContradiction fun hn => by rw [kind_out hn] at e4; omega
        exact ⟨⟨by omega, by omega, by omega⟩, sweep_rest ha hw hm hb (by omega) (by omega) (tf_and_of (r := True) (.inr this) h)⟩
      · refine Eq.mp (congrArg K (tf_not fun hh => e3 ?_)) h
        obtain ⟨_, q0, q1, _⟩ := bl_mem (hh.1.resolve_left e2)
        omega
    · have e2 : at' = ws.length := Classical.not_not.1 e2
      exact ⟨⟨by omega, by omega, by omega⟩, sweep_rest ha hw hm hb (by omega) (by omega) (tf_and_of (r := True) (.inl e2) h)⟩
  · exact tf_and_not (fun hg => by rw [hg] at e; simp at e) h
theorem p_i_MarkerOk (hl : ws.length ≤ 1000000) {ph at' : Int} {gr bk : List Int} (hg : gr.length ≤ 1000000) (hb : bk.length ≤ 1000000) {K : Bool → Prop} (h : K (tf (MkOk ws ph gr bk at'))) : m_i_MarkerOk ws ph gr bk at' K := by
  refine ⟨?_⟩
  unfold b_i_MarkerOk
  refine p_i_kinds hl fun all ha => p_i_SlabOk hl ?_
  unfold MkOk at h
  rw [nn_eq, tf_eq]
  refine ⟨fun e1 => p_i_membersOk ha hl hg hb ?_, fun e1 => tf_and_not e1 h⟩
  replace h := tf_and_of (r := True) e1 h
  rw [nn_eq, tf_eq]
  refine ⟨fun e2 => tf_and_not e2 h, fun e2 => ?_⟩
  replace h := tf_and_of (r := True) e2 h
  refine ⟨fun p0 => p_i_HeapOk hl ?_, fun p0 => ⟨fun p1 => p_i_HeapOk hl ?_, fun p1 => ⟨fun p2 => p_i_sweepOk ha e1 e2 hb ?_, fun p2 => ?_⟩⟩⟩
  · subst p0
    have h' : K (tf (Hok ws ∧ at' = 0 ∧ gr = [] ∧ bk = [])) := Eq.mp (congrArg K (tf_congr ⟨fun hh => by rcases hh with hh | hh | hh; exact hh.2; exact absurd hh.1 (by omega); exact absurd hh.1 (by omega), fun hh => .inl ⟨rfl, hh⟩⟩)) h
    rw [tf_eq, tf_false]
    refine ⟨fun e3 => ?_, fun e3 => tf_and_not e3 h'⟩
    replace h' := tf_and_of (r := True) e3 h'
    refine ⟨fun e4 => ?_, fun e4 => tf_and_not e4 h'⟩
    replace h' := tf_and_of (r := True) e4 h'
    have len0 : ∀ l : List Int, ((l.length : Int) = 0) = (l = []) := fun l => by cases l <;> simp; omega
    rw [len0, len0]
    refine ⟨fun e5 => tf_and_of (r := True) e5 h', fun e5 => tf_and_not e5 h'⟩
  · subst p1
    have h' : K (tf (Hok ws ∧ at' = 0)) := Eq.mp (congrArg K (tf_congr ⟨fun hh => by rcases hh with hh | hh | hh; exact absurd hh.1 (by omega); exact hh.2; exact absurd hh.1 (by omega), fun hh => .inr (.inl ⟨rfl, hh⟩)⟩)) h
    rw [tf_eq, tf_false]
    exact ⟨fun e3 => tf_and_of (r := True) e3 h', fun e3 => tf_and_not e3 h'⟩
  · subst p2
    exact Eq.mp (congrArg K (tf_congr ⟨fun hh => by rcases hh with hh | hh | hh; exact absurd hh.1 (by omega); exact absurd hh.1 (by omega); exact hh.2, fun hh => .inr (.inr ⟨rfl, hh⟩)⟩)) h
  · refine Eq.mp (congrArg K (tf_not fun hh => ?_)) h
    rcases hh with hh | hh | hh
    · exact p0 hh.1
    · exact p1 hh.1
    · exact p2 hh.1
end
end Go.Proofs.YthjmmofafpahhaaGreat.Sx
