/- Plain laws: what is kept of a heap is just what can be reached. -/
import Derived.Test.YthjmmofafpahhaaGreatPuM
namespace Go.Proofs.YthjmmofafpahhaaGreat.Sx
open Go
set_option linter.unusedVariables false
set_option linter.unusedSimpArgs false

theorem p_big {code : List Int} {K : Bool → Prop} (h : K (tf (1048576 < code.length))) : m_l_big code K := by
  refine ⟨?_⟩
  unfold b_l_big
  exact Eq.mp (congrArg K (tf_congr (by omega))) h
theorem kindAt_zero {c : List Int} {x : Int} (h : x ∈ bl c) : kindAt c x ≠ 0 ↔ gw c x % 8 ≠ 0 := by rw [kind_in h]
theorem law_reached {code : List Int} (hD : ∀ K : List Int → List Int → Prop, (∀ s roots, s.length ≤ 1000000 → roots.length ≤ 1000000 → K s roots) → code.length ≤ 1048576 → m_s_DrawCollect code K) : m_l_FnReached code fun r => r = true := by
  refine ⟨?_⟩
  unfold b_l_FnReached
  simp only [gwE]
  refine p_big ?_
  rw [tf_eq, tf_false]
  refine ⟨fun _ => by trivial, fun hbig => hD _ (fun s roots hl hr => ?_) (by omega)⟩
  have hrl : (rch s roots).length ≤ 1000000 := by
    by_cases h : Rok s roots
    · have := nodup_le (m := bl s) (lt_nodup rch_lt) fun x hx => (Rch.blk h ((rch_mem h).1 hx)).1
      have := bl_len' (ws := s)
      omega
    · unfold rch; rw [if_neg h]; simp
  refine p_i_Collect hl hr (fun hn => ?_) (fun c hc => ?_)
  · refine p_i_Reach hl hr (p_s_Reach hl hr (p_sameInts hrl ?_))
    rw [tf_of rfl]
    refine ⟨fun _ => p_i_Waste hl hr (p_s_Waste hl hr ⟨fun e => absurd rfl e, fun _ => p_s_RootsOk hl hr ?_⟩), fun e => absurd rfl e⟩
    rw [tf_not hn]
    refine ⟨fun _ => ⟨fun _ => ?_, fun e => absurd rfl e⟩, fun e => absurd (by simp) e⟩
    rw [tf_eq]
    unfold rch
    rw [if_neg hn]
    rfl
  · have hcl : c.length ≤ 1000000 := by have := hc.swp.slb.1; omega
    refine p_i_Reach hl hr (p_s_Reach hl hr (p_sameInts hrl ?_))
    rw [tf_of rfl]
    refine ⟨fun _ => p_i_Waste hl hr (p_s_Waste hl hr ⟨fun e => absurd rfl e, fun _ => p_s_RootsOk hl hr ?_⟩), fun e => absurd rfl e⟩
    rw [tf_of hc.rok]
    refine ⟨fun e => absurd rfl e, fun _ => p_i_Blocks hcl ?_⟩
    have hbl := bl_len' (ws := c)
    refine loopP_intro (fun x => 0 ≤ x.2.1 ∧ x.1 = ((bl c).take x.2.1.toNat).filter (fun p => !freeB c p)) (fun x => ((bl c).length - x.2.1).toNat) ⟨Int.le_refl _, rfl⟩ ?_
    rintro ⟨l, i, _⟩ ⟨g0, g1⟩
    dsimp only at *
    have hll : l.length ≤ 2000 := by
      have h1 : l.length ≤ ((bl c).take i.toNat).length := by rw [g1]; exact List.length_filter_le _ _
      have h2 : ((bl c).take i.toNat).length ≤ (bl c).length := by simp; omega
      omega
    refine ⟨fun e => ⟨⟨g0, e⟩, p_i_KindAt hcl ?_⟩, fun e => p_sameInts (by omega) ?_⟩
    · have hm := gw_mem g0 e
      rw [kindAt_zero hm]
      have key : ∀ b : Bool, freeB c (gw (bl c) i) = b → ((bl c).take (i + 1).toNat).filter (fun p => !freeB c p) = l ++ if b then [] else [gw (bl c) i] := fun b hb => by
        rw [take_snoc g0 e, List.filter_append, ← g1]
        cases b <;> simp [hb]
      refine ⟨fun e2 => ⟨⟨g0, e⟩, by simp only [List.length_cons, List.length_nil]; omega, i64ok_of (by omega) (by omega), ⟨by omega, ?_⟩, by omega⟩, fun e2 => ⟨i64ok_of (by omega) (by omega), ⟨by omega, ?_⟩, by omega⟩⟩
      · rw [key false (by simp [freeB, e2])]; rfl
      · rw [key true (by simp [freeB, Classical.not_not.1 e2])]; simp
    · rw [take_all e g0] at g1
      have hk : l = rch s roots := by
        refine sorted_uniq (by rw [g1]; exact bl_pair.filter _) rch_lt fun x => ?_
        rw [g1, List.mem_filter, ← hc.live]
        simp [freeB]
      rw [tf_of hk]
      refine ⟨fun _ => p_i_Reach hcl hr (p_sameInts (by rw [hc.rch_eq]; exact hrl) ?_), fun e => absurd e (by simp)⟩
      rw [tf_of hc.rch_eq]
      refine ⟨fun _ => p_i_RootsOk hcl hr ?_, fun e => absurd e (by simp)⟩
      rw [tf_of hc.rok']
end Go.Proofs.YthjmmofafpahhaaGreat.Sx
