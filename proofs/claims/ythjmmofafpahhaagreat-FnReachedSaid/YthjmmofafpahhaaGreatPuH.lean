/- Plain laws: sums of sizes: room and waste. -/
import Derived.Test.YthjmmofafpahhaaGreatPuG
namespace Go.Proofs.YthjmmofafpahhaaGreat.Sx
open Go
set_option linter.unusedVariables false
set_option linter.unusedSimpArgs false

/-- The sum of the sizes of the blocks at these places. -/
def sumS (ws : List Int) : List Int → Int
  | [] => 0
  | p :: L => gw ws p / 8 + sumS ws L
section
variable {ws : List Int}
theorem sumS_append : ∀ {L M : List Int}, sumS ws (L ++ M) = sumS ws L + sumS ws M
  | [], M => by simp [sumS]
  | p :: L, M => by simp only [List.cons_append, sumS, sumS_append (L := L)]; omega
theorem sumS_seg {p q : Int} {L : List Int} (h : Seg ws p q L) : sumS ws L = q - p := by
  induction h with
  | nil p => simp [sumS]
  | cons h t ih => simp only [sumS, ih]; omega
theorem sumS_perm {L M : List Int} (h : L.Perm M) : sumS ws L = sumS ws M := by
  induction h with
  | nil => rfl
  | cons x _ ih => simp only [sumS, ih]
  | swap x y l => simp only [sumS]; omega
  | trans _ _ h1 h2 => exact h1.trans h2
theorem sumS_same {L M : List Int} (hL : L.Nodup) (hM : M.Nodup) (h : ∀ x, x ∈ L ↔ x ∈ M) : sumS ws L = sumS ws M := by
  have e : sortI L = sortI M := sorted_uniq (sortI_lt hL) (sortI_lt hM) fun x => sortI_mem.trans ((h x).trans sortI_mem.symm)
  have h1 := sumS_perm (ws := ws) (List.mergeSort_perm L fun x y => decide (x ≤ y))
  have h2 := sumS_perm (ws := ws) (List.mergeSort_perm M fun x y => decide (x ≤ y))
  exact h1.symm.trans ((congrArg (sumS ws) e).trans h2)
theorem sumS_filter (P : Int → Bool) : ∀ {L : List Int}, sumS ws L = sumS ws (L.filter P) + sumS ws (L.filter fun p => !P p)
  | [] => rfl
  | p :: L => by
    have := sumS_filter P (L := L)
    simp only [List.filter_cons]
    cases P p <;> simp [sumS, this] <;> omega
theorem sumS_bound {M : Int} : ∀ {L : List Int}, (∀ p, p ∈ L → 0 ≤ gw ws p / 8 ∧ gw ws p / 8 ≤ M) → 0 ≤ sumS ws L ∧ sumS ws L ≤ M * L.length
  | [], _ => by simp [sumS]
  | p :: L, h => by
    obtain ⟨h1, h2⟩ := sumS_bound (L := L) fun q hq => h q (List.mem_cons_of_mem _ hq)
    have := h p List.mem_cons_self
    simp only [sumS, List.length_cons]
    rw [show ((L.length + 1 : Nat) : Int) = (L.length : Int) + 1 by omega, Int.mul_add]
    omega
def freeB (ws : List Int) (p : Int) : Bool := gw ws p % 8 == 0
noncomputable def room (ws : List Int) : Int := sumS ws ((bl ws).filter (freeB ws))
theorem bl_size {p : Int} (h : p ∈ bl ws) : 0 ≤ gw ws p / 8 ∧ gw ws p / 8 ≤ 2000 := by
  obtain ⟨hs, h0, _, hb⟩ := bl_mem h
  have := hs.1
  have := hb.2.1
  have := hb.2.2.1
  omega
theorem p_i_Room (hl : ws.length ≤ 1000000) {K : Int → Prop} (h : K (room ws)) : m_i_Room ws K := by
  have hbl := bl_len' (ws := ws)
  refine ⟨?_⟩
  unfold b_i_Room
  simp only [gwE]
  refine p_i_Blocks hl ?_
  refine loopP_intro (fun x => 0 ≤ x.2.1 ∧ x.1 = sumS ws (((bl ws).take x.2.1.toNat).filter (freeB ws))) (fun x => ((bl ws).length - x.2.1).toNat) ⟨Int.le_refl _, rfl⟩ ?_
  rintro ⟨n, i, _⟩ ⟨g0, g1⟩
  dsimp only at *
  have hbd := sumS_bound (ws := ws) (M := 2000) (L := ((bl ws).take i.toNat).filter (freeB ws)) fun p hp => bl_size (List.mem_of_mem_take (List.mem_filter.1 hp).1)
  have hlen : (((bl ws).take i.toNat).filter (freeB ws)).length ≤ (bl ws).length := Nat.le_trans (List.length_filter_le _ _) (by simp; omega)
  rw [← g1] at hbd
  refine ⟨fun e1 => ?_, fun e1 => ?_⟩
  · have hm := gw_mem g0 e1
    obtain ⟨_, q0, q1, _⟩ := bl_mem hm
    have hsz := bl_size hm
    have key : ∀ b : Bool, freeB ws (gw (bl ws) i) = b → sumS ws (((bl ws).take (i + 1).toNat).filter (freeB ws)) = n + if b then gw ws (gw (bl ws) i) / 8 else 0 := fun b hb => by
      rw [take_snoc g0 e1, List.filter_append, sumS_append, ← g1]
      simp only [List.filter_cons, hb, List.filter_nil]
      cases b <;> simp [sumS]
    refine ⟨⟨g0, e1⟩, ⟨q0, q1⟩, fun e2 => ⟨⟨q0, q1⟩, i64ok_of (by omega) (by omega), i64ok_of (by omega) (by omega), ⟨by omega, ?_⟩, by omega⟩, fun e2 => ⟨i64ok_of (by omega) (by omega), ⟨by omega, ?_⟩, by omega⟩⟩
    · rw [key true (by simp [freeB, e2])]; simp
    · rw [key false (by simp [freeB, e2])]; simp
  · rw [take_all e1 g0] at g1
    rw [g1]
    exact h
variable {roots : List Int}
open Classical in
/-- The size of what can't be reached. -/
noncomputable def waste (ws roots : List Int) : Int := if Rok ws roots then sumS ws ((bl ws).filter fun p => !(freeB ws p) && !(decide (p ∈ ord ws roots))) else 0
theorem waste_eq (h : Rok ws roots) : (ws.length : Int) - room ws - sumS ws (ord ws roots) = waste ws roots := by
  unfold waste room
  rw [if_pos h]
  have h1 := sumS_seg (bl_seg h.1.1)
  have h2 := sumS_filter (ws := ws) (freeB ws) (L := bl ws)
  have h3 := sumS_filter (ws := ws) (fun p => decide (p ∈ ord ws roots)) (L := (bl ws).filter fun p => !freeB ws p)
  have hI := (ord_all h).1
  have hnd : (bl ws).Nodup := lt_nodup bl_pair
  have h4 : sumS ws (((bl ws).filter fun p => !freeB ws p).filter fun p => decide (p ∈ ord ws roots)) = sumS ws (ord ws roots) := by
    refine sumS_same ((hnd.filter _).filter _) hI.nd fun x => ?_
    simp only [List.mem_filter, decide_eq_true_eq]
    refine ⟨fun hh => hh.2, fun hh => ⟨⟨hI.sub x hh, ?_⟩, hh⟩⟩
    have := (Rch.blk h ((ord_iff h).1 hh)).2
    simp [freeB, this]
  have h5 : (((bl ws).filter fun p => !freeB ws p).filter fun p => !decide (p ∈ ord ws roots)) = (bl ws).filter fun p => !(freeB ws p) && !(decide (p ∈ ord ws roots)) := by
    rw [List.filter_filter]
    congr 1
    funext p
    rw [Bool.and_comm]
  rw [h4, h5] at h3
  omega
theorem p_i_Waste (hl : ws.length ≤ 1000000) (hr : roots.length ≤ 1000000) {K : Int → Prop} (h : K (waste ws roots)) : m_i_Waste ws roots K := by
  refine ⟨?_⟩
  unfold b_i_Waste
  simp only [gwE]
  refine p_i_RootsOk hl hr ?_
  rw [nn_eq, tf_eq]
  refine ⟨fun e => ?_, fun e => p_i_Room hl ?_⟩
  · unfold waste at h; rwa [if_neg e] at h
  · have hbl := bl_len' (ws := ws)
    have hroom := sumS_bound (ws := ws) (M := 2000) (L := (bl ws).filter (freeB ws)) fun p hp => bl_size (List.mem_filter.1 hp).1
    have hlen : ((bl ws).filter (freeB ws)).length ≤ (bl ws).length := List.length_filter_le _ _
    have hrm : 0 ≤ room ws ∧ room ws ≤ 4000000 := by unfold room; omega
    refine ⟨i64ok_of (by omega) (by omega), p_i_met e hr fun hI => ?_⟩
    have hol := hI.len
    refine loopP_intro (fun x => 0 ≤ x.2.1 ∧ x.1 = ws.length - room ws - sumS ws ((ord ws roots).take x.2.1.toNat)) (fun x => ((ord ws roots).length - x.2.1).toNat) ⟨Int.le_refl _, by simp [sumS]⟩ ?_
    rintro ⟨n, i, _⟩ ⟨g0, g1⟩
    dsimp only at *
    have hbd := sumS_bound (ws := ws) (M := 2000) (L := (ord ws roots).take i.toNat) fun p hp => bl_size (hI.sub p (List.mem_of_mem_take hp))
    have hln : ((ord ws roots).take i.toNat).length ≤ (ord ws roots).length := by simp; omega
    refine ⟨fun e1 => ?_, fun e1 => ?_⟩
    · have hm := hI.sub _ (gw_mem g0 e1)
      obtain ⟨_, q0, q1, _⟩ := bl_mem hm
      have hsz := bl_size hm
      refine ⟨⟨g0, e1⟩, ⟨q0, q1⟩, i64ok_of (by omega) (by omega), i64ok_of (by omega) (by omega), ⟨by omega, ?_⟩, by omega⟩
      rw [take_snoc g0 e1, sumS_append, g1]
      simp only [sumS]
      omega
    · rw [take_all e1 g0, waste_eq e] at g1
      rw [g1]
      exact h
theorem p_s_Waste (hl : ws.length ≤ 1000000) (hr : roots.length ≤ 1000000) {K : Int → Prop} (h : K (waste ws roots)) : m_s_Waste ws roots K := by
  refine ⟨?_⟩
  unfold b_s_Waste
  simp only [gwE]
  refine p_s_RootsOk hl hr ?_
  rw [nn_eq, tf_eq]
  refine ⟨fun e => ?_, fun e => p_s_l7Order e hr fun hI => p_s_l2Blocks e.1.1 ?_⟩
  · unfold waste at h; rwa [if_neg e] at h
  · have hbl := bl_len' (ws := ws)
    have hol := hI.len
    let P : Int → Bool := fun p => !(freeB ws p) && !(decide (p ∈ ord ws roots))
    have hP : ∀ p, P p = (!(freeB ws p) && !(decide (p ∈ ord ws roots))) := fun _ => rfl
    have hwst : waste ws roots = sumS ws ((bl ws).filter P) := by unfold waste; rw [if_pos e]
    refine loopP_intro (fun x => 0 ≤ x.2.1 ∧ x.1 = sumS ws (((bl ws).take x.2.1.toNat).filter P)) (fun x => ((bl ws).length - x.2.1).toNat) ⟨Int.le_refl _, rfl⟩ ?_
    rintro ⟨n, i, _⟩ ⟨g0, g1⟩
    dsimp only at *
    have hbd := sumS_bound (ws := ws) (M := 2000) (L := ((bl ws).take i.toNat).filter P) fun p hp => bl_size (List.mem_of_mem_take (List.mem_filter.1 hp).1)
    have hlen : (((bl ws).take i.toNat).filter P).length ≤ (bl ws).length := Nat.le_trans (List.length_filter_le _ _) (by simp; omega)
    rw [← g1] at hbd
    refine ⟨fun e1 => ?_, fun e1 => ?_⟩
    · have hm := gw_mem g0 e1
      obtain ⟨_, q0, q1, _⟩ := bl_mem hm
      have hsz := bl_size hm
      have key : ∀ b : Bool, P (gw (bl ws) i) = b → sumS ws (((bl ws).take (i + 1).toNat).filter P) = n + if b then gw ws (gw (bl ws) i) / 8 else 0 := fun b hb => by
        rw [take_snoc g0 e1, List.filter_append, sumS_append, ← g1]
        simp only [List.filter_cons, hb, List.filter_nil]
        cases b <;> simp [sumS]
      refine ⟨⟨g0, e1⟩, ⟨q0, q1⟩, p_s_l2Kind ⟨fun e2 => ⟨⟨g0, e1⟩, p_s_l7In (by omega) ?_⟩, fun e2 => ⟨i64ok_of (by omega) (by omega), ⟨by omega, ?_⟩, by omega⟩⟩⟩
      · rw [nn_eq, tf_eq]
        refine ⟨fun e3 => ⟨⟨g0, e1⟩, ⟨q0, q1⟩, p_s_l2Size ⟨i64ok_of (by omega) (by omega), i64ok_of (by omega) (by omega), ⟨by omega, ?_⟩, by omega⟩⟩, fun e3 => ⟨i64ok_of (by omega) (by omega), ⟨by omega, ?_⟩, by omega⟩⟩
        · rw [key true (by simp [hP, freeB, e2, e3])]; simp
        · rw [key false (by simp [hP, e3])]; simp
      · rw [key false (by simp [hP, freeB, Classical.not_not.1 e2])]; simp
    · rw [take_all e1 g0, ← hwst] at g1
      rw [g1]
      exact h
end
end Go.Proofs.YthjmmofafpahhaaGreat.Sx
