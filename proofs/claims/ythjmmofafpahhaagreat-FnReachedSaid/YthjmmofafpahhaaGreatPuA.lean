/- Plain laws of slabs: blocks one behind the other. No program in sight but for the models' names. -/
import Derived.Test.YthjmmofafpahhaaGreatGM
namespace Go.Proofs.YthjmmofafpahhaaGreat.Sx
open Go
set_option linter.unusedVariables false
set_option linter.unusedSimpArgs false

theorem loopP_intro {α : Type} {step : α → (α → Prop) → Prop} {x0 : α} (I : α → Prop) (μ : α → Nat) (h0 : I x0) (h : ∀ x, I x → step x fun y => I y ∧ μ y < μ x) : LoopP step x0 := ⟨⟨I, μ, h0, h⟩⟩
theorem i64ok_of {n : Int} (h : -9223372036854775808 ≤ n) (h' : n ≤ 9223372036854775807) : i64ok n := ⟨h, h'⟩
theorem tf_eq (p : Prop) : (tf p = true) = p := by unfold tf; simp
theorem tf_false (p : Prop) : (tf p = false) = ¬ p := by unfold tf; simp
theorem tf_of {p : Prop} (h : p) : tf p = true := by rw [tf_eq]; exact h
theorem tf_not {p : Prop} (h : ¬ p) : tf p = false := by rw [tf_false]; exact h
theorem tf_congr {p q : Prop} (h : p ↔ q) : tf p = tf q := by rw [propext h]
theorem tf_bool (b : Bool) : tf (b = true) = b := by cases b <;> simp [tf]
theorem nn_eq {b : Bool} : (¬¬ (b = true)) = (b = true) := by simp

/-- The word at a place. -/
def gw (ws : List Int) (p : Int) : Int := List.getD ws (Int.toNat p) (Int.ofNat 0)
theorem gwE (ws : List Int) (p : Int) : List.getD ws (Int.toNat p) (Int.ofNat 0) = gw ws p := rfl
/-- There is a block of words at a place. -/
def Blk (ws : List Int) (p : Int) : Prop := 0 ≤ p ∧ 2 ≤ gw ws p / 8 ∧ p + gw ws p / 8 ≤ ws.length ∧ gw ws p % 8 ≤ 5
/-- Blocks one behind the other, from p to q. -/
inductive Seg (ws : List Int) : Int → Int → List Int → Prop
  | nil (p : Int) : Seg ws p p []
  | cons {p q : Int} {L : List Int} (h : Blk ws p) (t : Seg ws (p + gw ws p / 8) q L) : Seg ws p q (p :: L)

section
variable {ws : List Int}
theorem Seg.le {p q : Int} {L : List Int} (h : Seg ws p q L) : p ≤ q := by
  induction h with
  | nil p => exact Int.le_refl _
  | cons h t ih => have := h.2.1; omega
theorem Seg.append {p q r : Int} {L M : List Int} (h : Seg ws p q L) (k : Seg ws q r M) : Seg ws p r (L ++ M) := by
  induction h with
  | nil p => exact k
  | cons h t ih => exact .cons h (ih k)
theorem Seg.one {p : Int} (h : Blk ws p) : Seg ws p (p + gw ws p / 8) [p] := .cons h (.nil _)
theorem Seg.snoc {p q : Int} {L : List Int} (h : Seg ws p q L) (hb : Blk ws q) : Seg ws p (q + gw ws q / 8) (L ++ [q]) := h.append (.one hb)
theorem Seg.det {p q : Int} {L : List Int} (h : Seg ws p q L) : ∀ {r : Int} {M : List Int}, Seg ws p r M → q ≤ r → ∃ M', M = L ++ M' ∧ Seg ws q r M' := by
  induction h with
  | nil p => intro r M k _; exact ⟨M, rfl, k⟩
  | @cons p q L h t ih =>
    intro r M k hle
    cases k with
    | nil =>
      have := t.le
      have := h.2.1
      omega
    | cons h' t' =>
      obtain ⟨M', e, k'⟩ := ih t' hle
      exact ⟨M', by rw [e]; rfl, k'⟩
theorem Seg.uniq {p q : Int} {L M : List Int} (h : Seg ws p q L) (k : Seg ws p q M) : L = M := by
  obtain ⟨M', e, k'⟩ := h.det k (Int.le_refl _)
  cases k' with
  | nil => rw [e]; simp
  | cons h' t' =>
    have := t'.le
    have := h'.2.1
    omega
theorem Seg.mem {p q : Int} {L : List Int} (h : Seg ws p q L) : ∀ {x : Int}, x ∈ L → p ≤ x ∧ x < q ∧ Blk ws x ∧ x + gw ws x / 8 ≤ q := by
  induction h with
  | nil p => intro x hx; cases hx
  | @cons p q L h t ih =>
    intro x hx
    have h1 := h.2.1
    have h2 := t.le
    rcases List.mem_cons.1 hx with rfl | hx
    · exact ⟨Int.le_refl _, by omega, h, h2⟩
    · obtain ⟨g1, g2, g3, g4⟩ := ih hx
      exact ⟨by omega, g2, g3, g4⟩
theorem Seg.pairwise {p q : Int} {L : List Int} (h : Seg ws p q L) : L.Pairwise (· < ·) := by
  induction h with
  | nil p => exact .nil
  | @cons p q L h t ih =>
    refine .cons (fun x hx => ?_) ih
    have := (t.mem hx).1
    have := h.2.1
    omega
theorem Seg.split {p q : Int} {L : List Int} (h : Seg ws p q L) : ∀ {x : Int}, x ∈ L → ∃ A B, L = A ++ x :: B ∧ Seg ws p x A ∧ Blk ws x ∧ Seg ws (x + gw ws x / 8) q B := by
  induction h with
  | nil p => intro x hx; cases hx
  | @cons p q L h t ih =>
    intro x hx
    rcases List.mem_cons.1 hx with rfl | hx
    · exact ⟨[], L, rfl, .nil _, h, t⟩
    · obtain ⟨A, B, rfl, g1, g2, g3⟩ := ih hx
      exact ⟨p :: A, B, rfl, .cons h g1, g2, g3⟩
theorem Seg.len {p q : Int} {L : List Int} (h : Seg ws p q L) : 2 * (L.length : Int) ≤ q - p := by
  induction h with
  | nil p => simp
  | @cons p q L h t ih =>
    have := h.2.1
    simp only [List.length_cons]
    omega
theorem Seg.head {p q : Int} {L : List Int} (h : Seg ws p q L) (hlt : p < q) : ∃ M, L = p :: M ∧ Blk ws p ∧ Seg ws (p + gw ws p / 8) q M := by
  cases h with
  | nil => omega
  | cons h t => exact ⟨_, rfl, h, t⟩
theorem Seg.congr {vs : List Int} {p q : Int} {L : List Int} (h : Seg ws p q L) (hl : vs.length = ws.length) (he : ∀ x, x ∈ L → gw vs x = gw ws x) : Seg vs p q L := by
  induction h with
  | nil p => exact .nil p
  | @cons p q L h t ih =>
    have e := he p List.mem_cons_self
    refine .cons ⟨h.1, by rw [e]; exact h.2.1, by rw [e, hl]; exact h.2.2.1, by rw [e]; exact h.2.2.2⟩ ?_
    rw [e]
    exact ih fun x hx => he x (List.mem_cons_of_mem _ hx)
end

/-- Words that are a slab. -/
def Slb (ws : List Int) : Prop := ws.length ≤ 2000 ∧ ∃ L, Seg ws 0 ws.length L
open Classical in
/-- The places of the blocks. -/
noncomputable def bl (ws : List Int) : List Int := if h : Slb ws then h.2.choose else []
theorem bl_seg {ws : List Int} (h : Slb ws) : Seg ws 0 ws.length (bl ws) := by
  unfold bl
  rw [dif_pos h]
  exact h.2.choose_spec
theorem bl_not {ws : List Int} (h : ¬ Slb ws) : bl ws = [] := by
  unfold bl
  rw [dif_neg h]
theorem bl_eq {ws L : List Int} (h : ws.length ≤ 2000) (k : Seg ws 0 ws.length L) : bl ws = L := (bl_seg ⟨h, L, k⟩).uniq k
/-- A loop over the blocks has come to a place that is no block's: there is no slab. -/
theorem not_slb {ws L : List Int} {x : Int} (h : Seg ws 0 x L) (hx : x < ws.length) (hb : ¬ Blk ws x) : ¬ Slb ws := fun ⟨_, M, k⟩ => by
  obtain ⟨M', _, k'⟩ := h.det k (Int.le_of_lt hx)
  obtain ⟨_, _, h1, _⟩ := k'.head hx
  exact hb h1

/-! ### The reference: blocks -/
theorem p_s_l1In {a b c : Int} {K : Bool → Prop} (h : K (tf (b ≤ a ∧ a ≤ c))) : m_s_l1In a b c K := by
  refine ⟨?_⟩
  unfold b_s_l1In
  refine ⟨fun h1 => ?_, fun h1 => ?_⟩
  · rwa [tf_congr (show (b ≤ a ∧ a ≤ c) ↔ a ≤ c from ⟨fun h => h.2, fun h => ⟨h1, h⟩⟩)] at h
  · rwa [tf_not (fun h => h1 h.1)] at h
theorem p_i_within {a b c : Int} {K : Bool → Prop} (h : K (tf (b ≤ a ∧ a ≤ c))) : m_i_within a b c K := by
  refine ⟨?_⟩
  unfold b_i_within
  refine ⟨fun h1 => ?_, fun h1 => ?_⟩
  · rwa [tf_congr (show (b ≤ a ∧ a ≤ c) ↔ a ≤ c from ⟨fun h => h.2, fun h => ⟨h1, h⟩⟩)] at h
  · rwa [tf_not (fun h => h1 h.1)] at h
theorem p_s_l2Size {a : Int} {K : Int → Prop} (h : K (a / 8)) : m_s_l2Size a K := ⟨h⟩
theorem p_s_l2Kind {a : Int} {K : Int → Prop} (h : K (a % 8)) : m_s_l2Kind a K := ⟨h⟩
theorem p_s_SlabOk {ws : List Int} (hl : ws.length ≤ 1000000) {K : Bool → Prop} (h : K (tf (Slb ws))) : m_s_SlabOk ws K := by
  refine ⟨?_⟩
  unfold b_s_SlabOk
  simp only [gwE]
  refine loopP_intro (fun x => 0 ≤ x.1 ∧ x.1 ≤ ws.length ∧ ∃ L, Seg ws 0 x.1 L) (fun x => (ws.length - x.1).toNat) ⟨Int.le_refl _, by simp, [], .nil _⟩ ?_
  rintro ⟨x, _⟩ ⟨h0, h1, L, hL⟩
  dsimp only at *
  refine ⟨fun h2 => ⟨⟨h0, h2⟩, p_s_l2Size ⟨i64ok_of (by omega) (by omega), p_s_l1In ?_⟩⟩, fun h2 => ?_⟩
  · rw [nn_eq, tf_eq]
    refine ⟨fun h3 => ⟨⟨h0, h2⟩, p_s_l2Kind ⟨fun h4 => ?_, fun h4 => ⟨i64ok_of (by omega) (by omega), ?_⟩⟩⟩, fun h3 => ?_⟩
    · rwa [tf_not (not_slb hL h2 fun hb => by have := hb.2.2.2; omega)] at h
    · exact ⟨⟨by omega, by omega, _, hL.snoc ⟨h0, by omega, by omega, by omega⟩⟩, by omega⟩
    · rwa [tf_not (not_slb hL h2 fun hb => h3 ⟨hb.2.1, by have := hb.2.2.1; omega⟩)] at h
  · have hx : x = ws.length := by omega
    subst hx
    rwa [tf_congr (show Slb ws ↔ (ws.length : Int) ≤ 2000 from ⟨fun h => by have := h.1; omega, fun h => ⟨by omega, _, hL⟩⟩)] at h
end Go.Proofs.YthjmmofafpahhaaGreat.Sx
