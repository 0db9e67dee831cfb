/- Plain laws: what a block's words must be; heaps; roots: of the reference. -/
import Derived.Test.YthjmmofafpahhaaGreatPuB
namespace Go.Proofs.YthjmmofafpahhaaGreat.Sx
open Go
set_option linter.unusedVariables false
set_option linter.unusedSimpArgs false

/-- A value that is one. -/
def Vok (v : Int) : Prop := (v % 8 = 0 → v / 8 = 0) ∧ (v % 8 = 1 → v / 8 = 0) ∧ (v % 8 = 2 → 0 ≤ v / 8 ∧ v / 8 ≤ 1) ∧ (v % 8 = 3 → -2147483648 ≤ v / 8 ∧ v / 8 ≤ 2147483647) ∧ (4 ≤ v % 8 → 0 ≤ v / 8 ∧ v / 8 ≤ 1999)
/-- A value leads to a block of a kind. -/
def At (ws : List Int) (b v : Int) : Prop := v / 8 ∈ bl ws ∧ gw ws (v / 8) % 8 = b
def Lead (ws : List Int) (v inner : Int) : Prop := Vok v ∧ (v % 8 = 4 → At ws 1 v) ∧ (v % 8 = 5 → At ws 2 v) ∧ (v % 8 = 6 → At ws 4 v) ∧ (v % 8 = 7 → At ws inner v)
def Pla (ws : List Int) (v : Int) : Prop := v % 8 ≠ 7 ∧ Lead ws v 0
def Rfr (ws : List Int) (k b v : Int) : Prop := v % 8 = k ∧ At ws b v
def Nxt (ws : List Int) (b v : Int) : Prop := v = 0 ∨ Rfr ws 7 b v
def Zer (ws : List Int) (p q : Int) : Prop := ∀ i, p ≤ i → i < q → gw ws i = 0
def Txt (ws : List Int) (p n : Int) : Prop := (0 ≤ gw ws (p + 1) ∧ gw ws (p + 1) ≤ n - 2) ∧ Zer ws (p + 2 + gw ws (p + 1)) (p + n) ∧ ∀ i, 0 ≤ i → i < gw ws (p + 1) → 0 ≤ gw ws (p + 2 + i) ∧ gw ws (p + 2 + i) ≤ 255
/-- The shape of the block at a place. -/
def Shp (ws : List Int) (p : Int) : Prop :=
  (gw ws p % 8 = 1 → Txt ws p (gw ws p / 8)) ∧
  (gw ws p % 8 = 2 → (3 ≤ gw ws p / 8 ∧ gw ws p / 8 ≤ 4) ∧ (gw ws (p + 1) = 1 ∨ Rfr ws 5 2 (gw ws (p + 1))) ∧ Nxt ws 3 (gw ws (p + 2)) ∧ Zer ws (p + 3) (p + gw ws p / 8)) ∧
  (gw ws p % 8 = 3 → (4 ≤ gw ws p / 8 ∧ gw ws p / 8 ≤ 5) ∧ Rfr ws 4 1 (gw ws (p + 1)) ∧ Pla ws (gw ws (p + 2)) ∧ Nxt ws 3 (gw ws (p + 3)) ∧ Zer ws (p + 4) (p + gw ws p / 8)) ∧
  (gw ws p % 8 = 4 → (3 ≤ gw ws p / 8 ∧ gw ws p / 8 ≤ 4) ∧ (0 ≤ gw ws (p + 1) ∧ gw ws (p + 1) ≤ 99) ∧ Rfr ws 7 5 (gw ws (p + 2)) ∧ Zer ws (p + 3) (p + gw ws p / 8)) ∧
  (gw ws p % 8 = 5 → Nxt ws 5 (gw ws (p + 1)) ∧ ∀ i, 2 ≤ i → i < gw ws p / 8 → Pla ws (gw ws (p + i)))
/-- A heap. -/
def Hok (ws : List Int) : Prop := Slb ws ∧ ∀ p, p ∈ bl ws → Shp ws p
def Rok (ws roots : List Int) : Prop := Hok ws ∧ ∀ v, v ∈ roots → Lead ws v 5

section
variable {ws : List Int}
theorem At.place {b v : Int} (h : At ws b v) : 0 ≤ v / 8 ∧ v / 8 ≤ 1999 := by
  obtain ⟨h1, _⟩ := h
  obtain ⟨hs, h2, h3, _⟩ := bl_mem h1
  have := hs.1
  omega
theorem lead_ref {k b v inner : Int} (hk : v % 8 = k) (hi : (k = 4 ∧ b = 1) ∨ (k = 5 ∧ b = 2) ∨ (k = 6 ∧ b = 4) ∨ (k = 7 ∧ b = inner)) : Lead ws v inner ↔ At ws b v := by
  constructor
  · rintro ⟨_, h4, h5, h6, h7⟩
    rcases hi with ⟨rfl, rfl⟩ | ⟨rfl, rfl⟩ | ⟨rfl, rfl⟩ | ⟨rfl, rfl⟩
    · exact h4 hk
    · exact h5 hk
    · exact h6 hk
    · exact h7 hk
  · intro h
    have := h.place
    refine ⟨⟨by omega, by omega, by omega, by omega, fun _ => this⟩, fun e => ?_, fun e => ?_, fun e => ?_, fun e => ?_⟩
    all_goals
      rcases hi with ⟨rfl, rfl⟩ | ⟨rfl, rfl⟩ | ⟨rfl, rfl⟩ | ⟨rfl, rfl⟩ <;> first | exact h | omega
theorem vok_small {v : Int} (h : ¬ 4 ≤ v % 8) {inner : Int} : Lead ws v inner ↔ Vok v := ⟨fun h => h.1, fun h' => ⟨h', by omega, by omega, by omega, by omega⟩⟩

theorem p_s_Kind {a : Int} {K : Int → Prop} (h : K (a % 8)) : m_s_Kind a K := ⟨h⟩
theorem p_s_Num {a : Int} {K : Int → Prop} (h : K (a / 8)) : m_s_Num a K := ⟨h⟩
theorem p_i_Kind {a : Int} {K : Int → Prop} (h : K (a % 8)) : m_i_Kind a K := ⟨h⟩
theorem p_i_Num {a : Int} {K : Int → Prop} (h : K (a / 8)) : m_i_Num a K := ⟨h⟩
theorem vok_cases {v : Int} {K : Bool → Prop} (h : K (tf (Vok v))) :
    (v % 8 = 0 → K (tf (v / 8 = 0))) ∧ (v % 8 = 1 → K (tf (v / 8 = 0))) ∧ (v % 8 = 2 → K (tf (0 ≤ v / 8 ∧ v / 8 ≤ 1))) ∧ (v % 8 = 3 → K (tf (-2147483648 ≤ v / 8 ∧ v / 8 ≤ 2147483647))) ∧ (4 ≤ v % 8 → K (tf (0 ≤ v / 8 ∧ v / 8 ≤ 1999))) := by
  refine ⟨fun e => ?_, fun e => ?_, fun e => ?_, fun e => ?_, fun e => ?_⟩
  all_goals
    refine Eq.mp (congrArg K (tf_congr ?_)) h
    unfold Vok
    constructor
    · rintro ⟨h0, h1, h2, h3, h4⟩
      first | exact h0 e | exact h1 e | exact h2 e | exact h3 e | exact h4 e
    · intro h
      refine ⟨?_, ?_, ?_, ?_, ?_⟩ <;> intro <;> omega
theorem p_s_ValueOk {v : Int} {K : Bool → Prop} (h : K (tf (Vok v))) : m_s_ValueOk v K := by
  obtain ⟨h0, h1, h2, h3, h4⟩ := vok_cases h
  refine ⟨p_s_Num (p_s_Kind ⟨fun e => ⟨fun _ => h0 e, fun e' => absurd e e'⟩, fun e => ⟨h1, fun e1 => ⟨fun e2 => p_s_l1In (h2 e2), fun e2 => ⟨fun e3 => p_s_l1In (h3 e3), fun e3 => p_s_l1In (h4 (by omega))⟩⟩⟩⟩)⟩
theorem p_i_ValueOk {v : Int} {K : Bool → Prop} (h : K (tf (Vok v))) : m_i_ValueOk v K := by
  obtain ⟨h0, h1, h2, h3, h4⟩ := vok_cases h
  refine ⟨p_i_Num (p_i_Kind ⟨fun e => ⟨fun _ => h0 e, fun e' => absurd e e'⟩, fun e => ⟨h1, fun e1 => ⟨fun e2 => p_i_within (h2 e2), fun e2 => ⟨fun e3 => p_i_within (h3 e3), fun e3 => p_i_within (h4 (by omega))⟩⟩⟩⟩)⟩

theorem p_s_l3Leads (hw : Slb ws) {v inner : Int} {K : Bool → Prop} (h : K (tf (Lead ws v inner))) : m_s_l3Leads ws v inner K := by
  refine ⟨?_⟩
  unfold b_s_l3Leads
  simp only [gwE]
  refine p_s_ValueOk ?_
  rw [nn_eq, tf_eq]
  refine ⟨fun h1 => ?_, fun h1 => p_s_Num (p_s_Kind ?_)⟩
  · rwa [tf_not (fun h => h1 h.1)] at h
  · have fin : ∀ k b, v % 8 = k → ((k = 4 ∧ b = 1) ∨ (k = 5 ∧ b = 2) ∨ (k = 6 ∧ b = 4) ∨ (k = 7 ∧ b = inner)) → m_s_l2Is ws (v / 8) fun r5 => (r5 = true → ((0 ≤ v / 8 ∧ v / 8 < (ws.length : Int)) ∧ m_s_l2Kind (gw ws (v / 8)) fun r7 => K (tf (r7 = b)))) ∧ (r5 = false → K false) := fun k b hk hi => by
      rw [tf_congr (lead_ref hk hi)] at h
      refine p_s_l2Is hw ?_
      rw [tf_eq, tf_false]
      refine ⟨fun h2 => ?_, fun h2 => ?_⟩
      · obtain ⟨_, h3, h4, _⟩ := bl_mem h2
        refine ⟨⟨h3, h4⟩, p_s_l2Kind ?_⟩
        rwa [tf_congr (show At ws b v ↔ gw ws (v / 8) % 8 = b from ⟨fun h => h.2, fun h => ⟨h2, h⟩⟩)] at h
      · rwa [tf_not (fun h => h2 h.1)] at h
    refine ⟨fun e => fin 4 1 e (.inl ⟨rfl, rfl⟩), fun e4 => ⟨fun e => fin 5 2 e (.inr (.inl ⟨rfl, rfl⟩)), fun e5 => ⟨fun e => fin 6 4 e (.inr (.inr (.inl ⟨rfl, rfl⟩))), fun e6 => ⟨fun e => fin 7 inner e (.inr (.inr (.inr ⟨rfl, rfl⟩))), fun e7 => ?_⟩⟩⟩⟩
    rwa [tf_of ((vok_small (by omega)).2 h1)] at h
theorem p_s_l3Zero {p q : Int} (h0 : 0 ≤ p) (hq : q ≤ ws.length) (hl : ws.length ≤ 1000000) {K : Bool → Prop} (h : K (tf (Zer ws p q))) : m_s_l3Zero ws p q K := by
  refine ⟨?_⟩
  unfold b_s_l3Zero
  simp only [gwE]
  refine loopP_intro (fun x => p ≤ x.1 ∧ ∀ i, p ≤ i → i < x.1 → gw ws i = 0) (fun x => (q - x.1).toNat) ⟨Int.le_refl _, fun i h1 h2 => by dsimp only at h2; omega⟩ ?_
  rintro ⟨x, _⟩ ⟨h1, h2⟩
  dsimp only at *
  refine ⟨fun h3 => ⟨⟨by omega, by omega⟩, fun h4 => ?_, fun h4 => ⟨i64ok_of (by omega) (by omega), ⟨by omega, fun i g1 g2 => ?_⟩, by omega⟩⟩, fun h3 => ?_⟩
  · rwa [tf_not (fun hz => h4 (hz x h1 h3))] at h
  · by_cases e : i = x
    · subst e; omega
    · exact h2 i g1 (by omega)
  · rwa [tf_of (show Zer ws p q from fun i g1 g2 => h2 i g1 (by omega))] at h
theorem p_s_l3Text {p n : Int} (hb : Blk ws p) (hn : n = gw ws p / 8) (hl : ws.length ≤ 1000000) {K : Bool → Prop} (h : K (tf (Txt ws p n))) : m_s_l3Text ws p n K := by
  obtain ⟨h0, h2, h3, h4⟩ := hb
  rw [← hn] at h2 h3
  refine ⟨?_⟩
  unfold b_s_l3Text
  simp only [gwE]
  generalize hm : gw ws (p + 1) = m
  unfold Txt at h
  rw [hm] at h
  refine ⟨i64ok_of (by omega) (by omega), ⟨by omega, by omega⟩, i64ok_of (by omega) (by omega), p_s_l1In ?_⟩
  rw [nn_eq, tf_eq]
  refine ⟨fun h5 => ⟨i64ok_of (by omega) (by omega), i64ok_of (by omega) (by omega), i64ok_of (by omega) (by omega), p_s_l3Zero (by omega) h3 hl ?_⟩, fun h5 => ?_⟩
  · rw [nn_eq, tf_eq]
    refine ⟨fun h6 => ?_, fun h6 => ?_⟩
    · rwa [tf_not (fun hh => h6 hh.2.1)] at h
    · refine loopP_intro (fun x => 0 ≤ x.1 ∧ ∀ i, 0 ≤ i → i < x.1 → 0 ≤ gw ws (p + 2 + i) ∧ gw ws (p + 2 + i) ≤ 255) (fun x => (m - x.1).toNat) ⟨Int.le_refl _, fun i g1 g2 => by dsimp only at g2; omega⟩ ?_
      rintro ⟨x, _⟩ ⟨g0, g1⟩
      dsimp only at *
      refine ⟨fun g2 => ⟨i64ok_of (by omega) (by omega), i64ok_of (by omega) (by omega), ⟨by omega, by omega⟩, p_s_l1In ?_⟩, fun g2 => ?_⟩
      · rw [nn_eq, tf_eq]
        refine ⟨fun g3 => ?_, fun g3 => ⟨i64ok_of (by omega) (by omega), ⟨by omega, fun i e1 e2 => ?_⟩, by omega⟩⟩
        · rwa [tf_not (fun hh => g3 (hh.2.2 x g0 g2))] at h
        · by_cases e : i = x
          · subst e; exact g3
          · exact g1 i e1 (by omega)
      · rwa [tf_of ⟨h5, h6, fun i e1 e2 => g1 i e1 (by omega)⟩] at h
  · rwa [tf_not (fun hh => h5 hh.1)] at h
theorem p_s_l3Next (hw : Slb ws) {v b : Int} {K : Bool → Prop} (h : K (tf (Nxt ws b v))) : m_s_l3Next ws v b K := by
  refine ⟨?_⟩
  unfold b_s_l3Next
  refine ⟨fun h1 => p_s_Kind ⟨fun h2 => p_s_l3Leads hw ?_, fun h2 => ?_⟩, fun h1 => ?_⟩
  · rwa [tf_congr (show Nxt ws b v ↔ Lead ws v b from ⟨fun hh => (lead_ref h2 (.inr (.inr (.inr ⟨rfl, rfl⟩)))).2 (hh.resolve_left h1).2, fun hh => .inr ⟨h2, (lead_ref h2 (.inr (.inr (.inr ⟨rfl, rfl⟩)))).1 hh⟩⟩)] at h
  · rwa [tf_not (fun hh => hh.elim h1 fun hh => h2 hh.1)] at h
  · rwa [tf_of (.inl h1)] at h
theorem p_s_l3Plain (hw : Slb ws) {v : Int} {K : Bool → Prop} (h : K (tf (Pla ws v))) : m_s_l3Plain ws v K := by
  refine ⟨?_⟩
  unfold b_s_l3Plain
  refine p_s_Kind ⟨fun h1 => p_s_l3Leads hw ?_, fun h1 => ?_⟩
  · rwa [tf_congr (show Pla ws v ↔ Lead ws v 0 from ⟨fun hh => hh.2, fun hh => ⟨h1, hh⟩⟩)] at h
  · rwa [tf_not (fun hh => h1 hh.1)] at h
theorem tf_and_of {p q r : Prop} {K : Bool → Prop} (hp : p) (h : K (tf (p ∧ q))) : K (tf q) := Eq.mp (congrArg K (tf_congr (and_iff_right hp))) h
theorem tf_and_not {p q : Prop} {K : Bool → Prop} (hp : ¬ p) (h : K (tf (p ∧ q))) : K false := Eq.mp (congrArg K (tf_not (fun hh => hp hh.1))) h
theorem p_s_l3Shape (hw : Slb ws) {p : Int} (hp : p ∈ bl ws) {K : Bool → Prop} (h : K (tf (Shp ws p))) : m_s_l3Shape ws p K := by
  obtain ⟨_, h0, h1, hb⟩ := bl_mem hp
  obtain ⟨_, b1, b2, b3⟩ := id hb
  have hl : ws.length ≤ 1000000 := by have := hw.1; omega
  refine ⟨?_⟩
  unfold b_s_l3Shape
  simp only [gwE]
  unfold Shp at h
  refine ⟨⟨h0, h1⟩, p_s_l2Size ⟨⟨h0, h1⟩, p_s_l2Kind ⟨fun k1 => p_s_l3Text hb rfl hl ?_, fun k1 => ⟨fun k2 => p_s_l1In ?_, fun k2 => ⟨fun k3 => p_s_l1In ?_, fun k3 => ⟨fun k4 => p_s_l1In ?_, fun k4 => ⟨fun k5 => ⟨i64ok_of (by omega) (by omega), ⟨by omega, by omega⟩, p_s_l3Next hw ?_⟩, fun k5 => ?_⟩⟩⟩⟩⟩⟩⟩
  · simpa [k1] using h
  · simp only [k2] at h
    simp only [show ((2 : Int) = 1) = False by simp, show ((2 : Int) = 3) = False by simp, show ((2 : Int) = 4) = False by simp, show ((2 : Int) = 5) = False by simp, false_imp_iff, true_imp_iff, and_true, true_and] at h
    rw [tf_eq, tf_false]
    refine ⟨fun e1 => ?_, fun e1 => tf_and_not e1 h⟩
    replace h := tf_and_of (r := True) e1 h
    refine ⟨i64ok_of (by omega) (by omega), ⟨by omega, by omega⟩, ?_⟩
    have rest : (gw ws (p + 1) = 1 ∨ Rfr ws 5 2 (gw ws (p + 1))) → i64ok (p + 2) ∧ (0 ≤ p + 2 ∧ p + 2 < (ws.length : Int)) ∧ m_s_l3Next ws (gw ws (p + 2)) 3 fun r7 => (r7 = true → i64ok (p + 3) ∧ i64ok (p + gw ws p / 8) ∧ m_s_l3Zero ws (p + 3) (p + gw ws p / 8) fun r9 => K r9) ∧ (r7 = false → K false) := fun e2 => by
      replace h := tf_and_of (r := True) e2 h
      refine ⟨i64ok_of (by omega) (by omega), ⟨by omega, by omega⟩, p_s_l3Next hw ?_⟩
      rw [tf_eq, tf_false]
      refine ⟨fun e3 => ⟨i64ok_of (by omega) (by omega), i64ok_of (by omega) (by omega), p_s_l3Zero (by omega) b2 hl (tf_and_of (r := True) e3 h)⟩, fun e3 => tf_and_not e3 h⟩
    refine ⟨fun e2 => ⟨i64ok_of (by omega) (by omega), ⟨by omega, by omega⟩, p_s_Kind ⟨fun e3 => ⟨i64ok_of (by omega) (by omega), ⟨by omega, by omega⟩, p_s_l3Leads hw ?_⟩, fun e3 => tf_and_not (fun hh => hh.elim e2 fun hh => e3 hh.1) h⟩⟩, fun e2 => rest (.inl e2)⟩
    rw [tf_eq, tf_false]
    exact ⟨fun e4 => rest (.inr ⟨e3, (lead_ref e3 (.inr (.inl ⟨rfl, rfl⟩))).1 e4⟩), fun e4 => tf_and_not (fun hh => hh.elim e2 fun hh => e4 ((lead_ref e3 (.inr (.inl ⟨rfl, rfl⟩))).2 hh.2)) h⟩
  · simp only [k3] at h
    simp only [show ((3 : Int) = 1) = False by simp, show ((3 : Int) = 2) = False by simp, show ((3 : Int) = 4) = False by simp, show ((3 : Int) = 5) = False by simp, false_imp_iff, true_imp_iff, and_true, true_and] at h
    rw [tf_eq, tf_false]
    refine ⟨fun e1 => ?_, fun e1 => tf_and_not e1 h⟩
    replace h := tf_and_of (r := True) e1 h
    refine ⟨i64ok_of (by omega) (by omega), ⟨by omega, by omega⟩, p_s_Kind ⟨fun e3 => ⟨i64ok_of (by omega) (by omega), ⟨by omega, by omega⟩, p_s_l3Leads hw ?_⟩, fun e3 => tf_and_not (fun hh => e3 hh.1) h⟩⟩
    rw [tf_eq, tf_false]
    refine ⟨fun e4 => ?_, fun e4 => tf_and_not (fun hh => e4 ((lead_ref e3 (.inl ⟨rfl, rfl⟩)).2 hh.2)) h⟩
    replace h := tf_and_of (r := True) ⟨e3, (lead_ref e3 (.inl ⟨rfl, rfl⟩)).1 e4⟩ h
    refine ⟨i64ok_of (by omega) (by omega), ⟨by omega, by omega⟩, p_s_l3Plain hw ?_⟩
    rw [tf_eq, tf_false]
    refine ⟨fun e5 => ?_, fun e5 => tf_and_not e5 h⟩
    replace h := tf_and_of (r := True) e5 h
    refine ⟨i64ok_of (by omega) (by omega), ⟨by omega, by omega⟩, p_s_l3Next hw ?_⟩
    rw [tf_eq, tf_false]
    exact ⟨fun e6 => ⟨i64ok_of (by omega) (by omega), i64ok_of (by omega) (by omega), p_s_l3Zero (by omega) b2 hl (tf_and_of (r := True) e6 h)⟩, fun e6 => tf_and_not e6 h⟩
  · simp only [k4] at h
    simp only [show ((4 : Int) = 1) = False by simp, show ((4 : Int) = 2) = False by simp, show ((4 : Int) = 3) = False by simp, show ((4 : Int) = 5) = False by simp, false_imp_iff, true_imp_iff, and_true, true_and] at h
    rw [tf_eq, tf_false]
    refine ⟨fun e1 => ?_, fun e1 => tf_and_not e1 h⟩
    replace h := tf_and_of (r := True) e1 h
    refine ⟨i64ok_of (by omega) (by omega), ⟨by omega, by omega⟩, p_s_l1In ?_⟩
    rw [tf_eq, tf_false]
    refine ⟨fun e2 => ?_, fun e2 => tf_and_not e2 h⟩
    replace h := tf_and_of (r := True) e2 h
    refine ⟨i64ok_of (by omega) (by omega), ⟨by omega, by omega⟩, p_s_Kind ⟨fun e3 => ⟨i64ok_of (by omega) (by omega), ⟨by omega, by omega⟩, p_s_l3Leads hw ?_⟩, fun e3 => tf_and_not (fun hh => e3 hh.1) h⟩⟩
    rw [tf_eq, tf_false]
    refine ⟨fun e4 => ?_, fun e4 => tf_and_not (fun hh => e4 ((lead_ref e3 (.inr (.inr (.inr ⟨rfl, rfl⟩)))).2 hh.2)) h⟩
    replace h := tf_and_of (r := True) ⟨e3, (lead_ref e3 (.inr (.inr (.inr ⟨rfl, rfl⟩)))).1 e4⟩ h
    exact ⟨i64ok_of (by omega) (by omega), i64ok_of (by omega) (by omega), p_s_l3Zero (by omega) b2 hl h⟩
  · simp only [k5] at h
    simp only [show ((5 : Int) = 1) = False by simp, show ((5 : Int) = 2) = False by simp, show ((5 : Int) = 3) = False by simp, show ((5 : Int) = 4) = False by simp, false_imp_iff, true_imp_iff, and_true, true_and] at h
    refine loopP_intro (fun x => 2 ≤ x.2.1 ∧ (x.1 = true ↔ Nxt ws 5 (gw ws (p + 1)) ∧ ∀ i, 2 ≤ i → i < x.2.1 → i < gw ws p / 8 → Pla ws (gw ws (p + i)))) (fun x => (gw ws p / 8 - x.2.1).toNat) ⟨Int.le_refl _, ?_⟩ ?_
    · dsimp only
      rw [tf_eq]
      exact ⟨fun hh => ⟨hh, fun i g1 g2 => by omega⟩, fun hh => hh.1⟩
    · rintro ⟨ok, x, _⟩ ⟨g1, g2⟩
      dsimp only at *
      refine ⟨fun g3 => ⟨fun g4 => ⟨i64ok_of (by omega) (by omega), ⟨by omega, by omega⟩, p_s_l3Plain hw ⟨i64ok_of (by omega) (by omega), ⟨by omega, ?_⟩, by omega⟩⟩, fun g4 => ?_⟩, fun g3 => ?_⟩
      · rw [tf_eq]
        obtain ⟨q1, q2⟩ := g2.1 g4
        refine ⟨fun hh => ⟨q1, fun i r1 r2 r3 => ?_⟩, fun hh => hh.2 x g1 (by omega) g3⟩
        by_cases e : i = x
        · subst e; exact hh
        · exact q2 i r1 (by omega) r3
      · rw [g4]
        refine Eq.mp (congrArg K (tf_not fun hh => ?_)) h
        rw [g4] at g2
        exact absurd (g2.2 ⟨hh.1, fun i r1 r2 r3 => hh.2 i r1 r3⟩) (by simp)
      · have : ok = tf (Nxt ws 5 (gw ws (p + 1)) ∧ ∀ i, 2 ≤ i → i < gw ws p / 8 → Pla ws (gw ws (p + i))) := by
          rw [Bool.eq_iff_iff, tf_eq, g2]
          exact and_congr_right fun _ => ⟨fun hh i r1 r2 => hh i r1 (by omega) r2, fun hh i r1 r2 r3 => hh i r1 r3⟩
        rwa [this]
  · rwa [tf_of ⟨fun e => absurd e k1, fun e => absurd e k2, fun e => absurd e k3, fun e => absurd e k4, fun e => absurd e k5⟩] at h
theorem p_s_HeapOk (hl : ws.length ≤ 1000000) {K : Bool → Prop} (h : K (tf (Hok ws))) : m_s_HeapOk ws K := by
  have hbl := bl_len' (ws := ws)
  refine ⟨?_⟩
  unfold b_s_HeapOk
  simp only [gwE]
  refine p_s_Blocks hl ?_
  refine loopP_intro (fun x => 0 ≤ x.1 ∧ ∀ (t : Nat) (p : Int), (t : Int) < x.1 → (bl ws)[t]? = some p → Shp ws p) (fun x => ((bl ws).length - x.1).toNat) ⟨Int.le_refl _, fun t p h1 _ => by dsimp only at h1; omega⟩ ?_
  rintro ⟨x, _⟩ ⟨h0, h1⟩
  dsimp only at *
  refine ⟨fun h2 => ?_, fun h2 => p_s_SlabOk hl ?_⟩
  · have hm := gw_mem h0 h2
    refine ⟨⟨h0, h2⟩, p_s_l3Shape (bl_mem hm).1 hm ?_⟩
    rw [nn_eq, tf_eq]
    refine ⟨fun h3 => ?_, fun h3 => ⟨i64ok_of (by omega) (by omega), ⟨by omega, fun t p g1 g2 => ?_⟩, by omega⟩⟩
    · rwa [tf_not (fun hh => h3 (hh.2 _ hm))] at h
    · by_cases e : (t : Int) = x
      · rw [show t = x.toNat by omega, get_gw h0 h2] at g2
        cases g2
        exact h3
      · exact h1 t p (by omega) g2
  · rwa [tf_congr (show Hok ws ↔ Slb ws from ⟨fun hh => hh.1, fun hh => ⟨hh, fun p hp => by
      obtain ⟨t, ht⟩ := List.getElem?_of_mem hp
      have := (List.getElem?_eq_some_iff.1 ht).1
      exact h1 t p (by omega) ht⟩⟩)] at h
theorem p_s_RootsOk (hl : ws.length ≤ 1000000) {roots : List Int} (hr : roots.length ≤ 1000000) {K : Bool → Prop} (h : K (tf (Rok ws roots))) : m_s_RootsOk ws roots K := by
  refine ⟨?_⟩
  unfold b_s_RootsOk
  simp only [gwE]
  refine p_s_HeapOk hl ?_
  rw [nn_eq, tf_eq]
  refine ⟨fun h1 => ?_, fun h1 => ?_⟩
  · rwa [tf_not (fun hh => h1 hh.1)] at h
  · refine loopP_intro (fun x => 0 ≤ x.1 ∧ ∀ (t : Nat) (v : Int), (t : Int) < x.1 → roots[t]? = some v → Lead ws v 5) (fun x => (roots.length - x.1).toNat) ⟨Int.le_refl _, fun t p h1 _ => by dsimp only at h1; omega⟩ ?_
    rintro ⟨x, _⟩ ⟨h0, h2⟩
    dsimp only at *
    refine ⟨fun h3 => ⟨⟨h0, h3⟩, p_s_l3Leads h1.1 ?_⟩, fun h3 => ?_⟩
    · rw [nn_eq, tf_eq]
      refine ⟨fun h4 => ?_, fun h4 => ⟨i64ok_of (by omega) (by omega), ⟨by omega, fun t p g1 g2 => ?_⟩, by omega⟩⟩
      · rwa [tf_not (fun hh => h4 (hh.2 _ (gw_mem h0 h3)))] at h
      · by_cases e : (t : Int) = x
        · rw [show t = x.toNat by omega, get_gw h0 h3] at g2
          cases g2
          exact h4
        · exact h2 t p (by omega) g2
    · rwa [tf_of ⟨h1, fun v hv => by
        obtain ⟨t, ht⟩ := List.getElem?_of_mem hv
        have := (List.getElem?_eq_some_iff.1 ht).1
        exact h2 t v (by omega) ht⟩] at h
end
end Go.Proofs.YthjmmofafpahhaaGreat.Sx
