/- Plain laws: what a block's words must be; heaps; roots: of the program. -/
import Derived.Test.YthjmmofafpahhaaGreatPuC
namespace Go.Proofs.YthjmmofafpahhaaGreat.Sx
open Go
set_option linter.unusedVariables false
set_option linter.unusedSimpArgs false

/-- The part of a row. -/
def part (ws : List Int) (p q : Int) : List Int := List.take (Int.toNat q - Int.toNat p) (List.drop (Int.toNat p) ws)
theorem partE (ws : List Int) (p q : Int) : List.take (Int.toNat q - Int.toNat p) (List.drop (Int.toNat p) ws) = part ws p q := rfl
theorem part_len {ws : List Int} {p q : Int} (h0 : 0 ≤ p) (h1 : p ≤ q) (h2 : q ≤ ws.length) : ((part ws p q).length : Int) = q - p := by
  simp only [part, List.length_take, List.length_drop]
  omega
theorem gw_part {ws : List Int} {p q i : Int} (h0 : 0 ≤ p) (hi : 0 ≤ i) (h1 : i < q - p) (h2 : q ≤ ws.length) : gw (part ws p q) i = gw ws (p + i) := by
  unfold gw part
  have e : (p + i).toNat = p.toNat + i.toNat := by omega
  rw [List.getD_eq_getElem?_getD, List.getD_eq_getElem?_getD, List.getElem?_take_of_lt (by omega), List.getElem?_drop, e]
theorem gw_set {ws : List Int} {p v : Int} (h0 : 0 ≤ p) (h1 : p < ws.length) {q : Int} (hq : 0 ≤ q) : gw (List.set ws (Int.toNat p) v) q = if q = p then v else gw ws q := by
  unfold gw
  rw [List.getD_eq_getElem?_getD, List.getElem?_set]
  split
  · rename_i e
    have : q = p := by omega
    rw [if_pos this, if_pos (by omega)]
    rfl
  · rename_i e
    have : q ≠ p := fun e' => e (by rw [e'])
    rw [if_neg this, List.getD_eq_getElem?_getD]
theorem gw_rep {n : Nat} {v q : Int} (hq : 0 ≤ q) (h : q < n) : gw (List.replicate n v) q = v := by
  unfold gw
  rw [List.getD_eq_getElem?_getD, List.getElem?_replicate, if_pos (by omega)]
  rfl
/-- The kinds of all blocks at their places. -/
def Kds (ws all : List Int) : Prop := all.length = ws.length ∧ ∀ p : Int, 0 ≤ p → p < ws.length → gw all p = kindAt ws p
theorem kind_in {ws : List Int} {p : Int} (h : p ∈ bl ws) : kindAt ws p = gw ws p % 8 := if_pos h
theorem kind_out {ws : List Int} {p : Int} (h : p ∉ bl ws) : kindAt ws p = -1 := if_neg h

section
variable {ws : List Int}
open Classical in
theorem p_i_kinds (hl : ws.length ≤ 1000000) {K : List Int → Prop} (h : ∀ all, Kds ws all → K all) : m_i_kinds ws K := by
  have hbl := bl_len' (ws := ws)
  refine ⟨?_⟩
  unfold b_i_kinds
  simp only [gwE, List.length_replicate, Int.toNat_natCast]
  refine ⟨⟨by omega, by omega⟩, ?_⟩
  refine loopP_intro (fun x => 0 ≤ x.2.1 ∧ x.2.1 ≤ ws.length ∧ x.1.length = ws.length ∧ ∀ p : Int, 0 ≤ p → p < x.2.1 → gw x.1 p = -1) (fun x => (ws.length - x.2.1).toNat) ⟨Int.le_refl _, by simp, by simp, fun p h0 h1 => by dsimp only at h1; omega⟩ ?_
  rintro ⟨l, x, _⟩ ⟨h0, h1, h2, h3⟩
  dsimp only at *
  refine ⟨fun h4 => ⟨⟨h0, by omega⟩, i64ok_of (by omega) (by omega), ⟨by omega, by omega, by simp [h2], fun p g0 g1 => ?_⟩, by omega⟩, fun h4 => p_i_Blocks hl ?_⟩
  · rw [gw_set h0 (by omega) g0]
    split
    · rfl
    · exact h3 p g0 (by omega)
  · refine loopP_intro (fun y => 0 ≤ y.2.1 ∧ y.1.length = ws.length ∧ ∀ p : Int, 0 ≤ p → p < ws.length → gw y.1 p = if (∃ t : Nat, (t : Int) < y.2.1 ∧ (bl ws)[t]? = some p) then gw ws p % 8 else -1) (fun y => ((bl ws).length - y.2.1).toNat) ⟨Int.le_refl _, h2, fun p g0 g1 => ?_⟩ ?_
    · dsimp only
      rw [if_neg (fun ⟨t, ht, _⟩ => by omega)]
      exact h3 p g0 (by omega)
    · rintro ⟨m, y, _⟩ ⟨k0, k1, k2⟩
      dsimp only at *
      refine ⟨fun k3 => ?_, fun k3 => h m ⟨k1, fun p g0 g1 => ?_⟩⟩
      · have hg := get_gw k0 k3
        obtain ⟨_, q0, q1, _⟩ := bl_mem (gw_mem k0 k3)
        refine ⟨⟨k0, k3⟩, ⟨q0, q1⟩, ⟨q0, by omega⟩, i64ok_of (by omega) (by omega), ⟨by omega, by simp [k1], fun p g0 g1 => ?_⟩, by omega⟩
        rw [gw_set q0 (by omega) g0]
        by_cases e : p = gw (bl ws) y
        · rw [if_pos e, if_pos ⟨y.toNat, by omega, by rw [e]; exact hg⟩, e]
        · rw [if_neg e, k2 p g0 g1]
          by_cases e2 : ∃ t : Nat, (t : Int) < y ∧ (bl ws)[t]? = some p
          · obtain ⟨t, t1, t2⟩ := e2
            rw [if_pos ⟨t, t1, t2⟩, if_pos ⟨t, by omega, t2⟩]
          · rw [if_neg e2, if_neg]
            rintro ⟨t, t1, t2⟩
            by_cases e3 : (t : Int) = y
            · rw [show t = y.toNat by omega, hg] at t2
              cases t2
              exact e rfl
            · exact e2 ⟨t, by omega, t2⟩
      · rw [k2 p g0 g1]
        by_cases e : p ∈ bl ws
        · obtain ⟨t, ht⟩ := List.getElem?_of_mem e
          have := (List.getElem?_eq_some_iff.1 ht).1
          rw [if_pos ⟨t, by omega, ht⟩, kind_in e]
        · rw [if_neg (fun ⟨t, _, ht⟩ => e (List.mem_of_getElem? ht)), kind_out e]
theorem p_i_leadsTo {all : List Int} (ha : Kds ws all) (hl : ws.length ≤ 1000000) {v k b : Int} (hb : b ≠ -1) {K : Bool → Prop} (h : K (tf (Rfr ws k b v))) : m_i_leadsTo all v k b K := by
  obtain ⟨a1, a2⟩ := ha
  refine ⟨?_⟩
  unfold b_i_leadsTo
  simp only [gwE]
  refine p_i_Kind ⟨fun e1 => p_i_Num ⟨i64ok_of (by omega) (by omega), p_i_within ?_⟩, fun e1 => ?_⟩
  · rw [tf_eq, tf_false]
    refine ⟨fun e2 => p_i_Num ⟨⟨by omega, by omega⟩, ?_⟩, fun e2 => ?_⟩
    · rw [a2 _ (by omega) (by omega)]
      refine Eq.mp (congrArg K (tf_congr ?_)) h
      constructor
      · rintro ⟨_, g1, g2⟩
        rw [kind_in g1]; exact g2
      · intro g
        by_cases hm : v / 8 ∈ bl ws
        · exact ⟨e1, hm, by rw [← kind_in hm]; exact g⟩
        · rw [kind_out hm] at g
          exact absurd g.symm hb
    · refine Eq.mp (congrArg K (tf_not fun hh => e2 ?_)) h
      obtain ⟨_, g1, g2, _⟩ := bl_mem hh.2.1
      omega
  · exact Eq.mp (congrArg K (tf_not fun hh => e1 hh.1)) h
theorem p_i_plainOk {all : List Int} (ha : Kds ws all) (hw : Slb ws) {v : Int} {K : Bool → Prop} (h : K (tf (Pla ws v))) : m_i_plainOk all v K := by
  have hl : ws.length ≤ 1000000 := by have := hw.1; omega
  refine ⟨?_⟩
  unfold b_i_plainOk
  have fin : ∀ k b, v % 8 = k → ((k = 4 ∧ b = 1) ∨ (k = 5 ∧ b = 2) ∨ (k = 6 ∧ b = 4)) → m_i_leadsTo all v k b fun r => K r := fun k b hk hi => by
    refine p_i_leadsTo ha hl (by omega) (Eq.mp (congrArg K (tf_congr ?_)) h)
    have := lead_ref (ws := ws) (v := v) (inner := 0) hk (by rcases hi with h | h | h; exact .inl h; exact .inr (.inl h); exact .inr (.inr (.inl h)))
    exact ⟨fun hh => ⟨hk, this.1 hh.2⟩, fun hh => ⟨by omega, this.2 hh.2⟩⟩
  refine p_i_Kind ⟨fun e => fin 4 1 e (.inl ⟨rfl, rfl⟩), fun e4 => ⟨fun e => fin 5 2 e (.inr (.inl ⟨rfl, rfl⟩)), fun e5 => ⟨fun e => fin 6 4 e (.inr (.inr ⟨rfl, rfl⟩)), fun e6 => p_i_Kind ⟨fun e7 => p_i_ValueOk ?_, fun e7 => ?_⟩⟩⟩⟩
  · refine Eq.mp (congrArg K (tf_congr ?_)) h
    exact ⟨fun hh => hh.2.1, fun hh => ⟨e7, (vok_small (by omega)).2 hh⟩⟩
  · exact Eq.mp (congrArg K (tf_not fun hh => e7 hh.1)) h
theorem p_i_textOk {w : List Int} (hl : w.length ≤ 1000000) (h2 : 2 ≤ w.length) {K : Bool → Prop} (h : K (tf ((0 ≤ gw w 1 ∧ gw w 1 ≤ w.length - 2) ∧ ∀ i : Int, 0 ≤ i → i < w.length - 2 → (0 ≤ gw w (2 + i) ∧ gw w (2 + i) ≤ 255) ∧ (gw w 1 ≤ i → gw w (2 + i) = 0)))) : m_i_textOk w K := by
  have hpl : ((part w 2 w.length).length : Int) = w.length - 2 := part_len (by omega) (by omega) (by omega)
  refine ⟨?_⟩
  unfold b_i_textOk
  simp only [gwE, partE]
  refine ⟨⟨by omega, by omega⟩, i64ok_of (by omega) (by omega), p_i_within ?_⟩
  rw [nn_eq, tf_eq]
  refine ⟨fun e => tf_and_not e h, fun e => ⟨⟨by omega, by omega, by omega⟩, ?_⟩⟩
  replace h := tf_and_of (r := True) e h
  refine loopP_intro (fun x => 0 ≤ x.1 ∧ ∀ i : Int, 0 ≤ i → i < x.1 → (0 ≤ gw w (2 + i) ∧ gw w (2 + i) ≤ 255) ∧ (gw w 1 ≤ i → gw w (2 + i) = 0)) (fun x => (w.length - 2 - x.1).toNat) ⟨Int.le_refl _, fun i g1 g2 => by dsimp only at g2; omega⟩ ?_
  rintro ⟨x, _⟩ ⟨g0, g1⟩
  dsimp only at *
  rw [hpl]
  have bad : x < w.length - 2 → ¬ ((0 ≤ gw w (2 + x) ∧ gw w (2 + x) ≤ 255) ∧ (gw w 1 ≤ x → gw w (2 + x) = 0)) → K false := fun hx hn => Eq.mp (congrArg K (tf_not fun hh => hn (hh x g0 hx))) h
  refine ⟨fun g2 => ⟨⟨g0, g2⟩, p_i_within ?_⟩, fun g2 => ?_⟩
  · rw [nn_eq, tf_eq, gw_part (by omega) g0 (by omega) (by omega)]
    have more : (0 ≤ gw w (2 + x) ∧ gw w (2 + x) ≤ 255) → (gw w 1 ≤ x → gw w (2 + x) = 0) → i64ok (x + 1) ∧ (0 ≤ x + 1 ∧ ∀ i : Int, 0 ≤ i → i < x + 1 → (0 ≤ gw w (2 + i) ∧ gw w (2 + i) ≤ 255) ∧ (gw w 1 ≤ i → gw w (2 + i) = 0)) ∧ (w.length - 2 - (x + 1)).toNat < (w.length - 2 - x).toNat := fun q1 q2 => by
      refine ⟨i64ok_of (by omega) (by omega), ⟨by omega, fun i r1 r2 => ?_⟩, by omega⟩
      by_cases e : i = x
      · subst e; exact ⟨q1, q2⟩
      · exact g1 i r1 (by omega)
    refine ⟨fun g3 => ⟨fun g4 => ⟨fun g5 => bad g2 fun hh => g5 (hh.2 g4), fun g5 => more g3 fun _ => by omega⟩, fun g4 => more g3 fun hh => absurd hh g4⟩, fun g3 => bad g2 fun hh => g3 hh.1⟩
  · exact Eq.mp (congrArg K (tf_of fun (i : Int) r1 (r2 : i < w.length - 2) => g1 i r1 (by omega))) h
theorem p_i_shapeOk_1 {n : Int} {w : List Int} (h0 : 0 ≤ n) (hn : n ≤ 1000) {K : List Int → Bool → Prop} (h : K w (tf ((w.length : Int) = n ∨ ((w.length : Int) = n + 1 ∧ gw w n = 0)))) : m_i_shapeOk_1 n w K := by
  refine ⟨?_⟩
  unfold b_i_shapeOk_1
  simp only [gwE]
  refine ⟨fun e => ⟨i64ok_of (by omega) (by omega), fun e2 => ⟨⟨h0, by omega⟩, ?_⟩, fun e2 => ?_⟩, fun e => ?_⟩
  · exact Eq.mp (congrArg (K w) (tf_congr ⟨fun hh => (hh.resolve_left e).2, fun hh => .inr ⟨e2, hh⟩⟩)) h
  · exact Eq.mp (congrArg (K w) (tf_not fun hh => hh.elim e fun hh => e2 hh.1)) h
  · exact Eq.mp (congrArg (K w) (tf_of (.inl e))) h
theorem p_i_shapeOk_2 {all : List Int} (ha : Kds ws all) (hl : ws.length ≤ 1000000) {v b : Int} (hb : b ≠ -1) {K : List Int → Bool → Prop} (h : K all (tf (Nxt ws b v))) : m_i_shapeOk_2 v b all K := by
  refine ⟨?_⟩
  unfold b_i_shapeOk_2
  refine ⟨fun e => p_i_leadsTo ha hl hb ?_, fun e => ?_⟩
  · exact Eq.mp (congrArg (K all) (tf_congr ⟨fun hh => hh.resolve_left e, fun hh => .inr hh⟩)) h
  · exact Eq.mp (congrArg (K all) (tf_of (.inl e))) h
theorem p_i_anyPlain {all : List Int} (ha : Kds ws all) (hw : Slb ws) {l : List Int} (hll : l.length ≤ 1000000) {K : List Int → Bool → Prop} (h : K all (tf (∃ v, v ∈ l ∧ ¬ Pla ws v))) : m_g_slices_ContainsFunc___int_int__i_shapeOk_3 l all K := by
  refine ⟨?_⟩
  unfold b_g_slices_ContainsFunc___int_int__i_shapeOk_3
  refine ⟨?_⟩
  unfold b_g_slices_IndexFunc___int_int__i_shapeOk_3
  simp only [gwE]
  refine loopP_intro (fun x => 0 ≤ x.1 ∧ ∀ (t : Nat) (v : Int), (t : Int) < x.1 → l[t]? = some v → Pla ws v) (fun x => (l.length - x.1).toNat) ⟨Int.le_refl _, fun t p h1 _ => by dsimp only at h1; omega⟩ ?_
  rintro ⟨x, _⟩ ⟨h0, h2⟩
  dsimp only at *
  refine ⟨fun h3 => ⟨⟨h0, h3⟩, ⟨?_⟩⟩, fun h3 => ?_⟩
  · unfold b_i_shapeOk_3
    refine p_i_plainOk ha hw ?_
    simp only [tf_eq, tf_false]
    refine ⟨fun h4 => ?_, fun h4 => ⟨i64ok_of (by omega) (by omega), trivial, ⟨by omega, fun t p g1 g2 => ?_⟩, by omega⟩⟩
    · rw [tf_of h0]
      exact Eq.mp (congrArg (K all) (tf_of ⟨_, gw_mem h0 h3, h4⟩)) h
    · by_cases e : (t : Int) = x
      · rw [show t = x.toNat by omega, get_gw h0 h3] at g2
        cases g2
        exact Classical.not_not.1 h4
      · exact h2 t p (by omega) g2
  · rw [tf_not (show ¬ (0 : Int) ≤ -1 by omega)]
    refine Eq.mp (congrArg (K all) (tf_not ?_)) h
    rintro ⟨v, hv, hn⟩
    obtain ⟨t, ht⟩ := List.getElem?_of_mem hv
    have := (List.getElem?_eq_some_iff.1 ht).1
    exact hn (h2 t v (by omega) ht)
theorem part_mem {p q v : Int} (h0 : 0 ≤ p) (h1 : p ≤ q) (h2 : q ≤ ws.length) : v ∈ part ws p q ↔ ∃ i, 0 ≤ i ∧ i < q - p ∧ gw ws (p + i) = v := by
  have hl := part_len h0 h1 h2
  constructor
  · intro hv
    obtain ⟨t, ht⟩ := List.getElem?_of_mem hv
    have := (List.getElem?_eq_some_iff.1 ht).1
    refine ⟨t, by omega, by omega, ?_⟩
    rw [← gw_part h0 (by omega) (by omega) h2]
    exact gw_get ht
  · rintro ⟨i, g0, g1, rfl⟩
    rw [← gw_part h0 g0 g1 h2]
    exact gw_mem g0 (by omega)
theorem p_i_shapeOk {all : List Int} (ha : Kds ws all) (hw : Slb ws) {p : Int} (hp : p ∈ bl ws) {K : Bool → Prop} (h : K (tf (Shp ws p))) : m_i_shapeOk ws all p K := by
  obtain ⟨_, h0, h1, hb⟩ := bl_mem hp
  obtain ⟨_, b1, b2, b3⟩ := id hb
  have hl : ws.length ≤ 1000000 := by have := hw.1; omega
  have hk := ha.2 p h0 h1
  rw [kind_in hp] at hk
  have hal := ha.1
  refine ⟨?_⟩
  unfold b_i_shapeOk
  simp only [gwE, partE, hk]
  have hpl : ((part ws p (p + gw ws p / 8)).length : Int) = gw ws p / 8 := by rw [part_len h0 (by omega) b2]; omega
  have hgp : ∀ i, 0 ≤ i → i < gw ws p / 8 → gw (part ws p (p + gw ws p / 8)) i = gw ws (p + i) := fun i g0 g1 => gw_part h0 g0 (by omega) b2
  unfold Shp at h
  refine ⟨⟨h0, h1⟩, i64ok_of (by omega) (by omega), ⟨h0, by omega, b2⟩, ⟨h0, by omega⟩, fun k0 => ?_, fun k0 => ⟨fun k1 => p_i_textOk (by omega) (by omega) ?_, fun k1 => ⟨fun k2 => p_i_shapeOk_1 (by omega) (by omega) ?_, fun k2 => ⟨fun k3 => p_i_shapeOk_1 (by omega) (by omega) ?_, fun k3 => ⟨fun k4 => p_i_shapeOk_1 (by omega) (by omega) ?_, fun k4 => ⟨⟨by omega, by omega⟩, p_i_shapeOk_2 ha hl (by omega) ?_⟩⟩⟩⟩⟩⟩
  · rwa [tf_of ⟨fun e => by omega, fun e => by omega, fun e => by omega, fun e => by omega, fun e => by omega⟩] at h
  · refine Eq.mp (congrArg K (tf_congr ?_)) h
    simp only [k1, show ((1 : Int) = 2) = False by simp, show ((1 : Int) = 3) = False by simp, show ((1 : Int) = 4) = False by simp, show ((1 : Int) = 5) = False by simp, false_imp_iff, true_imp_iff, and_true, true_and]
    unfold Txt Zer
    rw [hpl, hgp 1 (by omega) (by omega)]
    constructor
    · rintro ⟨q1, q2, q3⟩
      refine ⟨q1, fun i g0 g1 => ?_⟩
      rw [hgp _ (by omega) (by omega)]
      rw [show p + (2 + i) = p + 2 + i by omega]
      by_cases e : gw ws (p + 1) ≤ i
      · have := q2 (p + 2 + i) (by omega) (by omega)
        exact ⟨by omega, fun _ => this⟩
      · exact ⟨q3 i g0 (by omega), fun e' => absurd e' e⟩
    · rintro ⟨q1, q2⟩
      refine ⟨q1, fun i g0 g1 => ?_, fun i g0 g1 => ?_⟩
      · have := (q2 (i - p - 2) (by omega) (by omega)).2 (by omega)
        rw [hgp _ (by omega) (by omega)] at this
        rw [← this]
        congr 1
        omega
      · have := (q2 i g0 (by omega)).1
        rw [hgp _ (by omega) (by omega), show p + (2 + i) = p + 2 + i by omega] at this
        exact this
  · simp only [k2, show ((2 : Int) = 1) = False by simp, show ((2 : Int) = 3) = False by simp, show ((2 : Int) = 4) = False by simp, show ((2 : Int) = 5) = False by simp, false_imp_iff, true_imp_iff, and_true, true_and] at h
    rw [tf_eq, tf_false, hpl]
    have hsp : (gw ws p / 8 = 3 ∨ gw ws p / 8 = 3 + 1 ∧ gw (part ws p (p + gw ws p / 8)) 3 = 0) ↔ ((3 ≤ gw ws p / 8 ∧ gw ws p / 8 ≤ 4) ∧ Zer ws (p + 3) (p + gw ws p / 8)) := by
      constructor
      · rintro (e | ⟨e, e'⟩)
        · exact ⟨by omega, fun i g0 g1 => by omega⟩
        · rw [hgp 3 (by omega) (by omega)] at e'
          exact ⟨by omega, fun i g0 g1 => by rw [show i = p + 3 by omega]; exact e'⟩
      · rintro ⟨q1, q2⟩
        by_cases e : gw ws p / 8 = 3
        · exact .inl e
        · exact .inr ⟨by omega, by rw [hgp 3 (by omega) (by omega)]; exact q2 _ (by omega) (by omega)⟩
    rw [hsp]
    refine ⟨fun e1 => ?_, fun e1 => Eq.mp (congrArg K (tf_not fun hh => e1 ⟨hh.1, hh.2.2.2⟩)) h⟩
    replace h := tf_and_of (r := True) e1.1 h
    rw [hgp 1 (by omega) (by omega), hgp 2 (by omega) (by omega)]
    have rest : (gw ws (p + 1) = 1 ∨ Rfr ws 5 2 (gw ws (p + 1))) → m_i_shapeOk_2 (gw ws (p + 2)) 3 all fun r8 r1_8 => K r1_8 := fun e2 => by
      replace h := tf_and_of (r := True) e2 h
      exact p_i_shapeOk_2 ha hl (by omega) (Eq.mp (congrArg K (tf_congr ⟨fun hh => hh.1, fun hh => ⟨hh, e1.2⟩⟩)) h)
    refine ⟨⟨by omega, by omega⟩, fun e2 => ⟨⟨by omega, by omega⟩, p_i_leadsTo ha hl (by omega) ?_⟩, fun e2 => ⟨⟨by omega, by omega⟩, rest (.inl e2)⟩⟩
    rw [tf_eq, tf_false]
    exact ⟨fun e3 => ⟨⟨by omega, by omega⟩, rest (.inr e3)⟩, fun e3 => tf_and_not (fun hh => hh.elim e2 e3) h⟩
  · simp only [k3, show ((3 : Int) = 1) = False by simp, show ((3 : Int) = 2) = False by simp, show ((3 : Int) = 4) = False by simp, show ((3 : Int) = 5) = False by simp, false_imp_iff, true_imp_iff, and_true, true_and] at h
    rw [tf_eq, tf_false, hpl]
    have hsp : (gw ws p / 8 = 4 ∨ gw ws p / 8 = 4 + 1 ∧ gw (part ws p (p + gw ws p / 8)) 4 = 0) ↔ ((4 ≤ gw ws p / 8 ∧ gw ws p / 8 ≤ 5) ∧ Zer ws (p + 4) (p + gw ws p / 8)) := by
      constructor
      · rintro (e | ⟨e, e'⟩)
        · exact ⟨by omega, fun i g0 g1 => by omega⟩
        · rw [hgp 4 (by omega) (by omega)] at e'
          exact ⟨by omega, fun i g0 g1 => by rw [show i = p + 4 by omega]; exact e'⟩
      · rintro ⟨q1, q2⟩
        by_cases e : gw ws p / 8 = 4
        · exact .inl e
        · exact .inr ⟨by omega, by rw [hgp 4 (by omega) (by omega)]; exact q2 _ (by omega) (by omega)⟩
    rw [hsp]
    refine ⟨fun e1 => ?_, fun e1 => Eq.mp (congrArg K (tf_not fun hh => e1 ⟨hh.1, hh.2.2.2.2⟩)) h⟩
    replace h := tf_and_of (r := True) e1.1 h
    rw [hgp 1 (by omega) (by omega), hgp 2 (by omega) (by omega), hgp 3 (by omega) (by omega)]
    refine ⟨⟨by omega, by omega⟩, p_i_leadsTo ha hl (by omega) ?_⟩
    rw [tf_eq, tf_false]
    refine ⟨fun e2 => ⟨⟨by omega, by omega⟩, p_i_plainOk ha hw ?_⟩, fun e2 => tf_and_not e2 h⟩
    replace h := tf_and_of (r := True) e2 h
    rw [tf_eq, tf_false]
    refine ⟨fun e3 => ⟨⟨by omega, by omega⟩, ?_⟩, fun e3 => tf_and_not e3 h⟩
    replace h := tf_and_of (r := True) e3 h
    exact p_i_shapeOk_2 ha hl (by omega) (Eq.mp (congrArg K (tf_congr ⟨fun hh => hh.1, fun hh => ⟨hh, e1.2⟩⟩)) h)
  · simp only [k4, show ((4 : Int) = 1) = False by simp, show ((4 : Int) = 2) = False by simp, show ((4 : Int) = 3) = False by simp, show ((4 : Int) = 5) = False by simp, false_imp_iff, true_imp_iff, and_true, true_and] at h
    rw [tf_eq, tf_false, hpl]
    have hsp : (gw ws p / 8 = 3 ∨ gw ws p / 8 = 3 + 1 ∧ gw (part ws p (p + gw ws p / 8)) 3 = 0) ↔ ((3 ≤ gw ws p / 8 ∧ gw ws p / 8 ≤ 4) ∧ Zer ws (p + 3) (p + gw ws p / 8)) := by
      constructor
      · rintro (e | ⟨e, e'⟩)
        · exact ⟨by omega, fun i g0 g1 => by omega⟩
        · rw [hgp 3 (by omega) (by omega)] at e'
          exact ⟨by omega, fun i g0 g1 => by rw [show i = p + 3 by omega]; exact e'⟩
      · rintro ⟨q1, q2⟩
        by_cases e : gw ws p / 8 = 3
        · exact .inl e
        · exact .inr ⟨by omega, by rw [hgp 3 (by omega) (by omega)]; exact q2 _ (by omega) (by omega)⟩
    rw [hsp]
    refine ⟨fun e1 => ?_, fun e1 => Eq.mp (congrArg K (tf_not fun hh => e1 ⟨hh.1, hh.2.2.2⟩)) h⟩
    replace h := tf_and_of (r := True) e1.1 h
    rw [hgp 1 (by omega) (by omega), hgp 2 (by omega) (by omega)]
    refine ⟨⟨by omega, by omega⟩, p_i_within ?_⟩
    rw [tf_eq, tf_false]
    refine ⟨fun e2 => ⟨⟨by omega, by omega⟩, p_i_leadsTo ha hl (by omega) ?_⟩, fun e2 => tf_and_not e2 h⟩
    replace h := tf_and_of (r := True) e2 h
    exact Eq.mp (congrArg K (tf_congr ⟨fun hh => hh.1, fun hh => ⟨hh, e1.2⟩⟩)) h
  · have k5 : gw ws p % 8 = 5 := by omega
    simp only [k5, show ((5 : Int) = 1) = False by simp, show ((5 : Int) = 2) = False by simp, show ((5 : Int) = 3) = False by simp, show ((5 : Int) = 4) = False by simp, false_imp_iff, true_imp_iff, and_true, true_and] at h
    rw [tf_eq, tf_false, hgp 1 (by omega) (by omega), hpl]
    refine ⟨fun e1 => ⟨⟨by omega, by omega, by omega⟩, p_i_anyPlain ha hw (by have := part_len (ws := part ws p (p + gw ws p / 8)) (p := 2) (q := gw ws p / 8) (by omega) (by omega) (by omega); omega) ?_⟩, fun e1 => tf_and_not e1 h⟩
    replace h := tf_and_of (r := True) e1 h
    refine Eq.mp (congrArg K (tf_congr ?_)) h
    rw [tf_eq]
    simp only [part_mem (ws := part ws p (p + gw ws p / 8)) (p := 2) (q := gw ws p / 8) (by omega) (by omega) (by omega)]
    constructor
    · rintro hh ⟨v, ⟨i, g0, g1, rfl⟩, hn⟩
      rw [hgp _ (by omega) (by omega)] at hn
      exact hn (hh (2 + i) (by omega) (by omega))
    · intro hh i g0 g1
      apply Classical.byContradiction
      intro hn
      refine hh ⟨gw ws (p + i), ⟨i - 2, by omega, by omega, ?_⟩, hn⟩
      rw [hgp _ (by omega) (by omega)]
      congr 1
      omega
end
end Go.Proofs.YthjmmofafpahhaaGreat.Sx
