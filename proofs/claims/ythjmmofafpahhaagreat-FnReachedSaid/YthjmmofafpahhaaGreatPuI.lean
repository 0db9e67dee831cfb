/- Plain laws: markers that are right. -/
import Derived.Test.YthjmmofafpahhaaGreatPuH
namespace Go.Proofs.YthjmmofafpahhaaGreat.Sx
open Go
set_option linter.unusedVariables false
set_option linter.unusedSimpArgs false

theorem getD_two {a b : List Int} {i : Int} (h0 : 0 ≤ i) (h : i < 2) : List.getD [a, b] (Int.toNat i) [] = if i = 0 then a else b := by
  have : i = 0 ∨ i = 1 := by omega
  rcases this with rfl | rfl <;> rfl
theorem p_grow {n : Int} (h0 : 0 ≤ n) (h1 : n ≤ 1000000000) {K : List Int → Prop} (h : K []) : m_g_slices_Grow___int_int_ n K := by
  refine ⟨?_⟩
  unfold b_g_slices_Grow___int_int_
  refine ⟨fun e => by omega, fun e => ⟨i64ok_of (by omega) (by omega), i64ok_of (by omega) (by omega), fun e2 => ⟨⟨by omega, by omega, by omega⟩, ⟨e2, by omega⟩, ⟨by omega, by omega, by omega⟩, ?_⟩, fun e2 => h⟩⟩
  simpa using h
theorem p_concat {a b : List Int} (ha : a.length ≤ 1000000) (hb : b.length ≤ 1000000) {K : List Int → Prop} (h : K (a ++ b)) : m_g_slices_Concat___int_int_ [a, b] K := by
  refine ⟨?_⟩
  unfold b_g_slices_Concat___int_int_
  refine loopP_intro (fun x => 0 ≤ x.2.1 ∧ x.2.1 ≤ 2 ∧ x.1 = (if 1 ≤ x.2.1 then (a.length : Int) else 0) + if 2 ≤ x.2.1 then (b.length : Int) else 0) (fun x => (2 - x.2.1).toNat) ⟨Int.le_refl _, by simp, by simp⟩ ?_
  rintro ⟨n, i, _⟩ ⟨g0, g1, g2⟩
  dsimp only at *
  simp only [List.length_cons, List.length_nil]
  have hi : i = 0 ∨ i = 1 ∨ i = 2 := by omega
  have hn : 0 ≤ n ∧ n ≤ 2000000 := by rw [g2]; split <;> split <;> omega
  refine ⟨fun e => ?_, fun e => p_grow (by omega) (by omega) ?_⟩
  · rw [getD_two g0 (by omega)]
    rcases hi with rfl | rfl | rfl
    · simp only [if_true] at *
      simp at g2
      subst g2
      refine ⟨⟨by omega, by omega⟩, i64ok_of (by omega) (by omega), fun e2 => by omega, fun e2 => ⟨i64ok_of (by omega) (by omega), ⟨by omega, by omega, by simp⟩, by omega⟩⟩
    · simp at g2
      subst g2
      simp only [show ((1 : Int) = 0) = False by simp, if_false]
      refine ⟨⟨by omega, by omega⟩, i64ok_of (by omega) (by omega), fun e2 => by omega, fun e2 => ⟨i64ok_of (by omega) (by omega), ⟨by omega, by omega, by simp⟩, by omega⟩⟩
    · omega
  · refine loopP_intro (fun x => 0 ≤ x.2.1 ∧ x.2.1 ≤ 2 ∧ x.1 = (if 1 ≤ x.2.1 then a else []) ++ if 2 ≤ x.2.1 then b else []) (fun x => (2 - x.2.1).toNat) ⟨Int.le_refl _, by simp, by simp⟩ ?_
    rintro ⟨l, i, _⟩ ⟨g0, g1, g2⟩
    dsimp only at *
    have hi : i = 0 ∨ i = 1 ∨ i = 2 := by omega
    refine ⟨fun e => ?_, fun e => ?_⟩
    · rw [getD_two g0 (by omega)]
      rcases hi with rfl | rfl | rfl
      · simp at g2
        subst g2
        refine ⟨⟨by omega, by omega⟩, by simp; omega, i64ok_of (by omega) (by omega), ⟨by omega, by omega, by simp⟩, by omega⟩
      · simp at g2
        subst g2
        simp only [show ((1 : Int) = 0) = False by simp, if_false]
        refine ⟨⟨by omega, by omega⟩, by omega, i64ok_of (by omega) (by omega), ⟨by omega, by omega, by simp⟩, by omega⟩
      · omega
    · have : i = 2 := by omega
      subst this
      simp at g2
      rw [g2]
      exact h
theorem p_sorted {l : List Int} (hl : l.length ≤ 1000000) {K : Bool → Prop} (h : K (tf (l.Pairwise (· ≤ ·)))) : m_g_slices_IsSorted___int_int_ l K := by
  have adj : (∀ t : Int, 0 < t → t < l.length → gw l (t - 1) ≤ gw l t) ↔ l.Pairwise (· ≤ ·) := by
    constructor
    · intro hh
      rw [List.pairwise_iff_getElem]
      have : ∀ d i : Nat, ∀ (hj : i + d + 1 < l.length), l[i]'(by omega) ≤ l[i + d + 1] := fun d => by
        induction d with
        | zero =>
          intro i hj
          have := hh (i + 1) (by omega) (by omega)
          have q1 := get_gw (L := l) (t := (i : Int) + 1 - 1) (by omega) (by omega)
          have q2 := get_gw (L := l) (t := (i : Int) + 1) (by omega) (by omega)
          rw [show ((i : Int) + 1 - 1).toNat = i by omega] at q1
          rw [show ((i : Int) + 1).toNat = i + 1 by omega] at q2
          rw [(List.getElem?_eq_some_iff.1 q1).2, (List.getElem?_eq_some_iff.1 q2).2]
          exact this
        | succ d ih =>
          intro i hj
          have h1 := ih i (by omega)
          have := hh ((i + d + 2 : Nat) : Int) (by omega) (by omega)
          have q1 := get_gw (L := l) (t := ((i + d + 2 : Nat) : Int) - 1) (by omega) (by omega)
          have q2 := get_gw (L := l) (t := ((i + d + 2 : Nat) : Int)) (by omega) (by omega)
          rw [show (((i + d + 2 : Nat) : Int) - 1).toNat = i + d + 1 by omega] at q1
          rw [show (((i + d + 2 : Nat) : Int)).toNat = i + d + 2 by omega] at q2
          have e1 := (List.getElem?_eq_some_iff.1 q1).2
          have e2 := (List.getElem?_eq_some_iff.1 q2).2
          have e3 : l[i + (d + 1) + 1] = l[i + d + 2]'(by omega) := rfl
          rw [e3, e2]
          rw [e1] at h1
          omega
      intro i j hi hj hij
      have := this (j - i - 1) i (by omega)
      have e : l[i + (j - i - 1) + 1]'(by omega) = l[j] := by congr 1; omega
      rw [e] at this
      exact this
    · intro hp t h0 h1
      have q1 := get_gw (L := l) (t := t - 1) (by omega) (by omega)
      have q2 := get_gw (L := l) (t := t) (by omega) (by omega)
      have := List.pairwise_iff_getElem.1 hp (t - 1).toNat t.toNat (by omega) (by omega) (by omega)
      rw [(List.getElem?_eq_some_iff.1 q1).2, (List.getElem?_eq_some_iff.1 q2).2] at this
      exact this
  rw [tf_congr adj.symm] at h
  refine ⟨?_⟩
  unfold b_g_slices_IsSorted___int_int_
  simp only [gwE]
  refine ⟨i64ok_of (by omega) (by omega), ?_⟩
  refine loopP_intro (fun x => x.1 < l.length ∧ ∀ t : Int, 0 < t → x.1 < t → t < l.length → gw l (t - 1) ≤ gw l t) (fun x => x.1.toNat) ⟨by simp; omega, fun t h1 h2 h3 => by dsimp only at h2; omega⟩ ?_
  rintro ⟨x, _⟩ ⟨g0, g1⟩
  dsimp only at *
  refine ⟨fun e => ⟨⟨by omega, g0⟩, i64ok_of (by omega) (by omega), ⟨by omega, by omega⟩, p_Less ?_⟩, fun e => ?_⟩
  · rw [tf_eq, tf_false]
    refine ⟨fun e2 => ?_, fun e2 => ⟨i64ok_of (by omega) (by omega), ⟨by omega, fun t h1 h2 h3 => ?_⟩, by omega⟩⟩
    · exact Eq.mp (congrArg K (tf_not fun hh => by have := hh x e g0; omega)) h
    · by_cases e3 : t = x
      · subst e3; omega
      · exact g1 t h1 (by omega) h3
  · exact Eq.mp (congrArg K (tf_of fun t h1 h2 => g1 t h1 (by omega) h2)) h

/-- Places of blocks that are not free, none twice, the black ones in order. -/
def Mem (ws gr bk : List Int) : Prop := (∀ p, p ∈ gr ++ bk → p ∈ bl ws ∧ gw ws p % 8 ≠ 0) ∧ (gr ++ bk).Nodup ∧ bk.Pairwise (· ≤ ·)
section
variable {ws : List Int}
theorem kind_pos {p : Int} : ¬ kindAt ws p ≤ 0 ↔ p ∈ bl ws ∧ gw ws p % 8 ≠ 0 := by
  by_cases h : p ∈ bl ws
  · rw [kind_in h]
    exact ⟨fun hh => ⟨h, by omega⟩, fun hh => by have := hh.2; omega⟩
  · rw [kind_out h]
    exact ⟨fun hh => by omega, fun hh => absurd hh.1 h⟩
theorem p_i_membersOk {all : List Int} (ha : Kds ws all) (hl : ws.length ≤ 1000000) {ph at' : Int} {gr bk : List Int} (hg : gr.length ≤ 1000000) (hb : bk.length ≤ 1000000) {K : Bool → Prop} (h : K (tf (Mem ws gr bk))) : m_i_membersOk all ph gr bk at' K := by
  obtain ⟨a1, a2⟩ := ha
  refine ⟨?_⟩
  unfold b_i_membersOk
  simp only [gwE]
  refine p_concat hg hb ?_
  generalize hL : gr ++ bk = L at *
  have hLl : L.length ≤ 2000000 := by rw [← hL]; simp; omega
  unfold Mem at h
  rw [hL] at h
  refine loopP_intro (fun x => 0 ≤ x.2.1 ∧ Seen x.1 (L.take x.2.1.toNat) ∧ (L.take x.2.1.toNat).Nodup ∧ ∀ p, p ∈ L.take x.2.1.toNat → p ∈ bl ws ∧ gw ws p % 8 ≠ 0) (fun x => (L.length - x.2.1).toNat) ⟨Int.le_refl _, fun k => by simp [mget], by simp, fun p hp => by simp at hp⟩ ?_
  rintro ⟨m, i, _⟩ ⟨g0, g1, g2, g3⟩
  dsimp only at *
  refine ⟨fun e => ⟨⟨g0, e⟩, i64ok_of (by omega) (by omega), p_i_within ?_⟩, fun e => p_sorted hb ?_⟩
  · have hm := gw_mem g0 e
    rw [nn_eq, tf_eq]
    refine ⟨fun e1 => ⟨⟨by omega, by omega⟩, fun e2 => ?_, fun e2 => ?_⟩, fun e1 => ?_⟩
    · rw [a2 _ (by omega) (by omega), kind_pos] at e2
      have hb : ∀ b : Bool, mget false m (gw L i) = b → (b = true → K false) ∧ (b = false → gw L i ∉ L.take i.toNat) := fun b hb => by
        refine ⟨fun e3 => ?_, fun e3 hh => ?_⟩
        · have h4 := (g1 _).1 (hb.trans e3)
          refine Eq.mp (congrArg K (tf_not fun hh => ?_)) h
          have hd : (L.take (i + 1).toNat).Nodup := hh.2.1.sublist (List.take_sublist _ _)
          rw [take_snoc g0 e, List.nodup_append] at hd
          exact hd.2.2 _ h4 _ (List.mem_singleton.2 rfl) rfl
        · rw [e3] at hb
          have := (g1 _).2 hh
          rw [hb] at this
          cases this
      refine ⟨fun e3 => (hb _ rfl).1 e3, fun e3 => ⟨i64ok_of (by omega) (by omega), ⟨by omega, ?_, ?_, fun p hp => ?_⟩, by omega⟩⟩
      · rw [take_snoc g0 e]; exact g1.add
      · rw [take_snoc g0 e, List.nodup_append]
        exact ⟨g2, by simp, fun a ha b hb' => by rw [List.mem_singleton.1 hb']; intro e4; subst e4; exact (hb _ rfl).2 e3 ha⟩
      · rw [take_snoc g0 e] at hp
        rcases List.mem_append.1 hp with hp | hp
        · exact g3 p hp
        · rw [List.mem_singleton.1 hp]; exact e2
    · rw [a2 _ (by omega) (by omega)] at e2
      exact Eq.mp (congrArg K (tf_not fun hh => (kind_pos.2 (hh.1 _ hm)) e2)) h
    · refine Eq.mp (congrArg K (tf_not fun hh => e1 ?_)) h
      obtain ⟨_, q0, q1, _⟩ := bl_mem (hh.1 _ hm).1
      omega
  · rw [take_all e g0] at g1 g2 g3
    exact Eq.mp (congrArg K (tf_congr ⟨fun hh => hh.2.2, fun hh => ⟨g3, g2, hh⟩⟩)) h
end
end Go.Proofs.YthjmmofafpahhaaGreat.Sx
