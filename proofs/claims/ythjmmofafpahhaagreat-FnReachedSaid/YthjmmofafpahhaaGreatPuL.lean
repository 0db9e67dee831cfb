/- Plain laws: a block that is given. -/
import Derived.Test.YthjmmofafpahhaaGreatPuK
namespace Go.Proofs.YthjmmofafpahhaaGreat.Sx
open Go
set_option linter.unusedVariables false
set_option linter.unusedSimpArgs false

/-- The words with one free block from p to q. -/
def frd (ws : List Int) (p q : Int) : List Int := List.set (List.append (List.take (Int.toNat p) ws ++ List.replicate (Int.toNat q - Int.toNat p) (Int.ofNat 0)) (List.drop (Int.toNat p + List.length (List.replicate (Int.toNat q - Int.toNat p) (Int.ofNat 0))) ws)) (Int.toNat p) (8 * (q - p) + 0)
theorem frd_len {ws : List Int} {p q : Int} (h0 : 0 ≤ p) (h1 : p ≤ q) (h2 : q ≤ ws.length) : (frd ws p q).length = ws.length := by
  unfold frd
  simp only [List.length_set, List.append_eq, List.length_append, List.length_take, List.length_replicate, List.length_drop]
  omega
theorem gw_frd {ws : List Int} {p q : Int} (h0 : 0 ≤ p) (h1 : p < q) (h2 : q ≤ ws.length) {i : Int} (hi : 0 ≤ i) : gw (frd ws p q) i = if i = p then 8 * (q - p) else if p < i ∧ i < q then 0 else gw ws i := by
  unfold frd
  rw [gw_set h0 (by simp only [List.append_eq, List.length_append, List.length_take, List.length_replicate, List.length_drop]; omega) hi]
  split
  · omega
  · rename_i e
    unfold gw
    rw [List.append_eq, List.getD_eq_getElem?_getD]
    by_cases e1 : i < p
    · rw [if_neg (by omega), List.append_assoc, List.getElem?_append_left (by simp only [List.length_take]; omega), List.getElem?_take_of_lt (by omega), List.getD_eq_getElem?_getD]
    · by_cases e2 : i < q
      · rw [if_pos ⟨by omega, e2⟩, List.getElem?_append_left (by simp only [List.length_append, List.length_take, List.length_replicate]; omega), List.getElem?_append_right (by simp only [List.length_take]; omega), List.getElem?_replicate, if_pos (by simp only [List.length_take]; omega)]
        rfl
      · rw [if_neg (by omega), List.getElem?_append_right (by simp only [List.length_append, List.length_take, List.length_replicate]; omega), List.getElem?_drop, List.getD_eq_getElem?_getD]
        congr 2
        simp only [List.length_append, List.length_take, List.length_replicate]
        omega

/-- What is joined when a block is given: from p to q; A is ahead, B behind. -/
structure Gvn (ws : List Int) (at' p q : Int) (A B : List Int) : Prop where
  a : Seg ws 0 p A
  b : Seg ws q ws.length B
  le : p ≤ at'
  ge : at' + gw ws at' / 8 ≤ q
  all : ∀ x, x ∈ bl ws → x ∈ A ∨ x ∈ B ∨ x = at' ∨ (gw ws x % 8 = 0 ∧ p ≤ x ∧ x < q)
  sub : ∀ x, x ∈ A ∨ x ∈ B → x ∈ bl ws ∧ x ≠ at'
  nxt : q = if at' + gw ws at' / 8 < ws.length ∧ gw ws (at' + gw ws at' / 8) % 8 = 0 then at' + gw ws at' / 8 + gw ws (at' + gw ws at' / 8) / 8 else at' + gw ws at' / 8
section
variable {ws : List Int} {at' p q : Int} {A B : List Int}
theorem Gvn.lt (hb : at' ∈ bl ws) (h : Gvn ws at' p q A B) : 0 ≤ p ∧ p < q ∧ q ≤ ws.length := by
  have h1 := h.a.le
  have h2 := h.b.le
  have := (bl_mem hb).2.2.2.2.1
  have := h.le
  have := h.ge
  omega
theorem Gvn.same (hb : at' ∈ bl ws) (h : Gvn ws at' p q A B) {i : Int} (hi : 0 ≤ i) (ho : i < p ∨ q ≤ i) : gw (frd ws p q) i = gw ws i := by
  obtain ⟨h0, h1, h2⟩ := h.lt hb
  rw [gw_frd h0 h1 h2 hi, if_neg (by omega), if_neg (by omega)]
theorem Gvn.first (hb : at' ∈ bl ws) (h : Gvn ws at' p q A B) : gw (frd ws p q) p = 8 * (q - p) := by
  obtain ⟨h0, h1, h2⟩ := h.lt hb
  rw [gw_frd h0 h1 h2 h0, if_pos rfl]
theorem Gvn.bl (hb : at' ∈ bl ws) (h : Gvn ws at' p q A B) : Slb (frd ws p q) ∧ Sx.bl (frd ws p q) = A ++ p :: B := by
  obtain ⟨h0, h1, h2⟩ := h.lt hb
  have hl := frd_len h0 (Int.le_of_lt h1) h2
  have hw := (bl_mem hb).1.1
  have hf := h.first hb
  have hz := (bl_mem hb).2.2.2.2.1
  have hle := h.le
  have hge := h.ge
  have h8 : gw (frd ws p q) p / 8 = q - p := by omega
  have hs : Seg (frd ws p q) 0 (frd ws p q).length (A ++ p :: B) := by
    refine (h.a.congr hl fun x hx => h.same hb ?_ (.inl ?_)).append (.cons ⟨h0, by omega, by omega, by omega⟩ ?_)
    · exact (h.a.mem hx).1
    · exact (h.a.mem hx).2.1
    · rw [h8, hl, show p + (q - p) = q by omega]
      refine h.b.congr hl fun x hx => h.same hb ?_ (.inr ?_)
      · have := (h.b.mem hx).1; omega
      · exact (h.b.mem hx).1
  exact ⟨⟨by omega, _, hs⟩, bl_eq (by omega) hs⟩
/-- The blocks that are not free behind a giving. -/
theorem Gvn.live (hb : at' ∈ Sx.bl ws) (h : Gvn ws at' p q A B) {x : Int} : (x ∈ Sx.bl (frd ws p q) ∧ gw (frd ws p q) x % 8 ≠ 0) ↔ (x ∈ Sx.bl ws ∧ gw ws x % 8 ≠ 0 ∧ x ≠ at') := by
  rw [(h.bl hb).2, List.mem_append, List.mem_cons]
  have hf := h.first hb
  constructor
  · rintro ⟨hx | rfl | hx, hk⟩
    · obtain ⟨g1, g2⟩ := h.sub x (.inl hx)
      rw [h.same hb (h.a.mem hx).1 (.inl (h.a.mem hx).2.1)] at hk
      exact ⟨g1, hk, g2⟩
    · rw [hf] at hk; omega
    · obtain ⟨g1, g2⟩ := h.sub x (.inr hx)
      rw [h.same hb (bl_mem g1).2.1 (.inr (h.b.mem hx).1)] at hk
      exact ⟨g1, hk, g2⟩
  · rintro ⟨hx, hk, hn⟩
    rcases h.all x hx with g | g | g | g
    · exact ⟨.inl g, by rw [h.same hb (h.a.mem g).1 (.inl (h.a.mem g).2.1)]; exact hk⟩
    · exact ⟨.inr (.inr g), by rw [h.same hb (bl_mem hx).2.1 (.inr (h.b.mem g).1)]; exact hk⟩
    · exact absurd g hn
    · exact absurd g.1 hk
/-- Their words are as they were. -/
theorem Gvn.words (hb : at' ∈ Sx.bl ws) (h : Gvn ws at' p q A B) {x : Int} (hx : x ∈ Sx.bl ws) (hk : gw ws x % 8 ≠ 0) (hn : x ≠ at') {i : Int} (h1 : x ≤ i) (h2 : i < x + gw ws x / 8) : gw (frd ws p q) i = gw ws i := by
  have h0 := (bl_mem hx).2.1
  rcases h.all x hx with g | g | g | g
  · have := (h.a.mem g).2.2.2
    exact h.same hb (by omega) (.inl (by omega))
  · have := (h.b.mem g).1
    exact h.same hb (by omega) (.inr (by omega))
  · exact absurd g hn
  · exact absurd g.1 hk
end
section
variable {ws : List Int}
theorem p_i_Give_no (hl : ws.length ≤ 1000000) {p : Int} (h0 : kindAt ws p ≤ 0) {K : List Int → Prop} (h : K ws) : m_i_Give ws p K := by
  refine ⟨?_⟩
  unfold b_i_Give
  refine ⟨?_⟩
  unfold b_i_copySlab
  refine ⟨?_⟩
  unfold b_i_copyInts
  refine ⟨by omega, p_i_KindAt hl (p_i_SizeAt hl (JoinP.mk ⟨fun _ => False, ⟨fun _ => h, fun hn => absurd h0 hn⟩, fun _ hf => hf.elim⟩))⟩
theorem p_i_Give {at' : Int} (hb : at' ∈ bl ws) (hk : gw ws at' % 8 ≠ 0) {K : List Int → Prop} (h : ∀ p q A B, Gvn ws at' p q A B → K (frd ws p q)) : m_i_Give ws at' K := by
  obtain ⟨hw, h0, h1, hblk⟩ := bl_mem hb
  have hl : ws.length ≤ 1000000 := by have := hw.1; omega
  have hlen := bl_len' (ws := ws)
  have hkp : ¬ kindAt ws at' ≤ 0 := kind_pos.2 ⟨hb, hk⟩
  have hsz : sizeAt ws at' = gw ws at' / 8 := if_pos hb
  obtain ⟨A0, B0, hAB, hA, _, hB⟩ := (bl_seg hw).split hb
  obtain ⟨_, z1, z2, z3⟩ := id hblk
  refine ⟨?_⟩
  unfold b_i_Give
  simp only [gwE]
  refine ⟨?_⟩
  unfold b_i_copySlab
  refine ⟨?_⟩
  unfold b_i_copyInts
  refine ⟨by omega, p_i_KindAt hl (p_i_SizeAt hl (JoinP.mk ⟨fun _ => True, ⟨fun e => absurd e hkp, fun _ => trivial⟩, fun _ _ => ?_⟩))⟩
  rw [hsz]
  -- what is behind
  refine JoinP.mk ⟨fun y => ∃ B, Seg ws (at' + y.1) ws.length B ∧ gw ws at' / 8 ≤ y.1 ∧ (∀ x, x ∈ B0 → x ∈ B ∨ (gw ws x % 8 = 0 ∧ x < at' + y.1)) ∧ (∀ x, x ∈ B → x ∈ B0) ∧ at' + y.1 = if at' + gw ws at' / 8 < ws.length ∧ gw ws (at' + gw ws at' / 8) % 8 = 0 then at' + gw ws at' / 8 + gw ws (at' + gw ws at' / 8) / 8 else at' + gw ws at' / 8, ?_, ?_⟩
  · refine ⟨i64ok_of (by omega) (by omega), fun e1 => ⟨⟨by omega, e1⟩, fun e2 => ?_, fun e2 => ?_⟩, fun e1 => ?_⟩
    · obtain ⟨B, hB1, hb2, hB2⟩ := hB.head e1
      have hb21 := hb2.2.1
      have hb22 := hb2.2.2.1
      refine ⟨⟨by omega, e1⟩, i64ok_of (by omega) (by omega), B, ?_, by dsimp only; omega, fun x hx => ?_, fun x hx => by rw [hB1]; exact List.mem_cons_of_mem _ hx, ?_⟩
      · dsimp only
        rw [show at' + (gw ws at' / 8 + gw ws (at' + gw ws at' / 8) / 8) = at' + gw ws at' / 8 + gw ws (at' + gw ws at' / 8) / 8 by omega]
        exact hB2
      · rw [hB1] at hx
        rcases List.mem_cons.1 hx with rfl | hx
        · exact .inr ⟨e2, by dsimp only; omega⟩
        · exact .inl hx
      · dsimp only
        rw [if_pos ⟨e1, e2⟩]
        omega
    · exact ⟨B0, hB, Int.le_refl _, fun x hx => .inl hx, fun x hx => hx, by rw [if_neg (fun hh => e2 hh.2)]⟩
    · exact ⟨B0, hB, Int.le_refl _, fun x hx => .inl hx, fun x hx => hx, by rw [if_neg (fun hh => e1 hh.1)]⟩
  · rintro ⟨y, _⟩ ⟨B, hB1, hy, hB2, hB3, hnx⟩
    dsimp only at *
    have hyl := hB1.le
    refine p_i_Blocks hl ?_
    -- what is ahead
    refine JoinP.mk ⟨fun z => z.1 + z.2.1 = at' + y ∧ ∃ A, Seg ws 0 z.1 A ∧ z.1 ≤ at' ∧ (∀ x, x ∈ A0 → x ∈ A ∨ (gw ws x % 8 = 0 ∧ z.1 ≤ x)) ∧ ∀ x, x ∈ A → x ∈ A0, ?_, ?_⟩
    · refine p_search (lt_le bl_pair) (by omega) ?_
      have hc : (bl ws).countP (· < at') = A0.length := by
        have hp := bl_pair (ws := ws)
        rw [hAB, List.pairwise_append, List.pairwise_cons] at hp
        rw [hAB, List.countP_append, List.countP_eq_length.2 (fun x hx => by have := hp.2.2 x hx at' List.mem_cons_self; simpa using this), List.countP_eq_zero.2 (fun x hx => by
          rcases List.mem_cons.1 hx with rfl | hx
          · simp
          · have := hp.2.1.1 x hx
            simp; omega)]
        rfl
      rw [hc]
      have whole : at' + y = at' + y ∧ ∃ A, Seg ws 0 at' A ∧ at' ≤ at' ∧ (∀ x, x ∈ A0 → x ∈ A ∨ (gw ws x % 8 = 0 ∧ at' ≤ x)) ∧ ∀ x, x ∈ A → x ∈ A0 := ⟨rfl, A0, hA, Int.le_refl _, fun x hx => .inl hx, fun x hx => hx⟩
      refine ⟨fun e1 => ?_, fun _ => whole⟩
      have hal : A0.length ≤ (bl ws).length := by rw [hAB]; simp
      have hg : gw (bl ws) ((A0.length : Int) - 1) = A0[A0.length - 1]'(by omega) := by
        have : (bl ws)[A0.length - 1]? = some (A0[A0.length - 1]'(by omega)) := by
          rw [hAB, List.getElem?_append_left (by omega), List.getElem?_eq_getElem]
        rw [show ((A0.length : Int) - 1) = ((A0.length - 1 : Nat) : Int) by omega]
        exact gw_get this
      have hmem : A0[A0.length - 1]'(by omega) ∈ A0 := List.getElem_mem _
      rw [hg]
      generalize hr : A0[A0.length - 1]'(by omega) = r at *
      obtain ⟨A1, A2, hA12, hS1, hbr, hS2⟩ := hA.split hmem
      have hr0 := hbr.1
      have hr1 := hbr.2.1
      have hA2 : A2 = [] := by
        cases A2 with
        | nil => rfl
        | cons c A2 =>
          exfalso
          have hp := hA.pairwise
          have hlast : A0[A0.length - 1]? = (A1 ++ r :: c :: A2)[A0.length - 1]? := by rw [← hA12]
          rw [List.getElem?_eq_getElem (by omega), hr] at hlast
          have hl2 : A0.length = A1.length + (A2.length + 2) := by rw [hA12]; simp
          rw [List.getElem?_append_right (by omega), show A0.length - 1 - A1.length = A2.length + 1 by omega, List.getElem?_cons_succ] at hlast
          have hm : r ∈ c :: A2 := List.mem_of_getElem? hlast.symm
          rw [hA12, List.pairwise_append, List.pairwise_cons] at hp
          have := hp.2.1.1 r hm
          omega
      subst hA2
      have hend : r + gw ws r / 8 = at' := by cases hS2; rfl
      refine ⟨i64ok_of (by omega) (by omega), ⟨by omega, by omega⟩, ⟨hr0, by omega⟩, fun e2 => ⟨i64ok_of (by omega) (by omega), ⟨by omega, by omega⟩, i64ok_of (by omega) (by omega), i64ok_of (by omega) (by omega), i64ok_of (by omega) (by omega), ⟨by omega, by omega⟩, by dsimp only; omega, A1, hS1, by dsimp only; omega, fun x hx => ?_, fun x hx => by rw [hA12]; exact List.mem_append_left _ hx⟩, fun _ => whole⟩
      rw [hA12] at hx
      rcases List.mem_append.1 hx with hx | hx
      · exact .inl hx
      · rw [List.mem_singleton.1 hx]; exact .inr ⟨e2, Int.le_refl _⟩
    · rintro ⟨p, n, _⟩ ⟨hpn, A, hA1, hp, hA2, hA3⟩
      dsimp only at *
      have hp0 := hA1.le
      have hq : p + n = at' + y := hpn
      have hG : Gvn ws at' p (p + n) A B := by
        have hpw := bl_pair (ws := ws)
        rw [hAB, List.pairwise_append, List.pairwise_cons] at hpw
        refine ⟨hA1, by rw [hq]; exact hB1, hp, by omega, fun x hx => ?_, fun x hx => ?_, by rw [hq]; exact hnx⟩
        · rw [hAB] at hx
          rcases List.mem_append.1 hx with hx | hx
          · rcases hA2 x hx with g | ⟨g1, g2⟩
            · exact .inl g
            · have := hpw.2.2 x hx at' List.mem_cons_self
              exact .inr (.inr (.inr ⟨g1, g2, by omega⟩))
          · rcases List.mem_cons.1 hx with rfl | hx
            · exact .inr (.inr (.inl rfl))
            · rcases hB2 x hx with g | ⟨g1, g2⟩
              · exact .inr (.inl g)
              · have := hpw.2.1.1 x hx
                exact .inr (.inr (.inr ⟨g1, by omega, by omega⟩))
        · rw [hAB]
          rcases hx with hx | hx
          · have := hpw.2.2 x (hA3 x hx) at' List.mem_cons_self
            exact ⟨List.mem_append_left _ (hA3 x hx), by omega⟩
          · have := hpw.2.1.1 x (hB3 x hx)
            exact ⟨List.mem_append_right _ (List.mem_cons_of_mem _ (hB3 x hx)), by omega⟩
      have hK := h p (p + n) A B hG
      unfold frd at hK
      rw [show p + n - p = n by omega] at hK
      refine ⟨i64ok_of (by omega) (by omega), ⟨hp0, by omega, by omega⟩, i64ok_of (by omega) (by omega), i64ok_of (by omega) (by omega), ⟨hp0, ?_⟩, hK⟩
      simp only [List.append_eq, List.length_append, List.length_take, List.length_replicate, List.length_drop]
      omega
end
end Go.Proofs.YthjmmofafpahhaaGreat.Sx
