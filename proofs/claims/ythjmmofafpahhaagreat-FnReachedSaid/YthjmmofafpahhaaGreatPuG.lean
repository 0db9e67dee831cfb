/- Plain laws: what is met is what can be reached; the reference meets the same. -/
import Derived.Test.YthjmmofafpahhaaGreatPuF
namespace Go.Proofs.YthjmmofafpahhaaGreat.Sx
open Go
set_option linter.unusedVariables false
set_option linter.unusedSimpArgs false

theorem addv_mem {out : List Int} {v p : Int} : p ∈ addv out v ↔ p ∈ out ∨ (4 ≤ v % 8 ∧ v / 8 = p) := by
  unfold addv
  split
  · rename_i e
    rw [List.mem_append, List.mem_singleton]
    exact or_congr Iff.rfl ⟨fun h => ⟨e.1, h.symm⟩, fun h => h.2.symm⟩
  · rename_i e
    refine ⟨.inl, fun h => h.elim id fun ⟨h1, h2⟩ => ?_⟩
    subst h2
    exact Classical.byContradiction fun hn => e ⟨h1, hn⟩
theorem addvs_mem {p : Int} : ∀ {vs out : List Int}, p ∈ addvs out vs ↔ p ∈ out ∨ ∃ v, v ∈ vs ∧ 4 ≤ v % 8 ∧ v / 8 = p
  | [], out => by simp [addvs]
  | v :: vs, out => by
    show p ∈ addvs (addv out v) vs ↔ _
    rw [addvs_mem (vs := vs), addv_mem]
    constructor
    · rintro ((h | h) | ⟨u, h1, h2⟩)
      · exact .inl h
      · exact .inr ⟨v, List.mem_cons_self, h⟩
      · exact .inr ⟨u, List.mem_cons_of_mem _ h1, h2⟩
    · rintro (h | ⟨u, h1, h2⟩)
      · exact .inl (.inl h)
      · rcases List.mem_cons.1 h1 with rfl | h1
        · exact .inl (.inr h2)
        · exact .inr ⟨u, h1, h2⟩
theorem addv_ext {out : List Int} {v : Int} : ∃ s, addv out v = out ++ s := by
  unfold addv
  split
  · exact ⟨_, rfl⟩
  · exact ⟨[], by simp⟩
theorem addvs_ext : ∀ {vs out : List Int}, ∃ s, addvs out vs = out ++ s
  | [], out => ⟨[], by simp [addvs]⟩
  | v :: vs, out => by
    obtain ⟨s, h1⟩ := addvs_ext (vs := vs) (out := addv out v)
    obtain ⟨s2, h2⟩ := addv_ext (out := out) (v := v)
    exact ⟨s2 ++ s, by show addvs (addv out v) vs = _; rw [h1, h2, List.append_assoc]⟩
/-- What can be reached. -/
inductive Rch (ws roots : List Int) : Int → Prop
  | root {v : Int} (h : v ∈ roots) (h4 : 4 ≤ v % 8) : Rch ws roots (v / 8)
  | step {p v : Int} (h : Rch ws roots p) (hv : v ∈ vals ws p) (h4 : 4 ≤ v % 8) : Rch ws roots (v / 8)
/-- Places all of whose values lead into them. -/
def Clo (ws : List Int) (X : Int → Prop) : Prop := ∀ p, X p → ∀ v, v ∈ vals ws p → 4 ≤ v % 8 → X (v / 8)
theorem bfs_ok {ws : List Int} (hbl : ∀ p, p ∈ bl ws → ∀ v, v ∈ vals ws p → Ldv ws v) : ∀ (n k : Nat) (out : List Int), MetI ws out → 1000 ≤ n + k → (∀ (t : Nat) (p : Int), t < k → out[t]? = some p → ∀ v, v ∈ vals ws p → 4 ≤ v % 8 → v / 8 ∈ out) →
    MetI ws (bfs ws n k out) ∧ (∀ p, p ∈ out → p ∈ bfs ws n k out) ∧ Clo ws (· ∈ bfs ws n k out) ∧ ∀ X : Int → Prop, (∀ p, p ∈ out → X p) → Clo ws X → ∀ p, p ∈ bfs ws n k out → X p
  | 0, k, out, hI, hk, hc => by
    refine ⟨hI, fun p h => h, fun p hp v hv h4 => ?_, fun X h _ p hp => h p hp⟩
    obtain ⟨t, ht⟩ := List.getElem?_of_mem hp
    have h1 : t < out.length := (List.getElem?_eq_some_iff.1 ht).1
    have := hI.len
    exact hc t p (by omega) ht v hv h4
  | n + 1, k, out, hI, hk, hc => by
    simp only [bfs]
    split
    · rename_i hlt
      have hg : out[k]? = some (gw out k) := get_gw (t := (k : Int)) (by omega) (by omega)
      have hm := List.mem_of_getElem? hg
      obtain ⟨s, hs⟩ := addvs_ext (vs := vals ws (gw out k)) (out := out)
      obtain ⟨h1, h2, h3, h4⟩ := bfs_ok hbl n (k + 1) (addvs out (vals ws (gw out k))) (addvs_sub hI (hbl _ (hI.sub _ hm))) (by omega) (fun t p ht hp v hv h4 => by
        by_cases e : t = k
        · subst e
          rw [hs, List.getElem?_append_left hlt, hg] at hp
          cases hp
          exact addvs_mem.2 (.inr ⟨v, hv, h4, rfl⟩)
        · rw [hs, List.getElem?_append_left (by omega)] at hp
          exact addvs_mem.2 (.inl (hc t p (by omega) hp v hv h4)))
      refine ⟨h1, fun p hp => h2 p (addvs_mem.2 (.inl hp)), h3, fun X hX hC p hp => h4 X (fun q hq => ?_) hC p hp⟩
      rcases addvs_mem.1 hq with hq | ⟨v, hv, h4', rfl⟩
      · exact hX q hq
      · exact hC _ (hX _ hm) v hv h4'
    · rename_i hlt
      refine ⟨hI, fun p h => h, fun p hp v hv h4 => ?_, fun X h _ p hp => h p hp⟩
      obtain ⟨t, ht⟩ := List.getElem?_of_mem hp
      have := (List.getElem?_eq_some_iff.1 ht).1
      exact hc t p (by omega) ht v hv h4

section
variable {ws roots : List Int}
theorem Hok.vals_ldv (h : Hok ws) : ∀ p, p ∈ bl ws → ∀ v, v ∈ vals ws p → Ldv ws v := fun p hp v hv => (h.2 p hp).ldv hv
theorem Rok.root_ldv (h : Rok ws roots) : ∀ v, v ∈ roots → Ldv ws v := fun v hv => (h.2 v hv).ldv (by omega)
theorem ord_all (h : Rok ws roots) : MetI ws (ord ws roots) ∧ (∀ p, p ∈ addvs [] roots → p ∈ ord ws roots) ∧ Clo ws (· ∈ ord ws roots) ∧ ∀ X : Int → Prop, (∀ p, p ∈ addvs [] roots → X p) → Clo ws X → ∀ p, p ∈ ord ws roots → X p :=
  bfs_ok h.1.vals_ldv 2001 0 (addvs [] roots) (addvs_sub ⟨.nil, fun p hp => by cases hp⟩ h.root_ldv) (by omega) (fun t p ht => by omega)
theorem ord_iff (h : Rok ws roots) {p : Int} : p ∈ ord ws roots ↔ Rch ws roots p := by
  obtain ⟨h1, h2, h3, h4⟩ := ord_all h
  constructor
  · refine h4 _ (fun q hq => ?_) (fun q hq v hv h4 => .step hq hv h4) p
    rcases addvs_mem.1 hq with hq | ⟨v, hv, h4', rfl⟩
    · cases hq
    · exact .root hv h4'
  · intro hr
    induction hr with
    | root hv h4 => exact h2 _ (addvs_mem.2 (.inr ⟨_, hv, h4, rfl⟩))
    | step _ hv h4 ih => exact h3 _ ih _ hv h4
theorem Rch.blk (h : Rok ws roots) {p : Int} (hr : Rch ws roots p) : p ∈ bl ws ∧ gw ws p % 8 ≠ 0 := by
  induction hr with
  | root hv h4 => exact h.root_ldv _ hv h4
  | step _ hv h4 ih => exact h.1.vals_ldv _ ih.1 _ hv h4

theorem block_val {v : Int} {K : Int → Prop} (h : K (if 4 ≤ v % 8 then v / 8 else -1)) : m_s_l7Block v K := by
  refine ⟨?_⟩
  unfold b_s_l7Block
  refine p_s_Kind ⟨fun e => ?_, fun e => p_s_Num ?_⟩
  · rwa [if_neg (by omega)] at h
  · rwa [if_pos (by omega)] at h
/-- One value of the reference's loops. -/
theorem order_step {out : List Int} {v : Int} (hv : Ldv ws v) (hl : out.length ≤ 1000000) {K : List Int → Prop} (h : K (addv out v)) :
    m_s_l7Block v fun r2 => (0 ≤ r2 → m_s_l7In out r2 fun r4 => (¬ r4 = true → List.length out + List.length [r2] ≤ 1000000000000 ∧ K (out ++ [r2])) ∧ (¬¬ r4 = true → K out)) ∧ (¬ 0 ≤ r2 → K out) := by
  refine block_val ?_
  by_cases e : 4 ≤ v % 8
  · rw [if_pos e]
    have h0 := (bl_mem (hv e).1).2.1
    refine ⟨fun _ => p_s_l7In hl ?_, fun e2 => absurd h0 e2⟩
    rw [nn_eq, tf_eq]
    refine ⟨fun e3 => ⟨by simp only [List.length_cons, List.length_nil]; omega, ?_⟩, fun e3 => ?_⟩
    · unfold addv at h; rwa [if_pos ⟨e, e3⟩] at h
    · unfold addv at h; rwa [if_neg (fun hh => hh.2 e3)] at h
  · rw [if_neg e]
    refine ⟨fun e2 => by omega, fun _ => ?_⟩
    unfold addv at h; rwa [if_neg (fun hh => e hh.1)] at h
theorem p_s_l7Order (hr : Rok ws roots) (hl : roots.length ≤ 1000000) {K : List Int → Prop} (h : MetI ws (ord ws roots) → K (ord ws roots)) : m_s_l7Order ws roots K := by
  have hw := hr.1.1
  have hwl : ws.length ≤ 1000000 := by have := hw.1; omega
  have hrl := hr.root_ldv
  have hbl := hr.1.vals_ldv
  refine ⟨?_⟩
  unfold b_s_l7Order
  simp only [gwE]
  refine loopP_intro (fun x => 0 ≤ x.2.1 ∧ x.1 = addvs [] (roots.take x.2.1.toNat)) (fun x => (roots.length - x.2.1).toNat) ⟨Int.le_refl _, rfl⟩ ?_
  rintro ⟨out, i, _⟩ ⟨g0, g1⟩
  dsimp only at *
  have hI : MetI ws out := g1 ▸ addvs_sub ⟨.nil, fun p hp => by cases hp⟩ fun v hv => hrl v (List.mem_of_mem_take hv)
  have hol := hI.len
  refine ⟨fun e1 => ⟨⟨g0, e1⟩, ?_⟩, fun e1 => ?_⟩
  · have := order_step (ws := ws) (out := out) (hrl _ (gw_mem g0 e1)) (by omega) (K := fun o => i64ok (i + 1) ∧ ((0 ≤ i + 1 ∧ o = addvs [] (roots.take (i + 1).toNat)) ∧ (roots.length - (i + 1)).toNat < (roots.length - i).toNat)) ⟨i64ok_of (by omega) (by omega), ⟨by omega, by rw [take_snoc g0 e1, addvs_snoc, ← g1]⟩, by omega⟩
    exact this
  · rw [take_all e1 g0] at g1
    refine loopP_intro (fun x => 0 ≤ x.2.1 ∧ x.2.1 ≤ x.1.length ∧ MetI ws x.1 ∧ bfs ws (2001 - x.2.1.toNat) x.2.1.toNat x.1 = ord ws roots) (fun x => (2001 - x.2.1).toNat) ⟨Int.le_refl _, by simp, hI, by dsimp only; rw [g1]; rfl⟩ ?_
    rintro ⟨out, k, _⟩ ⟨k0, k1, k2, k3⟩
    dsimp only at *
    have hol := k2.len
    refine ⟨fun e2 => ⟨⟨k0, e2⟩, ?_⟩, fun e2 => ?_⟩
    · have hmem := k2.sub _ (gw_mem k0 e2)
      have hb := (bl_mem hmem).2.2.2
      refine p_s_l3Slots hb hwl ?_
      have hsl := slo_len hb hwl
      rw [show 2001 - k.toNat = (2001 - (k + 1).toNat) + 1 by omega] at k3
      simp only [bfs] at k3
      rw [if_pos (by omega), show ((k.toNat : Nat) : Int) = k by omega] at k3
      refine loopP_intro (fun x => 0 ≤ x.2.1 ∧ x.1 = addvs out ((vals ws (gw out k)).take x.2.1.toNat)) (fun x => ((slo ws (gw out k)).length - x.2.1).toNat) ⟨Int.le_refl _, rfl⟩ ?_
      rintro ⟨out2, i, _⟩ ⟨j0, j1⟩
      dsimp only at *
      have hI2 : MetI ws out2 := j1 ▸ addvs_sub k2 fun v hv => hbl _ hmem v (List.mem_of_mem_take hv)
      have hol2 := hI2.len
      refine ⟨fun e3 => ?_, fun e3 => ⟨i64ok_of (by omega) (by omega), ⟨by omega, ?_, hI2, ?_⟩, by omega⟩⟩
      · have hs2 := slo_mem hb (gw_mem j0 e3)
        have hb2 := hb.2.2.1
        have hb0 := hb.1
        have hv : gw ws (gw (slo ws (gw out k)) i) ∈ vals ws (gw out k) := List.mem_map.2 ⟨_, gw_mem j0 e3, rfl⟩
        refine ⟨⟨j0, e3⟩, ⟨by omega, by omega⟩, ?_⟩
        have := order_step (ws := ws) (out := out2) (hbl _ hmem _ hv) (by omega) (K := fun o => i64ok (i + 1) ∧ ((0 ≤ i + 1 ∧ o = addvs out ((vals ws (gw out k)).take (i + 1).toNat)) ∧ ((slo ws (gw out k)).length - (i + 1)).toNat < ((slo ws (gw out k)).length - i).toNat)) ⟨i64ok_of (by omega) (by omega), ⟨by omega, by rw [take_snoc j0 (by rw [vals_len]; exact e3), addvs_snoc, ← j1, vals_gw j0 e3]⟩, by omega⟩
        exact this
      · obtain ⟨s, hs⟩ := addvs_ext (vs := (vals ws (gw out k)).take i.toNat) (out := out)
        rw [j1, hs, List.length_append]
        omega
      · rw [take_all (by rw [vals_len]; exact e3) j0] at j1
        rw [j1, show (k + 1).toNat = k.toNat + 1 by omega]
        rw [show (k + 1).toNat = k.toNat + 1 by omega] at k3
        exact k3
    · rw [bfs_stop (by omega)] at k3
      rw [← k3] at h
      exact h k2
end

/-! ### In order -/
theorem ins_in {l A B : List Int} {x : Int} (hl : l.Pairwise (· < ·)) (e : l = A ++ B) (h1 : ∀ a, a ∈ A → a < x) (h2 : ∀ b, b ∈ B → x < b) : (A ++ [x] ++ B).Pairwise (· < ·) := by
  subst e
  rw [List.pairwise_append] at hl
  obtain ⟨p1, p2, p3⟩ := hl
  rw [List.pairwise_append, List.pairwise_append]
  refine ⟨⟨p1, by simp, fun a ha b hb => by rw [List.mem_singleton.1 hb]; exact h1 a ha⟩, p2, fun a ha b hb => ?_⟩
  rcases List.mem_append.1 ha with ha | ha
  · exact p3 a ha b hb
  · rw [List.mem_singleton.1 ha]; exact h2 b hb
theorem p_s_l7Sort {l : List Int} (hn : l.Nodup) (hl : l.length ≤ 1000000) {K : List Int → Prop} (h : K (sortI l)) : m_s_l7Sort l K := by
  refine ⟨?_⟩
  unfold b_s_l7Sort
  simp only [gwE, partE]
  refine loopP_intro (fun x => 0 ≤ x.2.1 ∧ x.1.Pairwise (· < ·) ∧ ∀ y, y ∈ x.1 ↔ y ∈ l.take x.2.1.toNat) (fun x => (l.length - x.2.1).toNat) ⟨Int.le_refl _, .nil, fun y => by simp⟩ ?_
  rintro ⟨out, i, _⟩ ⟨g0, g1, g2⟩
  dsimp only at *
  have hol : out.length ≤ 1000000 := by
    have := nodup_le (m := l) (lt_nodup g1) fun y hy => List.mem_of_mem_take ((g2 y).1 hy)
    omega
  refine ⟨fun e1 => ?_, fun e1 => ?_⟩
  · have hx : gw l i ∉ out := fun hm => by
      have hm := (g2 _).1 hm
      have hd : (l.take (i + 1).toNat).Nodup := hn.sublist (List.take_sublist _ _)
      rw [take_snoc g0 e1, List.nodup_append] at hd
      exact hd.2.2 _ hm _ (List.mem_singleton.2 rfl) rfl
    refine loopP_intro (fun y => 0 ≤ y.1 ∧ y.1 ≤ out.length ∧ ∀ a, a ∈ out.take y.1.toNat → a < gw l i) (fun y => (out.length - y.1).toNat) ⟨Int.le_refl _, by simp, fun a ha => by simp at ha⟩ ?_
    rintro ⟨y, _⟩ ⟨k0, k1, k2⟩
    dsimp only at *
    have fin : (∀ b, b ∈ out.drop y.toNat → gw l i < b) → (((0 : Int) ≤ 0 ∧ 0 ≤ y ∧ y ≤ out.length) ∧ List.length ([] : List Int) + List.length (part out 0 y) ≤ 1000000000000 ∧ (0 ≤ i ∧ i < l.length) ∧ List.length (([] : List Int) ++ part out 0 y) + List.length [gw l i] ≤ 1000000000000 ∧ (0 ≤ y ∧ y ≤ out.length ∧ (out.length : Int) ≤ out.length) ∧ List.length (([] : List Int) ++ part out 0 y ++ [gw l i]) + List.length (part out y out.length) ≤ 1000000000000 ∧ i64ok (i + 1) ∧ (0 ≤ i + 1 ∧ (([] : List Int) ++ part out 0 y ++ [gw l i] ++ part out y out.length).Pairwise (· < ·) ∧ ∀ z, z ∈ ([] : List Int) ++ part out 0 y ++ [gw l i] ++ part out y out.length ↔ z ∈ l.take (i + 1).toNat) ∧ (l.length - (i + 1)).toNat < (l.length - i).toNat) := fun hb => by
      rw [part_take k0, part_drop k0]
      have e := List.take_append_drop y.toNat out
      have t1 : (out.take y.toNat).length ≤ out.length := by simp; omega
      have t2 : (out.drop y.toNat).length ≤ out.length := by simp
      refine ⟨⟨by omega, k0, k1⟩, by simp only [List.length_nil]; omega, ⟨g0, e1⟩, by simp only [List.nil_append, List.length_cons, List.length_nil]; omega, ⟨k0, k1, by omega⟩, by simp only [List.nil_append, List.length_append, List.length_cons, List.length_nil]; omega, i64ok_of (by omega) (by omega), ⟨by omega, ?_, fun z => ?_⟩, by omega⟩
      · rw [List.nil_append]
        exact ins_in g1 e.symm k2 hb
      · rw [take_snoc g0 e1]
        have g2' := g2 z
        rw [← e] at g2'
        simp only [List.nil_append, List.mem_append, List.mem_singleton] at g2' ⊢
        rw [← g2']
        constructor
        · rintro ((h1 | h1) | h1)
          · exact .inl (.inl h1)
          · exact .inr h1
          · exact .inl (.inr h1)
        · rintro ((h1 | h1) | h1)
          · exact .inl (.inl h1)
          · exact .inr h1
          · exact .inl (.inr h1)
    refine ⟨fun e2 => ⟨⟨k0, e2⟩, ⟨g0, e1⟩, fun e3 => ⟨i64ok_of (by omega) (by omega), ⟨by omega, by omega, fun a ha => ?_⟩, by omega⟩, fun e3 => ?_⟩, fun e2 => ?_⟩
    · rw [take_snoc k0 e2] at ha
      rcases List.mem_append.1 ha with ha | ha
      · exact k2 a ha
      · rw [List.mem_singleton.1 ha]; exact e3
    · refine fin fun b hb => ?_
      have hgt : gw l i < gw out y := by
        have : gw out y ≠ gw l i := fun e => hx (e ▸ gw_mem k0 e2)
        omega
      have hd : out.drop y.toNat = gw out y :: out.drop (y.toNat + 1) := by
        have := get_gw k0 e2
        rw [List.drop_eq_getElem_cons (by omega)]
        congr 1
        exact (List.getElem?_eq_some_iff.1 this).2
      have hp : (out.drop y.toNat).Pairwise (· < ·) := g1.sublist (List.drop_sublist _ _)
      rw [hd] at hb hp
      rcases List.mem_cons.1 hb with rfl | hb
      · exact hgt
      · have := (List.pairwise_cons.1 hp).1 b hb
        omega
    · exact fin fun b hb => by rw [List.drop_of_length_le (by omega)] at hb; cases hb
  · rw [take_all e1 g0] at g2
    rw [sortI_eq hn g1 g2] at h
    exact h
theorem p_sameInts {a b : List Int} (hl : a.length ≤ 1000000) {K : Bool → Prop} (h : K (tf (a = b))) : m_l_sameInts a b K := by
  refine ⟨?_⟩
  unfold b_l_sameInts
  simp only [gwE]
  refine ⟨fun e => ?_, fun e => ?_⟩
  · exact Eq.mp (congrArg K (tf_not fun hh => e (by rw [hh]))) h
  · have hlen : a.length = b.length := by omega
    refine loopP_intro (fun x => 0 ≤ x.1 ∧ ∀ t : Nat, (t : Int) < x.1 → a[t]? = b[t]?) (fun x => (a.length - x.1).toNat) ⟨Int.le_refl _, fun t ht => by dsimp only at ht; omega⟩ ?_
    rintro ⟨x, _⟩ ⟨h0, h2⟩
    dsimp only at *
    refine ⟨fun h3 => ⟨⟨h0, h3⟩, ⟨h0, by omega⟩, fun h4 => ?_, fun h4 => ⟨i64ok_of (by omega) (by omega), ⟨by omega, fun t g1 => ?_⟩, by omega⟩⟩, fun h3 => ?_⟩
    · exact Eq.mp (congrArg K (tf_not fun hh => h4 (by rw [hh]))) h
    · by_cases e : (t : Int) = x
      · have q1 := get_gw h0 h3
        have q2 := get_gw (L := b) h0 (by omega)
        rw [show t = x.toNat by omega, q1, q2]
        congr 1
        omega
      · exact h2 t (by omega)
    · refine Eq.mp (congrArg K (tf_of ?_)) h
      apply List.ext_getElem?
      intro t
      by_cases e : t < a.length
      · exact h2 t (by omega)
      · rw [List.getElem?_eq_none (by omega), List.getElem?_eq_none (by omega)]
section
variable {ws roots : List Int}
open Classical in
/-- What can be reached, in order; nothing where the roots are not right. -/
noncomputable def rch (ws roots : List Int) : List Int := if Rok ws roots then sortI (ord ws roots) else []
theorem p_s_Reach (hl : ws.length ≤ 1000000) (hr : roots.length ≤ 1000000) {K : List Int → Prop} (h : K (rch ws roots)) : m_s_Reach ws roots K := by
  refine ⟨?_⟩
  unfold b_s_Reach
  refine p_s_RootsOk hl hr ?_
  rw [nn_eq, tf_eq]
  unfold rch at h
  refine ⟨fun e => by rwa [if_neg e] at h, fun e => ?_⟩
  rw [if_pos e] at h
  exact p_s_l7Order e hr fun hI => p_s_l7Sort hI.nd (by have := hI.len; omega) h
theorem p_i_Reach (hl : ws.length ≤ 1000000) (hr : roots.length ≤ 1000000) {K : List Int → Prop} (h : K (rch ws roots)) : m_i_Reach ws roots K := by
  refine ⟨?_⟩
  unfold b_i_Reach
  refine p_i_RootsOk hl hr ?_
  rw [nn_eq, tf_eq]
  unfold rch at h
  refine ⟨fun e => by rwa [if_neg e] at h, fun e => ?_⟩
  rw [if_pos e] at h
  exact p_i_met e hr fun hI => ⟨by have := hI.len; omega, h⟩
end
end Go.Proofs.YthjmmofafpahhaaGreat.Sx
