/- Plain laws: what is met, in the order in which it is met; rows in order. -/
import Derived.Test.YthjmmofafpahhaaGreatPuE
namespace Go.Proofs.YthjmmofafpahhaaGreat.Sx
open Go
set_option linter.unusedVariables false
set_option linter.unusedSimpArgs false

/-! ### Lists without repeats, and in order -/
theorem nodup_le : ∀ {l m : List Int}, l.Nodup → (∀ x, x ∈ l → x ∈ m) → l.length ≤ m.length
  | [], m, _, _ => Nat.zero_le _
  | a :: l, m, hn, hs => by
    obtain ⟨A, B, rfl⟩ := List.append_of_mem (hs a List.mem_cons_self)
    have hn' := List.nodup_cons.1 hn
    have := nodup_le (l := l) (m := A ++ B) hn'.2 fun x hx => by
      have := hs x (List.mem_cons_of_mem _ hx)
      rcases List.mem_append.1 this with h | h
      · exact List.mem_append_left _ h
      · rcases List.mem_cons.1 h with rfl | h
        · exact absurd hx hn'.1
        · exact List.mem_append_right _ h
    simp only [List.length_append, List.length_cons] at *
    omega
theorem sorted_uniq : ∀ {l m : List Int}, l.Pairwise (· < ·) → m.Pairwise (· < ·) → (∀ x, x ∈ l ↔ x ∈ m) → l = m
  | [], [], _, _, _ => rfl
  | [], b :: m, _, _, h => absurd ((h b).2 List.mem_cons_self) (by simp)
  | a :: l, [], _, _, h => absurd ((h a).1 List.mem_cons_self) (by simp)
  | a :: l, b :: m, hl, hm, h => by
    have h1 := List.pairwise_cons.1 hl
    have h2 := List.pairwise_cons.1 hm
    have hab : a = b := by
      rcases List.mem_cons.1 ((h a).1 List.mem_cons_self) with e | e
      · exact e
      · rcases List.mem_cons.1 ((h b).2 List.mem_cons_self) with e' | e'
        · exact e'.symm
        · have := h1.1 _ e'
          have := h2.1 _ e
          omega
    subst hab
    rw [sorted_uniq h1.2 h2.2 fun x => ⟨fun hx => ?_, fun hx => ?_⟩]
    · rcases List.mem_cons.1 ((h x).1 (List.mem_cons_of_mem _ hx)) with rfl | e
      · have := h1.1 _ hx; omega
      · exact e
    · rcases List.mem_cons.1 ((h x).2 (List.mem_cons_of_mem _ hx)) with rfl | e
      · have := h2.1 _ hx; omega
      · exact e
theorem lt_nodup {l : List Int} (h : l.Pairwise (· < ·)) : l.Nodup := h.imp fun h => by omega
theorem le_lt {l : List Int} (h : l.Pairwise (· ≤ ·)) (hn : l.Nodup) : l.Pairwise (· < ·) := (h.and hn).imp fun h => by omega
theorem sortI_mem {l : List Int} {x : Int} : x ∈ sortI l ↔ x ∈ l := (List.mergeSort_perm l _).mem_iff
theorem sortI_len {l : List Int} : (sortI l).length = l.length := (List.mergeSort_perm l _).length_eq
theorem sortI_le {l : List Int} : (sortI l).Pairwise (· ≤ ·) := by
  have := List.pairwise_mergeSort (le := fun x y : Int => decide (x ≤ y)) (by intro a b c h1 h2; simp at *; omega) (by intro a b; simp; omega) l
  exact this.imp fun h => by simpa using h
theorem sortI_lt {l : List Int} (hn : l.Nodup) : (sortI l).Pairwise (· < ·) := le_lt sortI_le ((List.mergeSort_perm l _).nodup_iff.2 hn)
theorem sortI_eq {l m : List Int} (hl : l.Nodup) (hm : m.Pairwise (· < ·)) (h : ∀ x, x ∈ m ↔ x ∈ l) : sortI l = m :=
  sorted_uniq (sortI_lt hl) hm fun x => sortI_mem.trans (h x).symm
theorem part_take {l : List Int} {q : Int} (h : 0 ≤ q) : part l 0 q = l.take q.toNat := by
  simp [part]
theorem part_drop {l : List Int} {p : Int} (h : 0 ≤ p) : part l p l.length = l.drop p.toNat := by
  unfold part
  rw [List.take_of_length_le]
  simp

/-! ### Looking for one -/
theorem p_s_l7In {l : List Int} {x : Int} (hl : l.length ≤ 1000000) {K : Bool → Prop} (h : K (tf (x ∈ l))) : m_s_l7In l x K := by
  refine ⟨?_⟩
  unfold b_s_l7In
  simp only [gwE]
  refine loopP_intro (fun y => 0 ≤ y.1 ∧ ∀ (t : Nat) (v : Int), (t : Int) < y.1 → l[t]? = some v → v ≠ x) (fun y => (l.length - y.1).toNat) ⟨Int.le_refl _, fun t p h1 _ => by dsimp only at h1; omega⟩ ?_
  rintro ⟨y, _⟩ ⟨h0, h2⟩
  dsimp only at *
  refine ⟨fun h3 => ⟨⟨h0, h3⟩, fun h4 => ?_, fun h4 => ⟨i64ok_of (by omega) (by omega), ⟨by omega, fun t p g1 g2 => ?_⟩, by omega⟩⟩, fun h3 => ?_⟩
  · rwa [tf_of (h4 ▸ gw_mem h0 h3)] at h
  · by_cases e : (t : Int) = y
    · rw [show t = y.toNat by omega, get_gw h0 h3] at g2
      cases g2
      exact h4
    · exact h2 t p (by omega) g2
  · refine Eq.mp (congrArg K (tf_not fun hh => ?_)) h
    obtain ⟨t, ht⟩ := List.getElem?_of_mem hh
    have := (List.getElem?_eq_some_iff.1 ht).1
    exact h2 t x (by omega) ht rfl

/-! ### What is met -/
def addv (out : List Int) (v : Int) : List Int := if 4 ≤ v % 8 ∧ v / 8 ∉ out then out ++ [v / 8] else out
def addvs (out vs : List Int) : List Int := vs.foldl addv out
def vals (ws : List Int) (p : Int) : List Int := (slo ws p).map (gw ws)
def bfs (ws : List Int) : Nat → Nat → List Int → List Int
  | 0, _, out => out
  | n + 1, k, out => if k < out.length then bfs ws n (k + 1) (addvs out (vals ws (gw out k))) else out
/-- The places of the blocks that are come to, as they are met. -/
def ord (ws roots : List Int) : List Int := bfs ws 2001 0 (addvs [] roots)

/-- Met places so far. -/
structure MetI (ws out : List Int) : Prop where
  nd : out.Nodup
  sub : ∀ p, p ∈ out → p ∈ bl ws
theorem MetI.len {ws out : List Int} (h : MetI ws out) : out.length ≤ 1000 := by
  by_cases hs : Slb ws
  · have h1 := nodup_le h.nd h.sub
    have := (bl_seg hs).len
    have := hs.1
    omega
  · cases out with
    | nil => simp
    | cons a l => exact absurd (bl_mem (h.sub a List.mem_cons_self)).1 hs
/-- A value that leads to a block, or nowhere. -/
def Ldv (ws : List Int) (v : Int) : Prop := 4 ≤ v % 8 → v / 8 ∈ bl ws ∧ gw ws (v / 8) % 8 ≠ 0
theorem Lead.ldv {ws : List Int} {v i : Int} (hi : i ≠ 0) (h : Lead ws v i) : Ldv ws v := fun e => by
  obtain ⟨_, h4, h5, h6, h7⟩ := h
  have : v % 8 = 4 ∨ v % 8 = 5 ∨ v % 8 = 6 ∨ v % 8 = 7 := by omega
  rcases this with e | e | e | e
  · exact ⟨(h4 e).1, by rw [(h4 e).2]; omega⟩
  · exact ⟨(h5 e).1, by rw [(h5 e).2]; omega⟩
  · exact ⟨(h6 e).1, by rw [(h6 e).2]; omega⟩
  · exact ⟨(h7 e).1, by rw [(h7 e).2]; omega⟩
theorem Pla.ldv {ws : List Int} {v : Int} (h : Pla ws v) : Ldv ws v := fun e => by
  obtain ⟨hn, _, h4, h5, h6, h7⟩ := h
  have : v % 8 = 4 ∨ v % 8 = 5 ∨ v % 8 = 6 := by omega
  rcases this with e | e | e
  · exact ⟨(h4 e).1, by rw [(h4 e).2]; omega⟩
  · exact ⟨(h5 e).1, by rw [(h5 e).2]; omega⟩
  · exact ⟨(h6 e).1, by rw [(h6 e).2]; omega⟩
theorem Rfr.ldv {ws : List Int} {k b v : Int} (hb : b ≠ 0) (h : Rfr ws k b v) : Ldv ws v := fun e => ⟨h.2.1, by rw [h.2.2]; exact hb⟩
theorem Nxt.ldv {ws : List Int} {b v : Int} (hb : b ≠ 0) (h : Nxt ws b v) : Ldv ws v := by
  rcases h with rfl | h
  · intro e; omega
  · exact h.ldv hb
/-- The values of a block that is right lead to blocks, or nowhere. -/
theorem Shp.ldv {ws : List Int} {p : Int} (h : Shp ws p) {v : Int} (hv : v ∈ vals ws p) : Ldv ws v := by
  obtain ⟨x, hx, rfl⟩ := List.mem_map.1 hv
  obtain ⟨_, h2, h3, h4, h5⟩ := h
  unfold slo at hx
  split at hx
  · rename_i k
    obtain ⟨_, q1, q2, _⟩ := h2 k
    rw [rng_mem] at hx
    by_cases e : x = p + 1
    · subst e
      rcases q1 with q | q
      · rw [q]; intro e; omega
      · exact q.ldv (by omega)
    · rw [show x = p + 2 by omega]; exact q2.ldv (by omega)
  · split at hx
    · rename_i k
      obtain ⟨_, q1, q2, q3, _⟩ := h3 k
      rw [rng_mem] at hx
      by_cases e : x = p + 1
      · subst e; exact q1.ldv (by omega)
      · by_cases e2 : x = p + 2
        · subst e2; exact q2.ldv
        · rw [show x = p + 3 by omega]; exact q3.ldv (by omega)
    · split at hx
      · rename_i k
        obtain ⟨_, _, q2, _⟩ := h4 k
        rw [rng_mem] at hx
        rw [show x = p + 2 by omega]
        exact q2.ldv (by omega)
      · split at hx
        · rename_i k
          obtain ⟨q1, q2⟩ := h5 k
          rw [rng_mem] at hx
          by_cases e : x = p + 1
          · subst e; exact q1.ldv (by omega)
          · have := q2 (x - p) (by omega) (by omega)
            rw [show p + (x - p) = x by omega] at this
            exact this.ldv
        · cases hx

theorem addv_sub {ws out : List Int} {v : Int} (h : MetI ws out) (hv : Ldv ws v) : MetI ws (addv out v) := by
  unfold addv
  split
  · rename_i e
    refine ⟨?_, fun p hp => ?_⟩
    · rw [List.nodup_append]
      exact ⟨h.nd, by simp, fun a ha b hb => by rw [List.mem_singleton.1 hb]; intro e2; subst e2; exact e.2 ha⟩
    · rcases List.mem_append.1 hp with hp | hp
      · exact h.sub p hp
      · rw [List.mem_singleton.1 hp]; exact (hv e.1).1
  · exact h
theorem addvs_sub {ws : List Int} : ∀ {vs out : List Int}, MetI ws out → (∀ v, v ∈ vs → Ldv ws v) → MetI ws (addvs out vs)
  | [], out, h, _ => h
  | v :: vs, out, h, hv => addvs_sub (vs := vs) (addv_sub h (hv v List.mem_cons_self)) fun u hu => hv u (List.mem_cons_of_mem _ hu)
theorem addvs_snoc {out vs : List Int} {v : Int} : addvs out (vs ++ [v]) = addv (addvs out vs) v := by simp [addvs]
theorem take_snoc {l : List Int} {i : Int} (h0 : 0 ≤ i) (h : i < l.length) : l.take (i + 1).toNat = l.take i.toNat ++ [gw l i] := by
  have e : (i + 1).toNat = i.toNat + 1 := by omega
  rw [e, List.take_add_one, get_gw h0 h]
  rfl
theorem take_all {l : List Int} {i : Int} (h : ¬ i < l.length) (h0 : 0 ≤ i) : l.take i.toNat = l := List.take_of_length_le (by omega)

/-- A map says which places are met. -/
def Seen (m : List (Int × Bool)) (out : List Int) : Prop := ∀ k, mget false m k = true ↔ k ∈ out
theorem mget_mput {m : List (Int × Bool)} {k j : Int} {b : Bool} : mget false (mput m k b) j = if j = k then b else mget false m j := by
  induction m with
  | nil =>
    simp only [mput, mget]
    by_cases e : k = j
    · simp [e]
    · simp [e, Ne.symm e]
  | cons a r ih =>
    obtain ⟨x, y⟩ := a
    unfold mput
    by_cases e : x = k
    · subst e
      simp only [if_pos rfl, mget]
      by_cases e2 : x = j
      · simp [e2, mget]
      · simp [e2, Ne.symm e2, mget]
    · simp only [if_neg e, mget, ih]
      by_cases e2 : x = j
      · subst e2; simp [e]
      · simp [e2]
theorem Seen.add {m : List (Int × Bool)} {out : List Int} {x : Int} (h : Seen m out) : Seen (mput m x true) (out ++ [x]) := fun k => by
  rw [mget_mput]
  by_cases e : k = x
  · simp [e]
  · simp [e, h k]
theorem p_met_1 {v : Int} {m : List (Int × Bool)} {out : List Int} (hs : Seen m out) (hl : out.length ≤ 1000000) {K : List (Int × Bool) → List Int → Prop} (h : ∀ m', Seen m' (addv out v) → K m' (addv out v)) : m_i_met_1 v m out K := by
  refine ⟨?_⟩
  unfold b_i_met_1
  refine ⟨?_⟩
  unfold b_i_hasPlace
  refine p_i_Kind ?_
  dsimp only
  rw [tf_eq, tf_false]
  refine ⟨fun e1 => p_i_Num ⟨fun e2 => p_i_Num (p_i_Num ⟨?_, ?_⟩), fun e2 => ?_⟩, fun e1 => ?_⟩
  · simp only [List.length_cons, List.length_nil]; omega
  · have e : addv out v = out ++ [v / 8] := if_pos ⟨e1, fun hm => e2 ((hs _).2 hm)⟩
    rw [e] at h
    exact h _ hs.add
  · have e : addv out v = out := if_neg fun hh => hh.2 ((hs _).1 (nn_eq ▸ e2))
    rw [e] at h
    exact h _ hs
  · have e : addv out v = out := if_neg fun hh => e1 hh.1
    rw [e] at h
    exact h _ hs

theorem bfs_stop {ws out : List Int} {n k : Nat} (h : out.length ≤ k) : bfs ws n k out = out := by
  cases n with
  | zero => rfl
  | succ n => simp only [bfs]; rw [if_neg (by omega)]
theorem vals_len {ws : List Int} {p : Int} : (vals ws p).length = (slo ws p).length := by simp [vals]
theorem vals_gw {ws : List Int} {p i : Int} (h0 : 0 ≤ i) (h : i < (slo ws p).length) : gw (vals ws p) i = gw ws (gw (slo ws p) i) := by
  have := get_gw h0 h
  conv => lhs; rw [show i = ((i.toNat : Nat) : Int) by omega]
  exact gw_get (t := i.toNat) (by unfold vals; rw [List.getElem?_map, this]; rfl)
theorem p_i_met {ws roots : List Int} (hr : Rok ws roots) (hl : roots.length ≤ 1000000) {K : List Int → Prop} (h : MetI ws (ord ws roots) → K (ord ws roots)) : m_i_met ws roots K := by
  have hw := hr.1.1
  have hwl : ws.length ≤ 1000000 := by have := hw.1; omega
  have hrl : ∀ v, v ∈ roots → Ldv ws v := fun v hv => (hr.2 v hv).ldv (by omega)
  have hbl : ∀ p, p ∈ bl ws → ∀ v, v ∈ vals ws p → Ldv ws v := fun p hp v hv => (hr.1.2 p hp).ldv hv
  refine ⟨?_⟩
  unfold b_i_met
  simp only [gwE]
  refine loopP_intro (fun x => 0 ≤ x.1 ∧ x.2.1 = addvs [] (roots.take x.1.toNat) ∧ Seen x.2.2.1 x.2.1) (fun x => (roots.length - x.1).toNat) ⟨Int.le_refl _, rfl, fun k => by simp [mget]⟩ ?_
  rintro ⟨i, out, m, _⟩ ⟨g0, g1, g2⟩
  dsimp only at *
  have hI : MetI ws out := g1 ▸ addvs_sub ⟨.nil, fun p hp => by cases hp⟩ fun v hv => hrl v (List.mem_of_mem_take hv)
  have hol := hI.len
  refine ⟨fun e1 => ⟨⟨g0, e1⟩, p_met_1 g2 (by omega) fun m' hm' => ⟨i64ok_of (by omega) (by omega), ⟨by omega, ?_, hm'⟩, by omega⟩⟩, fun e1 => ?_⟩
  · rw [take_snoc g0 e1, addvs_snoc, ← g1]
  · rw [take_all e1 g0] at g1
    refine loopP_intro (fun x => 0 ≤ x.1 ∧ x.1 ≤ x.2.1.length ∧ MetI ws x.2.1 ∧ bfs ws (2001 - x.1.toNat) x.1.toNat x.2.1 = ord ws roots ∧ Seen x.2.2.1 x.2.1) (fun x => (2001 - x.1).toNat) ⟨Int.le_refl _, by simp, hI, by dsimp only; rw [g1]; rfl, g2⟩ ?_
    rintro ⟨k, out, m, _⟩ ⟨k0, k1, k2, k3, k4⟩
    dsimp only at *
    have hol := k2.len
    refine ⟨fun e2 => ⟨⟨k0, e2⟩, ?_⟩, fun e2 => ?_⟩
    · have hmem := k2.sub _ (gw_mem k0 e2)
      have hb := (bl_mem hmem).2.2.2
      refine p_i_slots hb hwl ?_
      have hsl := slo_len hb hwl
      rw [show 2001 - k.toNat = (2001 - (k + 1).toNat) + 1 by omega] at k3
      simp only [bfs] at k3
      rw [if_pos (by omega), show ((k.toNat : Nat) : Int) = k by omega] at k3
      refine loopP_intro (fun x => 0 ≤ x.1 ∧ x.2.1 = addvs out ((vals ws (gw out k)).take x.1.toNat) ∧ Seen x.2.2.1 x.2.1) (fun x => ((slo ws (gw out k)).length - x.1).toNat) ⟨Int.le_refl _, rfl, k4⟩ ?_
      rintro ⟨i, out2, m2, _⟩ ⟨j0, j1, j2⟩
      dsimp only at *
      have hI2 : MetI ws out2 := j1 ▸ addvs_sub k2 fun v hv => hbl _ hmem v (List.mem_of_mem_take hv)
      have hol2 := hI2.len
      refine ⟨fun e3 => ?_, fun e3 => ⟨i64ok_of (by omega) (by omega), ⟨by omega, ?_, hI2, ?_, j2⟩, by omega⟩⟩
      · have hs2 := slo_mem hb (gw_mem j0 e3)
        have hb2 := hb.2.2.1
        have hb0 := hb.1
        refine ⟨⟨j0, e3⟩, ⟨by omega, by omega⟩, p_met_1 j2 (by omega) fun m' hm' => ⟨i64ok_of (by omega) (by omega), ⟨by omega, ?_, hm'⟩, by omega⟩⟩
        rw [take_snoc j0 (by rw [vals_len]; exact e3), addvs_snoc, ← j1, vals_gw j0 e3]
      · have : out.length ≤ out2.length := by
          rw [j1]
          have mono : ∀ (vs o : List Int), o.length ≤ (addvs o vs).length := fun vs => by
            induction vs with
            | nil => intro o; exact Nat.le_refl _
            | cons v vs ih =>
              intro o
              refine Nat.le_trans ?_ (ih (addv o v))
              unfold addv
              split <;> simp
          exact mono _ _
        omega
      · rw [take_all (by rw [vals_len]; exact e3) j0] at j1
        rw [j1, show (k + 1).toNat = k.toNat + 1 by omega]
        rw [show (k + 1).toNat = k.toNat + 1 by omega] at k3
        exact k3
    · rw [bfs_stop (by omega)] at k3
      rw [← k3] at h
      exact h k2
end Go.Proofs.YthjmmofafpahhaaGreat.Sx
