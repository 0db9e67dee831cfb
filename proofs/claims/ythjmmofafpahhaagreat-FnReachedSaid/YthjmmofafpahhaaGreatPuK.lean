/- Plain laws: marking. -/
import Derived.Test.YthjmmofafpahhaaGreatPuJ
namespace Go.Proofs.YthjmmofafpahhaaGreat.Sx
open Go
set_option linter.unusedVariables false
set_option linter.unusedSimpArgs false

/-- A value leads to a block of its kind. -/
def Ldk (ws : List Int) (v : Int) : Prop := Rfr ws 4 1 v ∨ Rfr ws 5 2 v ∨ Rfr ws 6 4 v ∨ Rfr ws 7 3 v ∨ Rfr ws 7 5 v
section
variable {ws : List Int}
theorem Lead.ldk {v i : Int} (hi : i = 3 ∨ i = 5) (h : Lead ws v i) (e : 4 ≤ v % 8) : Ldk ws v := by
  obtain ⟨_, h4, h5, h6, h7⟩ := h
  have : v % 8 = 4 ∨ v % 8 = 5 ∨ v % 8 = 6 ∨ v % 8 = 7 := by omega
  rcases this with e | e | e | e
  · exact .inl ⟨e, h4 e⟩
  · exact .inr (.inl ⟨e, h5 e⟩)
  · exact .inr (.inr (.inl ⟨e, h6 e⟩))
  · rcases hi with rfl | rfl
    · exact .inr (.inr (.inr (.inl ⟨e, h7 e⟩)))
    · exact .inr (.inr (.inr (.inr ⟨e, h7 e⟩)))
theorem Pla.ldk {v : Int} (h : Pla ws v) (e : 4 ≤ v % 8) : Ldk ws v := by
  obtain ⟨hn, _, h4, h5, h6, h7⟩ := h
  have : v % 8 = 4 ∨ v % 8 = 5 ∨ v % 8 = 6 := by omega
  rcases this with e | e | e
  · exact .inl ⟨e, h4 e⟩
  · exact .inr (.inl ⟨e, h5 e⟩)
  · exact .inr (.inr (.inl ⟨e, h6 e⟩))
theorem Nxt.ldk {b v : Int} (hb : b = 3 ∨ b = 5) (h : Nxt ws b v) (e : 4 ≤ v % 8) : Ldk ws v := by
  rcases h with rfl | h
  · omega
  · rcases hb with rfl | rfl
    · exact .inr (.inr (.inr (.inl h)))
    · exact .inr (.inr (.inr (.inr h)))
theorem Shp.ldk {p : Int} (h : Shp ws p) {v : Int} (hv : v ∈ vals ws p) (e4 : 4 ≤ v % 8) : Ldk ws v := by
  obtain ⟨x, hx, rfl⟩ := List.mem_map.1 hv
  obtain ⟨_, h2, h3, h4, h5⟩ := h
  unfold slo at hx
  split at hx
  · rename_i k
    obtain ⟨_, q1, q2, _⟩ := h2 k
    rw [rng_mem] at hx
    by_cases e : x = p + 1
    · subst e
      rcases q1 with q | q
      · rw [q] at e4; omega
      · exact .inr (.inl q)
    · rw [show x = p + 2 by omega] at e4 ⊢; exact q2.ldk (.inl rfl) e4
  · split at hx
    · rename_i k
      obtain ⟨_, q1, q2, q3, _⟩ := h3 k
      rw [rng_mem] at hx
      by_cases e : x = p + 1
      · subst e; exact .inl q1
      · by_cases e2 : x = p + 2
        · subst e2; exact q2.ldk e4
        · rw [show x = p + 3 by omega] at e4 ⊢; exact q3.ldk (.inl rfl) e4
    · split at hx
      · rename_i k
        obtain ⟨_, _, q2, _⟩ := h4 k
        rw [rng_mem] at hx
        rw [show x = p + 2 by omega]
        exact .inr (.inr (.inr (.inr q2)))
      · split at hx
        · rename_i k
          obtain ⟨q1, q2⟩ := h5 k
          rw [rng_mem] at hx
          by_cases e : x = p + 1
          · subst e; exact q1.ldk (.inr rfl) e4
          · have := q2 (x - p) (by omega) (by omega)
            rw [show p + (x - p) = x by omega] at this
            exact this.ldk e4
        · cases hx
theorem p_i_leads {all : List Int} (ha : Kds ws all) (hl : ws.length ≤ 1000000) {v : Int} {K : Bool → Prop} (h : K (tf (Ldk ws v))) : m_i_leads all v K := by
  refine ⟨?_⟩
  unfold b_i_leads
  have key : ∀ k b, v % 8 = k → (Ldk ws v ↔ Rfr ws k b v) → b ≠ -1 → m_i_leadsTo all v k b fun r => K r := fun k b hk hi hb => p_i_leadsTo ha hl hb (Eq.mp (congrArg K (tf_congr hi)) h)
  have one : ∀ k b, v % 8 = k → ((k = 4 ∧ b = 1) ∨ (k = 5 ∧ b = 2) ∨ (k = 6 ∧ b = 4)) → (Ldk ws v ↔ Rfr ws k b v) := fun k b hk hi => by
    unfold Ldk Rfr
    constructor
    · rintro (⟨e, g⟩ | ⟨e, g⟩ | ⟨e, g⟩ | ⟨e, g⟩ | ⟨e, g⟩) <;> rcases hi with ⟨rfl, rfl⟩ | ⟨rfl, rfl⟩ | ⟨rfl, rfl⟩ <;> first | exact ⟨e, g⟩ | omega
    · rintro ⟨e, g⟩
      rcases hi with ⟨rfl, rfl⟩ | ⟨rfl, rfl⟩ | ⟨rfl, rfl⟩
      · exact .inl ⟨e, g⟩
      · exact .inr (.inl ⟨e, g⟩)
      · exact .inr (.inr (.inl ⟨e, g⟩))
  refine p_i_Kind ⟨fun e => key 4 1 e (one 4 1 e (.inl ⟨rfl, rfl⟩)) (by omega), fun e4 => ⟨fun e => key 5 2 e (one 5 2 e (.inr (.inl ⟨rfl, rfl⟩))) (by omega), fun e5 => ⟨fun e => key 6 4 e (one 6 4 e (.inr (.inr ⟨rfl, rfl⟩))) (by omega), fun e6 => ⟨fun e => p_i_leadsTo ha hl (by omega) ?_, fun e7 => ?_⟩⟩⟩⟩
  · rw [tf_eq, tf_false]
    have h7 : Ldk ws v ↔ Rfr ws 7 3 v ∨ Rfr ws 7 5 v := by
      unfold Ldk Rfr
      constructor
      · rintro (⟨e, g⟩ | ⟨e, g⟩ | ⟨e, g⟩ | g | g)
        · omega
        · omega
        · omega
        · exact .inl g
        · exact .inr g
      · rintro (g | g)
        · exact .inr (.inr (.inr (.inl g)))
        · exact .inr (.inr (.inr (.inr g)))
    rw [tf_congr h7] at h
    refine ⟨fun e2 => p_i_leadsTo ha hl (by omega) (Eq.mp (congrArg K (tf_congr ⟨fun hh => hh.resolve_left e2, .inr⟩)) h), fun e2 => Eq.mp (congrArg K (tf_of (.inl e2))) h⟩
  · refine Eq.mp (congrArg K (tf_not ?_)) h
    unfold Ldk Rfr
    rintro (⟨e, g⟩ | ⟨e, g⟩ | ⟨e, g⟩ | ⟨e, g⟩ | ⟨e, g⟩) <;> omega
end
theorem p_contains {l : List Int} {x : Int} (hl : l.length ≤ 1000000) {K : Bool → Prop} (h : K (tf (x ∈ l))) : m_g_slices_Contains___int_int_ l x K := by
  refine ⟨?_⟩
  unfold b_g_slices_Contains___int_int_
  refine ⟨?_⟩
  unfold b_g_slices_Index___int_int_
  simp only [gwE]
  refine loopP_intro (fun y => 0 ≤ y.1 ∧ ∀ (t : Nat) (v : Int), (t : Int) < y.1 → l[t]? = some v → v ≠ x) (fun y => (l.length - y.1).toNat) ⟨Int.le_refl _, fun t p h1 _ => by dsimp only at h1; omega⟩ ?_
  rintro ⟨y, _⟩ ⟨h0, h2⟩
  dsimp only at *
  refine ⟨fun h3 => ⟨⟨h0, h3⟩, fun h4 => ?_, fun h4 => ⟨i64ok_of (by omega) (by omega), ⟨by omega, fun t p g1 g2 => ?_⟩, by omega⟩⟩, fun h3 => ?_⟩
  · rw [tf_of h0]
    rwa [tf_of (h4 ▸ gw_mem h0 h3)] at h
  · by_cases e : (t : Int) = y
    · rw [show t = y.toNat by omega, get_gw h0 h3] at g2
      cases g2
      exact fun e => h4 e.symm
    · exact h2 t p (by omega) g2
  · rw [tf_not (show ¬ (0 : Int) ≤ -1 by omega)]
    refine Eq.mp (congrArg K (tf_not fun hh => ?_)) h
    obtain ⟨t, ht⟩ := List.getElem?_of_mem hh
    have := (List.getElem?_eq_some_iff.1 ht).1
    exact h2 t x (by omega) ht rfl
/-- Grey places and one value more. -/
def shd (bk gr : List Int) (v : Int) : List Int := if 4 ≤ v % 8 ∧ v / 8 ∉ gr ∧ v / 8 ∉ bk then gr ++ [v / 8] else gr
def shds (bk gr vs : List Int) : List Int := vs.foldl (shd bk) gr
section
variable {ws : List Int}
theorem p_i_shade {all : List Int} (ha : Kds ws all) (hl : ws.length ≤ 1000000) {gr bk : List Int} {at' v : Int} (hg : gr.length ≤ 1000000) (hb : bk.length ≤ 1000000) (hv : 4 ≤ v % 8 → Ldk ws v) {K : Int → List Int → List Int → Int → Prop} (h : K 1 (shd bk gr v) bk at') : m_i_shade all 1 gr bk at' v K := by
  have hk : ¬ 4 ≤ v % 8 → ¬ Ldk ws v := fun hn => by
    unfold Ldk Rfr
    rintro (⟨e, g⟩ | ⟨e, g⟩ | ⟨e, g⟩ | ⟨e, g⟩ | ⟨e, g⟩) <;> omega
  have same : ¬ (4 ≤ v % 8 ∧ v / 8 ∉ gr ∧ v / 8 ∉ bk) → K 1 gr bk at' := fun hn => by
    unfold shd at h; rwa [if_neg hn] at h
  refine ⟨?_⟩
  unfold b_i_shade
  refine ⟨fun _ => p_i_leads ha hl ?_, fun e => absurd rfl e⟩
  rw [tf_eq, tf_false]
  refine ⟨fun e1 => p_i_Num (p_contains hg ?_), fun e1 => same fun hh => e1 (hv hh.1)⟩
  have h4 : 4 ≤ v % 8 := Classical.byContradiction fun hn => hk hn e1
  rw [nn_eq, tf_eq]
  refine ⟨fun e2 => p_i_Num (p_contains hb ?_), fun e2 => same fun hh => hh.2.1 e2⟩
  rw [nn_eq, tf_eq]
  refine ⟨fun e3 => p_i_Num ⟨by simp only [List.length_cons, List.length_nil]; omega, ?_⟩, fun e3 => same fun hh => hh.2.2 e3⟩
  unfold shd at h
  rwa [if_pos ⟨h4, e2, e3⟩] at h
theorem shd_nil {gr : List Int} {v : Int} : shd [] gr v = addv gr v := by simp [shd, addv]
theorem shds_snoc {bk gr vs : List Int} {v : Int} : shds bk gr (vs ++ [v]) = shd bk (shds bk gr vs) v := by simp [shds]
theorem shd_mem {bk gr : List Int} {v p : Int} : p ∈ shd bk gr v ↔ p ∈ gr ∨ (4 ≤ v % 8 ∧ v / 8 = p ∧ p ∉ bk) := by
  unfold shd
  split
  · rename_i e
    rw [List.mem_append, List.mem_singleton]
    exact or_congr Iff.rfl ⟨fun h => ⟨e.1, h.symm, h ▸ e.2.2⟩, fun h => h.2.1.symm⟩
  · rename_i e
    refine ⟨.inl, fun h => h.elim id fun ⟨h1, h2, h3⟩ => ?_⟩
    subst h2
    exact Classical.byContradiction fun hn => e ⟨h1, hn, h3⟩
theorem shds_mem {bk : List Int} {p : Int} : ∀ {vs gr : List Int}, p ∈ shds bk gr vs ↔ p ∈ gr ∨ ∃ v, v ∈ vs ∧ 4 ≤ v % 8 ∧ v / 8 = p ∧ p ∉ bk
  | [], gr => by simp [shds]
  | v :: vs, gr => by
    show p ∈ shds bk (shd bk gr v) vs ↔ _
    rw [shds_mem (vs := vs), shd_mem]
    constructor
    · rintro ((h | h) | ⟨u, h1, h2⟩)
      · exact .inl h
      · exact .inr ⟨v, List.mem_cons_self, h⟩
      · exact .inr ⟨u, List.mem_cons_of_mem _ h1, h2⟩
    · rintro (h | ⟨u, h1, h2⟩)
      · exact .inl (.inl h)
      · rcases List.mem_cons.1 h1 with rfl | h1
        · exact .inl (.inr h2)
        · exact .inr ⟨u, h1, h2⟩
theorem shds_nodup {bk : List Int} : ∀ {vs gr : List Int}, gr.Nodup → (shds bk gr vs).Nodup
  | [], gr, h => h
  | v :: vs, gr, h => shds_nodup (vs := vs) (by
      unfold shd
      split
      · rename_i e
        rw [List.nodup_append]
        exact ⟨h, by simp, fun a ha b hb => by rw [List.mem_singleton.1 hb]; intro e2; subst e2; exact e.2.1 ha⟩
      · exact h)
end
/-- One place more among those in order. -/
theorem split_lt {x : Int} : ∀ {l : List Int}, l.Pairwise (· ≤ ·) → l.take (l.countP (· < x)) = l.filter (· < x) ∧ l.drop (l.countP (· < x)) = l.filter fun y => !decide (y < x)
  | [], _ => by simp
  | a :: l, h => by
    have h' := List.pairwise_cons.1 h
    obtain ⟨h1, h2⟩ := split_lt (x := x) h'.2
    by_cases e : a < x
    · simp [List.countP_cons, e, h1, h2]
    · have h0 : l.countP (· < x) = 0 := by
        rw [List.countP_eq_zero]
        intro y hy
        have := h'.1 y hy
        simp; omega
      have h3 : l.filter (· < x) = [] := by
        rw [List.filter_eq_nil_iff]
        intro y hy
        have := h'.1 y hy
        simp; omega
      have h4 : l.filter (fun y => !decide (y < x)) = l := by
        rw [List.filter_eq_self]
        intro y hy
        have := h'.1 y hy
        simp; omega
      simp [List.countP_cons, e, h0, h3, h4]
def insI (x : Int) (l : List Int) : List Int := l.take (l.countP (· < x)) ++ x :: l.drop (l.countP (· < x))
theorem insI_mem {x y : Int} {l : List Int} : y ∈ insI x l ↔ y = x ∨ y ∈ l := by
  unfold insI
  conv => rhs; rhs; rw [← List.take_append_drop (l.countP (· < x)) l]
  simp only [List.mem_append, List.mem_cons]
  constructor
  · rintro (h | h | h)
    · exact .inr (.inl h)
    · exact .inl h
    · exact .inr (.inr h)
  · rintro (h | h | h)
    · exact .inr (.inl h)
    · exact .inl h
    · exact .inr (.inr h)
theorem insI_len {x : Int} {l : List Int} : (insI x l).length = l.length + 1 := by
  unfold insI
  have := congrArg List.length (List.take_append_drop (l.countP (· < x)) l)
  simp only [List.length_append, List.length_cons] at *
  omega
theorem insI_sorted {x : Int} {l : List Int} (h : l.Pairwise (· ≤ ·)) : (insI x l).Pairwise (· ≤ ·) := by
  obtain ⟨h1, h2⟩ := split_lt (x := x) h
  unfold insI
  rw [h1, h2, List.pairwise_append, List.pairwise_cons]
  refine ⟨h.filter _, ⟨fun b hb => ?_, h.filter _⟩, fun a ha b hb => ?_⟩
  · have := (List.mem_filter.1 hb).2
    simp at this
    exact this
  · have ha := (List.mem_filter.1 ha).2
    simp at ha
    rcases List.mem_cons.1 hb with rfl | hb
    · omega
    · have := (List.mem_filter.1 hb).2
      simp at this
      omega
theorem p_blacken {ph at' x : Int} {gr bk : List Int} (hs : bk.Pairwise (· ≤ ·)) (hb : bk.length ≤ 1000000) {K : Int → List Int → List Int → Int → Prop} (h : K ph gr (insI x bk) at') : m_i_blacken ph gr bk at' x K := by
  refine ⟨?_⟩
  unfold b_i_blacken
  refine p_search hs hb ?_
  have := List.countP_le_length (p := fun y : Int => decide (y < x)) (l := bk)
  refine ⟨⟨⟨by omega, by omega⟩, by omega⟩, ?_⟩
  rw [Int.toNat_natCast]
  exact h
theorem p_copyMarker {ph at' : Int} {gr bk : List Int} (hg : gr.length ≤ 1000000) (hb : bk.length ≤ 1000000) {K : Int → List Int → List Int → Int → Prop} (h : K ph gr bk at') : m_i_copyMarker ph gr bk at' K := by
  refine ⟨?_⟩
  unfold b_i_copyMarker
  refine ⟨?_⟩
  unfold b_i_copyInts
  refine ⟨by omega, ⟨?_⟩⟩
  unfold b_i_copyInts
  exact ⟨by omega, h⟩

/-- Marking on its way: of a heap with roots. -/
structure MarkI (ws roots gr bk : List Int) : Prop where
  mem : Mem ws gr bk
  sound : ∀ p, p ∈ gr ++ bk → Rch ws roots p
  root : ∀ v, v ∈ roots → 4 ≤ v % 8 → v / 8 ∈ gr ++ bk
  tri : ∀ p, p ∈ bk → ∀ v, v ∈ vals ws p → 4 ≤ v % 8 → v / 8 ∈ gr ++ bk
section
variable {ws roots : List Int}
theorem MarkI.len {gr bk : List Int} (h : MarkI ws roots gr bk) : gr.length + bk.length ≤ 1000 := by
  have : MetI ws (gr ++ bk) := ⟨h.mem.2.1, fun p hp => (h.mem.1 p hp).1⟩
  have := this.len
  simpa using this
theorem MarkI.ok {gr bk : List Int} (hr : Rok ws roots) (h : MarkI ws roots gr bk) : MkOk ws 1 gr bk 0 := ⟨hr.1.1, h.mem, .inr (.inl ⟨rfl, hr.1, rfl⟩)⟩
theorem MarkI.done {bk : List Int} (hr : Rok ws roots) (h : MarkI ws roots [] bk) : bk = sortI (ord ws roots) := by
  have hs : bk.Pairwise (· < ·) := le_lt h.mem.2.2 (by simpa using h.mem.2.1)
  refine (sortI_eq (ord_all hr).1.nd hs fun x => ?_).symm
  rw [ord_iff hr]
  refine ⟨fun hx => h.sound x (by simpa using hx), fun hx => ?_⟩
  induction hx with
  | root hv h4 => simpa using h.root _ hv h4
  | step _ hv h4 ih => simpa using h.tri _ ih _ hv h4
theorem p_i_Start (hl : ws.length ≤ 1000000) (hrl : roots.length ≤ 1000000) {K : Int → List Int → List Int → Int → Prop} (h1 : ¬ Rok ws roots → K 0 [] [] 0) (h2 : Rok ws roots → MarkI ws roots (addvs [] roots) [] → K 1 (addvs [] roots) [] 0) : m_i_Start ws roots K := by
  refine ⟨?_⟩
  unfold b_i_Start
  simp only [gwE]
  refine p_i_RootsOk hl hrl ?_
  rw [nn_eq, tf_eq]
  refine ⟨h1, fun hr => p_i_kinds hl fun all ha => ?_⟩
  have hld := hr.root_ldv
  refine loopP_intro (fun x => 0 ≤ x.2.2.1 ∧ x.2.2.2.1 = 1 ∧ x.2.2.2.2.1 = addvs [] (roots.take x.2.2.1.toNat) ∧ x.2.2.2.2.2.1 = [] ∧ x.2.2.2.2.2.2.1 = 0) (fun x => (roots.length - x.2.2.1).toNat) ⟨Int.le_refl _, rfl, rfl, rfl, rfl⟩ ?_
  rintro ⟨j1, j2, i, ph, gr, bk, at', _⟩ ⟨g0, g1, g2, g3, g4⟩
  dsimp only at *
  subst g1 g3 g4
  have hI : MetI ws gr := g2 ▸ addvs_sub ⟨.nil, fun p hp => by cases hp⟩ fun v hv => hld v (List.mem_of_mem_take hv)
  have hol := hI.len
  refine ⟨fun e => ⟨⟨g0, e⟩, p_i_shade ha hl (by omega) (by simp) (fun h4 => (hr.2 _ (gw_mem g0 e)).ldk (.inr rfl) h4) ⟨i64ok_of (by omega) (by omega), ⟨by omega, rfl, ?_, rfl, rfl⟩, by omega⟩⟩, fun e => ?_⟩
  · rw [shd_nil, take_snoc g0 e, addvs_snoc, ← g2]
  · rw [take_all e g0] at g2
    rw [g2] at hI ⊢
    refine h2 hr ⟨⟨fun p hp => ?_, by simpa using hI.nd, .nil⟩, fun p hp => ?_, fun v hv h4 => ?_, fun p hp => by cases hp⟩
    · rw [List.append_nil] at hp
      rcases addvs_mem.1 hp with hp | ⟨v, hv, h4, rfl⟩
      · cases hp
      · exact hld v hv h4
    · rw [List.append_nil] at hp
      rcases addvs_mem.1 hp with hp | ⟨v, hv, h4, rfl⟩
      · cases hp
      · exact .root hv h4
    · rw [List.append_nil]
      exact addvs_mem.2 (.inr ⟨v, hv, h4, rfl⟩)
/-- One grey block made black. -/
theorem MarkI.step {gr bk : List Int} {p : Int} (hr : Rok ws roots) (h : MarkI ws roots (p :: gr) bk) : MarkI ws roots (shds (insI p bk) gr (vals ws p)) (insI p bk) := by
  obtain ⟨⟨m1, m2, m3⟩, s, r, t⟩ := h
  have hp : p ∈ bl ws := (m1 p (by simp)).1
  have hmem : ∀ q, q ∈ shds (insI p bk) gr (vals ws p) ++ insI p bk ↔ q ∈ (p :: gr) ++ bk ∨ ∃ v, v ∈ vals ws p ∧ 4 ≤ v % 8 ∧ v / 8 = q := fun q => by
    rw [List.mem_append, shds_mem, insI_mem, List.mem_append, List.mem_cons]
    constructor
    · rintro ((h | ⟨v, h1, h2, h3, h4⟩) | (h | h))
      · exact .inl (.inl (.inr h))
      · exact .inr ⟨v, h1, h2, h3⟩
      · exact .inl (.inl (.inl h))
      · exact .inl (.inr h)
    · rintro (((h | h) | h) | ⟨v, h1, h2, h3⟩)
      · exact .inr (.inl h)
      · exact .inl (.inl h)
      · exact .inr (.inr h)
      · by_cases e : q = p ∨ q ∈ bk
        · exact .inr e
        · exact .inl (.inr ⟨v, h1, h2, h3, fun hh => e hh⟩)
  have hld := hr.1.vals_ldv p hp
  refine ⟨⟨fun q hq => ?_, ?_, insI_sorted m3⟩, fun q hq => ?_, fun v hv h4 => (hmem _).2 (.inl (r v hv h4)), fun q hq v hv h4 => (hmem _).2 ?_⟩
  · rcases (hmem q).1 hq with h | ⟨v, h1, h2, rfl⟩
    · exact m1 q h
    · exact hld v h1 h2
  · rw [List.nodup_append]
    rw [List.cons_append, List.nodup_cons, List.nodup_append] at m2
    obtain ⟨n1, n2, n3, n4⟩ := m2
    refine ⟨shds_nodup n2, ?_, fun a ha b hb e => ?_⟩
    · unfold insI
      have e := List.take_append_drop (bk.countP (· < p)) bk
      have n3' := n3
      rw [← e, List.nodup_append] at n3'
      rw [List.nodup_append, List.nodup_cons]
      have hn : p ∉ bk := fun h => n1 (List.mem_append_right _ h)
      refine ⟨n3'.1, ⟨fun h => hn (List.mem_of_mem_drop h), n3'.2.1⟩, fun a ha b hb => ?_⟩
      rcases List.mem_cons.1 hb with rfl | hb
      · intro e; subst e; exact hn (List.mem_of_mem_take ha)
      · exact n3'.2.2 a ha b hb
    · subst e
      rcases shds_mem.1 ha with hg' | ⟨v, _, _, _, hg'⟩
      · rcases insI_mem.1 hb with e2 | hb'
        · exact n1 (e2 ▸ List.mem_append_left _ hg')
        · exact n4 _ hg' _ hb' rfl
      · exact hg' hb
  · rcases (hmem q).1 hq with h | ⟨v, h1, h2, rfl⟩
    · exact s q h
    · exact .step (s p (by simp)) h1 h2
  · rcases insI_mem.1 hq with rfl | hq
    · exact .inr ⟨v, hv, h4, rfl⟩
    · exact .inl (t q hq v hv h4)
theorem p_i_markStep (hr : Rok ws roots) {gr bk : List Int} (h : MarkI ws roots gr bk) {n : Int} (hn : n ≤ 1000000) {K : Int → List Int → List Int → Int → Prop}
    (h1 : ∀ bk', MarkI ws roots [] bk' → K 2 [] bk' 0) (h2 : ∀ gr' bk', gr' ≠ [] → MarkI ws roots gr' bk' → (bk'.length : Int) ≥ bk.length + n → K 1 gr' bk' 0) : m_i_markStep ws 1 gr bk 0 n K := by
  have hl : ws.length ≤ 1000000 := by have := hr.1.1.1; omega
  have hlen := h.len
  refine ⟨?_⟩
  unfold b_i_markStep
  simp only [gwE, partE]
  refine p_copyMarker (by omega) (by omega) (p_i_kinds hl fun all ha => ?_)
  refine loopP_intro (fun x => 0 ≤ x.2.2.1 ∧ x.2.2.2.1 = 1 ∧ MarkI ws roots x.2.2.2.2.1 x.2.2.2.2.2.1 ∧ (x.2.2.2.2.2.1.length : Int) = bk.length + x.2.2.1 ∧ x.2.2.2.2.2.2.1 = 0) (fun x => (2000000 - x.2.2.1).toNat) ⟨Int.le_refl _, rfl, h, by simp, rfl⟩ ?_
  rintro ⟨_, _, i, ph, g, b, at', _⟩ ⟨g0, g1, g2, g3, g4⟩
  dsimp only at *
  subst g1 g4
  have hl2 := g2.len
  have len0 : ((g.length : Int) = 0) = (g = []) := by cases g <;> simp; omega
  have fin : (i ≥ n ∨ g = []) → (((g.length : Int) = 0 → K 2 [] b 0) ∧ (¬ (g.length : Int) = 0 → K 1 g b 0)) := fun hx => by
    rw [len0]
    refine ⟨fun e => by subst e; exact h1 b g2, fun e => h2 g b e g2 ?_⟩
    rcases hx with hx | hx
    · omega
    · exact absurd hx e
  refine ⟨fun e => ⟨fun e2 => ?_, fun e2 => fin (.inr ?_)⟩, fun e => fin (.inl (by omega))⟩
  · cases g with
    | nil => simp at e2
    | cons p g =>
      have hp : p ∈ bl ws := (g2.mem.1 p (by simp)).1
      have hblk := (bl_mem hp).2.2.2
      have hsl := slo_len hblk hl
      have hs2 := MarkI.step hr g2
      have hsl2 := hs2.len
      have e0 : gw (p :: g) 0 = p := rfl
      have e1 : part (p :: g) 1 ((p :: g).length : Int) = g := by rw [part_drop (by omega)]; rfl
      rw [e0, e1]
      simp only [List.length_cons] at e2 hl2 ⊢
      refine ⟨⟨by omega, by omega⟩, ⟨by omega, by omega, by omega⟩, p_blacken g2.mem.2.2 (by omega) (p_i_slots hblk hl ?_)⟩
      refine loopP_intro (fun y => 0 ≤ y.2.2.1 ∧ y.2.2.2.1 = 1 ∧ y.2.2.2.2.1 = shds (insI p b) g ((vals ws p).take y.2.2.1.toNat) ∧ y.2.2.2.2.2.1 = insI p b ∧ y.2.2.2.2.2.2.1 = 0) (fun y => ((slo ws p).length - y.2.2.1).toNat) ⟨Int.le_refl _, rfl, rfl, rfl, rfl⟩ ?_
      rintro ⟨_, _, j, ph, g', b', at', _⟩ ⟨k0, k1, k2, k3, k4⟩
      dsimp only at *
      subst k1 k3 k4
      have hg' : g'.length ≤ 1000000 := by
        have hnd : g'.Nodup := by rw [k2]; exact shds_nodup ((List.nodup_cons.1 (List.nodup_append.1 g2.mem.2.1).1).2)
        have := nodup_le (m := bl ws) hnd fun q hq => by
          rw [k2] at hq
          rcases shds_mem.1 hq with hq | ⟨v, hv, h4, rfl, _⟩
          · exact (g2.mem.1 q (by simp [hq])).1
          · exact (hr.1.vals_ldv p hp v (List.mem_of_mem_take hv) h4).1
        have := bl_len' (ws := ws)
        omega
      refine ⟨fun e3 => ?_, fun e3 => ⟨i64ok_of (by omega) (by omega), ⟨by omega, rfl, ?_, by rw [insI_len]; omega, rfl⟩, by omega⟩⟩
      · have hq := gw_mem k0 e3
        have hs3 := slo_mem hblk hq
        have hb2 := hblk.2.2.1
        have hb0 := hblk.1
        have hv : gw ws (gw (slo ws p) j) ∈ vals ws p := List.mem_map.2 ⟨_, hq, rfl⟩
        refine ⟨⟨k0, e3⟩, ⟨by omega, by omega⟩, p_i_shade ha hl hg' (by rw [insI_len]; omega) (fun h4 => (hr.1.2 p hp).ldk hv h4) ⟨i64ok_of (by omega) (by omega), ⟨by omega, rfl, ?_, rfl, rfl⟩, by omega⟩⟩
        rw [take_snoc k0 (by rw [vals_len]; exact e3), shds_snoc, ← k2, vals_gw k0 e3]
      · rw [take_all (by rw [vals_len]; exact e3) k0] at k2
        rw [k2]
        exact hs2
  · rw [← len0]; omega
theorem p_i_MarkStep (hr : Rok ws roots) {gr bk : List Int} (h : MarkI ws roots gr bk) {n : Int} (hn : n ≤ 1000000) {K : Int → List Int → List Int → Int → Prop}
    (h1 : ∀ bk', MarkI ws roots [] bk' → K 2 [] bk' 0) (h2 : ∀ gr' bk', gr' ≠ [] → MarkI ws roots gr' bk' → (bk'.length : Int) ≥ bk.length + n → K 1 gr' bk' 0) : m_i_MarkStep ws 1 gr bk 0 n K := by
  have hl : ws.length ≤ 1000000 := by have := hr.1.1.1; omega
  have hlen := h.len
  refine ⟨?_⟩
  unfold b_i_MarkStep
  refine ⟨fun _ => p_i_MarkerOk hl (by omega) (by omega) ?_, fun e => absurd rfl e⟩
  rw [tf_of (h.ok hr)]
  exact ⟨fun e => absurd rfl e, fun _ => p_i_markStep hr h hn h1 h2⟩
end
end Go.Proofs.YthjmmofafpahhaaGreat.Sx
