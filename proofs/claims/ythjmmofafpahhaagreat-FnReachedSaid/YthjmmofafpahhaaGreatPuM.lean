/- Plain laws: sweeping. -/
import Derived.Test.YthjmmofafpahhaaGreatPuL
namespace Go.Proofs.YthjmmofafpahhaaGreat.Sx
open Go
set_option linter.unusedVariables false
set_option linter.unusedSimpArgs false

section
variable {ws c : List Int}
theorem Vok.lead {v i : Int} (h : Lead ws v i) (hv : 4 ≤ v % 8 → ∀ b, At ws b v → At c b v) : Lead c v i :=
  ⟨h.1, fun e => hv (by omega) _ (h.2.1 e), fun e => hv (by omega) _ (h.2.2.1 e), fun e => hv (by omega) _ (h.2.2.2.1 e), fun e => hv (by omega) _ (h.2.2.2.2 e)⟩
theorem Pla.move {v : Int} (h : Pla ws v) (hv : 4 ≤ v % 8 → ∀ b, At ws b v → At c b v) : Pla c v := ⟨h.1, Vok.lead h.2 hv⟩
theorem Rfr.move {k b v : Int} (h4 : 4 ≤ k) (h : Rfr ws k b v) (hv : 4 ≤ v % 8 → ∀ b, At ws b v → At c b v) : Rfr c k b v := ⟨h.1, hv (by rw [h.1]; exact h4) _ h.2⟩
theorem Nxt.move {b v : Int} (h : Nxt ws b v) (hv : 4 ≤ v % 8 → ∀ b, At ws b v → At c b v) : Nxt c b v := h.imp id fun h => h.move (by omega) hv
theorem Zer.move {p q : Int} (h : Zer ws p q) (hw : ∀ i, p ≤ i → i < q → gw c i = gw ws i) : Zer c p q := fun i h1 h2 => by rw [hw i h1 h2]; exact h i h1 h2
/-- A block that is right is so elsewhere, where its words are the same and lead to the same. -/
theorem Shp.move {x : Int} (h : Shp ws x) (hs : 2 ≤ gw ws x / 8) (hw : ∀ i, x ≤ i → i < x + gw ws x / 8 → gw c i = gw ws i) (hv : ∀ v, v ∈ vals ws x → 4 ≤ v % 8 → ∀ b, At ws b v → At c b v) : Shp c x := by
  have hx := hw x (Int.le_refl _) (by omega)
  obtain ⟨h1, h2, h3, h4, h5⟩ := h
  have hval : ∀ i, i ∈ slo ws x → 4 ≤ gw ws i % 8 → ∀ b, At ws b (gw ws i) → At c b (gw ws i) := fun i hi => hv _ (List.mem_map.2 ⟨i, hi, rfl⟩)
  unfold Shp
  rw [hx]
  refine ⟨fun k => ?_, fun k => ?_, fun k => ?_, fun k => ?_, fun k => ?_⟩
  · obtain ⟨q1, q2, q3⟩ := h1 k
    unfold Txt
    rw [hw (x + 1) (by omega) (by omega)]
    refine ⟨q1, q2.move fun i g1 g2 => hw i (by omega) (by omega), fun i g1 g2 => ?_⟩
    rw [hw (x + 2 + i) (by omega) (by omega)]
    exact q3 i g1 g2
  · obtain ⟨q1, q2, q3, q4⟩ := h2 k
    have hm : ∀ i, x + 1 ≤ i → i < x + 3 → i ∈ slo ws x := fun i g1 g2 => by unfold slo; rw [if_pos k, rng_mem]; omega
    rw [hw (x + 1) (by omega) (by omega), hw (x + 2) (by omega) (by omega)]
    exact ⟨q1, q2.imp id fun g => g.move (by omega) (hval _ (hm _ (by omega) (by omega))), q3.move (hval _ (hm _ (by omega) (by omega))), q4.move fun i g1 g2 => hw i (by omega) (by omega)⟩
  · obtain ⟨q1, q2, q3, q4, q5⟩ := h3 k
    have hm : ∀ i, x + 1 ≤ i → i < x + 4 → i ∈ slo ws x := fun i g1 g2 => by unfold slo; rw [if_neg (by omega), if_pos k, rng_mem]; omega
    rw [hw (x + 1) (by omega) (by omega), hw (x + 2) (by omega) (by omega), hw (x + 3) (by omega) (by omega)]
    exact ⟨q1, q2.move (by omega) (hval _ (hm _ (by omega) (by omega))), q3.move (hval _ (hm _ (by omega) (by omega))), q4.move (hval _ (hm _ (by omega) (by omega))), q5.move fun i g1 g2 => hw i (by omega) (by omega)⟩
  · obtain ⟨q1, q2, q3, q4⟩ := h4 k
    have hm : x + 2 ∈ slo ws x := by unfold slo; rw [if_neg (by omega), if_neg (by omega), if_pos k, rng_mem]; omega
    rw [hw (x + 1) (by omega) (by omega), hw (x + 2) (by omega) (by omega)]
    exact ⟨q1, q2, q3.move (by omega) (hval _ hm), q4.move fun i g1 g2 => hw i (by omega) (by omega)⟩
  · obtain ⟨q1, q2⟩ := h5 k
    have hm : ∀ i, x + 1 ≤ i → i < x + gw ws x / 8 → i ∈ slo ws x := fun i g1 g2 => by unfold slo; rw [if_neg (by omega), if_neg (by omega), if_neg (by omega), if_pos k, rng_mem]; omega
    rw [hw (x + 1) (by omega) (by omega)]
    refine ⟨q1.move (hval _ (hm _ (by omega) (by omega))), fun i g1 g2 => ?_⟩
    rw [hw (x + i) (by omega) (by omega)]
    exact (q2 i g1 g2).move (hval _ (hm _ (by omega) (by omega)))
theorem slo_congr {x : Int} (h : gw c x = gw ws x) : slo c x = slo ws x := by unfold slo; rw [h]
theorem vals_congr {x : Int} (hb : Blk ws x) (hw : ∀ i, x ≤ i → i < x + gw ws x / 8 → gw c i = gw ws i) : vals c x = vals ws x := by
  have hx := hw x (Int.le_refl _) (by have := hb.2.1; omega)
  unfold vals
  rw [slo_congr hx]
  apply List.map_congr_left
  intro i hi
  have := slo_mem hb hi
  exact hw i (by omega) this.2
theorem next_pos {q : Int} (h : q ∈ bl ws) : q + gw ws q / 8 = ws.length ∨ q + gw ws q / 8 ∈ bl ws := by
  have hw := (bl_mem h).1
  obtain ⟨A, B, e, _, _, hB⟩ := (bl_seg hw).split h
  have hle := hB.le
  rcases Int.lt_or_le (q + gw ws q / 8) ws.length with e2 | e2
  · obtain ⟨M, e3, _, _⟩ := hB.head e2
    exact .inr (by rw [e, e3]; simp)
  · exact .inl (by omega)
end

/-- What is black and stays: places of blocks, closed, right. -/
structure Kept (ws bk : List Int) : Prop where
  ord : bk.Pairwise (· < ·)
  blk : ∀ x, x ∈ bk → x ∈ bl ws ∧ gw ws x % 8 ≠ 0
  shp : ∀ x, x ∈ bk → Shp ws x
  clo : Clo ws (· ∈ bk)
/-- A sweep on its way: ws is what was at its start, c is now. -/
structure SwpI (ws bk c : List Int) (q : Int) : Prop where
  slb : Slb c
  len : c.length = ws.length
  pos : q = c.length ∨ q ∈ bl c
  keep : ∀ x, x ∈ bk → x ∈ bl c ∧ gw c x % 8 ≠ 0 ∧ ∀ i, x ≤ i → i < x + gw ws x / 8 → gw c i = gw ws i
  live : ∀ x, x ∈ bl c → gw c x % 8 ≠ 0 → x ∈ bk ∨ q ≤ x
section
variable {ws bk c : List Int} {q : Int}
theorem Kept.at (hk : Kept ws bk) (h : SwpI ws bk c q) {v b : Int} (hv : v / 8 ∈ bk) (ha : At ws b v) : At c b v := by
  obtain ⟨g1, g2, g3⟩ := h.keep _ hv
  have hb := (bl_mem (hk.blk _ hv).1).2.2.2
  refine ⟨g1, ?_⟩
  rw [g3 _ (Int.le_refl _) (by have := hb.2.1; omega)]
  exact ha.2
theorem SwpI.vals (hk : Kept ws bk) (h : SwpI ws bk c q) {x : Int} (hx : x ∈ bk) : Sx.vals c x = Sx.vals ws x := vals_congr (bl_mem (hk.blk x hx).1).2.2.2 (h.keep x hx).2.2
theorem SwpI.shp (hk : Kept ws bk) (h : SwpI ws bk c q) {x : Int} (hx : x ∈ bk) : Shp c x := by
  have hb := (bl_mem (hk.blk x hx).1).2.2.2
  exact (hk.shp x hx).move hb.2.1 (h.keep x hx).2.2 fun v hv h4 b ha => hk.at h (hk.clo x hx v hv h4) ha
theorem SwpI.ok (hk : Kept ws bk) (h : SwpI ws bk c q) : MkOk c 2 [] bk q := by
  refine ⟨h.slb, ⟨fun p hp => ⟨(h.keep p (by simpa using hp)).1, (h.keep p (by simpa using hp)).2.1⟩, by simpa using lt_nodup hk.ord, lt_le hk.ord⟩, .inr (.inr ⟨rfl, rfl, h.pos, fun p hp hlt hn => ?_, fun p hp => ⟨h.shp hk hp, fun v hv h4 => ?_⟩⟩)⟩
  · rcases h.live p hp hn with g | g
    · exact g
    · omega
  · rw [h.vals hk hp] at hv
    exact hk.clo p hp v hv h4
/-- One block that is not free and not black is given. -/
theorem SwpI.give (hk : Kept ws bk) (h : SwpI ws bk c q) (hq : q ∈ bl c) (hn : gw c q % 8 ≠ 0) (hb : q ∉ bk) {p r : Int} {A B : List Int} (hg : Gvn c q p r A B) : SwpI ws bk (frd c p r) r := by
  obtain ⟨h0, h1, h2⟩ := hg.lt hq
  obtain ⟨g1, g2⟩ := hg.bl hq
  have hl := frd_len h0 (Int.le_of_lt h1) h2
  refine ⟨g1, hl.trans h.len, ?_, fun x hx => ?_, fun x hx hn' => ?_⟩
  · rw [hl, g2]
    rcases Int.lt_or_le r c.length with e | e
    · obtain ⟨M, e', _, _⟩ := hg.b.head e
      exact .inr (by rw [e']; simp)
    · exact .inl (by omega)
  · obtain ⟨k1, k2, k3⟩ := h.keep x hx
    have hxq : x ≠ q := fun e => hb (e ▸ hx)
    obtain ⟨m1, m2⟩ := (hg.live hq).2 ⟨k1, k2, hxq⟩
    refine ⟨m1, m2, fun i i1 i2 => ?_⟩
    have hbx := (bl_mem (hk.blk x hx).1).2.2.2
    have e := k3 x (Int.le_refl _) (by have := hbx.2.1; omega)
    rw [hg.words hq k1 k2 hxq i1 (by rw [e]; exact i2)]
    exact k3 i i1 i2
  · obtain ⟨k1, k2, k3⟩ := (hg.live hq).1 ⟨hx, hn'⟩
    rcases h.live x k1 k2 with g | g
    · exact .inl g
    · rcases hg.all x k1 with e | e | e | e
      · have := (hg.a.mem e).2.1
        have := hg.le
        omega
      · exact .inr (hg.b.mem e).1
      · exact absurd e k3
      · exact absurd e.1 k2
theorem SwpI.pass (h : SwpI ws bk c q) (hq : q ∈ bl c) (hb : gw c q % 8 ≠ 0 → q ∈ bk) : SwpI ws bk c (q + gw c q / 8) := by
  refine ⟨h.slb, h.len, next_pos hq, h.keep, fun x hx hn => ?_⟩
  rcases h.live x hx hn with g | g
  · exact .inl g
  · by_cases e : x = q
    · subst e; exact .inl (hb hn)
    · obtain ⟨A, B, e1, hA, _, hB⟩ := (bl_seg h.slb).split hq
      rw [e1] at hx
      rcases List.mem_append.1 hx with hx | hx
      · have := (hA.mem hx).2.1; omega
      · rcases List.mem_cons.1 hx with hx | hx
        · exact absurd hx e
        · exact .inr (hB.mem hx).1
theorem p_i_sweepStep (hk : Kept ws bk) (h : SwpI ws bk c q) {n : Int} (hn : n ≤ 1000000) {K : List Int → Int → List Int → List Int → Int → Prop}
    (h1 : ∀ c', SwpI ws bk c' c'.length → K c' 0 [] [] 0) (h2 : ∀ c' q', q' ∈ bl c' → SwpI ws bk c' q' → q' ≥ q + 2 * n → K c' 2 [] bk q') : m_i_sweepStep c 2 [] bk q n K := by
  have hbl : bk.length ≤ 1000000 := by
    have := nodup_le (lt_nodup hk.ord) fun x hx => (h.keep x hx).1
    have := bl_len' (ws := c)
    omega
  have hcl := h.slb.1
  refine ⟨?_⟩
  unfold b_i_sweepStep
  simp only [gwE]
  refine joinP_of ?_
  refine ⟨?_⟩
  unfold b_i_copySlab
  refine ⟨?_⟩
  unfold b_i_copyInts
  refine ⟨by omega, p_copyMarker (by simp) hbl ?_⟩
  dsimp only
  refine loopP_intro (fun x => 0 ≤ x.1 ∧ x.2.2.1 = 2 ∧ x.2.2.2.1 = [] ∧ x.2.2.2.2.1 = bk ∧ SwpI ws bk x.2.1 x.2.2.2.2.2.1 ∧ x.2.2.2.2.2.1 ≥ q + 2 * x.1) (fun x => (1000001 - x.1).toNat) ⟨Int.le_refl _, rfl, rfl, rfl, h, by dsimp only; omega⟩ ?_
  rintro ⟨i, d, ph, gr, b, r, _⟩ ⟨g0, g1, g2, g3, g4, g5⟩
  dsimp only at *
  subst g1 g2 g3
  have hdl := g4.slb.1
  have fin : (¬ i < n ∨ ¬ r < d.length) → ((r = d.length → K d 0 [] [] 0) ∧ (¬ r = d.length → K d 2 [] b r)) := fun hx => by
    refine ⟨fun e => h1 d (e ▸ g4), fun e => ?_⟩
    have hr := g4.pos.resolve_left e
    refine h2 d r hr g4 ?_
    rcases hx with hx | hx
    · omega
    · have := (bl_mem hr).2.2.1; omega
  have fin' : (¬ i < n ∨ ¬ r < d.length) → ((r = d.length → JoinP (fun (j5 : List Int × Int × List Int × List Int × Int × PUnit → Prop) => j5 (d, 0, [], [], 0, ())) fun x5 => K x5.1 x5.2.1 x5.2.2.1 x5.2.2.2.1 x5.2.2.2.2.1) ∧ (¬ r = d.length → JoinP (fun (j5 : List Int × Int × List Int × List Int × Int × PUnit → Prop) => j5 (d, 2, [], b, r, ())) fun x5 => K x5.1 x5.2.1 x5.2.2.1 x5.2.2.2.1 x5.2.2.2.2.1)) := fun hx =>
    ⟨fun e => joinP_of ((fin hx).1 e), fun e => joinP_of ((fin hx).2 e)⟩
  refine ⟨fun e1 => ⟨fun e2 => ?_, fun e2 => fin' (.inr e2)⟩, fun e1 => fin' (.inl e1)⟩
  have hr : r ∈ bl d := g4.pos.resolve_left (by omega)
  obtain ⟨_, r0, r1, hblk⟩ := bl_mem hr
  have z1 := hblk.2.1
  have z2 := hblk.2.2.1
  refine joinP_of ⟨⟨r0, r1⟩, i64ok_of (by omega) (by omega), ⟨r0, r1⟩, fun e3 => p_black (lt_le hk.ord) hbl ?_, fun e3 => ?_⟩
  · rw [nn_eq, tf_eq]
    refine ⟨fun e4 => ?_, fun e4 => ?_⟩
    · refine ⟨fun e5 => ⟨⟨by omega, e5⟩, fun e6 => ?_, fun e6 => ?_⟩, fun e5 => ?_⟩
      · have hnx : r + gw d r / 8 ∈ bl d := (next_pos hr).resolve_left (by omega)
        have hnb := (bl_mem hnx).2.2.2
        have y1 := hnb.2.1
        have y2 := hnb.2.2.1
        refine ⟨⟨by omega, e5⟩, i64ok_of (by omega) (by omega), p_i_Give hr e3 fun p t A B hg => ?_⟩
        have hs := g4.give hk hr e3 e4 hg
        have ht := hg.nxt
        rw [if_pos ⟨e5, e6⟩] at ht
        rw [ht] at hs
        exact ⟨i64ok_of (by omega) (by omega), ⟨by omega, rfl, rfl, rfl, ht ▸ hs, by dsimp only; omega⟩, by omega⟩
      · refine p_i_Give hr e3 fun p t A B hg => ?_
        have hs := g4.give hk hr e3 e4 hg
        have ht := hg.nxt
        rw [if_neg (fun hh => e6 hh.2)] at ht
        rw [ht] at hs
        exact ⟨i64ok_of (by omega) (by omega), ⟨by omega, rfl, rfl, rfl, ht ▸ hs, by dsimp only; omega⟩, by omega⟩
      · refine p_i_Give hr e3 fun p t A B hg => ?_
        have hs := g4.give hk hr e3 e4 hg
        have ht := hg.nxt
        rw [if_neg (fun hh => e5 hh.1)] at ht
        rw [ht] at hs
        exact ⟨i64ok_of (by omega) (by omega), ⟨by omega, rfl, rfl, rfl, ht ▸ hs, by dsimp only; omega⟩, by omega⟩
    · exact ⟨i64ok_of (by omega) (by omega), ⟨by omega, rfl, rfl, rfl, g4.pass hr fun _ => e4, by dsimp only; omega⟩, by omega⟩
  · exact ⟨i64ok_of (by omega) (by omega), ⟨by omega, rfl, rfl, rfl, g4.pass hr fun hh => absurd hh e3, by dsimp only; omega⟩, by omega⟩
theorem p_i_SweepStep (hk : Kept ws bk) (h : SwpI ws bk c q) {n : Int} (hn : n ≤ 1000000) {K : List Int → Int → List Int → List Int → Int → Prop}
    (h1 : ∀ c', SwpI ws bk c' c'.length → K c' 0 [] [] 0) (h2 : ∀ c' q', q' ∈ bl c' → SwpI ws bk c' q' → q' ≥ q + 2 * n → K c' 2 [] bk q') : m_i_SweepStep c 2 [] bk q n K := by
  have hbl : bk.length ≤ 1000000 := by
    have := nodup_le (lt_nodup hk.ord) fun x hx => (h.keep x hx).1
    have := bl_len' (ws := c)
    omega
  have hcl := h.slb.1
  refine ⟨?_⟩
  unfold b_i_SweepStep
  refine p_i_MarkerOk (by omega) (by simp) hbl ?_
  rw [tf_of (h.ok hk)]
  exact ⟨fun e => absurd rfl e, fun _ => ⟨fun e => absurd rfl e, fun _ => p_i_sweepStep hk h hn h1 h2⟩⟩
end
section
variable {ws roots bk : List Int}
theorem MarkI.kept (hr : Rok ws roots) (h : MarkI ws roots [] bk) : Kept ws bk :=
  ⟨le_lt h.mem.2.2 (by simpa using h.mem.2.1), fun x hx => h.mem.1 x (by simpa using hx), fun x hx => hr.1.2 x (h.mem.1 x (by simpa using hx)).1, fun p hp v hv h4 => by simpa using h.tri p hp v hv h4⟩
theorem Kept.start (hw : Slb ws) (hk : Kept ws bk) : SwpI ws bk ws 0 := by
  refine ⟨hw, rfl, ?_, fun x hx => ⟨(hk.blk x hx).1, (hk.blk x hx).2, fun i _ _ => rfl⟩, fun x hx _ => .inr (bl_mem hx).2.1⟩
  rcases Int.lt_or_le 0 ws.length with e | e
  · obtain ⟨M, e', _, _⟩ := (bl_seg hw).head e
    exact .inr (by rw [e']; simp)
  · exact .inl (by omega)
/-- What a collection leaves. -/
structure Cld (ws roots c : List Int) : Prop where
  rok : Rok ws roots
  kept : Kept ws (rch ws roots)
  swp : SwpI ws (rch ws roots) c c.length
theorem p_i_Collect (hl : ws.length ≤ 1000000) (hrl : roots.length ≤ 1000000) {K : List Int → Prop} (h1 : ¬ Rok ws roots → K []) (h2 : ∀ c, Cld ws roots c → K c) : m_i_Collect ws roots K := by
  refine ⟨?_⟩
  unfold b_i_Collect
  refine p_i_RootsOk hl hrl ?_
  rw [nn_eq, tf_eq]
  refine ⟨h1, fun hr => joinP_of (p_i_Start hl hrl (fun e => absurd hr e) fun _ hM => ?_)⟩
  have hw := hr.1.1
  refine ⟨?_⟩
  unfold b_i_Sweep
  refine p_i_MarkStep hr hM (by omega) (fun bk hB => ?_) (fun gr bk hne hB hlen => ?_)
  · have hk := hB.kept hr
    have hrc : bk = rch ws roots := by unfold rch; rw [if_pos hr]; exact hB.done hr
    refine p_i_SweepStep hk (hk.start hw) (by omega) (fun c hc => ?_) (fun c q hq hc hge => ?_)
    · exact h2 c ⟨hr, hrc ▸ hk, hrc ▸ hc⟩
    · have := (bl_mem hq).2.2.1
      have := hc.slb.1
      omega
  · have := hB.len
    simp at hlen
    omega
end
section
variable {ws roots c : List Int}
theorem Cld.live (h : Cld ws roots c) {x : Int} : (x ∈ bl c ∧ gw c x % 8 ≠ 0) ↔ x ∈ rch ws roots := by
  constructor
  · rintro ⟨hx, hn⟩
    rcases h.swp.live x hx hn with g | g
    · exact g
    · have := (bl_mem hx).2.2.1; omega
  · intro hx
    exact ⟨(h.swp.keep x hx).1, (h.swp.keep x hx).2.1⟩
theorem rch_mem (hr : Rok ws roots) {x : Int} : x ∈ rch ws roots ↔ Rch ws roots x := by
  unfold rch
  rw [if_pos hr, sortI_mem, ord_iff hr]
theorem rch_lt : (rch ws roots).Pairwise (· < ·) := by
  unfold rch
  split
  · rename_i h; exact sortI_lt (ord_all h).1.nd
  · exact .nil
theorem Cld.hok (h : Cld ws roots c) : Hok c := by
  refine ⟨h.swp.slb, fun x hx => ?_⟩
  by_cases hn : gw c x % 8 = 0
  · refine ⟨fun e => by omega, fun e => by omega, fun e => by omega, fun e => by omega, fun e => by omega⟩
  · exact h.swp.shp h.kept (h.live.1 ⟨hx, hn⟩)
theorem Cld.rok' (h : Cld ws roots c) : Rok c roots := by
  refine ⟨h.hok, fun v hv => Vok.lead (h.rok.2 v hv) fun h4 b ha => h.kept.at h.swp ((rch_mem h.rok).2 (.root hv h4)) ha⟩
theorem Cld.rch_eq (h : Cld ws roots c) : rch c roots = rch ws roots := by
  refine sorted_uniq rch_lt rch_lt fun x => ?_
  rw [rch_mem h.rok', rch_mem h.rok]
  constructor
  · intro hx
    induction hx with
    | root hv h4 => exact .root hv h4
    | step _ hv h4 ih =>
      rw [h.swp.vals h.kept ((rch_mem h.rok).2 ih)] at hv
      exact .step ih hv h4
  · intro hx
    induction hx with
    | root hv h4 => exact .root hv h4
    | step hp hv h4 ih =>
      rw [← h.swp.vals h.kept ((rch_mem h.rok).2 hp)] at hv
      exact .step ih hv h4
end
end Go.Proofs.YthjmmofafpahhaaGreat.Sx
