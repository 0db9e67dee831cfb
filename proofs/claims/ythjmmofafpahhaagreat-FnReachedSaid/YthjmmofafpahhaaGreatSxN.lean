/- The symbolic layer: calls by contracts. Program-independent. -/
import Derived.Test.YthjmmofafpahhaaGreatSxM
namespace Go.Proofs.YthjmmofafpahhaaGreat.Sx
open Go Go.RowKit
set_option linter.unusedVariables false
set_option linter.unusedSimpArgs false

def srcOf : List Src → Nat → Nat
  | [], _ => 0
  | .id i :: _, 0 => i
  | .nil _ :: _, 0 => 0
  | _ :: r, n + 1 => srcOf r n
theorem srcOf_id {i : Nat} : ∀ {ss : List Src} {j : Nat}, ss[j]? = some (.id i) → srcOf ss j = i
  | [], j, h => by simp at h
  | .id k :: r, 0, h => by simpa [srcOf] using h
  | .nil e :: r, 0, h => by simp at h
  | .id k :: r, j + 1, h => by simp only [srcOf]; exact srcOf_id (by simpa using h)
  | .nil e :: r, j + 1, h => by simp only [srcOf]; exact srcOf_id (by simpa using h)
def cellS (ss : List Src) : List (Nat × TypeId × List Kd) → List AV → List (Nat × HE)
  | [], _ => []
  | (j, ty, _) :: r, as => match as with
    | .agg cs :: as' => (srcOf ss j, .cells ty cs) :: cellS ss r as'
    | _ => []
def dropL (ids : List Nat) : List (Nat × HE) → List (Nat × HE)
  | [] => []
  | (i, x) :: r => bif memB i ids then dropL ids r else (i, x) :: dropL ids r
def dropH (ids : List Nat) (h : List (Nat × HE)) : List (Nat × HE) := match ids with
  | [] => h
  | k :: r => dropL (k :: r) h
theorem dropL_mem {ids : List Nat} {i : Nat} {x : HE} : ∀ {h : List (Nat × HE)}, (i, x) ∈ dropL ids h → (i, x) ∈ h ∧ i ∉ ids
  | [], hm => by cases hm
  | (k, y) :: r, hm => by
    unfold dropL at hm
    cases hb : memB k ids with
    | true =>
      rw [hb] at hm
      have := dropL_mem (h := r) hm
      exact ⟨List.mem_cons_of_mem _ this.1, this.2⟩
    | false =>
      rw [hb] at hm
      rcases List.mem_cons.1 hm with e | hm
      · cases e
        exact ⟨List.mem_cons_self, fun hi => by rw [memB_iff.2 hi] at hb; cases hb⟩
      · have := dropL_mem (h := r) hm
        exact ⟨List.mem_cons_of_mem _ this.1, this.2⟩
theorem dropH_mem {ids : List Nat} {h : List (Nat × HE)} {i : Nat} {x : HE} (hm : (i, x) ∈ dropH ids h) : (i, x) ∈ h ∧ i ∉ ids := by
  cases ids with
  | nil => exact ⟨hm, fun hi => by cases hi⟩
  | cons k r => exact dropL_mem hm
theorem cellS_ren {ss : List Src} {ρ : Nat → Nat} : ∀ {ck : List (Nat × TypeId × List Kd)} {as : List AV}, (∀ j, j ∈ fsts ck → ρ j = srcOf ss j) → cellS ss ck (AV.rens ρ as) = (cellE ck as).map (renP ρ)
  | [], as, h => rfl
  | (j, ty, ks) :: r, [], h => rfl
  | (j, ty, ks) :: r, a :: as, h => by
    cases a with
    | agg cs =>
      have := cellS_ren (ck := r) (as := as) fun k hk => h k (List.mem_cons_of_mem _ hk)
      show (srcOf ss j, HE.cells ty (AV.rens ρ cs)) :: cellS ss r (AV.rens ρ as) = (ρ j, HE.cells ty (AV.rens ρ cs)) :: (cellE r as).map (renP ρ)
      rw [this, h j List.mem_cons_self]
    | _ => rfl
theorem restA_ren {ρ : Nat → Nat} : ∀ {ck : List (Nat × TypeId × List Kd)} {as : List AV}, restA ck (AV.rens ρ as) = AV.rens ρ (restA ck as)
  | [], as => rfl
  | (j, ty, ks) :: r, [] => rfl
  | (j, ty, ks) :: r, a :: as => restA_ren (ck := r) (as := as)
theorem restA_na : ∀ {ck : List (Nat × TypeId × List Kd)} {as : List AV}, AV.nas as → AV.nas (restA ck as)
  | [], as, h => h
  | (j, ty, ks) :: r, [], h => trivial
  | (j, ty, ks) :: r, a :: as, h => restA_na (ck := r) (as := as) h.2
theorem cellE_na : ∀ {ck : List (Nat × TypeId × List Kd)} {as : List AV}, AV.nas as → ∀ p ∈ cellE ck as, HE.na p.2
  | [], as, h, p, hp => by cases hp
  | (j, ty, ks) :: r, [], h, p, hp => by cases hp
  | (j, ty, ks) :: r, a :: as, h, p, hp => by
    cases a with
    | agg cs =>
      rcases List.mem_cons.1 hp with rfl | hp
      · exact h.1
      · exact cellE_na (ck := r) (as := as) h.2 p hp
    | _ => cases hp

section
variable {P : Program} {Γ : Ctx} {σ : S} {o : Oper} {K : S → Prop}

def isNilN : List Nat → Bool
  | [] => true
  | _ :: _ => false
theorem isNilN_ok {l : List Nat} (h : isNilN l = true) : l = [] := by cases l <;> first | rfl | cases h

/-- The heap behind a call. -/
def aftH (c : Ct) (ss : List Src) (y : Kd.tys c.out) (σ : S) : List (Nat × HE) := cellS ss c.cel (mks c.out y σ.next).1 ++ ((mks c.out y σ.next).2.1 ++ dropH (Src.ids ss) σ.heap)
def aft (c : Ct) (ss : List Src) (y : Kd.tys c.out) (σ : S) : S := ⟨σ.env, aftH c ss y σ, (mks c.out y σ.next).2.2⟩
def aftA (c : Ct) (y : Kd.tys c.out) (σ : S) : AV := retAV (restA c.cel (mks c.out y σ.next).1)

/-- What is told of the world behind a call. -/
def Back (c : Ct) (x : Kd.tys c.ak) (B : Nat → Option Bd) (ok : Nat → Prop) (w : World) (y : Kd.tys c.out) (B1 : Nat → Option Bd) (ok1 : Nat → Prop) (us : List Value) (w' : World) : Prop :=
  (∀ j, j ∈ fsts c.cel → B1 j = B j) ∧ (∀ i, i < c.k0 → i ∉ fsts c.cel → B1 i = none) ∧ (∀ i, c.k0 + Kd.cnts c.out ≤ i → B1 i = none) ∧
      SatH B1 ok1 w' (cellE c.cel (mks c.out y c.k0).1 ++ (mks c.out y c.k0).2.1) ∧ RelTs B1 ok1 w' (restA c.cel (mks c.out y c.k0).1) us ∧ Keeps (occs B (mks c.ak x 0).2.1) w w' ∧
      (∀ b, ok b → ok1 b) ∧ (∀ b, ok1 b → (ok b ∨ occs B (mks c.ak x 0).2.1 b) ∨ w.heap.size ≤ b) ∧ (∀ b, occs B1 (cellE c.cel (mks c.out y c.k0).1 ++ (mks c.out y c.k0).2.1) b → occs B (mks c.ak x 0).2.1 b ∨ w.heap.size ≤ b) ∧ ∀ p : Nat × Nat, p ∈ c.same → ∃ bd, B p.1 = some bd ∧ B1 (c.k0 + p.2) = some bd

theorem StB.call {B : Nat → Option Bd} {ok : Nat → Prop} {a : Act} {w : World} (h : StB Γ B ok σ a w) {c : Ct} {as : List AV} {x : Kd.tys c.ak} {ss : List Src} {fz : List Nat} (e : xts σ.heap c.ak as = some (x, ss, fz))
    (c1 : distB (Src.ids ss) = true) (c2 : disjB (Src.ids ss) fz = true) (c3 : (!(Kd.fros c.out) || isNilN fz) = true) {vs : List Value} (hv : RelTs B ok w as vs) :
    ∃ B' ok', (∀ id, c.k0 ≤ id → B' id = none) ∧ SatH B' ok' w (mks c.ak x 0).2.1 ∧ RelTs B' ok' w (mks c.ak x 0).1 vs ∧ (Src.ids ss = [] → ∀ b, ¬ occs B' (mks c.ak x 0).2.1 b) ∧
      ∀ y B1 ok1 us w', Back c x B' ok' w y B1 ok1 us w' → ∃ B2 ok2, StB Γ B2 ok2 (aft c ss y σ) a w' ∧ RelA B2 ok2 w' (aftA c y σ) (retV us) ∧ ∀ p : Nat × Nat, p ∈ c.same → ∀ i : Nat, ss[p.1]? = some (Src.id i) → ∃ b0, B i = some b0 ∧ B2 i = some b0 ∧ B2 (σ.next + p.2) = some b0.v0 := by
  have disjNil : ∀ l : List Nat, disjB l [] = true := fun l => by
    induction l with
    | nil => rfl
    | cons k r ih => simp [disjB, memB, ih]
  obtain ⟨B', ok', O, r1, r2⟩ := takeover h.heap (xts_okT h.heap.sat _ _ _ _ _ _ e hv) [] false 0 c1 c2 (disjNil _) (disjNil _)
  have hk0 : ss.length = c.k0 := by
    have := mks_next c.ak x 0
    show ss.length = Kd.cnts c.ak
    omega
  obtain ⟨S1, S2⟩ := O.sat [] (fun i x hm => by cases hm) (fun i x y hm => by cases hm)
  simp only [List.nil_append] at S1 S2
  have S2' : ∀ b, occs B' (mks c.ak x 0).2.1 b → ∃ k, k ∈ Src.ids ss ∧ occI B σ.heap k b := fun b ⟨i, hi⟩ => by
    rcases S2 i b hi with ⟨g, _⟩ | ⟨j, s, k, g1, g2, g3, g4⟩
    · omega
    · exact ⟨k, Src.names_mem g3 g2, g4⟩
  refine ⟨B', ok', fun id hid => O.high id (by omega), S1, r1, fun hn b hb => ?_, ?_⟩
  · obtain ⟨k, hk, _⟩ := S2' b hb
    rw [hn] at hk
    cases hk
  rintro y B1 ok1 us w' ⟨hcel, hnone, hhigh, hsat, hres, hkeep, hok1, hok2, hocc, hsame⟩
  let B2 : Nat → Option Bd := fun id => if id < σ.next then B id else B1 (c.k0 + (id - σ.next))
  let ok2 : Nat → Prop := fun b => ok1 b ∧ ¬ lent B σ.heap fz b
  let ρ : Nat → Nat := fun j => if j < c.k0 then srcOf ss j else σ.next + (j - c.k0)
  have hlow : ∀ i bd, B i = some bd → i < σ.next := fun i bd hb => Nat.lt_of_not_le fun hge => by rw [h.free i hge] at hb; cases hb
  -- a block of cells that was handed over
  have hcell : ∀ j, j ∈ fsts c.cel → j < c.k0 ∧ ∃ i bd, ss[j]? = some (.id i) ∧ B i = some bd ∧ B1 j = some bd := fun j hj => by
    obtain ⟨m, ty, ks, hm⟩ := fsts_get hj
    obtain ⟨cs, hm'⟩ := mks_cells c.ak x 0 m j ty ks hm
    obtain ⟨j', s, bd, e1, e2, e3, e4, e5, e6⟩ := O.new j _ hm'
    have ej : j = j' := by omega
    subst ej
    obtain ⟨i, hi, _⟩ := e5 bd.blk rfl
    obtain ⟨b0, q1, q2, q3⟩ := e6 i hi
    have := Bd.v0_of (q3 ty cs rfl)
    cases s with
    | nil e => exact hi.elim
    | id k =>
      have hi : k = i := hi
      subst hi
      refine ⟨by rw [← hk0]; exact (List.getElem?_eq_some_iff.1 e2).1, k, b0, e2, q1, ?_⟩
      rw [hcel j hj, e3, q2, ← this]
  have hname : ∀ j bd, B1 j = some bd → B2 (ρ j) = some bd ∧ (j < c.k0 → j ∈ fsts c.cel) ∧ j < c.k0 + Kd.cnts c.out := fun j bd hb => by
    have hlt : j < c.k0 + Kd.cnts c.out := Nat.lt_of_not_le fun hge => by rw [hhigh j hge] at hb; cases hb
    by_cases hj : j < c.k0
    · have hm : j ∈ fsts c.cel := Classical.byContradiction fun hn => by rw [hnone j hj hn] at hb; cases hb
      obtain ⟨_, i, bd', q1, q2, q3⟩ := hcell j hm
      rw [q3] at hb
      cases hb
      refine ⟨?_, fun _ => hm, hlt⟩
      show B2 (if j < c.k0 then srcOf ss j else _) = _
      rw [if_pos hj, srcOf_id q1]
      show (if i < σ.next then B i else _) = _
      rw [if_pos (hlow _ _ q2), q2]
    · refine ⟨?_, fun h => absurd h hj, hlt⟩
      show B2 (if j < c.k0 then srcOf ss j else _) = _
      rw [if_neg hj]
      show (if σ.next + (j - c.k0) < σ.next then _ else B1 (c.k0 + (σ.next + (j - c.k0) - σ.next))) = _
      rw [if_neg (by omega), ← hb]
      congr 1
      omega
  have hle1 : BLe B1 (fun j => B2 (ρ j)) := fun j bd hb => ⟨bd, (hname j bd hb).1, BdLe.refl _⟩
  have hle : BLe B B2 := fun i bd hb => ⟨bd, by show (if i < σ.next then B i else _) = _; rw [if_pos (hlow i bd hb)]; exact hb, BdLe.refl _⟩
  have hρinj : ∀ i j bi bj, B1 i = some bi → B1 j = some bj → ρ i = ρ j → i = j := fun i j bi bj hi hj he => by
    obtain ⟨_, hi2, _⟩ := hname i bi hi
    obtain ⟨_, hj2, _⟩ := hname j bj hj
    by_cases h1 : i < c.k0 <;> by_cases h2 : j < c.k0
    · obtain ⟨_, k, bd, q1, q2, q3⟩ := hcell i (hi2 h1)
      obtain ⟨_, k', bd', q1', q2', q3'⟩ := hcell j (hj2 h2)
      have e1 : ρ i = k := by show (if i < c.k0 then _ else _) = _; rw [if_pos h1, srcOf_id q1]
      have e2 : ρ j = k' := by show (if j < c.k0 then _ else _) = _; rw [if_pos h2, srcOf_id q1']
      have : k = k' := by rw [← e1, ← e2, he]
      subst this
      exact Src.uniq (distB_ok c1) q1 q1' rfl rfl
    · obtain ⟨_, k, bd, q1, q2, q3⟩ := hcell i (hi2 h1)
      have e1 : ρ i = k := by show (if i < c.k0 then _ else _) = _; rw [if_pos h1, srcOf_id q1]
      have e2 : ρ j = σ.next + (j - c.k0) := by show (if j < c.k0 then _ else _) = _; rw [if_neg h2]
      have := hlow _ _ q2
      omega
    · obtain ⟨_, k, bd, q1, q2, q3⟩ := hcell j (hj2 h2)
      have e1 : ρ j = k := by show (if j < c.k0 then _ else _) = _; rw [if_pos h2, srcOf_id q1]
      have e2 : ρ i = σ.next + (i - c.k0) := by show (if i < c.k0 then _ else _) = _; rw [if_neg h1]
      have := hlow _ _ q2
      omega
    · have e1 : ρ j = σ.next + (j - c.k0) := by show (if j < c.k0 then _ else _) = _; rw [if_neg h2]
      have e2 : ρ i = σ.next + (i - c.k0) := by show (if i < c.k0 then _ else _) = _; rw [if_neg h1]
      omega
  have hap : ∀ i j b, occI B σ.heap i b → occI B σ.heap j b → i = j := fun i j b ⟨z, bz, a1, a2, a3⟩ ⟨u, bu, d1, d2, d3⟩ => by
    apply Classical.byContradiction
    intro hne
    exact h.heap.apart _ _ _ _ a1 d1 hne _ _ a2 d2 b a3 d3
  have hnl : ∀ b, ok b → ¬ lent B σ.heap fz b := fun b hb ⟨i, hi, z, bd, h2, h3, h4⟩ => h.heap.avoid _ _ h2 _ h3 b h4 hb
  have hokk : ∀ b, ok b → w'.heap[b]? = w.heap[b]? := fun b hb => hkeep.block b (h.heap.okb b hb) fun hi => by
    obtain ⟨k, hk, z, bd, q1, q2, q3⟩ := S2' b hi
    exact h.heap.avoid _ _ q1 _ q2 b q3 hb
  have hok12 : ∀ b, ok b → ok2 b := fun b hb => ⟨hok1 b (O.ok1 b hb), hnl b hb⟩
  -- what may be read
  have hfz : Kd.fros c.out = false ∨ fz = [] := by
    simp only [Bool.or_eq_true, Bool.not_eq_true'] at c3
    exact c3.imp id isNilN_ok
  have hto : fz = [] → ∀ b, ok1 b → ok2 b := fun hf b hb => ⟨hb, fun ⟨i, hi, _⟩ => by rw [hf] at hi; cases hi⟩
  have hH1na : Kd.fros c.out = false → ∀ p ∈ cellE c.cel (mks c.out y c.k0).1 ++ (mks c.out y c.k0).2.1, HE.na p.2 := fun hf p hp => by
    obtain ⟨n1, n2⟩ := mks_na c.out y c.k0 hf
    rcases List.mem_append.1 hp with hp | hp
    · exact cellE_na n1 p hp
    · exact n2 p hp
  obtain ⟨m1, m2⟩ := mks_ren (ρ := ρ) c.out y c.k0 σ.next (fun j => by show (if c.k0 + j < c.k0 then _ else _) = _; rw [if_neg (by omega)]; omega)
  have hH : aftH c ss y σ = (cellE c.cel (mks c.out y c.k0).1 ++ (mks c.out y c.k0).2.1).map (renP ρ) ++ dropH (Src.ids ss) σ.heap := by
    unfold aftH
    rw [m1, m2, cellS_ren (ρ := ρ) fun j hj => by show (if j < c.k0 then _ else _) = _; rw [if_pos (hcell j hj).1], List.map_append, List.append_assoc]
  have hin : ∀ i z, (i, z) ∈ aftH c ss y σ → (∃ j u bd, (j, u) ∈ cellE c.cel (mks c.out y c.k0).1 ++ (mks c.out y c.k0).2.1 ∧ i = ρ j ∧ z = u.ren ρ ∧ B1 j = some bd ∧ B2 i = some bd) ∨ ((i, z) ∈ σ.heap ∧ i ∉ Src.ids ss ∧ i < σ.next ∧ B2 i = B i) := fun i z hm => by
    rw [hH] at hm
    rcases List.mem_append.1 hm with hm | hm
    · obtain ⟨⟨j, u⟩, q1, q2⟩ := List.mem_map.1 hm
      cases q2
      obtain ⟨bd, q3, _⟩ := hsat.sat j u q1
      exact .inl ⟨j, u, bd, q1, rfl, rfl, q3, (hname j bd q3).1⟩
    · obtain ⟨q1, q2⟩ := dropH_mem hm
      have := h.idlt q1
      refine .inr ⟨q1, q2, this, ?_⟩
      show (if i < σ.next then B i else _) = _
      rw [if_pos this]
  -- what was there, and what is told now, lie apart
  have hsep : ∀ j u bj, (j, u) ∈ cellE c.cel (mks c.out y c.k0).1 ++ (mks c.out y c.k0).2.1 → B1 j = some bj → ∀ i z bd, (i, z) ∈ σ.heap → i ∉ Src.ids ss → B i = some bd → ∀ b, u.occ bj = some b → z.occ bd ≠ some b := fun j u bj hj hbj i z bd hi hn hbd b hob hob' => by
    rcases hocc b ⟨j, u, bj, hj, hbj, hob⟩ with g | g
    · obtain ⟨k, q1, q2⟩ := S2' b g
      have := hap _ _ _ q2 ⟨z, bd, hi, hbd, hob'⟩
      subst this
      exact hn q1
    · obtain ⟨bd2, g1, g2⟩ := h.heap.sat _ _ hi
      rw [hbd] at g1
      cases g1
      have := g2.lt hob'
      omega
  refine ⟨B2, ok2, ⟨h.defers, h.size, ⟨fun i z hm => ?_, fun i z j u hz hu hij bi bj hbi hbj b hob hob' => ?_, fun i z hm bd hbd b hob hkb => ?_, fun b hb => hsat.okb b hb.1, fun i z u hz hu => ?_⟩, fun t av hl => ⟨(h.env t av hl).1, RelA.mono hle hok12 hokk _ _ (h.env t av hl).2⟩, ?_, fun b hb => hok12 b (h.ok1 b hb), fun b hb => ?_, fun i z hm bd hbd b hob => ?_, h.ble.trans hle, fun id hid => ?_⟩, ?_, fun p hp i hi => ?_⟩
  · rcases hin i z hm with ⟨j, u, bd, q1, rfl, rfl, q2, q3⟩ | ⟨q1, q2, q3, q4⟩
    · obtain ⟨bd', g1, g2⟩ := hsat.sat j u q1
      rw [q2] at g1
      cases g1
      refine ⟨_, q3, ?_⟩
      have g3 : SatE B1 ok2 w' bd u := by
        rcases hfz with hf | hf
        · exact SatE.na (hH1na hf _ q1) g2
        · exact SatE.mono (BLe.refl _) (hto hf) (fun _ _ => rfl) (fun _ _ => rfl) g2
      exact SatE.ren.1 (SatE.mono hle1 (fun _ x => x) (fun _ _ => rfl) (fun _ _ => rfl) g3)
    · obtain ⟨bd, g1, g2⟩ := h.heap.sat i z q1
      refine ⟨bd, q4.trans g1, SatE.mono hle hok12 hokk (fun b hob => hkeep.block b (g2.lt hob) fun hi => ?_) g2⟩
      obtain ⟨k, p1, p2⟩ := S2' b hi
      have := hap _ _ _ p2 ⟨z, bd, q1, g1, hob⟩
      subst this
      exact q2 p1
  · rcases hin i z hz with ⟨i', z', bi', q1, rfl, rfl, q2, q3⟩ | ⟨q1, q2, q3, q4⟩ <;> rcases hin j u hu with ⟨j', u', bj', p1, rfl, rfl, p2, p3⟩ | ⟨p1, p2, p3, p4⟩
    · rw [q3] at hbi; cases hbi
      rw [p3] at hbj; cases hbj
      rw [HE.occ_ren] at hob hob'
      exact hsat.apart _ _ _ _ q1 p1 (fun e => hij (by rw [e])) _ _ q2 p2 b hob hob'
    · rw [q3] at hbi; cases hbi
      rw [p4] at hbj
      rw [HE.occ_ren] at hob
      exact hsep _ _ _ q1 q2 _ _ _ p1 p2 hbj b hob hob'
    · rw [p3] at hbj; cases hbj
      rw [q4] at hbi
      rw [HE.occ_ren] at hob'
      exact hsep _ _ _ p1 p2 _ _ _ q1 q2 hbi b hob' hob
    · rw [q4] at hbi
      rw [p4] at hbj
      exact h.heap.apart _ _ _ _ q1 p1 hij _ _ hbi hbj b hob hob'
  · rcases hin i z hm with ⟨i', z', bi', q1, rfl, rfl, q2, q3⟩ | ⟨q1, q2, q3, q4⟩
    · rw [q3] at hbd; cases hbd
      rw [HE.occ_ren] at hob
      exact hsat.avoid _ _ q1 _ q2 b hob hkb.1
    · rw [q4] at hbd
      rcases hok2 b hkb.1 with (g | g) | g
      · rcases O.ok2 b g with g | g
        · exact h.heap.avoid _ _ q1 _ hbd b hob g
        · exact hkb.2 g
      · obtain ⟨k, p1, p2⟩ := S2' b g
        have := hap _ _ _ p2 ⟨z, bd, q1, hbd, hob⟩
        subst this
        exact q2 p1
      · obtain ⟨bd2, g1, g2⟩ := h.heap.sat _ _ q1
        rw [hbd] at g1
        cases g1
        have := g2.lt hob
        omega
  · rcases hin i z hz with ⟨i', z', bi', q1, e1, rfl, q2, q3⟩ | ⟨q1, q2, q3, q4⟩ <;> rcases hin i u hu with ⟨j', u', bj', p1, e2, rfl, p2, p3⟩ | ⟨p1, p2, p3, p4⟩
    · have := hρinj i' j' _ _ q2 p2 (e1.symm.trans e2)
      subst this
      rw [hsat.uniq _ _ _ q1 p1]
    · exfalso
      obtain ⟨_, r2, _⟩ := hname i' bi' q2
      by_cases h1 : i' < c.k0
      · obtain ⟨_, k, bd, s1, s2, s3⟩ := hcell i' (r2 h1)
        have : ρ i' = k := by show (if i' < c.k0 then _ else _) = _; rw [if_pos h1, srcOf_id s1]
        rw [e1, this] at p2
        exact p2 (Src.names_mem (s := .id k) rfl s1)
      · have : ρ i' = σ.next + (i' - c.k0) := by show (if i' < c.k0 then _ else _) = _; rw [if_neg h1]
        omega
    · exfalso
      obtain ⟨_, r2, _⟩ := hname j' bj' p2
      by_cases h1 : j' < c.k0
      · obtain ⟨_, k, bd, s1, s2, s3⟩ := hcell j' (r2 h1)
        have : ρ j' = k := by show (if j' < c.k0 then _ else _) = _; rw [if_pos h1, srcOf_id s1]
        rw [e2, this] at q2
        exact q2 (Src.names_mem (s := .id k) rfl s1)
      · have : ρ j' = σ.next + (j' - c.k0) := by show (if j' < c.k0 then _ else _) = _; rw [if_neg h1]
        omega
    · exact h.heap.uniq _ _ _ q1 p1
  · refine h.keeps.trans2 hkeep fun k hk2 hi => ?_
    obtain ⟨k', p1, z, bd, p2, p3, p4⟩ := S2' k hi
    rcases h.own _ _ p2 _ p3 k p4 with g | g
    · exact g
    · omega
  · have hsrc : ∀ k, occI B σ.heap k b → (Γ.ok0 b ∨ Γ.S0 b) ∨ Γ.w0.heap.size ≤ b := fun k ⟨z, bd, p2, p3, p4⟩ => (h.own _ _ p2 _ p3 b p4).imp .inr id
    rcases hok2 b hb.1 with (g | g) | g
    · rcases O.ok2 b g with g | ⟨k, _, g⟩
      · exact h.ok2 b g
      · exact hsrc k g
    · obtain ⟨k, _, g⟩ := S2' b g
      exact hsrc k g
    · exact .inr (Nat.le_trans h.keeps.size g)
  · rcases hin i z hm with ⟨i', z', bi', q1, rfl, rfl, q2, q3⟩ | ⟨q1, q2, q3, q4⟩
    · rw [q3] at hbd; cases hbd
      rw [HE.occ_ren] at hob
      rcases hocc b ⟨i', z', _, q1, q2, hob⟩ with g | g
      · obtain ⟨k, _, z2, bd2, p2, p3, p4⟩ := S2' b g
        exact h.own _ _ p2 _ p3 b p4
      · exact .inr (Nat.le_trans h.keeps.size g)
    · rw [q4] at hbd
      exact h.own _ _ q1 _ hbd b hob
  · have hid' : (mks c.out y σ.next).2.2 ≤ id := hid
    rw [mks_next] at hid'
    show (if id < σ.next then B id else B1 (c.k0 + (id - σ.next))) = none
    rw [if_neg (by omega)]
    exact hhigh _ (by omega)
  · unfold aftA
    refine retAV_rel ?_
    rw [m1, restA_ren]
    have g3 : RelTs B1 ok2 w' (restA c.cel (mks c.out y c.k0).1) us := by
      rcases hfz with hf | hf
      · exact RelTs.na _ _ (restA_na (mks_na c.out y c.k0 hf).1) hres
      · exact RelTs.mono (BLe.refl _) (hto hf) (fun _ _ => rfl) _ _ hres
    exact (RelTs.ren _ _).1 (RelTs.mono hle1 (fun _ x => x) (fun _ _ => rfl) _ _ g3)
  · obtain ⟨bd, q1, q2⟩ := hsame p hp
    obtain ⟨b0, q3, q4⟩ := O.src _ _ hi
    rw [Nat.zero_add, q1] at q4
    cases q4
    refine ⟨b0, q3, ?_, ?_⟩
    · show (if i < σ.next then B i else _) = _
      rw [if_pos (hlow _ _ q3)]
      exact q3
    · show (if σ.next + p.2 < σ.next then _ else B1 (c.k0 + (σ.next + p.2 - σ.next))) = _
      rw [if_neg (by omega), Nat.add_sub_cancel_left]
      exact q2

/-! ### Rows under their old names -/
def alF : List (Nat × Nat × Nat) → Nat → Nat → Nat × Nat
  | [], i, v => (i, v)
  | (i', v', n) :: r, i, v => bif Nat.beq i' i && Nat.beq v' v then (n, 0) else alF r i v
mutual
def AV.al (l : List (Nat × Nat × Nat)) : AV → AV
  | .row id ver => match alF l id ver with
    | (i, v) => .row i v
  | .agg cs => .agg (AV.als l cs)
  | .tup cs => .tup (AV.als l cs)
  | a => a
def AV.als (l : List (Nat × Nat × Nat)) : List AV → List AV
  | [] => []
  | a :: as => AV.al l a :: AV.als l as
end
def HE.al (l : List (Nat × Nat × Nat)) : HE → HE
  | .cells ty cs => .cells ty (AV.als l cs)
  | h => h
def alE (l : List (Nat × Nat × Nat)) : List (Nat × AV) → List (Nat × AV)
  | [] => []
  | (t, a) :: r => (t, AV.al l a) :: alE l r
def alH (l : List (Nat × Nat × Nat)) : List (Nat × HE) → List (Nat × HE)
  | [] => []
  | (t, a) :: r => (t, HE.al l a) :: alH l r
def S.al (l : List (Nat × Nat × Nat)) (σ : S) : S := match σ with
  | ⟨e, h, n⟩ => ⟨alE l e, alH l h, n⟩
def AlOk (B : Nat → Option Bd) (l : List (Nat × Nat × Nat)) : Prop := ∀ i v n, (i, v, n) ∈ l → ∃ b0, B i = some b0 ∧ b0.ver = v ∧ B n = some b0.v0
section
variable {B : Nat → Option Bd} {ok : Nat → Prop} {w : World} {l : List (Nat × Nat × Nat)}
theorem alF_ok {id ver : Nat} {v : Value} : ∀ {l : List (Nat × Nat × Nat)}, AlOk B l → RelA B ok w (.row id ver) v → RelA B ok w (.row (alF l id ver).1 (alF l id ver).2) v
  | [], _, h => h
  | (i', v', n) :: r, hl, h => by
    unfold alF
    cases hb : (Nat.beq i' id && Nat.beq v' ver) with
    | false => exact alF_ok (l := r) (fun i v n hm => hl i v n (List.mem_cons_of_mem _ hm)) h
    | true =>
      simp only [Bool.and_eq_true] at hb
      obtain rfl := Nat.eq_of_beq_eq_true hb.1
      obtain rfl := Nat.eq_of_beq_eq_true hb.2
      obtain ⟨b0, q1, q2, q3⟩ := hl _ _ _ List.mem_cons_self
      obtain ⟨g1, bd, g2, g3, g4⟩ := h
      rw [q1] at g2
      cases g2
      exact ⟨g1, b0.v0, q3, Nat.le_refl _, fun _ => g4 q2.symm⟩
mutual
theorem RelA.al (hl : AlOk B l) : ∀ (a : AV) (v : Value), RelA B ok w a v → RelA B ok w (a.al l) v
  | .d x, v, h => h
  | .ptr id off, v, h => h
  | .rp sz xs i j, v, h => h
  | .row id ver, v, h => alF_ok hl h
  | .rowv id ver off len, v, h => h
  | .wp id ver i j, v, h => h
  | .agg cs, v, h => by obtain ⟨vs, h1, h2⟩ := h; exact ⟨vs, h1, RelAs.al hl cs vs h2⟩
  | .tup cs, v, h => by obtain ⟨vs, h1, h2⟩ := h; exact ⟨vs, h1, RelTs.al hl cs vs h2⟩
  | .clo f caps, v, h => h
  | .mp id, v, h => h
  | .bl _, v, h => h
  | .pr _, v, h => h
  | .tp _ _ _, v, h => h
  | .any, v, h => h
theorem RelAs.al (hl : AlOk B l) : ∀ (as : List AV) (vs : List Value), RelAs B ok w as vs → RelAs B ok w (AV.als l as) vs
  | [], vs, h => h
  | a :: as, vs, h => by obtain ⟨v, vs', h1, h2, h3, h4⟩ := h; exact ⟨v, vs', h1, h2, RelA.al hl a v h3, RelAs.al hl as vs' h4⟩
theorem RelTs.al (hl : AlOk B l) : ∀ (as : List AV) (vs : List Value), RelTs B ok w as vs → RelTs B ok w (AV.als l as) vs
  | [], vs, h => h
  | a :: as, vs, h => by obtain ⟨v, vs', h1, h3, h4⟩ := h; exact ⟨v, vs', h1, RelA.al hl a v h3, RelTs.al hl as vs' h4⟩
end
theorem SatE.al (hl : AlOk B l) {bd : Bd} {he : HE} (h : SatE B ok w bd he) : SatE B ok w bd (he.al l) := by
  cases he with
  | cells ty cs => obtain ⟨h0, vs, h1, h2⟩ := h; exact ⟨h0, vs, h1, RelAs.al hl _ _ h2⟩
  | _ => exact h
theorem HE.occ_al {bd : Bd} {he : HE} : (he.al l).occ bd = he.occ bd := by cases he <;> rfl
theorem alH_mem {i : Nat} {x : HE} : ∀ {h : List (Nat × HE)}, (i, x) ∈ alH l h → ∃ y, (i, y) ∈ h ∧ x = y.al l
  | [], hm => by cases hm
  | (k, y) :: r, hm => by
    rcases List.mem_cons.1 hm with e | hm
    · cases e; exact ⟨y, List.mem_cons_self, rfl⟩
    · obtain ⟨z, h1, h2⟩ := alH_mem (h := r) hm
      exact ⟨z, List.mem_cons_of_mem _ h1, h2⟩
theorem alE_lk {t : Nat} {av : AV} : ∀ {e : List (Nat × AV)}, lk (alE l e) t = some av → ∃ a, lk e t = some a ∧ av = a.al l
  | [], h => by cases h
  | (k, a) :: r, h => by
    unfold alE lk at h
    unfold lk
    cases hb : Nat.beq k t with
    | true => rw [hb] at h; simp only [cond_true, Option.some.injEq] at h ⊢; exact ⟨a, rfl, h.symm⟩
    | false => rw [hb] at h; exact alE_lk (e := r) h
end
theorem StB.al {B : Nat → Option Bd} {ok : Nat → Prop} {a : Act} {w : World} {l : List (Nat × Nat × Nat)} (h : StB Γ B ok σ a w) (hl : AlOk B l) : StB Γ B ok (σ.al l) a w := by
  refine ⟨h.defers, h.size, ⟨fun i x hm => ?_, fun i x j y hx hy hij bi bj hbi hbj b hob => ?_, fun i x hm bd hbd b hob => ?_, h.heap.okb, fun i x y hx hy => ?_⟩, fun t av ht => ?_, h.keeps, h.ok1, h.ok2, fun i x hm bd hbd b hob => ?_, h.ble, h.free⟩
  · obtain ⟨y, h1, rfl⟩ := alH_mem hm
    obtain ⟨bd, g1, g2⟩ := h.heap.sat i y h1
    exact ⟨bd, g1, g2.al hl⟩
  · obtain ⟨x', h1, rfl⟩ := alH_mem hx
    obtain ⟨y', h2, rfl⟩ := alH_mem hy
    rw [HE.occ_al] at hob ⊢
    exact h.heap.apart _ _ _ _ h1 h2 hij _ _ hbi hbj b hob
  · obtain ⟨x', h1, rfl⟩ := alH_mem hm
    rw [HE.occ_al] at hob
    exact h.heap.avoid _ _ h1 _ hbd b hob
  · obtain ⟨x', h1, rfl⟩ := alH_mem hx
    obtain ⟨y', h2, rfl⟩ := alH_mem hy
    rw [h.heap.uniq _ _ _ h1 h2]
  · obtain ⟨a', h1, rfl⟩ := alE_lk ht
    exact ⟨(h.env t a' h1).1, (h.env t a' h1).2.al hl⟩
  · obtain ⟨x', h1, rfl⟩ := alH_mem hm
    rw [HE.occ_al] at hob
    exact h.own _ _ h1 _ hbd b hob
/-- The old names of what came back. -/
def alL (ss : List Src) (h : List (Nat × HE)) (next : Nat) : List (Nat × Nat) → List (Nat × Nat × Nat)
  | [] => []
  | (j, n) :: r => match srcAt ss j with
    | some i => match lk h i with
      | some (.trow _ _ ver _) => (i, ver, next + n) :: alL ss h next r
      | _ => alL ss h next r
    | none => alL ss h next r
theorem alL_mem {ss : List Src} {h : List (Nat × HE)} {next i v n : Nat} : ∀ {l : List (Nat × Nat)}, (i, v, n) ∈ alL ss h next l → ∃ p, p ∈ l ∧ ss[p.1]? = some (.id i) ∧ n = next + p.2 ∧ ∃ q e ws, lk h i = some (.trow q e v ws)
  | [], hm => by cases hm
  | (j, k) :: r, hm => by
    unfold alL at hm
    have rest : (i, v, n) ∈ alL ss h next r → ∃ p, p ∈ (j, k) :: r ∧ ss[p.1]? = some (.id i) ∧ n = next + p.2 ∧ ∃ q e ws, lk h i = some (.trow q e v ws) := fun hr => by
      obtain ⟨p, h1, h2⟩ := alL_mem hr
      exact ⟨p, List.mem_cons_of_mem _ h1, h2⟩
    split at hm
    · rename_i i' hi
      split at hm
      · rename_i q e ver ws hh
        rcases List.mem_cons.1 hm with e' | hm
        · cases e'
          exact ⟨(j, k), List.mem_cons_self, srcAt_ok hi, rfl, q, e, ws, hh⟩
        · exact rest hm
      · exact rest hm
    · exact rest hm
/-- The state behind a call. -/
def aftS (c : Ct) (ss : List Src) (y : Kd.tys c.out) (σ : S) : S := match c.same with
  | [] => aft c ss y σ
  | p :: r => (aft c ss y σ).al (alL ss σ.heap σ.next (p :: r))
theorem aftS_ok {B B2 : Nat → Option Bd} {ok ok2 : Nat → Prop} {a : Act} {w w' : World} {c : Ct} {ss : List Src} {y : Kd.tys c.out} (h : StB Γ B ok σ a w) (h2 : StB Γ B2 ok2 (aft c ss y σ) a w')
    (hs : ∀ p : Nat × Nat, p ∈ c.same → ∀ i : Nat, ss[p.1]? = some (Src.id i) → ∃ b0, B i = some b0 ∧ B2 i = some b0 ∧ B2 (σ.next + p.2) = some b0.v0) : StB Γ B2 ok2 (aftS c ss y σ) a w' := by
  unfold aftS
  split
  · exact h2
  · rename_i p r e
    refine h2.al fun i v n hm => ?_
    rw [← e] at hm
    obtain ⟨p', h3, h4, rfl, q, e', ws, h5⟩ := alL_mem hm
    obtain ⟨b0, g1, g2, g3⟩ := hs p' h3 i h4
    obtain ⟨bd, g4, g5⟩ := h.heap.sat _ _ (lk_mem h5)
    rw [g1] at g4
    cases g4
    exact ⟨b0, g2, g5.1, g3⟩

/-- A call, by its contract. -/
theorem sop_callK {f : FuncId} {x : Operand} {xs : List Operand} {ts : Array TypeId} {caps as : List AV} {c : Ct} {z : Kd.tys c.ak} {ss : List Src} {fz : List Nat} {M : Kd.tys c.out → Prop} [C : TCall P f] (hspec : SpecK P f c z M)
    (hop : o.op = .call { callee := .value x, args := xs.toArray, argTypes := ts }) (hx : σ.get x = some (.clo f caps)) (hargs : gets σ xs = some as) (e : xts σ.heap c.ak (as ++ caps) = some (z, ss, fz))
    (c1 : distB (Src.ids ss) = true) (c2 : disjB (Src.ids ss) fz = true) (c3 : (!(Kd.fros c.out) || isNilN fz) = true) (hd : dstOk Γ.nt o.dst = true) (hK : ∀ y, M y → K ((aftS c ss y σ).put o.dst (aftA c y σ))) : Sop P Γ o K σ ∧ (isNilN (Src.ids ss) = true → SopB P Γ o K σ) := by
  have key : ∀ a w, St Γ σ a w → ∀ (K' : Act → World → Prop) (Q' : Exit → Act → World → Prop), (∀ σ' a w', K σ' → St Γ σ' a w' → (isNilN (Src.ids ss) = true → Below w.heap.size w w') → K' a w') → o.wp P a w K' Q' := by
    rintro a w ⟨B, ok, hs⟩ K' Q' hk
    obtain ⟨cvs, hc1, hc2⟩ := hs.eval hx
    have hav := (hs.evals hargs).append hc2
    obtain ⟨B', ok', h1, h2, h3, h4, h5⟩ := hs.call e c1 c2 c3 hav
    have hrun : (execOp a.eval o).run P w = .ok (.enter f ((xs.map a.eval) ++ cvs).toArray) w := by
      simp only [execOp, hop, resolve, Deferred.ofValue, hc1, Sem.run_bind, Sem.run_pure, Result.andThen_ok, invoke]
      rw [C.call]
      simp
    have hc := hspec w ok' B' _ h1 h2 h3
    unfold Oper.wp
    rw [hrun]
    show Calls P f _ w _
    refine hc.mono fun e w' hh => ?_
    obtain ⟨y, B1, ok1, us, hM, rfl, hh⟩ := hh
    obtain ⟨B2, ok2, g1, g2, g3⟩ := h5 y B1 ok1 us w' hh
    refine hk _ _ _ (hK y hM) ⟨_, _, (aftS_ok hs g1 g3).put hd g2⟩ fun hn => ?_
    obtain ⟨_, _, _, _, _, hkp, _⟩ := hh
    exact ⟨hkp.os, hkp.tape, hkp.output, hkp.size, fun k hk' => hkp.block k hk' (h4 (isNilN_ok hn) k)⟩
  exact ⟨fun a w hs K' Q' hk => key a w hs K' Q' fun σ' a w' h1 h2 _ => hk σ' a w' h1 h2, fun hn a w hs K' Q' hk => key a w hs K' Q' fun σ' a w' h1 h2 h3 => hk σ' a w' h1 h2 (h3 hn)⟩
end
end Go.Proofs.YthjmmofafpahhaaGreat.Sx
