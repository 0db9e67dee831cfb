/- The symbolic layer: new blocks, stores, appends. Program-independent. -/
import Derived.Test.YthjmmofafpahhaaGreatSx2
import Derived.Laws.CopyRow
namespace Go.Proofs.YthjmmofafpahhaaGreat.Sx
open Go Go.RowKit
set_option linter.unusedVariables false
set_option linter.unusedSimpArgs false

def updB (B : Nat → Option Bd) (i : Nat) (bd : Bd) : Nat → Option Bd := fun k => if k = i then some bd else B k
theorem updB_same (B : Nat → Option Bd) (i : Nat) (bd : Bd) : updB B i bd i = some bd := if_pos rfl
theorem updB_ne {B : Nat → Option Bd} {i k : Nat} {bd : Bd} (h : k ≠ i) : updB B i bd k = B k := if_neg h

def S.new (σ : S) (he : HE) : S := { σ with heap := (σ.next, he) :: σ.heap, next := σ.next + 1 }
def setL (h : List (Nat × HE)) (i : Nat) (he : HE) : List (Nat × HE) :=
  match h with
  | [] => []
  | (k, v) :: t => (k, bif Nat.beq k i then he else v) :: setL t i he
def S.setH (σ : S) (i : Nat) (he : HE) : S := { σ with heap := setL σ.heap i he }

theorem mem_setL {i : Nat} {he : HE} : ∀ {h : List (Nat × HE)} {k : Nat} {x : HE}, (k, x) ∈ setL h i he → (k = i ∧ x = he ∧ ∃ y, (k, y) ∈ h) ∨ (k ≠ i ∧ (k, x) ∈ h)
  | (k', v) :: t, k, x, hm => by
    unfold setL at hm
    rcases List.mem_cons.1 hm with e | hm
    · simp only [Prod.mk.injEq] at e
      obtain ⟨rfl, e⟩ := e
      cases hb : Nat.beq k i with
      | true =>
        rw [hb] at e
        exact .inl ⟨Nat.eq_of_beq_eq_true hb, e, v, List.mem_cons_self⟩
      | false =>
        rw [hb] at e
        refine .inr ⟨(fun e' => by rw [e', Nat.beq_refl] at hb; cases hb), ?_⟩
        subst e
        exact List.mem_cons_self
    · rcases mem_setL hm with ⟨h1, h2, y, h3⟩ | ⟨h1, h2⟩
      · exact .inl ⟨h1, h2, y, List.mem_cons_of_mem _ h3⟩
      · exact .inr ⟨h1, List.mem_cons_of_mem _ h2⟩

section
variable {P : Program} {Γ : Ctx} {σ : S} {o : Oper} {K : S → Prop}

theorem StB.idlt {B : Nat → Option Bd} {ok : Nat → Prop} {a : Act} {w : World} (h : StB Γ B ok σ a w) {i : Nat} {x : HE} (hm : (i, x) ∈ σ.heap) : i < σ.next := by
  obtain ⟨bd, h1, _⟩ := h.heap.sat i x hm
  apply Nat.lt_of_not_le
  intro hge
  rw [h.free i hge] at h1
  cases h1

theorem BLe.updNew {B : Nat → Option Bd} {i : Nat} {bd : Bd} (h : B i = none) : BLe B (updB B i bd) := fun k b hb => by
  refine ⟨b, ?_, BdLe.refl _⟩
  rw [updB_ne]
  · exact hb
  · rintro rfl
    rw [h] at hb
    cases hb
theorem BLe.upd {B : Nat → Option Bd} {i : Nat} {bd bd' : Bd} (h : B i = some bd) (hle : BdLe bd bd') : BLe B (updB B i bd') := fun k b hb => by
  by_cases hk : k = i
  · subst hk
    rw [h] at hb
    cases hb
    exact ⟨bd', updB_same _ _ _, hle⟩
  · exact ⟨b, by rw [updB_ne hk]; exact hb, BdLe.refl _⟩

/-- A new owned block. -/
theorem StB.new {B : Nat → Option Bd} {ok : Nat → Prop} {a : Act} {w w' : World} (h : StB Γ B ok σ a w) (hb : Below w.heap.size w w') {bd : Bd} {he : HE} (hsat : SatE (updB B σ.next bd) ok w' bd he) (hocc : ∀ b, he.occ bd = some b → w.heap.size ≤ b) :
    StB Γ (updB B σ.next bd) ok (σ.new he) a w' := by
  have h' := h.below hb
  have hle : BLe B (updB B σ.next bd) := BLe.updNew (h.free _ (Nat.le_refl _))
  have hne : ∀ {i : Nat} {x : HE}, (i, x) ∈ σ.heap → i ≠ σ.next := fun hm => Nat.ne_of_lt (h.idlt hm)
  refine ⟨h'.defers, h'.size, ⟨?_, ?_, ?_, h'.heap.okb, ?_⟩, fun t av hl => ⟨(h'.env t av hl).1, RelA.mono hle (fun _ x => x) (fun _ _ => rfl) _ _ (h'.env t av hl).2⟩, h'.keeps, h'.ok1, h'.ok2, ?_, h'.ble.trans hle, ?_⟩
  · intro i x hm
    rcases List.mem_cons.1 hm with e | hm
    · cases e; exact ⟨bd, updB_same _ _ _, hsat⟩
    · obtain ⟨b, h1, h2⟩ := h'.heap.sat i x hm
      exact ⟨b, by rw [updB_ne (hne hm)]; exact h1, h2.mono hle (fun _ x => x) (fun _ _ => rfl) (fun _ _ => rfl)⟩
  · intro i x j y hx hy hij bi bj hbi hbj b hob hob'
    rcases List.mem_cons.1 hx with e | hx <;> rcases List.mem_cons.1 hy with e' | hy
    · cases e; cases e'; exact hij rfl
    · cases e
      rw [updB_same] at hbi
      cases hbi
      rw [updB_ne (hne hy)] at hbj
      obtain ⟨b2, g1, g2⟩ := h.heap.sat j y hy
      rw [g1] at hbj
      cases hbj
      have := hocc b hob
      have := g2.lt hob'
      omega
    · cases e'
      rw [updB_same] at hbj
      cases hbj
      rw [updB_ne (hne hx)] at hbi
      obtain ⟨b2, g1, g2⟩ := h.heap.sat i x hx
      rw [g1] at hbi
      cases hbi
      have := hocc b hob'
      have := g2.lt hob
      omega
    · rw [updB_ne (hne hx)] at hbi
      rw [updB_ne (hne hy)] at hbj
      exact h.heap.apart i x j y hx hy hij bi bj hbi hbj b hob hob'
  · intro i x hm bi hbi b hob hk
    rcases List.mem_cons.1 hm with e | hm
    · cases e
      rw [updB_same] at hbi
      cases hbi
      have := hocc b hob
      have := h.heap.okb b hk
      omega
    · rw [updB_ne (hne hm)] at hbi
      exact h.heap.avoid i x hm bi hbi b hob hk
  · intro i x y hx hy
    rcases List.mem_cons.1 hx with e | hx <;> rcases List.mem_cons.1 hy with e' | hy
    · cases e; cases e'; rfl
    · cases e; exact absurd rfl (hne hy)
    · cases e'; exact absurd rfl (hne hx)
    · exact h.heap.uniq i x y hx hy
  · intro i x hm bi hbi b hob
    rcases List.mem_cons.1 hm with e | hm
    · cases e
      rw [updB_same] at hbi
      cases hbi
      exact .inr (Nat.le_trans h.keeps.size (hocc b hob))
    · rw [updB_ne (hne hm)] at hbi
      exact h.own i x hm bi hbi b hob
  · intro id hid
    have : (σ.new he).next = σ.next + 1 := rfl
    rw [updB_ne (by omega)]
    exact h.free id (by omega)

/-- An owned block is written, or moved. -/
theorem StB.rebind {B : Nat → Option Bd} {ok : Nat → Prop} {a : Act} {w w' : World} (h : StB Γ B ok σ a w) {id : Nat} {he he' : HE} {bd bd' : Bd} (hh : lk σ.heap id = some he) (hB : B id = some bd) (hle : BdLe bd bd')
    (hk : Keeps (fun b => he.occ bd = some b) w w') (hsat : SatE (updB B id bd') ok w' bd' he') (hocc : ∀ b, he'.occ bd' = some b → he.occ bd = some b ∨ w.heap.size ≤ b) : StB Γ (updB B id bd') ok (σ.setH id he') a w' := by
  have hm0 := lk_mem hh
  have hle' : BLe B (updB B id bd') := BLe.upd hB hle
  have hok : ∀ b, ok b → w'.heap[b]? = w.heap[b]? := fun b hb => hk.block b (h.heap.okb b hb) (fun e => h.heap.avoid id he hm0 bd hB b e hb)
  have hother : ∀ {i : Nat} {x : HE} {bi : Bd}, (i, x) ∈ σ.heap → i ≠ id → B i = some bi → ∀ b, x.occ bi = some b → w'.heap[b]? = w.heap[b]? := fun {i x bi} hm hne hbi b hob => by
    obtain ⟨b2, g1, g2⟩ := h.heap.sat i x hm
    rw [hbi] at g1
    cases g1
    exact hk.block b (g2.lt hob) (fun e => h.heap.apart i x id he hm hm0 hne bi bd hbi hB b hob e)
  refine ⟨h.defers, h.size, ⟨?_, ?_, ?_, fun b hb => Nat.lt_of_lt_of_le (h.heap.okb b hb) hk.size, ?_⟩, fun t av hl => ⟨(h.env t av hl).1, RelA.mono hle' (fun _ x => x) hok _ _ (h.env t av hl).2⟩, ?_, h.ok1, h.ok2, ?_, h.ble.trans hle', ?_⟩
  · intro i x hm
    rcases mem_setL hm with ⟨rfl, rfl, _⟩ | ⟨hne, hm⟩
    · exact ⟨bd', updB_same _ _ _, hsat⟩
    · obtain ⟨b, h1, h2⟩ := h.heap.sat i x hm
      exact ⟨b, by rw [updB_ne hne]; exact h1, h2.mono hle' (fun _ x => x) hok (hother hm hne h1)⟩
  · intro i x j y hx hy hij bi bj hbi hbj b hob hob'
    rcases mem_setL hx with ⟨rfl, rfl, _⟩ | ⟨hne, hx2⟩ <;> rcases mem_setL hy with ⟨rfl, rfl, _⟩ | ⟨hne', hy2⟩
    · exact hij rfl
    · rw [updB_same] at hbi
      cases hbi
      rw [updB_ne hne'] at hbj
      obtain ⟨b2, g1, g2⟩ := h.heap.sat j y hy2
      rw [hbj] at g1
      cases g1
      rcases hocc b hob with e | e
      · exact h.heap.apart j y i he hy2 hm0 hne' bj bd hbj hB b hob' e
      · have := g2.lt hob'
        omega
    · rw [updB_same] at hbj
      cases hbj
      rw [updB_ne hne] at hbi
      obtain ⟨b2, g1, g2⟩ := h.heap.sat i x hx2
      rw [hbi] at g1
      cases g1
      rcases hocc b hob' with e | e
      · exact h.heap.apart i x j he hx2 hm0 hne bi bd hbi hB b hob e
      · have := g2.lt hob
        omega
    · rw [updB_ne hne] at hbi
      rw [updB_ne hne'] at hbj
      exact h.heap.apart i x j y hx2 hy2 hij bi bj hbi hbj b hob hob'
  · intro i x hm bi hbi b hob hkb
    rcases mem_setL hm with ⟨rfl, rfl, _⟩ | ⟨hne, hm⟩
    · rw [updB_same] at hbi
      cases hbi
      rcases hocc b hob with e | e
      · exact h.heap.avoid _ he hm0 bd hB b e hkb
      · have := h.heap.okb b hkb
        omega
    · rw [updB_ne hne] at hbi
      exact h.heap.avoid i x hm bi hbi b hob hkb
  · intro i x y hx hy
    rcases mem_setL hx with ⟨rfl, rfl, _⟩ | ⟨hne, hx⟩ <;> rcases mem_setL hy with ⟨e', rfl, _⟩ | ⟨hne', hy⟩
    · rfl
    · exact absurd rfl hne'
    · exact absurd e' hne
    · exact h.heap.uniq i x y hx hy
  · refine h.keeps.trans2 hk fun k hk2 e => ?_
    rcases h.own id he hm0 bd hB k e with g | g
    · exact g
    · omega
  · intro i x hm bi hbi b hob
    rcases mem_setL hm with ⟨rfl, rfl, _⟩ | ⟨hne, hm⟩
    · rw [updB_same] at hbi
      cases hbi
      rcases hocc b hob with e | e
      · exact h.own _ he hm0 bd hB b e
      · exact .inr (Nat.le_trans h.keeps.size e)
    · rw [updB_ne hne] at hbi
      exact h.own i x hm bi hbi b hob
  · intro k hk2
    have hid := h.idlt hm0
    have hn : (σ.setH id he').next = σ.next := rfl
    rw [updB_ne (by omega)]
    exact h.free k hk2

theorem sop_eff {σ' : S} {av : AV} {d : Option Tmp} (he : o.dst = d) (hd : dstOk Γ.nt d = true) (hK : K (σ'.put d av))
    (h : ∀ B ok a w, StB Γ B ok σ a w → ∃ v w' B', (execOp a.eval o).run P w = .ok (.value v) w' ∧ StB Γ B' ok σ' a w' ∧ RelA B' ok w' av v) : Sop P Γ o K σ := by
  subst he
  rintro a w ⟨B, ok, hs⟩ K' Q' hk
  obtain ⟨v, w', B', h1, h2, h3⟩ := h B ok a w hs
  unfold Oper.wp
  rw [h1]
  exact hk _ _ _ hK ⟨B', ok, h2.put hd h3⟩
theorem sopb_eff {σ' : S} {av : AV} {d : Option Tmp} (he : o.dst = d) (hd : dstOk Γ.nt d = true) (hK : K (σ'.put d av))
    (h : ∀ B ok a w, StB Γ B ok σ a w → ∃ v w' B', (execOp a.eval o).run P w = .ok (.value v) w' ∧ StB Γ B' ok σ' a w' ∧ RelA B' ok w' av v ∧ Below w.heap.size w w') : SopB P Γ o K σ := by
  subst he
  rintro a w ⟨B, ok, hs⟩ K' Q' hk
  obtain ⟨v, w', B', h1, h2, h3, h4⟩ := h B ok a w hs
  unfold Oper.wp
  rw [h1]
  exact hk _ _ _ hK ⟨B', ok, h2.put hd h3⟩ h4
theorem sop_skip {σ' : S} {d : Option Tmp} (he : o.dst = d) (hd : dstOk Γ.nt d = true) (hK : K (σ'.put d (.tup [])))
    (h : ∀ B ok a w, StB Γ B ok σ a w → ∃ w' B', (execOp a.eval o).run P w = .ok .skip w' ∧ StB Γ B' ok σ' a w') : Sop P Γ o K σ := by
  subst he
  rintro a w ⟨B, ok, hs⟩ K' Q' hk
  obtain ⟨w', B', h1, h2⟩ := h B ok a w hs
  unfold Oper.wp
  rw [h1]
  exact hk _ _ _ hK ⟨B', ok, h2.put hd ⟨[], rfl, rfl⟩⟩

def cellsOf : AV → Option (List AV)
  | .agg cs => some cs
  | .tup _ => none
  | .any => none
  | a => some [a]

theorem RelA.cells {B : Nat → Option Bd} {ok : Nat → Prop} {w : World} {av : AV} {cs : List AV} {v : Value} (hc : cellsOf av = some cs) (h : RelA B ok w av v) : ∃ vs : List Value, v.cells = vs.toArray ∧ RelAs B ok w cs vs := by
  have one : av.isCell = true → cs = [av] → ∃ vs : List Value, v.cells = vs.toArray ∧ RelAs B ok w cs vs := fun hi e => by
    have h1 := h.oneCell hi
    subst e
    refine ⟨[v], ?_, v, [], rfl, h1, h, rfl⟩
    cases v <;> first | rfl | (simp [Value.oneCell'] at h1)
  cases av with
  | agg as =>
    simp only [cellsOf, Option.some.injEq] at hc
    subst hc
    obtain ⟨vs, rfl, h2⟩ := h
    exact ⟨vs, rfl, h2⟩
  | tup _ => cases hc
  | any => cases hc
  | d x => exact one rfl (by simpa [cellsOf] using hc.symm)
  | ptr => exact one rfl (by simpa [cellsOf] using hc.symm)
  | rp => exact one rfl (by simpa [cellsOf] using hc.symm)
  | row => exact one rfl (by simpa [cellsOf] using hc.symm)
  | rowv => exact one rfl (by simpa [cellsOf] using hc.symm)
  | wp => exact one rfl (by simpa [cellsOf] using hc.symm)
  | clo => exact one rfl (by simpa [cellsOf] using hc.symm)
  | mp => exact one rfl (by simpa [cellsOf] using hc.symm)
  | bl => exact one rfl (by simpa [cellsOf] using hc.symm)
  | pr => exact one rfl (by simpa [cellsOf] using hc.symm)
  | tp => exact one rfl (by simpa [cellsOf] using hc.symm)

theorem heap_alloc_at (w : World) (ob : Obj) : (w.alloc ob).heap[w.heap.size]? = some ob := heap_alloc_new w ob

/-- A new block of cells. -/
theorem StB.alloc {B : Nat → Option Bd} {ok : Nat → Prop} {a : Act} {w : World} (h : StB Γ B ok σ a w) {ty : TypeId} {cs : List AV} {vs : List Value} (hr : RelAs B ok w cs vs) :
    let bd : Bd := ⟨w.heap.size, 0, 0, 0, 0, 0, true⟩
    StB Γ (updB B σ.next bd) ok (σ.new (.cells ty cs)) a (w.alloc (.cells vs.toArray ty)) ∧ RelA (updB B σ.next bd) ok (w.alloc (.cells vs.toArray ty)) (.ptr σ.next 0) (.pointer (some ⟨w.heap.size, 0, none⟩)) := by
  intro bd
  have hb : Below w.heap.size w (w.alloc (.cells vs.toArray ty)) := (Below.refl _ _).alloc (Nat.le_refl _) _
  refine ⟨h.new hb ⟨rfl, vs, heap_alloc_at w _, ?_⟩ (fun b e => ?_), rfl, bd, updB_same _ _ _, fun _ => rfl⟩
  · exact RelAs.mono (BLe.updNew (h.free _ (Nat.le_refl _))) (fun _ x => x) (fun b hk => hb.block b (h.heap.okb b hk)) _ _ hr
  · simp only [HE.occ, Option.some.injEq] at e
    exact Nat.le_of_eq e

theorem sopb_box {ty : TypeId} {x : Operand} {av : AV} {cs : List AV} (hop : o.op = .box ty x) (hx : σ.get x = some av) (hc : cellsOf av = some cs) {d : Option Tmp} (he : o.dst = d) (hd : dstOk Γ.nt d = true) (hK : K ((σ.new (.cells ty cs)).put d (.ptr σ.next 0))) : SopB P Γ o K σ :=
  sopb_eff he hd hK fun B ok a w hs => by
    obtain ⟨vs, h1, h2⟩ := (hs.eval hx).cells hc
    obtain ⟨h3, h4⟩ := hs.alloc (ty := ty) h2
    refine ⟨_, _, _, ?_, h3, h4, (Below.refl _ _).alloc (Nat.le_refl _) _⟩
    simp [execOp, hop, Instr.box, newVar, newRow, h1]
theorem sop_box {ty : TypeId} {x : Operand} {av : AV} {cs : List AV} (hop : o.op = .box ty x) (hx : σ.get x = some av) (hc : cellsOf av = some cs) {d : Option Tmp} (he : o.dst = d) (hd : dstOk Γ.nt d = true) (hK : K ((σ.new (.cells ty cs)).put d (.ptr σ.next 0))) : Sop P Γ o K σ :=
  (sopb_box hop hx hc he hd hK).sop

class TZero (P : Program) (t : Nat) (z : outParam Value) : Prop where
  zero : ∀ w, (zeroValue t).run P w = .ok z w

theorem sopb_alloc {ty : TypeId} {z : Value} {cs : List AV} [T : TZero P ty z] (hop : o.op = .alloc ty) (hc : cellsOf (cv z) = some cs) {d : Option Tmp} (he : o.dst = d) (hd : dstOk Γ.nt d = true) (hK : K ((σ.new (.cells ty cs)).put d (.ptr σ.next 0))) : SopB P Γ o K σ :=
  sopb_eff he hd hK fun B ok a w hs => by
    obtain ⟨vs, h1, h2⟩ := (RelA.cv (B := B) (ok := ok) (w := w) z).cells hc
    obtain ⟨h3, h4⟩ := hs.alloc (ty := ty) h2
    refine ⟨_, _, _, ?_, h3, h4, (Below.refl _ _).alloc (Nat.le_refl _) _⟩
    simp [execOp, hop, Instr.alloc, T.zero, newVar, newRow, h1]
theorem sop_alloc {ty : TypeId} {z : Value} {cs : List AV} [T : TZero P ty z] (hop : o.op = .alloc ty) (hc : cellsOf (cv z) = some cs) {d : Option Tmp} (he : o.dst = d) (hd : dstOk Γ.nt d = true) (hK : K ((σ.new (.cells ty cs)).put d (.ptr σ.next 0))) : Sop P Γ o K σ :=
  (sopb_alloc hop hc he hd hK).sop

def splice {α : Type} (l : List α) (i : Nat) (m : List α) : List α := l.take i ++ m ++ l.drop (i + m.length)

theorem RelAs.append {B : Nat → Option Bd} {ok : Nat → Prop} {w : World} : ∀ {as bs : List AV} {vs us : List Value}, RelAs B ok w as vs → RelAs B ok w bs us → RelAs B ok w (as ++ bs) (vs ++ us)
  | [], bs, vs, us, h, k => by cases h; exact k
  | a :: as, bs, vs, us, h, k => by
    obtain ⟨v, vs', rfl, h2, h3, h4⟩ := h
    exact ⟨v, vs' ++ us, rfl, h2, h3, RelAs.append h4 k⟩

theorem RelAs.one {B : Nat → Option Bd} {ok : Nat → Prop} {w : World} : ∀ {as : List AV} {vs : List Value}, RelAs B ok w as vs → ∀ v ∈ vs, v.oneCell' = true
  | [], vs, h, v, hv => by cases h; cases hv
  | a :: as, vs, h, v, hv => by
    obtain ⟨u, vs', rfl, h2, h3, h4⟩ := h
    rcases List.mem_cons.1 hv with rfl | hv
    · exact h2
    · exact RelAs.one h4 v hv

theorem Keeps.setRow (w : World) (g : Nat) (cs : Array Value) : Keeps (fun b => some g = some b) w (w.setRow g cs) :=
  ⟨rfl, rfl, rfl, by simp [World.setRow], fun k hk hn => setRow_other w g k cs (fun e => hn (by rw [e]))⟩

class TSize (P : Program) (t : Nat) (n : outParam Nat) : Prop where
  size : ∀ w, (sizeOf t).run P w = .ok n w

/-- A store into an owned variable. -/
theorem sop_store {t n : TypeId} {x y : Operand} {id off : Nat} {ty : TypeId} {cs cs' : List AV} {av : AV} [T : TSize P t n] (hop : o.op = .store t x y) (hx : σ.get x = some (.ptr id off)) (hh : lk σ.heap id = some (.cells ty cs)) (hy : σ.get y = some av) (hc : cellsOf av = some cs')
    (hn : cs'.length = n) (hfit : off + n ≤ cs.length) {d : Option Tmp} (he : o.dst = d) (hd : dstOk Γ.nt d = true) (hK : K ((σ.setH id (.cells ty (splice cs off cs'))).put d (.tup []))) : Sop P Γ o K σ :=
  sop_skip he hd hK fun B ok a w hs => by
    obtain ⟨bd, vs, h1, h2, h3, h4⟩ := hs.ptr hx hh
    obtain ⟨us, h5, h6⟩ := (hs.eval hy).cells hc
    have hul : us.length = n := by rw [h6.length, hn]
    have hvl := h4.length
    obtain ⟨bd2, g1, g2⟩ := hs.heap.sat id _ (lk_mem hh)
    rw [h1] at g1
    cases g1
    have hrun := run_storeCells_at P bd.blk off ty us 0 vs.toArray w h3 (by simp; omega) h6.one
    simp only [Nat.add_zero] at hrun
    have hsat : SatE (updB B id bd) ok (w.setRow bd.blk (vs.take off ++ us ++ vs.drop (off + us.length)).toArray) bd (.cells ty (splice cs off cs')) := by
      refine ⟨g2.1, _, setRow_heap w _ _ _ ty _ h3, ?_⟩
      have e : splice cs off cs' = cs.take off ++ cs' ++ cs.drop (off + us.length) := by unfold splice; rw [hn, hul]
      rw [e]
      have := ((h4.take off).append h6).append (h4.drop (off + us.length))
      exact RelAs.mono (BLe.upd h1 (BdLe.refl _)) (fun _ x => x) (fun b hk => setRow_other w bd.blk b _ (fun e' => hs.heap.avoid id _ (lk_mem hh) bd h1 b (by rw [e']; rfl) hk)) _ _ this
    have hst := hs.rebind hh h1 (BdLe.refl bd) (Keeps.setRow w bd.blk _) hsat (fun b e => .inl e)
    refine ⟨_, _, ?_, hst⟩
    have hsz : ¬ ((a.eval y).cells.size ≠ n) := by rw [h5]; simpa using hul
    simp only [execOp, hop, h2, Instr.storeAt, Instr.sureAddr, storeVar, Sem.run_bind, Sem.run_pure, Result.andThen_ok, T.size]
    rw [Sem.run_ite, if_neg hsz]
    simp only [h5, hrun, Sem.run_pure, Result.andThen_ok]

/-- A value as pure data. -/
noncomputable def AV.toD : AV → Option D
  | .d x => some x
  | .bl b => some (.c (.bool b))
  | .pr p => some (.c (.bool (@decide p (Classical.propDecidable p))))
  | _ => none
theorem RelA.toD {B : Nat → Option Bd} {ok : Nat → Prop} {w : World} {a : AV} {d : D} {v : Value} (h : a.toD = some d) (hr : RelA B ok w a v) : RelD ok w d v := by
  cases a <;> simp only [AV.toD, Option.some.injEq] at h <;> try (cases h; done)
  · subst h; exact hr
  · subst h; cases hr; exact .c _ rfl
  · rename_i p
    subst h
    obtain ⟨b, rfl, h2⟩ := hr
    have : @decide p (Classical.propDecidable p) = b := by
      cases b with
      | true => exact @decide_eq_true _ (Classical.propDecidable p) (h2.1 rfl)
      | false => exact @decide_eq_false _ (Classical.propDecidable p) (fun hp => by cases h2.2 hp)
    rw [this]
    exact .c _ rfl
/-- What of a value's cells is pure data. -/
noncomputable def dataOf : List AV → Option (List D)
  | [] => some []
  | a :: r => match a.toD, dataOf r with
    | some x, some l => some (x :: l)
    | _, _ => none
theorem RelAs.dataOf {B : Nat → Option Bd} {ok : Nat → Prop} {w : World} : ∀ {l : List AV} {m : List D} {vs : List Value}, Sx.dataOf l = some m → RelAs B ok w l vs → RelAs B ok w (m.map .d) vs
  | [], m, vs, h, hr => by cases h; exact hr
  | a :: r, m, vs, h, hr => by
    unfold Sx.dataOf at h
    split at h
    · rename_i x l h1 h2
      cases h
      obtain ⟨v, vs', rfl, k1, k2, k3⟩ := hr
      exact ⟨v, vs', rfl, k1, RelA.toD h1 k2, RelAs.dataOf h2 k3⟩
    · cases h
theorem dataOf_length : ∀ {l : List AV} {m : List D}, dataOf l = some m → m.length = l.length
  | [], m, h => by cases h; rfl
  | a :: r, m, h => by
    unfold dataOf at h
    split at h
    · rename_i x l h1 h2
      cases h
      simp [dataOf_length h2]
    · cases h

def setCells (xs : List (List D)) (i j : Nat) (m : List D) : List (List D) := xs.modify i fun l => splice l j m

theorem RelAs.data {B : Nat → Option Bd} {ok : Nat → Prop} {w : World} : ∀ {l : List D} {vs : List Value}, RelAs B ok w (l.map .d) vs → ∀ (j : Nat) (d : D), l[j]? = some d → ∃ v, vs[j]? = some v ∧ v.oneCell' = true ∧ RelD ok w d v := by
  intro l vs h j d hj
  obtain ⟨v, h1, h2, h3⟩ := h.get (i := j) (a := .d d) (by simp [hj])
  exact ⟨v, h1, h2, h3⟩

/-- A store into an owned row. -/
theorem sop_store_row {t n : TypeId} {x y : Operand} {id ver i j e sz : Nat} {xs : List (List D)} {av : AV} {cs' : List AV} {m : List D} [T : TSize P t n] (hop : o.op = .store t x y) (hx : σ.get x = some (.wp id ver i j)) (hh : lk σ.heap id = some (.row e sz ver xs)) (hy : σ.get y = some av) (hc : cellsOf av = some cs')
    (hm : dataOf cs' = some m) (hn : cs'.length = n) (hj : j + n ≤ sz) {d : Option Tmp} (he : o.dst = d) (hd : dstOk Γ.nt d = true) (hK : K ((σ.setH id (.row e sz ver (setCells xs i j m))).put d (.tup []))) : Sop P Γ o K σ :=
  sop_skip he hd hK fun B ok a w hs => by
    obtain ⟨bd, arr, h1, hlive, h2, hi, hsat0, h3, h4⟩ := hs.wp hx hh
    obtain ⟨us, h5, h6⟩ := (hs.eval hy).cells hc
    have hml : m.length = n := by rw [dataOf_length hm, hn]
    replace h6 := h6.dataOf hm
    have hul : us.length = n := by rw [h6.length, List.length_map, hml]
    have hs0 := hsat0
    obtain ⟨g1, g2, g3, g4, g5⟩ := hsat0
    rw [if_pos hlive] at g5
    obtain ⟨arr', k1, k2, k3, k4, k5⟩ := g5
    rw [h3] at k1
    cases k1
    have hfit : bd.off + (i * sz + j) + us.length ≤ arr.size := by
      have : (i + 1) * sz ≤ bd.cap * sz := Nat.mul_le_mul_right _ (by omega)
      rw [Nat.add_mul] at this
      omega
    have hrun := run_storeCells_at P bd.blk (bd.off + (i * sz + j)) e us 0 arr w h3 (by simpa using hfit) h6.one
    simp only [Nat.add_zero] at hrun
    have hok : ∀ b, ok b → ∀ c, (w.setRow bd.blk c).heap[b]? = w.heap[b]? := fun b hk c => setRow_other w _ b _ (fun e' => hs.heap.avoid id _ (lk_mem hh) bd h1 bd.blk (by simp [HE.occ, hlive]) (e' ▸ hk))
    have hlen : ∀ l ∈ setCells xs i j m, l.length = sz := fun l hl => by
      obtain ⟨k, hk, hk'⟩ := List.mem_iff_getElem.1 hl
      have h0 := List.getElem?_eq_getElem hk
      rw [hk'] at h0
      simp only [setCells, List.getElem?_modify] at h0
      split at h0
      · rename_i hik
        cases hxs : xs[k]? with
        | none => rw [hxs] at h0; cases h0
        | some l0 =>
          rw [hxs] at h0
          simp only [Option.map_some, Option.some.injEq, Option.map_eq_map] at h0
          have := g4 l0 (List.mem_of_getElem? hxs)
          subst h0
          simp only [splice, List.length_append, List.length_take, List.length_drop]
          omega
      · cases hxs : xs[k]? with
        | none => rw [hxs] at h0; cases h0
        | some l0 =>
          rw [hxs] at h0
          simp only [Option.map_some, Option.some.injEq, Option.map_eq_map, _root_.id] at h0
          subst h0
          exact g4 l0 (List.mem_of_getElem? hxs)
    have hsat : SatE (updB B id bd) ok (w.setRow bd.blk (arr.toList.take (bd.off + (i * sz + j)) ++ us ++ arr.toList.drop (bd.off + (i * sz + j) + us.length)).toArray) bd (.row e sz ver (setCells xs i j m)) := by
      refine ⟨g1, g2, by simp [setCells, g3], hlen, ?_⟩
      rw [if_pos hlive]
      refine ⟨_, setRow_heap w _ _ _ e _ h3, ?_, k3, k4, fun i' j' l d hi' hj' => ?_⟩
      · simp only [List.size_toArray, List.length_append, List.length_take, List.length_drop, Array.length_toList]
        omega
      · have hj'2 : j' < sz := by
          have := hlen l (List.mem_of_getElem? hi')
          have := (List.getElem?_eq_some_iff.1 hj').1
          omega
        have cellEq : ∀ p, (arr.toList.take (bd.off + (i * sz + j)) ++ us ++ arr.toList.drop (bd.off + (i * sz + j) + us.length)).toArray[p]? = if bd.off + (i * sz + j) ≤ p ∧ p < bd.off + (i * sz + j) + us.length then us[p - (bd.off + (i * sz + j))]? else arr[p]? := fun p => by
          simp only [List.getElem?_toArray, List.append_assoc]
          by_cases hp : p < bd.off + (i * sz + j)
          · rw [if_neg (by omega), List.getElem?_append_left (by simp; omega), List.getElem?_take_of_lt hp]
            simp
          · rw [List.getElem?_append_right (by simp; omega)]
            have e1 : p - (arr.toList.take (bd.off + (i * sz + j))).length = p - (bd.off + (i * sz + j)) := by simp; omega
            rw [e1]
            by_cases hp2 : p < bd.off + (i * sz + j) + us.length
            · rw [if_pos (by omega), List.getElem?_append_left (by omega)]
            · rw [if_neg (by omega), List.getElem?_append_right (by omega), List.getElem?_drop]
              simp only [Array.getElem?_toList]
              congr 1
              omega
        rw [cellEq]
        simp only [setCells, List.getElem?_modify] at hi'
        cases hxs : xs[i']? with
        | none => rw [hxs] at hi'; simp at hi'
        | some l0 =>
          rw [hxs] at hi'
          have hl0 := g4 l0 (List.mem_of_getElem? hxs)
          by_cases hii : i = i'
          · subst hii
            simp only [if_true, Option.map_some, Option.some.injEq, Option.map_eq_map] at hi'
            subst hi'
            by_cases hin : j ≤ j' ∧ j' < j + n
            · rw [if_pos (by omega)]
              have e2 : bd.off + (i * sz + j') - (bd.off + (i * sz + j)) = j' - j := by omega
              rw [e2]
              have hd' : m[j' - j]? = some d := by
                simp only [splice, List.append_assoc] at hj'
                rw [List.getElem?_append_right (by simp; omega), List.getElem?_append_left (by simp; omega)] at hj'
                have e3 : j' - (l0.take j).length = j' - j := by simp; omega
                rwa [e3] at hj'
              obtain ⟨v, q1, q2, q3⟩ := h6.data (j' - j) d hd'
              exact ⟨v, q1, q2, q3.mono (fun _ x => x) (fun b hb => hok b hb _)⟩
            · rw [if_neg (by omega)]
              have hd' : l0[j']? = some d := by
                simp only [splice, List.append_assoc] at hj'
                by_cases hlt : j' < j
                · rw [List.getElem?_append_left (by simp; omega), List.getElem?_take_of_lt hlt] at hj'
                  exact hj'
                · rw [List.getElem?_append_right (by simp; omega), List.getElem?_append_right (by simp; omega), List.getElem?_drop] at hj'
                  rw [← hj']
                  congr 1
                  simp
                  omega
              obtain ⟨v, q1, q2, q3⟩ := k5 i j' l0 d hxs hd'
              exact ⟨v, q1, q2, q3.mono (fun _ x => x) (fun b hb => hok b hb _)⟩
          · simp only [hii, if_false, Option.map_some, Option.some.injEq, Option.map_eq_map, _root_.id] at hi'
            subst hi'
            have hne : ¬ (bd.off + (i * sz + j) ≤ bd.off + (i' * sz + j') ∧ bd.off + (i' * sz + j') < bd.off + (i * sz + j) + us.length) := by
              rintro ⟨q1, q2⟩
              rcases Nat.lt_or_gt_of_ne hii with hlt | hlt
              · have : (i + 1) * sz ≤ i' * sz := Nat.mul_le_mul_right _ hlt
                rw [Nat.add_mul] at this
                omega
              · have : (i' + 1) * sz ≤ i * sz := Nat.mul_le_mul_right _ hlt
                rw [Nat.add_mul] at this
                omega
            rw [if_neg hne]
            obtain ⟨v, q1, q2, q3⟩ := k5 i' j' l0 d hxs hj'
            exact ⟨v, q1, q2, q3.mono (fun _ x => x) (fun b hb => hok b hb _)⟩
    have hkeep : Keeps (fun b => (HE.row e sz ver xs).occ bd = some b) w (w.setRow bd.blk (arr.toList.take (bd.off + (i * sz + j)) ++ us ++ arr.toList.drop (bd.off + (i * sz + j) + us.length)).toArray) := by
      have := Keeps.setRow w bd.blk (arr.toList.take (bd.off + (i * sz + j)) ++ us ++ arr.toList.drop (bd.off + (i * sz + j) + us.length)).toArray
      simp only [HE.occ, hlive, if_true]
      exact this
    have hst := hs.rebind hh h1 (BdLe.refl bd) hkeep hsat (fun b e => .inl e)
    refine ⟨_, _, ?_, hst⟩
    have hsz : ¬ ((a.eval y).cells.size ≠ n) := by rw [h5]; simpa using hul
    simp only [execOp, hop, h2, Instr.storeAt, Instr.sureAddr, storeVar, Sem.run_bind, Sem.run_pure, Result.andThen_ok, T.size]
    rw [Sem.run_ite, if_neg hsz]
    simp only [h5, hrun, Sem.run_pure, Result.andThen_ok]
end
end Go.Proofs.YthjmmofafpahhaaGreat.Sx
