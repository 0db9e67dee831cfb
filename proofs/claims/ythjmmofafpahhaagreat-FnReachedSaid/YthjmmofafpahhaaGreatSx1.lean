/- The symbolic layer: control flow, regions, operations that only compute or read. Program-independent. -/
import Derived.Test.YthjmmofafpahhaaGreatSx0
namespace Go.Proofs.YthjmmofafpahhaaGreat.Sx
open Go Go.RowKit
set_option linter.unusedVariables false
set_option linter.unusedSimpArgs false

/-! ### Control flow -/
section control
variable {P : Program} {Γ : Ctx} {Q : SE → S → Prop} {σ : S}

def thenQ (P : Program) (Γ : Ctx) (c : Code) (Q : SE → S → Prop) : SE → S → Prop
  | .normal, σ => Run P Γ c Q σ
  | .exit i, σ => Q (.exit i) σ
  | .goto l, σ => Q (.goto l) σ
  | .ret, σ => Q .ret σ

theorem run_seq {x y : Code} (h : Run P Γ x (thenQ P Γ y Q) σ) : Run P Γ (.seq x y) Q σ := by
  intro a w hs
  refine wp_seq (wp_mono (h a w hs) fun e a' w' q => ?_)
  cases e with
  | normal => obtain ⟨σ', h1, h2⟩ := q; exact h1 a' w' h2
  | exit i => exact q
  | goto l => exact q
  | ret => exact q
  | panic ch => exact q.elim
  | outgrown => exact q.elim

theorem then_normal {c : Code} (h : Run P Γ c Q σ) : thenQ P Γ c Q .normal σ := h
theorem then_ret {c : Code} (h : Q .ret σ) : thenQ P Γ c Q .ret σ := h
theorem then_exit {c : Code} {i : Nat} (h : Q (.exit i) σ) : thenQ P Γ c Q (.exit i) σ := h
theorem then_goto {c : Code} {i : Nat} (h : Q (.goto i) σ) : thenQ P Γ c Q (.goto i) σ := h

theorem run_skip (h : Q .normal σ) : Run P Γ .skip Q σ := fun a w hs => wp_skip ⟨σ, h, hs⟩
theorem run_label {l : Nat} (h : Q .normal σ) : Run P Γ (.label l) Q σ := fun a w hs => wp_label ⟨σ, h, hs⟩
theorem run_ret (h : Q .ret σ) : Run P Γ .ret Q σ := fun a w hs => wp_ret ⟨σ, h, hs⟩
theorem run_exit {i : Nat} (h : Q (.exit i) σ) : Run P Γ (.exit i) Q σ := fun a w hs => wp_exit ⟨σ, h, hs⟩

theorem StB.eval {B : Nat → Option Bd} {ok : Nat → Prop} {a : Act} {w : World} (h : StB Γ B ok σ a w) : ∀ {x : Operand} {av : AV}, σ.get x = some av → RelA B ok w av (a.eval x)
  | .tmp t, av, hx => (h.env t av hx).2
  | .const v, av, hx => by
    simp only [S.get, Option.some.injEq] at hx
    subst hx
    exact RelA.cv v
  | .func f, av, hx => by
    simp only [S.get, Option.some.injEq] at hx
    subst hx
    exact ⟨[], rfl, rfl⟩
  | .global g, av, hx => by cases hx

theorem StB.evalc {B : Nat → Option Bd} {ok : Nat → Prop} {a : Act} {w : World} (h : StB Γ B ok σ a w) {x : Operand} {v : Value} (hx : σ.get x = some (.d (.c v))) : a.eval x = v := by
  have := h.eval hx
  cases this
  rfl

theorem StB.evalb {B : Nat → Option Bd} {ok : Nat → Prop} {a : Act} {w : World} (h : StB Γ B ok σ a w) {x : Operand} {b : Bool} (hx : σ.get x = some (.bl b)) : a.eval x = .bool b := h.eval hx
theorem StB.evalp {B : Nat → Option Bd} {ok : Nat → Prop} {a : Act} {w : World} (h : StB Γ B ok σ a w) {x : Operand} {p : Prop} (hx : σ.get x = some (.pr p)) : ∃ b, a.eval x = .bool b ∧ (b = true ↔ p) := h.eval hx

theorem run_cond_b {c : Operand} {x y : Code} {b : Bool} (hc : σ.get c = some (.bl b)) (ht : b = true → Run P Γ x Q σ) (hf : b = false → Run P Γ y Q σ) : Run P Γ (.cond c x y) Q σ := by
  intro a w hs
  obtain ⟨B, ok, h⟩ := hs
  exact wp_cond_split (h.evalb hc) (fun e => ht e a w ⟨B, ok, h⟩) (fun e => hf e a w ⟨B, ok, h⟩)
theorem run_cond_pr {c : Operand} {x y : Code} {p : Prop} (hc : σ.get c = some (.pr p)) (ht : p → Run P Γ x Q σ) (hf : ¬ p → Run P Γ y Q σ) : Run P Γ (.cond c x y) Q σ := by
  intro a w hs
  obtain ⟨B, ok, h⟩ := hs
  obtain ⟨b, h1, h2⟩ := h.evalp hc
  exact wp_cond_split h1 (fun e => ht (h2.1 e) a w ⟨B, ok, h⟩) (fun e => hf (fun hp => by rw [h2.2 hp] at e; cases e) a w ⟨B, ok, h⟩)
theorem run_cond {c : Operand} {x y : Code} {b : Bool} (hc : σ.get c = some (.d (.c (.bool b)))) (ht : b = true → Run P Γ x Q σ) (hf : b = false → Run P Γ y Q σ) : Run P Γ (.cond c x y) Q σ := by
  intro a w hs
  obtain ⟨B, ok, h⟩ := hs
  exact wp_cond_split (h.evalc hc) (fun e => ht e a w ⟨B, ok, h⟩) (fun e => hf e a w ⟨B, ok, h⟩)

def blockQ (i : Nat) (Q : SE → S → Prop) : SE → S → Prop
  | .exit j, σ => bif Nat.beq j i then Q .normal σ else Q (.exit j) σ
  | .normal, σ => Q .normal σ
  | .goto l, σ => Q (.goto l) σ
  | .ret, σ => Q .ret σ

theorem run_block {i : Nat} {c : Code} (h : Run P Γ c (blockQ i Q) σ) : Run P Γ (.block i c) Q σ := by
  intro a w hs
  refine wp_block (wp_mono (h a w hs) fun e a' w' q => ?_)
  cases e with
  | normal => exact q
  | exit j =>
    obtain ⟨σ', h1, h2⟩ := q
    simp only [Exit.inBlock]
    by_cases hj : j = i
    · rw [if_pos hj]
      have hb : Nat.beq j i = true := by rw [hj]; exact Nat.beq_refl i
      simp only [blockQ, hb, cond_true] at h1
      exact ⟨σ', h1, h2⟩
    · rw [if_neg hj]
      have hb : Nat.beq j i = false := by
        cases hbb : Nat.beq j i with
        | true => exact absurd (Nat.eq_of_beq_eq_true hbb) hj
        | false => rfl
      simp only [blockQ, hb, cond_false] at h1
      exact ⟨σ', h1, h2⟩
  | goto l => exact q
  | ret => exact q
  | panic ch => exact q.elim
  | outgrown => exact q.elim

theorem block_normal {i : Nat} (h : Q .normal σ) : blockQ i Q .normal σ := h
theorem block_ret {i : Nat} (h : Q .ret σ) : blockQ i Q .ret σ := h
theorem block_goto {i l : Nat} (h : Q (.goto l) σ) : blockQ i Q (.goto l) σ := h
theorem block_out {i : Nat} (h : Q .normal σ) : blockQ i Q (.exit i) σ := by
  simp only [blockQ, Nat.beq_refl, cond_true]
  exact h
theorem block_on {i j : Nat} (hn : Nat.beq j i = false) (h : Q (.exit j) σ) : blockQ i Q (.exit j) σ := by
  simp only [blockQ, hn, cond_false]
  exact h

/-- Every machine state that σ tells of, σ' tells of. -/
def Sub (Γ : Ctx) (σ σ' : S) : Prop := ∀ a w, St Γ σ a w → St Γ σ' a w

def loopQ (Γ : Ctx) {α : Type} (I : α → S) (p : α → Prop) (μ : α → Nat) (m : Nat) (Q : SE → S → Prop) : SE → S → Prop
  | .normal, σ => ∃ y, p y ∧ μ y < m ∧ Sub Γ σ (I y)
  | .exit i, σ => Q (.exit i) σ
  | .goto l, σ => Q (.goto l) σ
  | .ret, σ => Q .ret σ

theorem run_loop {c : Code} {α : Type} (I : α → S) (p : α → Prop) (μ : α → Nat) (x0 : α) (h0 : p x0) (hs0 : Sub Γ σ (I x0))
    (round : ∀ x, p x → Run P Γ c (loopQ Γ I p μ (μ x) Q) (I x)) : Run P Γ (.loop c) Q σ := by
  intro a w hs b k cs
  have key : ∀ n x a w, μ x = n → p x → St Γ (I x) a w →
      ∃ e a' w', Post Γ Q e a' w' ∧ Arrives P (lone (b.at a (.code c :: .inLoop c :: k)) cs w) b k cs e a' w' := by
    intro n
    induction n using Nat.strongRecOn with
    | _ n ih =>
      intro x a w hn hp hst
      obtain ⟨e, a₁, w₁, hq, harr⟩ := round x hp a w hst b (.inLoop c :: k) cs
      cases e with
      | normal =>
        obtain ⟨σ', ⟨y, hpy, hlt, hsub⟩, hst'⟩ := hq
        obtain ⟨e₂, a₂, w₂, hq₂, harr₂⟩ := ih (μ y) (hn ▸ hlt) y a₁ w₁ rfl hpy (hsub _ _ hst')
        exact ⟨e₂, a₂, w₂, hq₂, .of_steps (Steps.trans harr (.one step_inLoop)) harr₂⟩
      | exit id => exact ⟨.exit id, a₁, w₁, hq, .pass (x := .inLoop c) rfl (fun _ _ => .inl (by simp)) harr⟩
      | goto l => exact ⟨.goto l, a₁, w₁, hq, .pass (x := .inLoop c) rfl (fun _ _ => .inl (by simp)) harr⟩
      | ret => exact ⟨.ret, a₁, w₁, hq, .pass (x := .inLoop c) rfl (fun _ _ => .inl (by simp)) harr⟩
      | panic ch => exact hq.elim
      | outgrown => exact hq.elim
  obtain ⟨e, a', w', hq, harr⟩ := key _ x0 a w rfl h0 (hs0 _ _ hs)
  exact ⟨e, a', w', hq, .of_steps (.one step_loop) harr⟩

/-- A cut: from σ the first part comes to states that σ1 tells of. -/
theorem run_sub {c : Code} {σ' : S} (hs : Sub Γ σ σ') (h : Run P Γ c Q σ') : Run P Γ c Q σ := fun a w hst => h a w (hs a w hst)

def cutQ (Γ : Ctx) {α : Type} (I : α → S) (p : α → Prop) (Q : SE → S → Prop) : SE → S → Prop
  | .normal, σ => ∃ y, p y ∧ Sub Γ σ (I y)
  | .exit i, σ => Q (.exit i) σ
  | .goto l, σ => Q (.goto l) σ
  | .ret, σ => Q .ret σ

theorem run_cut {x y : Code} {α : Type} (I : α → S) (p : α → Prop) (h : Run P Γ x (cutQ Γ I p Q) σ) (h2 : ∀ z, p z → Run P Γ y Q (I z)) : Run P Γ (.seq x y) Q σ := by
  refine run_seq fun a w hs => wp_mono (h a w hs) fun e a' w' q => ?_
  cases e with
  | normal =>
    obtain ⟨σ', ⟨z, hp, hsub⟩, hst⟩ := q
    exact ⟨I z, h2 z hp, hsub _ _ hst⟩
  | exit i => exact q
  | goto l => exact q
  | ret => exact q
  | panic ch => exact q.elim
  | outgrown => exact q.elim
end control

/-! ### Weakening -/
mutual
def AV.lt (n : Nat) : AV → Prop
  | .d _ => True
  | .ptr id _ => id < n
  | .rp _ _ _ _ => True
  | .row id _ => id < n
  | .rowv id _ _ _ => id < n
  | .wp id _ _ _ => id < n
  | .agg cs => AV.lts n cs
  | .tup cs => AV.lts n cs
  | .clo _ caps => AV.lts n caps
  | .mp id => id < n
  | .bl _ => True
  | .pr _ => True
  | .tp _ _ _ => True
  | .any => True
def AV.lts (n : Nat) : List AV → Prop
  | [] => True
  | a :: as => AV.lt n a ∧ AV.lts n as
end

def HE.lt (n : Nat) : HE → Prop
  | .cells _ cs => AV.lts n cs
  | .row _ _ _ _ => True
  | .trow _ _ _ _ => True
  | .imap _ _ => True

mutual
def AV.ltb (n : Nat) : AV → Bool
  | .d _ => true
  | .ptr id _ => Nat.blt id n
  | .rp _ _ _ _ => true
  | .row id _ => Nat.blt id n
  | .rowv id _ _ _ => Nat.blt id n
  | .wp id _ _ _ => Nat.blt id n
  | .agg cs => AV.ltbs n cs
  | .tup cs => AV.ltbs n cs
  | .clo _ caps => AV.ltbs n caps
  | .mp id => Nat.blt id n
  | .bl _ => true
  | .pr _ => true
  | .tp _ _ _ => true
  | .any => true
def AV.ltbs (n : Nat) : List AV → Bool
  | [] => true
  | a :: as => and (AV.ltb n a) (AV.ltbs n as)
end
def HE.ltb (n : Nat) : HE → Bool
  | .cells _ cs => AV.ltbs n cs
  | .row _ _ _ _ => true
  | .trow _ _ _ _ => true
  | .imap _ _ => true
mutual
theorem AV.ltb_spec {n : Nat} : ∀ (a : AV), AV.ltb n a = true → AV.lt n a
  | .d _, _ => trivial
  | .ptr _ _, h => Nat.le_of_ble_eq_true h
  | .rp _ _ _ _, _ => trivial
  | .row _ _, h => Nat.le_of_ble_eq_true h
  | .rowv _ _ _ _, h => Nat.le_of_ble_eq_true h
  | .wp _ _ _ _, h => Nat.le_of_ble_eq_true h
  | .agg cs, h => AV.ltbs_spec cs h
  | .tup cs, h => AV.ltbs_spec cs h
  | .clo _ caps, h => AV.ltbs_spec caps h
  | .mp _, h => Nat.le_of_ble_eq_true h
  | .bl _, _ => trivial
  | .pr _, _ => trivial
  | .tp _ _ _, _ => trivial
  | .any, _ => trivial
theorem AV.ltbs_spec {n : Nat} : ∀ (as : List AV), AV.ltbs n as = true → AV.lts n as
  | [], _ => trivial
  | a :: as, h => by
    simp only [AV.ltbs, Bool.and_eq_true] at h
    exact ⟨AV.ltb_spec a h.1, AV.ltbs_spec as h.2⟩
end
theorem HE.ltb_spec {n : Nat} {he : HE} (h : HE.ltb n he = true) : HE.lt n he := by
  cases he with
  | cells ty cs => exact AV.ltbs_spec cs h
  | row => trivial
  | trow => trivial
  | imap => trivial

def subE (e : List (Nat × AV)) : List (Nat × AV) → Prop
  | [] => True
  | (t, av) :: r => lk e t = some av ∧ subE e r
def subH (h : List (Nat × HE)) (n : Nat) : List (Nat × HE) → Prop
  | [] => True
  | (i, he) :: r => lk h i = some he ∧ i < n ∧ HE.lt n he ∧ subH h n r
def ltsE (n : Nat) : List (Nat × AV) → Prop
  | [] => True
  | (_, av) :: r => AV.lt n av ∧ ltsE n r

theorem subE_spec {e : List (Nat × AV)} : ∀ {l : List (Nat × AV)}, subE e l → ∀ t av, lk l t = some av → lk e t = some av
  | (k, v) :: r, h, t, av, hl => by
    unfold lk at hl
    cases hb : Nat.beq k t with
    | true =>
      obtain rfl := Nat.eq_of_beq_eq_true hb
      rw [hb] at hl
      simp only [cond_true, Option.some.injEq] at hl
      subst hl
      exact h.1
    | false =>
      rw [hb] at hl
      exact subE_spec h.2 t av hl
theorem ltsE_spec {n : Nat} : ∀ {l : List (Nat × AV)}, ltsE n l → ∀ t av, lk l t = some av → AV.lt n av
  | (k, v) :: r, h, t, av, hl => by
    unfold lk at hl
    cases hb : Nat.beq k t with
    | true =>
      rw [hb] at hl
      simp only [cond_true, Option.some.injEq] at hl
      subst hl
      exact h.1
    | false =>
      rw [hb] at hl
      exact ltsE_spec h.2 t av hl
theorem subH_spec {h : List (Nat × HE)} {n : Nat} : ∀ {l : List (Nat × HE)}, subH h n l → ∀ i he, (i, he) ∈ l → lk h i = some he ∧ i < n ∧ HE.lt n he
  | (k, v) :: r, hs, i, he, hm => by
    rcases List.mem_cons.1 hm with e | hm
    · cases e; exact ⟨hs.1, hs.2.1, hs.2.2.1⟩
    · exact subH_spec hs.2.2.2 i he hm

def subHb (h : List (Nat × HE)) (n : Nat) : List (Nat × HE) → Prop
  | [] => True
  | (i, he) :: r => lk h i = some he ∧ (and (Nat.blt i n) (HE.ltb n he)) = true ∧ subHb h n r
def ltsEb (n : Nat) : List (Nat × AV) → Bool
  | [] => true
  | (_, av) :: r => and (AV.ltb n av) (ltsEb n r)
theorem ltsEb_spec {n : Nat} : ∀ {l : List (Nat × AV)}, ltsEb n l = true → ltsE n l
  | [], _ => trivial
  | (_, av) :: r, h => by
    simp only [ltsEb, Bool.and_eq_true] at h
    exact ⟨AV.ltb_spec av h.1, ltsEb_spec h.2⟩
theorem subHb_spec {h : List (Nat × HE)} {n : Nat} : ∀ {l : List (Nat × HE)}, subHb h n l → subH h n l
  | [], _ => trivial
  | (i, he) :: r, hs => by
    obtain ⟨h1, h2, h3⟩ := hs
    simp only [Bool.and_eq_true] at h2
    exact ⟨h1, Nat.le_of_ble_eq_true h2.1, HE.ltb_spec h2.2, subHb_spec h3⟩

/-- A binding cut off at n. -/
def cutB (n : Nat) (B : Nat → Option Bd) : Nat → Option Bd := fun i => if i < n then B i else none

theorem cutB_lt {n : Nat} {B : Nat → Option Bd} {i : Nat} (h : i < n) : cutB n B i = B i := if_pos h
section
variable {B : Nat → Option Bd} {ok : Nat → Prop} {w : World} {n : Nat}
mutual
theorem RelA.cutB : ∀ (a : AV) (v : Value), AV.lt n a → RelA B ok w a v → RelA (cutB n B) ok w a v
  | .d x, v, _, h => h
  | .ptr id off, v, hl, h => by obtain ⟨hc, bd, h1, h2⟩ := h; exact ⟨hc, bd, (cutB_lt hl).trans h1, h2⟩
  | .rp sz xs i j, v, _, h => h
  | .row id ver, v, hl, h => by obtain ⟨hc, bd, h1, h2⟩ := h; exact ⟨hc, bd, (cutB_lt hl).trans h1, h2⟩
  | .rowv id ver off len, v, hl, h => by obtain ⟨hc, bd, h1, h2⟩ := h; exact ⟨hc, bd, (cutB_lt hl).trans h1, h2⟩
  | .wp id ver i j, v, hl, h => by obtain ⟨hc, bd, h1, h2⟩ := h; exact ⟨hc, bd, (cutB_lt hl).trans h1, h2⟩
  | .agg cs, v, hl, h => by obtain ⟨vs, h1, h2⟩ := h; exact ⟨vs, h1, RelAs.cutB cs vs hl h2⟩
  | .tup cs, v, hl, h => by obtain ⟨vs, h1, h2⟩ := h; exact ⟨vs, h1, RelTs.cutB cs vs hl h2⟩
  | .clo f caps, v, hl, h => by obtain ⟨vs, h1, h2⟩ := h; exact ⟨vs, h1, RelTs.cutB caps vs hl h2⟩
  | .mp id, v, hl, h => by obtain ⟨hc, bd, h1, h2⟩ := h; exact ⟨hc, bd, (cutB_lt hl).trans h1, h2⟩
  | .bl _, _, _, h => h
  | .pr _, _, _, h => h
  | .tp _ _ _, _, _, h => h
  | .any, _, _, _ => trivial
theorem RelAs.cutB : ∀ (as : List AV) (vs : List Value), AV.lts n as → RelAs B ok w as vs → RelAs (cutB n B) ok w as vs
  | [], vs, _, h => h
  | a :: as, vs, hl, h => by obtain ⟨v, vs', h1, h2, h3, h4⟩ := h; exact ⟨v, vs', h1, h2, RelA.cutB a v hl.1 h3, RelAs.cutB as vs' hl.2 h4⟩
theorem RelTs.cutB : ∀ (as : List AV) (vs : List Value), AV.lts n as → RelTs B ok w as vs → RelTs (cutB n B) ok w as vs
  | [], vs, _, h => h
  | a :: as, vs, hl, h => by obtain ⟨v, vs', h1, h3, h4⟩ := h; exact ⟨v, vs', h1, RelA.cutB a v hl.1 h3, RelTs.cutB as vs' hl.2 h4⟩
end
theorem SatE.cutB {bd : Bd} {he : HE} (hl : HE.lt n he) (h : SatE B ok w bd he) : SatE (cutB n B) ok w bd he := by
  cases he with
  | cells ty cs => obtain ⟨h0, vs, h1, h2⟩ := h; exact ⟨h0, vs, h1, RelAs.cutB _ _ hl h2⟩
  | row e sz ver xs => exact h
  | trow q e ver ws => exact h
  | imap q es => exact h
end

/-- The ids handed in are kept: k0 of them. -/
structure Ctx.ids (Γ : Ctx) (k0 : Nat) : Prop where
  none : ∀ id, k0 ≤ id → Γ.B0 id = none
  low : ∀ id bd, Γ.B0 id = some bd → bd.ver = 0

theorem sub_of {Γ : Ctx} {k0 : Nat} (hk : Γ.ids k0) {σ σ' : S} (he : subE σ.env σ'.env) (hle : ltsE σ'.next σ'.env) (hh : subH σ.heap σ'.next σ'.heap) (hn : Nat.ble σ'.next σ.next = true) (h0 : Nat.ble k0 σ'.next = true) : Sub Γ σ σ' := by
  rintro a w ⟨B, ok, h⟩
  have hk0 : k0 ≤ σ'.next := Nat.le_of_ble_eq_true h0
  refine ⟨Sx.cutB σ'.next B, ok, ⟨h.defers, h.size, ?_, fun t av hl => ?_, h.keeps, h.ok1, h.ok2, ?_, ?_, ?_⟩⟩
  · have hin : ∀ i x, (i, x) ∈ σ'.heap → (i, x) ∈ σ.heap ∧ i < σ'.next ∧ HE.lt σ'.next x := fun i x hm => ⟨lk_mem (subH_spec hh i x hm).1, (subH_spec hh i x hm).2.1, (subH_spec hh i x hm).2.2⟩
    have hb : ∀ i bd, i < σ'.next → Sx.cutB σ'.next B i = some bd → B i = some bd := fun i bd hi e => by unfold Sx.cutB at e; rwa [if_pos hi] at e
    refine ⟨fun i x hm => ?_, fun i x j y hx hy hne bi bj hbi hbj b hxb => ?_, fun i x hm bd hbd b hob => ?_, h.heap.okb, fun i x y hx hy => h.heap.uniq i x y (hin i x hx).1 (hin i y hy).1⟩
    · obtain ⟨h1, h2, h3⟩ := hin i x hm
      obtain ⟨bd, g1, g2⟩ := h.heap.sat i x h1
      exact ⟨bd, by unfold Sx.cutB; rw [if_pos h2]; exact g1, g2.cutB h3⟩
    · exact h.heap.apart i x j y (hin i x hx).1 (hin j y hy).1 hne bi bj (hb _ _ (hin i x hx).2.1 hbi) (hb _ _ (hin j y hy).2.1 hbj) b hxb
    · exact h.heap.avoid i x (hin i x hm).1 bd (hb _ _ (hin i x hm).2.1 hbd) b hob
  · have := h.env t av (subE_spec he t av hl)
    exact ⟨this.1, RelA.cutB _ _ (ltsE_spec hle t av hl) this.2⟩
  · intro i x hm bd hbd b hob
    have h2 := (subH_spec hh i x hm).2.1
    refine h.own i x (lk_mem (subH_spec hh i x hm).1) bd ?_ b hob
    unfold Sx.cutB at hbd
    rwa [if_pos h2] at hbd
  · intro id bd hbd
    obtain ⟨bd', h1, h2⟩ := h.ble id bd hbd
    refine ⟨bd', ?_, h2⟩
    unfold Sx.cutB
    rw [if_pos]
    · exact h1
    · apply Nat.lt_of_not_le
      intro hge
      have := hk.none id (by omega)
      rw [this] at hbd
      cases hbd
  · intro id hid
    unfold Sx.cutB
    rw [if_neg (by omega)]

theorem sub_b {Γ : Ctx} {k0 : Nat} (hk : Γ.ids k0) {σ σ' : S} (hle : ltsEb σ'.next σ'.env = true) (hn : (and (Nat.ble σ'.next σ.next) (Nat.ble k0 σ'.next)) = true) (he : subE σ.env σ'.env) (hh : subHb σ.heap σ'.next σ'.heap) : Sub Γ σ σ' := by
  simp only [Bool.and_eq_true] at hn
  exact sub_of hk he (ltsEb_spec hle) (subHb_spec hh) hn.1 hn.2

theorem Sub.refl {Γ : Ctx} {σ : S} : Sub Γ σ σ := fun _ _ h => h

/-! ### Regions -/
def Sops (P : Program) (Γ : Ctx) (ops : Array Oper) (l : List Oper) (Q : SE → S → Prop) (σ : S) : Prop := ∀ a w, St Γ σ a w → wpList P ops (Post Γ Q) l a w

theorem run_region {P : Program} {Γ : Ctx} {id : Nat} {l : List Oper} {Q : SE → S → Prop} {σ : S} (h : Sops P Γ l.toArray l Q σ) : Run P Γ (.region id l.toArray false) Q σ :=
  fun a w hs => wp_region_lit (h a w hs)

theorem sops_nil {P : Program} {Γ : Ctx} {ops : Array Oper} {Q : SE → S → Prop} {σ : S} (h : Q .normal σ) : Sops P Γ ops [] Q σ := fun a w hs => wpList_nil ⟨σ, h, hs⟩

/-- One operation, its guard aside: what follows is K. -/
def Sop (P : Program) (Γ : Ctx) (o : Oper) (K : S → Prop) (σ : S) : Prop :=
  ∀ a w, St Γ σ a w → ∀ (K' : Act → World → Prop) (Q' : Exit → Act → World → Prop), (∀ σ' a w, K σ' → St Γ σ' a w → K' a w) → o.wp P a w K' Q'

/-- The same, where besides no block that was there is written. -/
def SopB (P : Program) (Γ : Ctx) (o : Oper) (K : S → Prop) (σ : S) : Prop :=
  ∀ a w, St Γ σ a w → ∀ (K' : Act → World → Prop) (Q' : Exit → Act → World → Prop), (∀ σ' a w', K σ' → St Γ σ' a w' → Below w.heap.size w w' → K' a w') → o.wp P a w K' Q'
theorem SopB.sop {P : Program} {Γ : Ctx} {o : Oper} {K : S → Prop} {σ : S} (h : SopB P Γ o K σ) : Sop P Γ o K σ :=
  fun a w hs K' Q' hk => h a w hs K' Q' fun σ' a w' h1 h2 _ => hk σ' a w' h1 h2

theorem sops_cons {P : Program} {Γ : Ctx} {ops : Array Oper} {o : Oper} {rest : List Oper} {Q : SE → S → Prop} {σ : S} (hg : o.guard = none) (h : Sop P Γ o (Sops P Γ ops rest Q) σ) : Sops P Γ ops (o :: rest) Q σ :=
  fun a w hs => wpList_plain hg fun K hK => h a w hs K _ fun σ' a' w' k hs' => hK _ _ (k a' w' hs')

def dstOk (nt : Nat) : Option Tmp → Bool
  | some t => Nat.blt t nt
  | none => true

theorem StB.put {Γ : Ctx} {B : Nat → Option Bd} {ok : Nat → Prop} {σ : S} {a : Act} {w : World} (h : StB Γ B ok σ a w) {dst : Option Tmp} (hd : dstOk Γ.nt dst = true) {av : AV} {v : Value} (hv : RelA B ok w av v) :
    StB Γ B ok (σ.put dst av) (a.put dst v) w := by
  cases dst with
  | none => exact h
  | some t =>
    have ht : t < Γ.nt := by
      simp only [dstOk] at hd
      exact Nat.le_of_ble_eq_true hd
    refine ⟨h.defers, by simpa [Act.put] using h.size, h.heap, fun k av' hl => ?_, h.keeps, h.ok1, h.ok2, h.own, h.ble, h.free⟩
    simp only [S.put] at hl
    unfold lk at hl
    cases hb : Nat.beq t k with
    | true =>
      obtain rfl := Nat.eq_of_beq_eq_true hb
      rw [hb] at hl
      simp only [cond_true, Option.some.injEq] at hl
      subst hl
      refine ⟨ht, ?_⟩
      have hsz : t < a.tmps.size := by rw [h.size]; exact ht
      simp only [Act.put, Array.getD_eq_getD_getElem?, Array.getElem?_setIfInBounds_self, hsz, if_true, Option.getD_some]
      exact hv
    | false =>
      rw [hb] at hl
      have hne : t ≠ k := fun e => by rw [e, Nat.beq_refl] at hb; cases hb
      have := h.env k av' hl
      refine ⟨this.1, ?_⟩
      simp only [Act.put, Array.getD_eq_getD_getElem?, Array.getElem?_setIfInBounds_ne hne]
      simpa [Array.getD_eq_getD_getElem?] using this.2

/-- An operation that reads no memory (of those that yield a value alone). -/
def dryO : Op → Bool
  | .load _ _ => false
  | .lookup _ _ _ _ => false
  | _ => true
/-- A pure operation: one value, in every world that has grown from this one; in every world, if it reads no memory. -/
def Pv (P : Program) (Γ : Ctx) (σ : S) (o : Oper) (av : AV) : Prop :=
  ∀ B ok a w, StB Γ B ok σ a w → ∃ v, RelA B ok w av v ∧ ∀ w', (dryO o.op = true ∨ Below w.heap.size w w') → (execOp a.eval o).run P w' = .ok (.value v) w'

theorem sop_pure {P : Program} {Γ : Ctx} {o : Oper} {K : S → Prop} {σ : S} {av : AV} {d : Option Tmp} (h : Pv P Γ σ o av) (he : o.dst = d) (hd : dstOk Γ.nt d = true) (hK : K (σ.put d av)) : Sop P Γ o K σ := by
  subst he
  rintro a w ⟨B, ok, hs⟩ K' Q' hk
  obtain ⟨v, hv, hr⟩ := h B ok a w hs
  unfold Oper.wp
  rw [hr w (.inr (Below.refl _ _))]
  exact hk _ _ _ hK ⟨B, ok, hs.put hd hv⟩

theorem StB.guard {Γ : Ctx} {B : Nat → Option Bd} {ok : Nat → Prop} {σ : S} {a : Act} {w : World} (h : StB Γ B ok σ a w) {ops : Array Oper} {j : Nat} {t : Tmp} (hj : (ops[j]?).bind (·.dst) = some t) {av : AV} (ht : lk σ.env t = some av) :
    ∃ v, RelA B ok w av v ∧ yielded ops a.tmps j = match v with | .bool b => some b | _ => none := by
  have h1 := h.env t _ ht
  have hlt : t < a.tmps.size := by rw [h.size]; exact h1.1
  refine ⟨_, h1.2, ?_⟩
  simp only [yielded, hj, Option.bind_some]
  rw [Array.getD_eq_getD_getElem?, Array.getElem?_eq_getElem hlt, Option.getD_some]
  cases a.tmps[t] <;> rfl

/-- What is known of a Bool. -/
theorem StB.know {Γ : Ctx} {B : Nat → Option Bd} {ok : Nat → Prop} {σ : S} {a : Act} {w : World} (h : StB Γ B ok σ a w) {t : Tmp} {av : AV} (ht : lk σ.env t = some av) {av' : AV} (e : ∀ v, RelA B ok w av v → a.tmps.getD t undef = v → RelA B ok w av' v) : StB Γ B ok (σ.put (some t) av') a w := by
  refine ⟨h.defers, h.size, h.heap, fun k av2 hl => ?_, h.keeps, h.ok1, h.ok2, h.own, h.ble, h.free⟩
  simp only [S.put] at hl
  unfold lk at hl
  cases hb : Nat.beq t k with
  | true =>
    obtain rfl := Nat.eq_of_beq_eq_true hb
    rw [hb] at hl
    simp only [cond_true, Option.some.injEq] at hl
    subst hl
    exact ⟨(h.env t _ ht).1, e _ (h.env t _ ht).2 rfl⟩
  | false =>
    rw [hb] at hl
    exact h.env k av2 hl

/-- What a guard's temporary says: the Bool b under p. -/
inductive GVal : AV → Prop → Prop → Prop
  | bool (b : Bool) : GVal (.d (.c (.bool b))) (b = true) (b = false)
  | pr (p : Prop) : GVal (.pr p) p (¬ p)
  | bl (b : Bool) : GVal (.bl b) (b = true) (b = false)
theorem GVal.spec {av : AV} {p q : Prop} (h : GVal av p q) {B : Nat → Option Bd} {ok : Nat → Prop} {w : World} {v : Value} (hr : RelA B ok w av v) : (v = .bool true ∧ p) ∨ (v = .bool false ∧ q) := by
  cases h with
  | bool b =>
    cases hr
    cases b
    · exact .inr ⟨rfl, rfl⟩
    · exact .inl ⟨rfl, rfl⟩
  | bl b =>
    cases hr
    cases b
    · exact .inr ⟨rfl, rfl⟩
    · exact .inl ⟨rfl, rfl⟩
  | pr p =>
    obtain ⟨b, rfl, h2⟩ := hr
    cases b
    · exact .inr ⟨rfl, fun hp => by cases h2.2 hp⟩
    · exact .inl ⟨rfl, h2.1 rfl⟩

/-- A guarded operation. -/
theorem sops_guard {P : Program} {Γ : Ctx} {ops : Array Oper} {o : Oper} {rest : List Oper} {Q : SE → S → Prop} {σ : S} {j : Nat} {want : Bool} {t : Tmp} {av : AV} {p q : Prop} (hg : o.guard = some (j, want)) (hj : (ops[j]?).bind (·.dst) = some t)
    (ht : lk σ.env t = some av) (hv : GVal av p q) {d : Option Tmp} (he : o.dst = d) (hd : dstOk Γ.nt d = true) (h1 : (bif want then p else q) → Sop P Γ o (Sops P Γ ops rest Q) (σ.put (some t) (.bl want))) (h2 : (bif want then q else p) → Sops P Γ ops rest Q ((σ.put (some t) (.bl (!want))).put d (.tup []))) : Sops P Γ ops (o :: rest) Q σ := by
  subst he
  rintro a w ⟨B, ok, hs⟩
  obtain ⟨v, hv1, hy⟩ := hs.guard hj ht
  have hv2 := (hs.env t _ ht).2
  have key : ∀ b : Bool, a.tmps.getD t undef = .bool b → StB Γ B ok (σ.put (some t) (.bl b)) a w := fun b e => hs.know ht fun u _ e' => by rw [← e', e]; rfl
  have hyb : ∀ b : Bool, a.tmps.getD t undef = .bool b → yielded ops a.tmps j = some b := fun b e => by
    have hlt : t < a.tmps.size := by rw [hs.size]; exact (hs.env t _ ht).1
    simp only [yielded, hj, Option.bind_some]
    rw [Array.getD_eq_getD_getElem?, Array.getElem?_eq_getElem hlt, Option.getD_some] at e
    rw [Array.getElem?_eq_getElem hlt, e]
  refine wpList_step fun K hK => ?_
  have run : ∀ b : Bool, a.tmps.getD t undef = .bool b → (b = want → Sop P Γ o (Sops P Γ ops rest Q) (σ.put (some t) (.bl want))) → (b = !want → Sops P Γ ops rest Q ((σ.put (some t) (.bl (!want))).put o.dst (.tup []))) →
      (if Region.wanted o (yielded ops a.tmps) then o.wp P a w K (Post Γ Q) else K (a.put o.dst undef) w) := fun b e g1 g2 => by
    by_cases hb : b = want
    · rw [if_pos (by simp [Region.wanted, hg, hyb b e, hb])]
      subst hb
      exact g1 rfl a w ⟨B, ok, key b e⟩ K _ fun σ' a' w' k hs' => hK _ _ (k a' w' hs')
    · rw [if_neg (by simp [Region.wanted, hg, hyb b e, hb])]
      have hb' : b = !want := by cases b <;> cases want <;> simp_all
      exact hK _ _ (g2 hb' _ _ ⟨B, ok, (hb' ▸ key b e).put hd ⟨[], rfl, rfl⟩⟩)
  rcases hv.spec hv2 with ⟨e, hp⟩ | ⟨e, hq⟩
  · refine run true e (fun hw => h1 (by rw [← hw]; exact hp)) (fun hw => h2 (by cases want with | true => cases hw | false => exact hp))
  · refine run false e (fun hw => h1 (by rw [← hw]; exact hq)) (fun hw => h2 (by cases want with | true => exact hq | false => cases hw))

/-- A guarded operation whose guard was itself passed over. -/
theorem sops_guard_not {P : Program} {Γ : Ctx} {ops : Array Oper} {o : Oper} {rest : List Oper} {Q : SE → S → Prop} {σ : S} {j : Nat} {want : Bool} {t : Tmp} (hg : o.guard = some (j, want)) (hj : (ops[j]?).bind (·.dst) = some t)
    (ht : lk σ.env t = some (.tup [])) {d : Option Tmp} (he : o.dst = d) (hd : dstOk Γ.nt d = true) (h2 : Sops P Γ ops rest Q (σ.put d (.tup []))) : Sops P Γ ops (o :: rest) Q σ := by
  subst he
  rintro a w ⟨B, ok, hs⟩
  obtain ⟨v, ⟨vs, rfl, rfl⟩, hy⟩ := hs.guard hj ht
  refine wpList_step fun K hK => ?_
  rw [if_neg (by simp [Region.wanted, hg, hy])]
  exact hK _ _ (h2 _ _ ⟨B, ok, hs.put hd ⟨[], rfl, rfl⟩⟩)

/-! ### Regions that draw their order and only read -/
theorem StB.below {Γ : Ctx} {B : Nat → Option Bd} {ok : Nat → Prop} {σ : S} {a : Act} {w w' : World} (h : StB Γ B ok σ a w) (hb : Below w.heap.size w w') : StB Γ B ok σ a w' := by
  have hw : ∀ b, ok b → w'.heap[b]? = w.heap[b]? := fun b hk => hb.block b (h.heap.okb b hk)
  refine ⟨h.defers, h.size, ⟨fun i x hm => ?_, h.heap.apart, h.heap.avoid, fun b hk => Nat.lt_of_lt_of_le (h.heap.okb b hk) hb.size, h.heap.uniq⟩, fun t av hl => ⟨(h.env t av hl).1, RelA.mono (BLe.refl _) (fun _ x => x) hw _ _ (h.env t av hl).2⟩, ?_, h.ok1, h.ok2, h.own, h.ble, h.free⟩
  · obtain ⟨bd, h1, h2⟩ := h.heap.sat i x hm
    exact ⟨bd, h1, h2.mono (BLe.refl _) (fun _ x => x) hw (fun b hbo => hb.block b (h2.lt hbo))⟩
  · exact h.keeps.trans ⟨hb.os, hb.tape, hb.output, hb.size, fun k hk _ => hb.block k hk⟩

def Qops (P : Program) (Γ : Ctx) (ops : Array Oper) (l : List Oper) (Q : S → Prop) (σ : S) : Prop :=
  ∀ B ok a w, StB Γ B ok σ a w → wpQuiet P ops (fun w' => Below w.heap.size w w') (fun a' => ∃ σ', Q σ' ∧ StB Γ B ok σ' a' w) l a

theorem run_region_quiet {P : Program} {Γ : Ctx} {id : Nat} {l : List Oper} {Q : SE → S → Prop} {σ : S} (hm : P.follows .mixedOrders = true) (hB : Region.lexB .any l.toArray = true) (h : Qops P Γ l.toArray l (Q .normal) σ) :
    Run P Γ (.region id l.toArray true) Q σ := by
  rintro a w ⟨B, ok, hs⟩
  have h1 := h B ok a w hs
  refine wp_region_quiet (C := fun w' => Below w.heap.size w w') hm hB ⟨rfl, rfl, rfl, Nat.le_refl _, fun _ _ => rfl⟩ ?_
  have aux : ∀ (ops : Array Oper) (l : List Oper) (a : Act), wpQuiet P ops (fun w' => Below w.heap.size w w') (fun a' => ∃ σ', Q .normal σ' ∧ StB Γ B ok σ' a' w) l a →
      wpQuiet P ops (fun w' => Below w.heap.size w w') (fun a' => ∀ w', Below w.heap.size w w' → Post Γ Q .normal a' w') l a := by
    intro ops l
    induction l with
    | nil =>
      intro a ha w' hw'
      obtain ⟨σ', q, st⟩ := ha
      exact ⟨σ', q, B, ok, st.below hw'⟩
    | cons o r ih =>
      intro a ha
      unfold wpQuiet at ha ⊢
      split
      · rename_i hw
        rw [if_pos hw] at ha
        exact Oper.quiet_mono (fun a' => ih a') ha
      · rename_i hw
        rw [if_neg hw] at ha
        exact ih _ ha
  simpa using aux _ l a h1

theorem qops_nil {P : Program} {Γ : Ctx} {ops : Array Oper} {Q : S → Prop} {σ : S} (h : Q σ) : Qops P Γ ops [] Q σ := fun B ok a w hs => ⟨σ, h, hs⟩

/-- One quiet operation, its guard aside. -/
def Qop (P : Program) (Γ : Ctx) (o : Oper) (K : S → Prop) (σ : S) : Prop :=
  ∀ B ok a w, StB Γ B ok σ a w → ∃ v, (∀ w', Below w.heap.size w w' → Oper.quietUpon P (fun w'' => Below w.heap.size w w'') w' v ((execOp a.eval o).run P w')) ∧ ∃ σ', K σ' ∧ StB Γ B ok σ' (a.put o.dst v) w

theorem qops_cons {P : Program} {Γ : Ctx} {ops : Array Oper} {o : Oper} {rest : List Oper} {Q : S → Prop} {σ : S} (hg : o.guard = none) (h : Qop P Γ o (Qops P Γ ops rest Q) σ) : Qops P Γ ops (o :: rest) Q σ := by
  intro B ok a w hs
  obtain ⟨v, h1, σ', h2, h3⟩ := h B ok a w hs
  unfold wpQuiet
  rw [if_pos (by simp [Region.wanted, hg])]
  exact ⟨v, h1, h2 B ok _ w h3⟩

theorem qop_pure {P : Program} {Γ : Ctx} {o : Oper} {K : S → Prop} {σ : S} {av : AV} {d : Option Tmp} (h : Pv P Γ σ o av) (he : o.dst = d) (hd : dstOk Γ.nt d = true) (hK : K (σ.put d av)) : Qop P Γ o K σ := by
  subst he
  intro B ok a w hs
  obtain ⟨v, hv, hr⟩ := h B ok a w hs
  exact ⟨v, fun w' hw' => by rw [hr w' (.inr hw')]; exact ⟨rfl, rfl⟩, _, hK, hs.put hd hv⟩

theorem qops_guard {P : Program} {Γ : Ctx} {ops : Array Oper} {o : Oper} {rest : List Oper} {Q : S → Prop} {σ : S} {j : Nat} {want : Bool} {t : Tmp} {av : AV} {p q : Prop} (hg : o.guard = some (j, want)) (hj : (ops[j]?).bind (·.dst) = some t)
    (ht : lk σ.env t = some av) (hv : GVal av p q) {d : Option Tmp} (he : o.dst = d) (hd : dstOk Γ.nt d = true) (h1 : (bif want then p else q) → Qop P Γ o (Qops P Γ ops rest Q) (σ.put (some t) (.bl want))) (h2 : (bif want then q else p) → Qops P Γ ops rest Q ((σ.put (some t) (.bl (!want))).put d (.tup []))) : Qops P Γ ops (o :: rest) Q σ := by
  subst he
  intro B ok a w hs
  have hv2 := (hs.env t _ ht).2
  have key : ∀ b : Bool, a.tmps.getD t undef = .bool b → StB Γ B ok (σ.put (some t) (.bl b)) a w := fun b e => hs.know ht fun u _ e' => by rw [← e', e]; rfl
  have hyb : ∀ b : Bool, a.tmps.getD t undef = .bool b → yielded ops a.tmps j = some b := fun b e => by
    have hlt : t < a.tmps.size := by rw [hs.size]; exact (hs.env t _ ht).1
    simp only [yielded, hj, Option.bind_some]
    rw [Array.getD_eq_getD_getElem?, Array.getElem?_eq_getElem hlt, Option.getD_some] at e
    rw [Array.getElem?_eq_getElem hlt, e]
  unfold wpQuiet
  have run : ∀ b : Bool, a.tmps.getD t undef = .bool b → (b = want → Qop P Γ o (Qops P Γ ops rest Q) (σ.put (some t) (.bl want))) → (b = !want → Qops P Γ ops rest Q ((σ.put (some t) (.bl (!want))).put o.dst (.tup []))) →
      (if Region.wanted o (yielded ops a.tmps) then o.quiet P a (fun w' => Below w.heap.size w w') (wpQuiet P ops (fun w' => Below w.heap.size w w') (fun a' => ∃ σ', Q σ' ∧ StB Γ B ok σ' a' w) rest) else wpQuiet P ops (fun w' => Below w.heap.size w w') (fun a' => ∃ σ', Q σ' ∧ StB Γ B ok σ' a' w) rest (a.put o.dst undef)) := fun b e g1 g2 => by
    by_cases hb : b = want
    · rw [if_pos (by simp [Region.wanted, hg, hyb b e, hb])]
      subst hb
      obtain ⟨v, k1, σ', k2, k3⟩ := g1 rfl B ok a w (key b e)
      exact ⟨v, k1, k2 B ok _ w k3⟩
    · rw [if_neg (by simp [Region.wanted, hg, hyb b e, hb])]
      have hb' : b = !want := by cases b <;> cases want <;> simp_all
      exact g2 hb' B ok _ w ((hb' ▸ key b e).put hd ⟨[], rfl, rfl⟩)
  rcases hv.spec hv2 with ⟨e, hp⟩ | ⟨e, hq⟩
  · exact run true e (fun hw => h1 (by rw [← hw]; exact hp)) (fun hw => h2 (by cases want with | true => cases hw | false => exact hp))
  · exact run false e (fun hw => h1 (by rw [← hw]; exact hq)) (fun hw => h2 (by cases want with | true => exact hq | false => cases hw))

theorem qops_guard_not {P : Program} {Γ : Ctx} {ops : Array Oper} {o : Oper} {rest : List Oper} {Q : S → Prop} {σ : S} {j : Nat} {want : Bool} {t : Tmp} (hg : o.guard = some (j, want)) (hj : (ops[j]?).bind (·.dst) = some t)
    (ht : lk σ.env t = some (.tup [])) {d : Option Tmp} (he : o.dst = d) (hd : dstOk Γ.nt d = true) (h2 : Qops P Γ ops rest Q (σ.put d (.tup []))) : Qops P Γ ops (o :: rest) Q σ := by
  subst he
  intro B ok a w hs
  obtain ⟨v, ⟨vs, rfl, rfl⟩, hy⟩ := hs.guard hj ht
  unfold wpQuiet
  rw [if_neg (by simp [Region.wanted, hg, hy])]
  exact h2 B ok _ w (hs.put hd ⟨[], rfl, rfl⟩)

end Go.Proofs.YthjmmofafpahhaaGreat.Sx
