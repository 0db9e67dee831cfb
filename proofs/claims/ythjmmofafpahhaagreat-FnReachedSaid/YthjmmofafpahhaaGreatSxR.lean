/- The symbolic layer: a row that is owned, given up: from then on it is only read. Program-independent. -/
import Derived.Test.YthjmmofafpahhaaGreatSxP
namespace Go.Proofs.YthjmmofafpahhaaGreat.Sx
open Go Go.RowKit
set_option linter.unusedVariables false
set_option linter.unusedSimpArgs false

mutual
def AV.frz (id ver : Nat) (d : D) : AV → AV
  | .d x => .d x
  | .ptr i o => .ptr i o
  | .rp a b c e => .rp a b c e
  | .row i v => bif Nat.beq i id && Nat.beq v ver then .d d else .row i v
  | .rowv a b c e => .rowv a b c e
  | .wp a b c e => .wp a b c e
  | .agg cs => .agg (AV.frzs id ver d cs)
  | .tup cs => .tup (AV.frzs id ver d cs)
  | .clo f cs => .clo f (AV.frzs id ver d cs)
  | .mp i => .mp i
  | .bl b => .bl b
  | .pr p => .pr p
  | .tp q ws i => .tp q ws i
  | .any => .any
def AV.frzs (id ver : Nat) (d : D) : List AV → List AV
  | [] => []
  | a :: as => AV.frz id ver d a :: AV.frzs id ver d as
end
def frzE (id ver : Nat) (d : D) : List (Nat × AV) → List (Nat × AV)
  | [] => []
  | (t, a) :: r => (t, AV.frz id ver d a) :: frzE id ver d r
def HE.frz (id ver : Nat) (d : D) : HE → HE
  | .cells ty cs => .cells ty (AV.frzs id ver d cs)
  | .row e sz v xs => .row e sz v xs
  | .trow q e v ws => .trow q e v ws
  | .imap q es => .imap q es
def frzH (id ver : Nat) (d : D) : List (Nat × HE) → List (Nat × HE)
  | [] => []
  | (i, x) :: r => bif Nat.beq i id then frzH id ver d r else (i, HE.frz id ver d x) :: frzH id ver d r
def frz1 (σ : S) (id : Nat) : S := match lk σ.heap id with
  | some (.trow q e ver ws) => ⟨frzE id ver (.tv q ws) σ.env, frzH id ver (.tv q ws) σ.heap, σ.next⟩
  | some (.row e sz ver xs) => ⟨frzE id ver (.arr sz xs) σ.env, frzH id ver (.arr sz xs) σ.heap, σ.next⟩
  | _ => σ
def frzAll : List Nat → S → S
  | [], σ => σ
  | i :: r, σ => frzAll r (frz1 σ i)

section
variable {B : Nat → Option Bd} {ok ok' : Nat → Prop} {w : World} {id ver : Nat} {d : D}
mutual
theorem RelA.frz (hk : ∀ b, ok b → ok' b) (hr : ∀ v, RelA B ok w (.row id ver) v → RelD ok' w d v) : ∀ (a : AV) (v : Value), RelA B ok w a v → RelA B ok' w (AV.frz id ver d a) v
  | .d x, v, h => RelA.mono (BLe.refl _) hk (fun _ _ => rfl) (.d x) v h
  | .ptr i o, v, h => h
  | .rp a b c e, v, h => RelA.mono (BLe.refl _) hk (fun _ _ => rfl) (.rp a b c e) v h
  | .row i u, v, h => by
    unfold AV.frz
    cases hb : (Nat.beq i id && Nat.beq u ver) with
    | true =>
      simp only [Bool.and_eq_true] at hb
      have q1 := Nat.eq_of_beq_eq_true hb.1
      have q2 := Nat.eq_of_beq_eq_true hb.2
      subst q1
      subst q2
      exact hr v h
    | false => exact h
  | .rowv a b c e, v, h => h
  | .wp a b c e, v, h => h
  | .agg cs, v, h => by obtain ⟨vs, h1, h2⟩ := h; exact ⟨vs, h1, RelAs.frz hk hr cs vs h2⟩
  | .tup cs, v, h => by obtain ⟨vs, h1, h2⟩ := h; exact ⟨vs, h1, RelTs.frz hk hr cs vs h2⟩
  | .clo f cs, v, h => by obtain ⟨vs, h1, h2⟩ := h; exact ⟨vs, h1, RelTs.frz hk hr cs vs h2⟩
  | .mp i, v, h => h
  | .bl b, v, h => h
  | .pr p, v, h => h
  | .tp q ws i, v, h => RelA.mono (BLe.refl _) hk (fun _ _ => rfl) (.tp q ws i) v h
  | .any, v, h => trivial
theorem RelAs.frz (hk : ∀ b, ok b → ok' b) (hr : ∀ v, RelA B ok w (.row id ver) v → RelD ok' w d v) : ∀ (as : List AV) (vs : List Value), RelAs B ok w as vs → RelAs B ok' w (AV.frzs id ver d as) vs
  | [], vs, h => h
  | a :: as, vs, h => by
    obtain ⟨v, vs', h1, h2, h3, h4⟩ := h
    exact ⟨v, vs', h1, h2, RelA.frz hk hr a v h3, RelAs.frz hk hr as vs' h4⟩
theorem RelTs.frz (hk : ∀ b, ok b → ok' b) (hr : ∀ v, RelA B ok w (.row id ver) v → RelD ok' w d v) : ∀ (as : List AV) (vs : List Value), RelTs B ok w as vs → RelTs B ok' w (AV.frzs id ver d as) vs
  | [], vs, h => h
  | a :: as, vs, h => by
    obtain ⟨v, vs', h1, h3, h4⟩ := h
    exact ⟨v, vs', h1, RelA.frz hk hr a v h3, RelTs.frz hk hr as vs' h4⟩
end
theorem SatE.frz (hk : ∀ b, ok b → ok' b) (hr : ∀ v, RelA B ok w (.row id ver) v → RelD ok' w d v) {bd : Bd} {he : HE} (h : SatE B ok w bd he) : SatE B ok' w bd (HE.frz id ver d he) := by
  cases he with
  | cells ty cs => obtain ⟨h0, vs, h1, h2⟩ := h; exact ⟨h0, vs, h1, RelAs.frz hk hr _ _ h2⟩
  | row e sz v xs => exact SatR.mono hk (fun _ _ => rfl) (fun _ => rfl) h
  | trow q e v ws => exact SatR.mono hk (fun _ _ => rfl) (fun _ => rfl) h
  | imap q es => exact h
end
theorem HE.occ_frz {id ver : Nat} {d : D} {bd : Bd} {he : HE} : (HE.frz id ver d he).occ bd = he.occ bd := by cases he <;> rfl
theorem mem_frzH {id ver : Nat} {d : D} : ∀ {h : List (Nat × HE)} {i : Nat} {y : HE}, (i, y) ∈ frzH id ver d h → i ≠ id ∧ ∃ x, (i, x) ∈ h ∧ y = HE.frz id ver d x
  | [], i, y, hm => by cases hm
  | (j, x) :: r, i, y, hm => by
    unfold frzH at hm
    cases hb : Nat.beq j id with
    | true =>
      rw [hb] at hm
      obtain ⟨h1, x', h2, h3⟩ := mem_frzH (h := r) hm
      exact ⟨h1, x', List.mem_cons_of_mem _ h2, h3⟩
    | false =>
      rw [hb] at hm
      rcases List.mem_cons.1 hm with e | hm
      · cases e
        exact ⟨fun e => (by subst e; rw [Nat.beq_refl] at hb; cases hb), x, List.mem_cons_self, rfl⟩
      · obtain ⟨h1, x', h2, h3⟩ := mem_frzH (h := r) hm
        exact ⟨h1, x', List.mem_cons_of_mem _ h2, h3⟩
theorem lk_frzE {id ver : Nat} {d : D} : ∀ {e : List (Nat × AV)} {t : Nat} {a : AV}, lk (frzE id ver d e) t = some a → ∃ b, lk e t = some b ∧ a = AV.frz id ver d b
  | [], t, a, h => by cases h
  | (u, b) :: r, t, a, h => by
    unfold frzE lk at h
    unfold lk
    cases hb : Nat.beq u t with
    | true => rw [hb] at h; cases h; exact ⟨b, rfl, rfl⟩
    | false => rw [hb] at h; exact lk_frzE (e := r) h

section
variable {P : Program} {Γ : Ctx} {σ : S}
theorem StB.frz {B : Nat → Option Bd} {ok : Nat → Prop} {a : Act} {w : World} (h : StB Γ B ok σ a w) {id ver e sz : Nat} {he : HE} {d : D} {xs : List (List D)} {bd : Bd} (hm : (id, he) ∈ σ.heap) (hB : B id = some bd) (ho : he.occ bd = if bd.live then some bd.blk else none)
    (hS : SatR ok w bd e sz ver xs) (hd : ∀ ok' v, RelD ok' w (.arr sz xs) v → RelD ok' w d v) : ∃ ok', StB Γ B ok' ⟨frzE id ver d σ.env, frzH id ver d σ.heap, σ.next⟩ a w := by
  let ok' : Nat → Prop := fun b => ok b ∨ he.occ bd = some b
  have hk : ∀ b, ok b → ok' b := fun b x => .inl x
  have hr : ∀ v, RelA B ok w (.row id ver) v → RelD ok' w d v := fun v hv => by
    obtain ⟨hc, bd', h1, h2, h3⟩ := hv
    rw [hB] at h1
    cases h1
    rw [h3 hS.1.symm]
    exact hd ok' _ (RelD.frozenR hS hk (fun b hb => .inr (ho.trans hb)))
  have hlt : ∀ b, he.occ bd = some b → b < w.heap.size := fun b hb => by
    rw [ho] at hb
    split at hb
    · rename_i hl
      cases hb
      exact SatR.lt hS hl
    · cases hb
  refine ⟨ok', ⟨h.defers, h.size, ⟨fun i y hy => ?_, fun i x j y hx hy hne => ?_, fun i y hy b hb c hc hok => ?_, fun b hb => hb.elim (h.heap.okb b) (hlt b), fun i x y hx hy => ?_⟩, fun t av hl => ?_, h.keeps, fun b hb => .inl (h.ok1 b hb), fun b hb => hb.elim (h.ok2 b) (fun hb => (h.own _ _ hm _ hB b hb).imp .inr _root_.id), fun i y hy b hb c hc => ?_, h.ble, h.free⟩⟩
  · obtain ⟨h1, x, h2, rfl⟩ := mem_frzH hy
    obtain ⟨b, g1, g2⟩ := h.heap.sat i x h2
    exact ⟨b, g1, SatE.frz hk hr g2⟩
  · obtain ⟨_, x', hx', rfl⟩ := mem_frzH hx
    obtain ⟨_, y', hy', rfl⟩ := mem_frzH hy
    simp only [HE.occ_frz]
    exact h.heap.apart i x' j y' hx' hy' hne
  · obtain ⟨h1, x, h2, rfl⟩ := mem_frzH hy
    rw [HE.occ_frz] at hc
    rcases hok with hok | hok
    · exact h.heap.avoid i x h2 b hb c hc hok
    · exact h.heap.apart i x id he h2 hm h1 b bd hb hB c hc hok
  · obtain ⟨_, x', hx', rfl⟩ := mem_frzH hx
    obtain ⟨_, y', hy', rfl⟩ := mem_frzH hy
    rw [h.heap.uniq i x' y' hx' hy']
  · obtain ⟨b, h1, rfl⟩ := lk_frzE hl
    obtain ⟨g1, g2⟩ := h.env t b h1
    exact ⟨g1, RelA.frz hk hr b _ g2⟩
  · obtain ⟨h1, x, h2, rfl⟩ := mem_frzH hy
    rw [HE.occ_frz] at hc
    exact h.own i x h2 b hb c hc
theorem sub_frz1 {id : Nat} : Sub Γ σ (frz1 σ id) := by
  unfold frz1
  split
  · rename_i q e ver ws hh
    rintro a w ⟨B, ok, h⟩
    obtain ⟨bd, hB, hS⟩ := h.heap.sat id _ (lk_mem hh)
    obtain ⟨ok', h'⟩ := h.frz (d := .tv q ws) (lk_mem hh) hB rfl hS (fun ok' v hv => .tv q ws v hv)
    exact ⟨B, ok', h'⟩
  · rename_i e sz ver xs hh
    rintro a w ⟨B, ok, h⟩
    obtain ⟨bd, hB, hS⟩ := h.heap.sat id _ (lk_mem hh)
    obtain ⟨ok', h'⟩ := h.frz (d := .arr sz xs) (lk_mem hh) hB rfl hS (fun ok' v hv => hv)
    exact ⟨B, ok', h'⟩
  · exact fun a w h => h
theorem sub_frzAll : ∀ {l : List Nat} {σ : S}, Sub Γ σ (frzAll l σ)
  | [], σ => fun a w h => h
  | i :: r, σ => fun a w h => sub_frzAll (l := r) a w (sub_frz1 a w h)
end
end Go.Proofs.YthjmmofafpahhaaGreat.Sx
