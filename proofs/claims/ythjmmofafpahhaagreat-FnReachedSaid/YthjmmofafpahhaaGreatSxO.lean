/- The symbolic layer: regions that draw their order. Program-independent. -/
import Derived.Test.YthjmmofafpahhaaGreatSxN
import Derived.Still
namespace Go.Proofs.YthjmmofafpahhaaGreat.Sx
open Go Go.RowKit
set_option linter.unusedVariables false
set_option linter.unusedSimpArgs false

/-- What far operations change: new blocks, and blocks of cells of type τ. -/
structure Far (τ : TypeId) (w w' : World) : Prop where
  os : w'.os = w.os
  tape : w'.tape = w.tape
  output : w'.output = w.output
  size : w.heap.size ≤ w'.heap.size
  block : ∀ k : Nat, k < w.heap.size → (∀ arr fr, w.heap[k]? ≠ some (Obj.cells arr τ fr)) → w'.heap[k]? = w.heap[k]?
  cell : ∀ (k : Nat) arr fr, w.heap[k]? = some (Obj.cells arr τ fr) → ∃ arr' fr', w'.heap[k]? = some (Obj.cells arr' τ fr')
theorem Far.of {τ : TypeId} {w w' : World} (h : Below w.heap.size w w') : Far τ w w' :=
  ⟨h.os, h.tape, h.output, h.size, fun k hk _ => h.block k hk, fun k arr fr hk => ⟨arr, fr, (h.block k (Array.getElem?_eq_some_iff.1 hk).1).trans hk⟩⟩
theorem Far.trans {τ : TypeId} {a b c : World} (h : Far τ a b) (k : Far τ b c) : Far τ a c := by
  refine ⟨k.os.trans h.os, k.tape.trans h.tape, k.output.trans h.output, Nat.le_trans h.size k.size, fun i hi hn => ?_, fun i arr fr hi => ?_⟩
  · have h1 := h.block i hi hn
    exact (k.block i (Nat.lt_of_lt_of_le hi h.size) (fun arr fr => by rw [h1]; exact hn arr fr)).trans h1
  · obtain ⟨arr', fr', h1⟩ := h.cell i arr fr hi
    exact k.cell i arr' fr' h1
/-- What an operation of a level does to the memory. -/
def stepOk (τ : TypeId) (lv : Nat) (w w' : World) : Prop := (lv = 0 → Below w.heap.size w w') ∧ (lv ≤ 1 → Far τ w w')
theorem stepOk.refl {τ : TypeId} {lv : Nat} {w : World} : stepOk τ lv w w := ⟨fun _ => Below.refl _ _, fun _ => Far.of (Below.refl _ _)⟩
theorem stepOk.of {τ : TypeId} {lv : Nat} {w w' : World} (h : Below w.heap.size w w') : stepOk τ lv w w' := ⟨fun _ => h, fun _ => Far.of h⟩
theorem stepOk.far {τ : TypeId} {lv : Nat} {w w' : World} (hl : lv ≠ 0) (h : Far τ w w') : stepOk τ lv w w' := ⟨fun e => absurd e hl, fun _ => h⟩
theorem stepOk.any {τ : TypeId} {w w' : World} : stepOk τ 2 w w' := ⟨fun e => absurd e (by decide), fun e => absurd e (by decide)⟩
/-- The worlds in which an operation of a steadiness yields the same. -/
def okW (τ : TypeId) (st : Nat) (w w' : World) : Prop := st = 2 ∨ (st = 1 ∧ Far τ w w') ∨ Below w.heap.size w w'
theorem okW.refl {τ : TypeId} {st : Nat} {w : World} : okW τ st w w := .inr (.inr (Below.refl _ _))
theorem okW.trans {τ : TypeId} {st : Nat} {a b c : World} (h : okW τ st a b) (k : okW τ st b c) : okW τ st a c := by
  rcases h with h | ⟨h1, h2⟩ | h
  · exact .inl h
  · rcases k with k | ⟨_, k⟩ | k
    · exact .inl k
    · exact .inr (.inl ⟨h1, h2.trans k⟩)
    · exact .inr (.inl ⟨h1, h2.trans (Far.of k)⟩)
  · rcases k with k | ⟨k1, k⟩ | k
    · exact .inl k
    · exact .inr (.inl ⟨k1, (Far.of h).trans k⟩)
    · exact .inr (.inr (h.trans (k.mono h.size)))
/-- What a steady operation stands. -/
def okLv (st lv : Nat) : Bool := Nat.beq st 2 || (Nat.beq lv 0 || (Nat.beq st 1 && Nat.ble lv 1))
theorem okLv_ok {τ : TypeId} {st lv : Nat} {w w' : World} (h : okLv st lv = true) (hs : stepOk τ lv w w') : okW τ st w w' := by
  simp only [okLv, Bool.or_eq_true, Bool.and_eq_true] at h
  rcases h with h | h | ⟨h1, h2⟩
  · exact .inl (Nat.eq_of_beq_eq_true h)
  · exact .inr (.inr (hs.1 (Nat.eq_of_beq_eq_true h)))
  · exact .inr (.inl ⟨Nat.eq_of_beq_eq_true h1, hs.2 (Nat.le_of_ble_eq_true h2)⟩)

section
variable {P : Program} {ops : Array Oper} {md : Region.Mode} {Q : Exit → Act → World → Prop}

/-- Whatever order is picked; every operation does to the memory what its level says. -/
def wpAnyM (P : Program) (md : Region.Mode) (ops : Array Oper) (Q : Exit → Act → World → Prop) (τ : TypeId) (lv : Nat → Nat) : Nat → Array Bool → Act → World → Prop
  | 0, listed, a, w => Region.ready md ops listed = [] ∧ Q .normal a w
  | f + 1, listed, a, w => (Region.ready md ops listed = [] → Q .normal a w) ∧
    ∀ i ∈ Region.ready md ops listed, wpOp P ops Q i (fun a' w' => stepOk τ (lv i) w w' ∧ wpAnyM P md ops Q τ lv f (listed.setIfInBounds i true) a' w') a w
theorem wpAny_of_M {τ : TypeId} {lv : Nat → Nat} : ∀ (f : Nat) (listed : Array Bool) (a : Act) (w : World), wpAnyM P md ops Q τ lv f listed a w → wpAny P md ops Q f listed a w
  | 0, _, _, _, h => h
  | f + 1, _, _, _, h => ⟨h.1, fun i hi => wpOp_mono (fun a' w' h' => wpAny_of_M f _ a' w' h'.2) (h.2 i hi)⟩

/-- One value, in every world that may come. -/
def Yld (P : Program) (ops : Array Oper) (τ : TypeId) (st : Nat) (w : World) (o : Oper) (v : Value) (a : Act) : Prop :=
  (Region.wanted o (yielded ops a.tmps) = true ∧ ∀ w', okW τ st w w' → (execOp a.eval o).run P w' = .ok (.value v) w') ∨
  (Region.wanted o (yielded ops a.tmps) = false ∧ v = undef)
theorem Yld.wpOp {τ : TypeId} {i : Nat} {o : Oper} {v : Value} {a : Act} {st : Nat} {w : World} (hi : ops[i]? = some o) (hy : Yld P ops τ st w o v a) {K : Act → World → Prop} (h : K (a.put o.dst v) w) : wpOp P ops Q i K a w := by
  unfold Go.wpOp
  simp only [hi]
  rcases hy with ⟨hw, hv⟩ | ⟨hw, rfl⟩
  · simp only [hw, if_true, Oper.wp, hv w okW.refl, Oper.upon]; exact .inl h
  · simp only [hw, Bool.false_eq_true, if_false]; exact h
/-- The operation reads as it did. -/
def Fix (ops : Array Oper) (o : Oper) (a0 a : Act) : Prop := execOp a.eval o = execOp a0.eval o ∧ Region.wanted o (yielded ops a.tmps) = Region.wanted o (yielded ops a0.tmps)
theorem Yld.fix {τ : TypeId} {o : Oper} {v : Value} {a a' : Act} {st : Nat} {w w' : World} (hy : Yld P ops τ st w o v a) (hf : Fix ops o a a') (hw : okW τ st w w') : Yld P ops τ st w' o v a' := by
  obtain ⟨h1, h2⟩ := hf
  unfold Yld at *
  rw [h1, h2]
  exact hy.imp (fun ⟨g1, g2⟩ => ⟨g1, fun w'' hw'' => g2 w'' (hw.trans hw'')⟩) id

theorem wpOp_putG {j : Nat} {oi oj : Oper} {v : Value} (hj : ops[j]? = some oj) (hap : oi.apart ops oj = true)
    (hsi : ∀ cs b, oi.op ≠ .select cs b) (hsj : ∀ cs b, oj.op ≠ .select cs b)
    (hQ : ∀ c a w, Q (.panic c) (a.put oi.dst v) w → Q (.panic c) a w) {K : Act → World → Prop} {a0 a : Act} {w : World}
    (hy : Fix ops oi a0 a) (h : wpOp P ops Q j K (a.put oi.dst v) w) :
    wpOp P ops Q j (fun a' w' => Fix ops oi a0 a' ∧ K (a'.put oi.dst v) w') a w := by
  obtain ⟨h1, h2, h3⟩ := Oper.apart_spec hap
  have keep : ∀ (a : Act), Fix ops oi a0 a → ∀ u, Fix ops oi a0 (a.put oj.dst u) := fun a hy u =>
    ⟨(execOp_put oi hsi a oj.dst u h3).trans hy.1, (wanted_put oi a oj.dst u h3).trans hy.2⟩
  have keepD : ∀ d, Fix ops oi a0 { a with defers := d :: a.defers } := fun d => hy
  unfold Go.wpOp at *
  simp only [hj] at *
  rw [wanted_put oj a oi.dst v h1] at h
  split
  · rename_i hw
    simp only [hw, if_true] at h
    rcases h with h | ⟨hasks, hlets⟩
    case inr => exact .inr ⟨by unfold Oper.asks at *; rw [execOp_put oj hsj a oi.dst v h1] at hasks; exact hasks, hlets⟩
    refine .inl ?_
    unfold Oper.wp at *
    rw [execOp_put oj hsj a oi.dst v h1] at h
    generalize (execOp a.eval oj).run P w = r at *
    cases r with
    | ok n w' =>
      cases n <;> simp only [Oper.upon] at h ⊢
      case value u => exact ⟨keep a hy u, by rw [← Act.put_comm a v u h2]; exact h⟩
      case skip => exact ⟨keep a hy _, by rw [← Act.put_comm a v undef h2]; exact h⟩
      case defer d =>
        refine ⟨keep _ (keepD d) _, ?_⟩
        rw [← Act.put_comm _ v undef h2, ← Act.put_defers]
        exact h
      case enter f args =>
        refine Calls.mono h fun e w'' he => ?_
        cases e with
        | returned u => exact ⟨keep a hy u, by rw [← Act.put_comm a v u h2]; exact he⟩
        | panicked c => exact hQ _ _ _ he
        | outgrown => exact he
      case row row args => exact Rows.mono h fun u w'' he => ⟨keep a hy u, by rw [← Act.put_comm a v u h2]; exact he⟩
    | halt x w' =>
      cases x <;> simp only [Oper.upon] at h ⊢
      case panic u => exact hQ _ _ _ h
  · rename_i hw
    simp only [hw] at h
    exact ⟨keep a hy _, by rw [← Act.put_comm a v undef h2]; exact h⟩

theorem unl {listed : Array Bool} {i : Nat} (h : listed.getD i true = false) : listed.getD i false = false := by
  rcases Nat.lt_or_ge i listed.size with h' | h'
  · simp [h'] at h ⊢; exact h
  · simp [Array.getElem?_eq_none h'] at h

/-- An operation that yields one value whatever else comes first may come first. -/
theorem wpAnyM_first {τ : TypeId} {lv : Nat → Nat} {i : Nat} {oi : Oper} {v : Value} {st : Nat} {desc : List Nat} (hi : ops[i]? = some oi) (hsel : ∀ (j : Nat) (o : Oper) cs b, ops[j]? = some o → o.op ≠ .select cs b)
    (hQ : ∀ c a w, Q (.panic c) (a.put oi.dst v) w → Q (.panic c) a w) (hdesc : ∀ j oj, ops[j]? = some oj → j ∈ desc → ∃ e ∈ oj.after, Region.binds md e = true ∧ (e.on = i ∨ e.on ∈ desc)) :
    ∀ (f : Nat) (listed : Array Bool) (a : Act) (w : World), (∀ j oj, ops[j]? = some oj → j ≠ i → j ∉ desc → listed.getD j true = false → oi.apart ops oj = true ∧ okLv st (lv j) = true) → (∀ j, j ∈ desc → listed.getD j false = false) →
      i ∈ Region.ready md ops listed → Yld P ops τ st w oi v a → wpAnyM P md ops Q τ lv f (listed.setIfInBounds i true) (a.put oi.dst v) w → wpAnyM P md ops Q τ lv (f + 1) listed a w := by
  intro f
  induction f with
  | zero =>
    intro listed a w hst hun hr hy H
    refine ⟨fun h => (by rw [h] at hr; cases hr), fun j hj => ?_⟩
    by_cases hji : j = i
    · subst hji; exact hy.wpOp hi ⟨stepOk.refl, H⟩
    · have := ready_mono hj hji
      rw [H.1] at this
      cases this
  | succ f ih =>
    intro listed a w hst hun hr hy H
    refine ⟨fun h => (by rw [h] at hr; cases hr), fun j hj => ?_⟩
    by_cases hji : j = i
    · subst hji; exact hy.wpOp hi ⟨stepOk.refl, H⟩
    · have h1 := H.2 j (ready_mono hj hji)
      obtain ⟨hjun, oj, hoj, hall⟩ := mem_ready.1 hj
      have hjd : j ∉ desc := fun hjd => by
        obtain ⟨e, he, hb, he2⟩ := hdesc j oj hoj hjd
        have h2 := hall e he hb
        rcases he2 with he2 | he2
        · rw [he2, unl (mem_ready.1 hr).1] at h2; cases h2
        · rw [hun _ he2] at h2; cases h2
      obtain ⟨hap, hml⟩ := hst j oj hoj hji hjd hjun
      have h2 := wpOp_putG hoj hap (fun cs b => hsel i oi cs b hi) (fun cs b => hsel j oj cs b hoj) hQ (a0 := a) (a := a) ⟨rfl, rfl⟩ h1
      refine wpOp_mono (fun a' w' ⟨hfx, hbl, hh⟩ => ⟨hbl, ?_⟩) h2
      refine ih (listed.setIfInBounds j true) a' w' (fun k ok hk hki hkd hkun => hst k ok hk hki hkd ?_) (fun k hk => ?_) (ready_mono hr (Ne.symm hji)) (hy.fix hfx (okLv_ok hml hbl)) ?_
      · by_cases hjk : j = k
        · subst hjk; exact hjun
        · rw [getD_set_ne true hjk] at hkun; exact hkun
      · rw [getD_set_ne false (fun e => by subst e; exact hjd hk)]; exact hun k hk
      · rw [Array.setIfInBounds_comm _ _ hji]
        exact hh

theorem wpAnyM_only {τ : TypeId} {lv : Nat → Nat} {i : Nat} {f : Nat} {listed : Array Bool} {a : Act} {w : World} (hr : Region.ready md ops listed = [i])
    (h : wpOp P ops Q i (fun a' w' => stepOk τ (lv i) w w' ∧ wpAnyM P md ops Q τ lv f (listed.setIfInBounds i true) a' w') a w) : wpAnyM P md ops Q τ lv (f + 1) listed a w :=
  ⟨fun h' => (by rw [hr] at h'; cases h'), fun j hj => (by rw [hr] at hj; cases List.mem_singleton.1 hj; exact h)⟩
end

/-! ### Plans -/
/-- Operations that only yield a value. -/
def pureO : Op → Bool
  | .move _ => true
  | .assign _ => true
  | .pick _ _ _ => true
  | .binOp _ _ _ _ _ => true
  | .unOp _ _ _ => true
  | .convert _ _ _ => true
  | .load _ _ => true
  | .lookup _ _ _ _ => true
  | .fieldAddr _ _ _ => true
  | .field _ _ _ => true
  | .nilCheck _ => true
  | .indexAddr _ _ _ => true
  | .index _ _ _ => true
  | .slice _ _ _ _ _ => true
  | .extract _ _ => true
  | .makeFunc _ _ _ => true
  | .call { callee := .builtin .len, args := _, argTypes := _ } => true
  | .call { callee := .builtin .min, args := _, argTypes := _ } => true
  | .call { callee := .builtin .cap, args := _, argTypes := _ } => true
  | .build _ _ => true
  | .makeInterface _ _ => true
  | _ => false
/-- What is told of a region: operations that write no old block; calls that write cells of one type alone; readings that stand these; that type; the order. -/
structure PI where
  mild : List Nat
  far : List Nat
  near : List Nat
  tau : TypeId
/-- What a plan's check looks at. -/
structure OI where
  deps : List Nat
  looks : List Nat
  dst : Option Nat
  pure : Bool
  st : Nat
  lv : Nat
def stO (pi : PI) (i : Nat) (o : Oper) : Nat := bif dryO o.op then 2 else bif pi.near.contains i then 1 else 0
def lvO (pi : PI) (i : Nat) (o : Oper) : Nat := bif pureO o.op || pi.mild.contains i then 0 else bif pi.far.contains i then 1 else 2
def depsOf (o : Oper) : List Nat := (o.after.toList.filter fun e => Region.binds .any e).map (·.on)
def oiOf (ops : Array Oper) (pi : PI) (i : Nat) (o : Oper) : OI := ⟨depsOf o, o.looksAt ops, o.dst, pureO o.op, stO pi i o, lvO pi i o⟩
def oisOf (ops : Array Oper) (pi : PI) : Nat → List Oper → List (Nat × OI)
  | _, [] => []
  | k, o :: r => (k, oiOf ops pi k o) :: oisOf ops pi (k + 1) r
def allBits (m : Nat) : List Nat → Bool
  | [] => true
  | k :: r => m.testBit k && allBits m r
def anyBits (m i : Nat) : List Nat → Bool
  | [] => false
  | k :: r => Nat.beq k i || (m.testBit k || anyBits m i r)
def readyI (listed i : Nat) (x : OI) : Bool := !(listed.testBit i) && allBits listed x.deps
def setBit (m i : Nat) : Nat := m ||| (1 <<< i)
def descI (i : Nat) : List (Nat × OI) → Nat → Nat
  | [], m => m
  | (j, y) :: r, m => descI i r (bif anyBits m i y.deps then setBit m j else m)
def memN (n : Nat) : List Nat → Bool
  | [] => false
  | k :: r => Nat.beq k n || memN n r
def apartI (x y : OI) : Bool := (match x.dst with
  | some d => !(memN d y.looks) && (match y.dst with
    | some e => !(Nat.beq e d)
    | none => true)
  | none => true) && (match y.dst with
  | some e => !(memN e x.looks)
  | none => true)
def onlyI (listed i : Nat) : List (Nat × OI) → Bool
  | [] => true
  | (j, y) :: r => (Nat.beq j i || !(readyI listed j y)) && onlyI listed i r
def noneI (listed : Nat) : List (Nat × OI) → Bool
  | [] => true
  | (j, y) :: r => !(readyI listed j y) && noneI listed r
def hoistI (listed i : Nat) (x : OI) (desc : Nat) : List (Nat × OI) → Bool
  | [] => true
  | (j, y) :: r => (Nat.beq j i || (bif desc.testBit j then !(listed.testBit j) && anyBits desc i y.deps else (listed.testBit j || (apartI x y && okLv x.st y.lv)))) && hoistI listed i x desc r
mutual
/-- Plans: operations in order, or whatever is ready. -/
inductive PT where
  | done
  | step (i : Nat) (r : PT)
  | alts (l : PTs)
inductive PTs where
  | nil
  | cons (i : Nat) (r : PT) (l : PTs)
end
def sqT : List Nat → PT → PT
  | [], t => t
  | i :: r, t => .step i (sqT r t)
def sq (l : List Nat) : PT := sqT l .done
def PTs.ids : PTs → List Nat
  | .nil => []
  | .cons i _ l => i :: PTs.ids l
inductive PTs.Mem (i : Nat) (r : PT) : PTs → Prop
  | head (l : PTs) : PTs.Mem i r (.cons i r l)
  | tail {l : PTs} (j : Nat) (q : PT) (h : PTs.Mem i r l) : PTs.Mem i r (.cons j q l)
/-- Every ready operation is among these. -/
def coverI (listed : Nat) (ids : List Nat) : List (Nat × OI) → Bool
  | [] => true
  | (j, y) :: r => (!(readyI listed j y) || memN j ids) && coverI listed ids r
def firstI (xs : List (Nat × OI)) (listed : Nat) : PTs → Bool
  | .nil => false
  | .cons i _ _ => match lk xs i with
    | some x => readyI listed i x
    | none => false
mutual
def planT (xs : List (Nat × OI)) : PT → Nat → Nat → Bool
  | .done, listed, _ => noneI listed xs
  | .step i r, listed, f => match f with
    | 0 => false
    | f + 1 => (match lk xs i with
      | some x => readyI listed i x && (onlyI listed i xs || (x.pure && hoistI listed i x (descI i xs 0) xs))
      | none => false) && planT xs r (setBit listed i) f
  | .alts l, listed, f => match f with
    | 0 => false
    | f + 1 => firstI xs listed l && (coverI listed (PTs.ids l) xs && planTs xs l listed f)
def planTs (xs : List (Nat × OI)) : PTs → Nat → Nat → Bool
  | .nil, _, _ => true
  | .cons i r l, listed, f => planT xs r (setBit listed i) f && planTs xs l listed f
end
/-- A plan for a region is right. -/
structure Pln (l : List Oper) (pi : PI) (t : PT) : Prop where
  h : (Region.noSelect l.toArray && planT (oisOf l.toArray pi 0 l) t 0 l.length) = true
theorem PTs.mem_of_ids {i : Nat} : ∀ {l : PTs}, i ∈ PTs.ids l → ∃ r, PTs.Mem i r l
  | .nil, h => by cases h
  | .cons j q l, h => by
    rcases List.mem_cons.1 h with rfl | h
    · exact ⟨q, .head l⟩
    · obtain ⟨r, hr⟩ := PTs.mem_of_ids (l := l) h
      exact ⟨r, .tail j q hr⟩
theorem planTs_ok {xs : List (Nat × OI)} {i : Nat} {r : PT} {listed f : Nat} {l : PTs} (hm : PTs.Mem i r l) (h : planTs xs l listed f = true) : planT xs r (setBit listed i) f = true := by
  induction hm with
  | head l =>
    unfold planTs at h
    simp only [Bool.and_eq_true] at h
    exact h.1
  | tail j q hm ih =>
    unfold planTs at h
    simp only [Bool.and_eq_true] at h
    exact ih h.2
theorem coverI_ok {listed : Nat} {ids : List Nat} : ∀ {xs : List (Nat × OI)}, coverI listed ids xs = true → ∀ j y, (j, y) ∈ xs → readyI listed j y = true → memN j ids = true
  | [], _, j, y, h, _ => by cases h
  | (k, x) :: r, h, j, y, hm, hr => by
    simp only [coverI, Bool.and_eq_true, Bool.or_eq_true, Bool.not_eq_true'] at h
    rcases List.mem_cons.1 hm with e | hm
    · cases e
      exact h.1.resolve_left (by rw [hr]; simp)
    · exact coverI_ok h.2 j y hm hr

theorem setBit_bit {m i j : Nat} : (setBit m i).testBit j = (m.testBit j || decide (i = j)) := by
  rw [setBit, Nat.testBit_or, Nat.one_shiftLeft, Nat.testBit_two_pow]
theorem allBits_iff {m : Nat} : ∀ {l : List Nat}, allBits m l = true ↔ ∀ k ∈ l, m.testBit k = true
  | [] => by simp [allBits]
  | k :: r => by simp [allBits, allBits_iff (l := r)]
theorem anyBits_iff {m i : Nat} : ∀ {l : List Nat}, anyBits m i l = true ↔ ∃ k ∈ l, k = i ∨ m.testBit k = true
  | [] => by simp [anyBits]
  | k :: r => by simp [anyBits, anyBits_iff (l := r), or_assoc]
theorem memN_iff {n : Nat} : ∀ {l : List Nat}, memN n l = true ↔ n ∈ l
  | [] => by simp [memN]
  | k :: r => by
    simp only [memN, Bool.or_eq_true, memN_iff (l := r), List.mem_cons]
    exact or_congr ⟨fun h => (Nat.eq_of_beq_eq_true h).symm, fun h => by rw [h]; exact Nat.beq_refl _⟩ Iff.rfl
theorem lk_oisOf {ops : Array Oper} {pi : PI} : ∀ {l : List Oper} {k i : Nat} {x : OI}, lk (oisOf ops pi k l) i = some x → ∃ o, k ≤ i ∧ l[i - k]? = some o ∧ x = oiOf ops pi i o
  | [], k, i, x, h => by cases h
  | o :: r, k, i, x, h => by
    unfold oisOf lk at h
    cases hb : Nat.beq k i with
    | true =>
      rw [hb] at h
      have := Nat.eq_of_beq_eq_true hb
      subst this
      cases h
      exact ⟨o, Nat.le_refl _, by simp, rfl⟩
    | false =>
      rw [hb] at h
      obtain ⟨o', h1, h2, h3⟩ := lk_oisOf (l := r) h
      refine ⟨o', by omega, ?_, h3⟩
      rw [show i - k = (i - (k + 1)) + 1 by omega]
      simpa using h2
theorem mem_oisOf {ops : Array Oper} {pi : PI} : ∀ {l : List Oper} {k j : Nat} {o : Oper}, l[j]? = some o → (k + j, oiOf ops pi (k + j) o) ∈ oisOf ops pi k l
  | [], k, j, o, h => by simp at h
  | a :: r, k, 0, o, h => by
    simp only [List.getElem?_cons_zero, Option.some.injEq] at h
    subst h
    exact List.mem_cons_self
  | a :: r, k, j + 1, o, h => by
    have := mem_oisOf (ops := ops) (pi := pi) (l := r) (k := k + 1) (j := j) (o := o) (by simpa using h)
    rw [show k + (j + 1) = k + 1 + j by omega]
    exact List.mem_cons_of_mem _ this
theorem onlyI_ok {listed i : Nat} : ∀ {xs : List (Nat × OI)}, onlyI listed i xs = true → ∀ j y, (j, y) ∈ xs → j = i ∨ readyI listed j y = false
  | [], _, j, y, h => by cases h
  | (k, x) :: r, h, j, y, hm => by
    simp only [onlyI, Bool.and_eq_true, Bool.or_eq_true, Bool.not_eq_true'] at h
    rcases List.mem_cons.1 hm with e | hm
    · cases e; exact h.1.imp Nat.eq_of_beq_eq_true id
    · exact onlyI_ok h.2 j y hm
theorem noneI_ok {listed : Nat} : ∀ {xs : List (Nat × OI)}, noneI listed xs = true → ∀ j y, (j, y) ∈ xs → readyI listed j y = false
  | [], _, j, y, h => by cases h
  | (k, x) :: r, h, j, y, hm => by
    simp only [noneI, Bool.and_eq_true, Bool.not_eq_true'] at h
    rcases List.mem_cons.1 hm with e | hm
    · cases e; exact h.1
    · exact noneI_ok h.2 j y hm
theorem hoistI_ok {listed i desc : Nat} {x : OI} : ∀ {xs : List (Nat × OI)}, hoistI listed i x desc xs = true → ∀ j y, (j, y) ∈ xs → j = i ∨ (desc.testBit j = true ∧ listed.testBit j = false ∧ anyBits desc i y.deps = true) ∨ (desc.testBit j = false ∧ (listed.testBit j = true ∨ (apartI x y = true ∧ okLv x.st y.lv = true)))
  | [], _, j, y, h => by cases h
  | (k, z) :: r, h, j, y, hm => by
    simp only [hoistI, Bool.and_eq_true, Bool.or_eq_true] at h
    rcases List.mem_cons.1 hm with e | hm
    · cases e
      refine h.1.imp Nat.eq_of_beq_eq_true fun h1 => ?_
      cases hd : desc.testBit k with
      | true => rw [hd] at h1; simp only [cond_true, Bool.and_eq_true, Bool.not_eq_true'] at h1; exact .inl ⟨rfl, h1.1, h1.2⟩
      | false => rw [hd] at h1; simp only [cond_false, Bool.or_eq_true, Bool.and_eq_true] at h1; exact .inr ⟨rfl, h1⟩
    · exact hoistI_ok h.2 j y hm

theorem getD_replicate_false' (m j : Nat) : (Array.replicate m false).getD j false = false := by
  rcases Nat.lt_or_ge j m with h | h
  · simp [h]
  · simp [h]
theorem oisOf_lt {ops : Array Oper} {pi : PI} : ∀ {l : List Oper} {k j : Nat} {y : OI}, (j, y) ∈ oisOf ops pi k l → j < k + l.length
  | [], k, j, y, h => by cases h
  | o :: r, k, j, y, h => by
    rcases List.mem_cons.1 h with e | h
    · cases e; simp
    · have := oisOf_lt h
      simp only [List.length_cons]
      omega
theorem descI_high {i n j : Nat} : ∀ {xs : List (Nat × OI)} {m : Nat}, m.testBit j = false → (∀ k y, (k, y) ∈ xs → k < n) → n ≤ j → (descI i xs m).testBit j = false
  | [], m, h, _, _ => h
  | (k, y) :: r, m, h, hx, hn => by
    unfold descI
    refine descI_high ?_ (fun k' y' hm => hx k' y' (List.mem_cons_of_mem _ hm)) hn
    cases anyBits m i y.deps with
    | true =>
      have := hx k y List.mem_cons_self
      simp only [cond_true, setBit_bit, h, Bool.false_or, decide_eq_false_iff_not]
      omega
    | false => exact h
/-- The listed ones, as bits. -/
structure Bits (n : Nat) (listed : Array Bool) (m : Nat) : Prop where
  size : listed.size = n
  bit : ∀ j, listed.getD j false = m.testBit j
theorem Bits.set {n : Nat} {listed : Array Bool} {m i : Nat} (h : Bits n listed m) (hi : i < n) : Bits n (listed.setIfInBounds i true) (setBit m i) := by
  refine ⟨by simp [h.size], fun j => ?_⟩
  rw [setBit_bit]
  by_cases e : i = j
  · subst e
    simp [h.size, hi]
  · rw [getD_set_ne false e, h.bit j]
    simp [e]
theorem Bits.ready {ops : Array Oper} {pi : PI} {listed : Array Bool} {m j : Nat} {o : Oper} (h : Bits ops.size listed m) (ho : ops[j]? = some o) : j ∈ Region.ready .any ops listed ↔ readyI m j (oiOf ops pi j o) = true := by
  have hlt : j < ops.size := (Array.getElem?_eq_some_iff.1 ho).1
  rw [mem_ready]
  simp only [readyI, oiOf, Bool.and_eq_true, Bool.not_eq_true', allBits_iff, depsOf, List.mem_map, List.mem_filter]
  have e1 : (listed.getD j true = false) ↔ m.testBit j = false := by
    rw [← h.bit j]
    have hl : j < listed.size := by rw [h.size]; exact hlt
    simp [hl]
  rw [e1]
  refine and_congr Iff.rfl ⟨?_, ?_⟩
  · rintro ⟨o', ho', hall⟩ k ⟨e, ⟨he, hb⟩, rfl⟩
    rw [ho] at ho'; cases ho'
    rw [← h.bit]; exact hall e (by simpa using he) hb
  · intro hall
    exact ⟨o, ho, fun e he hb => by rw [h.bit]; exact hall e.on ⟨e, ⟨by simpa using he, hb⟩, rfl⟩⟩

section
variable {P : Program} {Γ : Ctx} {σ : S}
def lvF (ops : Array Oper) (pi : PI) (j : Nat) : Nat := match ops[j]? with
  | some oj => lvO pi j oj
  | none => 0

/-- A region, in the order of a plan. -/
def Pops (P : Program) (Γ : Ctx) (all : List Oper) (pi : PI) (Q : SE → S → Prop) (t : PT) (σ : S) : Prop :=
  ∀ f listed m a w, Bits all.toArray.size listed m → planT (oisOf all.toArray pi 0 all) t m f = true → St Γ σ a w → wpAnyM P .any all.toArray (Post Γ Q) pi.tau (lvF all.toArray pi) f listed a w
/-- One operation of a region, and what follows. -/
def PStep (P : Program) (Γ : Ctx) (all : List Oper) (pi : PI) (Q : SE → S → Prop) (i : Nat) (r : PT) (σ : S) : Prop :=
  ∀ f listed m a w, Bits all.toArray.size listed m → planT (oisOf all.toArray pi 0 all) r (setBit m i) f = true → St Γ σ a w →
    wpOp P all.toArray (Post Γ Q) i (fun a' w' => stepOk pi.tau (lvF all.toArray pi i) w w' ∧ wpAnyM P .any all.toArray (Post Γ Q) pi.tau (lvF all.toArray pi) f (listed.setIfInBounds i true) a' w') a w

theorem run_region_plan {id : Nat} {l : List Oper} {pi : PI} {t : PT} {Q : SE → S → Prop} (hm : P.follows .mixedOrders = true) (hp : Pln l pi t) (h : Pops P Γ l pi Q t σ) : Run P Γ (.region id l.toArray true) Q σ := by
  rintro a w hst
  have h0 := hp.h
  simp only [Bool.and_eq_true] at h0
  refine wp_region_any hm ?_
  have h1 := h l.length (Array.replicate l.length false) 0 a { w with drawn := w.drawn + 1 } ⟨by simp, fun j => by rw [getD_replicate_false']; exact (Nat.zero_testBit j).symm⟩ h0.2 ?_
  · have := wpAny_of_M _ _ _ _ h1
    simpa using this
  · obtain ⟨B, ok, hs⟩ := hst
    exact ⟨B, ok, hs.below (Below.drew (Below.refl _ _))⟩

theorem pops_nil {all : List Oper} {pi : PI} {Q : SE → S → Prop} (h : Q .normal σ) : Pops P Γ all pi Q .done σ := fun f listed m a w hB hb hst => by
  have hnil : Region.ready .any all.toArray listed = [] := by
    cases hr : Region.ready .any all.toArray listed with
    | nil => rfl
    | cons j r =>
      exfalso
      have hj : j ∈ Region.ready .any all.toArray listed := by rw [hr]; exact List.mem_cons_self
      obtain ⟨_, o, ho, _⟩ := mem_ready.1 hj
      have h1 := (hB.ready (pi := pi) ho).1 hj
      have h2 := noneI_ok (by unfold planT at hb; exact hb) j _ (by have := mem_oisOf (ops := all.toArray) (pi := pi) (l := all) (k := 0) (j := j) (o := o) (by simpa using ho); simpa using this)
      rw [h2] at h1
      cases h1
  cases f with
  | zero => exact ⟨hnil, σ, h, hst⟩
  | succ f => exact ⟨fun _ => ⟨σ, h, hst⟩, fun i hi => by rw [hnil] at hi; cases hi⟩
/-- Whatever is ready. -/
theorem pops_alts {all : List Oper} {pi : PI} {Q : SE → S → Prop} {l : PTs} (h : ∀ i r, PTs.Mem i r l → PStep P Γ all pi Q i r σ) : Pops P Γ all pi Q (.alts l) σ := by
  intro f listed m a w hB hb hst
  unfold planT at hb
  cases f with
  | zero => cases hb
  | succ f =>
    simp only [Bool.and_eq_true] at hb
    obtain ⟨h1, h2, h3⟩ := hb
    refine ⟨fun hnil => ?_, fun j hj => ?_⟩
    · exfalso
      cases l with
      | nil => cases h1
      | cons i r l =>
        simp only [firstI] at h1
        split at h1
        · rename_i x hx
          obtain ⟨o, _, ho, rfl⟩ := lk_oisOf hx
          have := (hB.ready (pi := pi) (j := i) (o := o) (by simpa using ho)).2 h1
          rw [hnil] at this
          cases this
        · cases h1
    · obtain ⟨_, o, ho, _⟩ := mem_ready.1 hj
      have hr := (hB.ready (pi := pi) ho).1 hj
      have hmem := coverI_ok h2 j _ (by have := mem_oisOf (ops := all.toArray) (pi := pi) (l := all) (k := 0) (j := j) (o := o) (by simpa using ho); simpa using this) hr
      obtain ⟨r, hr'⟩ := PTs.mem_of_ids (memN_iff.1 hmem)
      exact h j r hr' f listed m a w hB (planTs_ok hr' h3) hst

theorem post_panic {Q : SE → S → Prop} {d : Option Tmp} {v : Value} : ∀ c a w, Post Γ Q (.panic c) (Act.put a d v) w → Post Γ Q (.panic c) a w := fun _ _ _ h => h

theorem apart_of {ops : Array Oper} {pi : PI} {i j : Nat} {x y : Oper} (h : apartI (oiOf ops pi i x) (oiOf ops pi j y) = true) : x.apart ops y = true := by
  simp only [apartI, oiOf, Bool.and_eq_true] at h
  obtain ⟨h1, h2⟩ := h
  simp only [Oper.apart, Bool.and_eq_true]
  refine ⟨?_, ?_⟩
  · cases hx : x.dst with
    | none => rfl
    | some d =>
      rw [hx] at h1
      simp only [Bool.and_eq_true, Bool.not_eq_true'] at h1
      simp only [Bool.and_eq_true, Bool.not_eq_true']
      refine ⟨?_, ?_⟩
      · cases hc : (y.looksAt ops).contains d with
        | false => rfl
        | true => rw [List.contains_iff_mem] at hc; rw [memN_iff.2 hc] at h1; cases h1.1
      · cases hy : y.dst with
        | none => simp
        | some e =>
          rw [hy] at h1
          simp only [Bool.not_eq_true'] at h1
          have : ¬ e = d := fun q => by subst q; rw [Nat.beq_refl] at h1; cases h1.2
          simp [this]
  · cases hy : y.dst with
    | none => rfl
    | some e =>
      rw [hy] at h2
      simp only [Bool.not_eq_true'] at h2
      simp only [Bool.not_eq_true']
      cases hc : (x.looksAt ops).contains e with
      | false => rfl
      | true => rw [List.contains_iff_mem] at hc; rw [memN_iff.2 hc] at h2; cases h2

/-- The next operation of a plan: what it needs. -/
theorem pstep_of {all : List Oper} {pi : PI} {Q : SE → S → Prop} {i : Nat} {r : PT} {o : Oper} (hi : all[i]? = some o)
    (hpure : pureO o.op = true → ∀ a w, St Γ σ a w → ∃ v σ', Yld P all.toArray pi.tau (stO pi i o) w o v a ∧ St Γ σ' (a.put o.dst v) w ∧ Pops P Γ all pi Q r σ')
    (heff : pureO o.op = false → ∀ a w, St Γ σ a w → wpOp P all.toArray (Post Γ Q) i (fun a' w' => stepOk pi.tau (lvO pi i o) w w' ∧ ∃ σ', St Γ σ' a' w' ∧ Pops P Γ all pi Q r σ') a w) : PStep P Γ all pi Q i r σ := by
  intro f listed m a w hB hb hst
  have hi' : all.toArray[i]? = some o := by simpa using hi
  have hlt : i < all.toArray.size := (Array.getElem?_eq_some_iff.1 hi').1
  cases hpo : pureO o.op with
  | true =>
    obtain ⟨v, σ', hy, hst', hr'⟩ := hpure hpo a w hst
    exact hy.wpOp hi' ⟨stepOk.refl, hr' f _ _ _ _ (hB.set hlt) hb hst'⟩
  | false =>
    refine wpOp_mono (fun a' w' ⟨g1, σ', g2, g3⟩ => ⟨?_, g3 f _ _ _ _ (hB.set hlt) hb g2⟩) (heff hpo a w hst)
    simpa [lvF, hi'] using g1
theorem pops_step {all : List Oper} {pi : PI} {Q : SE → S → Prop} {i : Nat} {r : PT} {o : Oper} (hs : Region.noSelect all.toArray = true) (hi : all[i]? = some o)
    (hpure : pureO o.op = true → ∀ a w, St Γ σ a w → ∃ v σ', Yld P all.toArray pi.tau (stO pi i o) w o v a ∧ St Γ σ' (a.put o.dst v) w ∧ Pops P Γ all pi Q r σ')
    (hps : PStep P Γ all pi Q i r σ) : Pops P Γ all pi Q (.step i r) σ := by
  intro f listed m a w hB hb hst
  have hi' : all.toArray[i]? = some o := by simpa using hi
  have hlt : i < all.toArray.size := (Array.getElem?_eq_some_iff.1 hi').1
  unfold planT at hb
  cases f with
  | zero => cases hb
  | succ f =>
  simp only [Bool.and_eq_true] at hb
  obtain ⟨h1, h2⟩ := hb
  split at h1
  case h_2 => cases h1
  rename_i x hx
  obtain ⟨o', _, ho', rfl⟩ := lk_oisOf hx
  rw [Nat.sub_zero, hi] at ho'
  cases ho'
  simp only [Bool.and_eq_true, Bool.or_eq_true] at h1
  obtain ⟨hrd, h1⟩ := h1
  have hr : i ∈ Region.ready .any all.toArray listed := (hB.ready (pi := pi) hi').2 hrd
  have hmem : ∀ j oj, all.toArray[j]? = some oj → (j, oiOf all.toArray pi j oj) ∈ oisOf all.toArray pi 0 all := fun j oj hj => by
    have := mem_oisOf (ops := all.toArray) (pi := pi) (l := all) (k := 0) (j := j) (o := oj) (by simpa using hj)
    simpa using this
  have honly : onlyI m i (oisOf all.toArray pi 0 all) = true → Region.ready .any all.toArray listed = [i] := fun ho => by
    have hone : ∀ j ∈ Region.ready .any all.toArray listed, j = i := fun j hj => by
      obtain ⟨_, oj, hoj, _⟩ := mem_ready.1 hj
      rcases onlyI_ok ho j _ (hmem j oj hoj) with g | g
      · exact g
      · rw [(hB.ready (pi := pi) hoj).1 hj] at g; cases g
    have hnd : (Region.ready .any all.toArray listed).Nodup := List.Pairwise.filter _ List.nodup_range
    cases hrr : Region.ready .any all.toArray listed with
    | nil => rw [hrr] at hr; cases hr
    | cons b r' =>
      rw [hrr] at hone hnd
      have hb := hone b List.mem_cons_self
      subst hb
      cases r' with
      | nil => rfl
      | cons c r'' =>
        have hc := hone c (List.mem_cons_of_mem _ List.mem_cons_self)
        subst hc
        exact absurd List.mem_cons_self (List.nodup_cons.1 hnd).1
  cases hpo : pureO o.op with
  | true =>
    obtain ⟨v, σ', hy, hst', hr'⟩ := hpure hpo a w hst
    have hK := hr' f _ _ _ _ (hB.set hlt) h2 hst'
    rcases h1 with h1 | ⟨_, h3⟩
    · exact wpAnyM_only (honly h1) (hy.wpOp hi' ⟨stepOk.refl, hK⟩)
    · have hok := hoistI_ok h3
      refine wpAnyM_first (st := stO pi i o) (desc := (List.range all.toArray.size).filter fun j => (descI i (oisOf all.toArray pi 0 all) 0).testBit j && !(Nat.beq j i)) hi' (Region.noSelect_spec hs) post_panic (fun j oj hj hjd => ?_) _ listed a w (fun j oj hj hji hjd hjun => ?_) (fun j hj => ?_) hr hy hK
      · simp only [List.mem_filter, List.mem_range, Bool.and_eq_true, Bool.not_eq_true'] at hjd
        have hne : j ≠ i := fun e => by subst e; rw [Nat.beq_refl] at hjd; cases hjd.2.2
        rcases hok j _ (hmem j oj hj) with g | ⟨_, _, g⟩ | ⟨g, _⟩
        · exact absurd g hne
        · obtain ⟨k, hk, g⟩ := anyBits_iff.1 g
          simp only [oiOf, depsOf, List.mem_map, List.mem_filter] at hk
          obtain ⟨e, ⟨he, hb⟩, rfl⟩ := hk
          refine ⟨e, by simpa using he, hb, ?_⟩
          by_cases e' : e.on = i
          · exact .inl e'
          · refine .inr ?_
            have hbit := g.resolve_left e'
            have hsz : e.on < all.toArray.size := by
              apply Nat.lt_of_not_le
              intro hge
              rw [descI_high (n := 0 + all.length) (Nat.zero_testBit _) (fun j y hm => oisOf_lt hm) (by simpa using hge)] at hbit
              cases hbit
            simp only [List.mem_filter, List.mem_range, Bool.and_eq_true, Bool.not_eq_true']
            refine ⟨hsz, hbit, ?_⟩
            cases hbb : Nat.beq e.on i with
            | false => rfl
            | true => exact absurd (Nat.eq_of_beq_eq_true hbb) e'
        · rw [hjd.2.1] at g; cases g
      · have hlj : j < all.toArray.size := (Array.getElem?_eq_some_iff.1 hj).1
        have hun : m.testBit j = false := by rw [← hB.bit]; exact unl hjun
        rcases hok j _ (hmem j oj hj) with g | ⟨g, _, _⟩ | ⟨_, g⟩
        · exact absurd g hji
        · exfalso
          apply hjd
          simp only [List.mem_filter, List.mem_range, Bool.and_eq_true, Bool.not_eq_true']
          refine ⟨hlj, g, ?_⟩
          cases hbb : Nat.beq j i with
          | false => rfl
          | true => exact absurd (Nat.eq_of_beq_eq_true hbb) hji
        · rcases g with g | ⟨g1, g2⟩
          · rw [hun] at g; cases g
          · refine ⟨apart_of g1, ?_⟩
            simpa [lvF, hj, oiOf] using g2
      · simp only [List.mem_filter, List.mem_range, Bool.and_eq_true, Bool.not_eq_true'] at hj
        have hne : j ≠ i := fun e => by subst e; rw [Nat.beq_refl] at hj; cases hj.2.2
        have hoj : all.toArray[j]? = some (all.toArray[j]'hj.1) := Array.getElem?_eq_getElem hj.1
        rw [hB.bit]
        rcases hok j _ (hmem j _ hoj) with g | ⟨_, g, _⟩ | ⟨g, _⟩
        · exact absurd g hne
        · exact g
        · rw [hj.2.1] at g; cases g
  | false =>
    rcases h1 with h1 | ⟨h1, h3⟩
    · exact wpAnyM_only (honly h1) (hps f listed m a w hB h2 hst)
    · simp only [oiOf, hpo] at h1
      cases h1
end
end Go.Proofs.YthjmmofafpahhaaGreat.Sx
