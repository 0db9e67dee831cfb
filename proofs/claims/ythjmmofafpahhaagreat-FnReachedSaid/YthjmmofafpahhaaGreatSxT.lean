/- The symbolic layer: readings that stand far calls, and calls that write cells of one type alone. Program-independent. -/
import Derived.Test.YthjmmofafpahhaaGreatSxR
namespace Go.Proofs.YthjmmofafpahhaaGreat.Sx
open Go Go.RowKit
set_option linter.unusedVariables false
set_option linter.unusedSimpArgs false

/-- A pure operation: one value, in every world of its steadiness. -/
def PvW (τ : TypeId) (st : Nat) (P : Program) (Γ : Ctx) (σ : S) (o : Oper) (av : AV) : Prop :=
  ∀ B ok a w, StB Γ B ok σ a w → ∃ v, RelA B ok w av v ∧ ∀ w', okW τ st w w' → (execOp a.eval o).run P w' = .ok (.value v) w'
/-- An operation that changes new blocks, and cells of type τ, alone. -/
def SopF (τ : TypeId) (P : Program) (Γ : Ctx) (o : Oper) (K : S → Prop) (σ : S) : Prop :=
  ∀ a w, St Γ σ a w → ∀ (K' : Act → World → Prop) (Q' : Exit → Act → World → Prop), (∀ σ' a w', K σ' → St Γ σ' a w' → Far τ w w' → K' a w') → o.wp P a w K' Q'
theorem SopF.sop {τ : TypeId} {P : Program} {Γ : Ctx} {o : Oper} {K : S → Prop} {σ : S} (h : SopF τ P Γ o K σ) : Sop P Γ o K σ :=
  fun a w hs K' Q' hk => h a w hs K' Q' fun σ' a w' h1 h2 _ => hk σ' a w' h1 h2
theorem SopF.mono {τ : TypeId} {P : Program} {Γ : Ctx} {o : Oper} {K K' : S → Prop} {σ : S} (hK : ∀ s, K s → K' s) (h : SopF τ P Γ o K σ) : SopF τ P Γ o K' σ :=
  fun a w hs K1 Q1 hk => h a w hs K1 Q1 fun σ' a' w' k => hk σ' a' w' (hK σ' k)

mutual
def Kd.onlyC (τ : TypeId) : Kd → Bool
  | .own _ _ => false
  | .ownr _ _ => false
  | .map _ => false
  | .agg ks => Kd.onlyCs τ ks
  | .clo _ ks => Kd.onlyCs τ ks
  | .cell ty ks => Nat.beq ty τ && Kd.onlyCs τ ks
  | .int _ => true
  | .bool => true
  | .str => true
  | .tv _ => true
  | .arr _ => true
  | .val _ => true
def Kd.onlyCs (τ : TypeId) : List Kd → Bool
  | [] => true
  | k :: r => Kd.onlyC τ k && Kd.onlyCs τ r
end
mutual
theorem onlyC_ok {τ : TypeId} : ∀ (k : Kd) (x : k.ty) (n : Nat), Kd.onlyC τ k = true → ∀ p ∈ (mk k x n).2.1, ∃ cs l, p.2 = .cells τ cs ∧ (p.1, τ, l) ∈ Kd.cel n k
  | .int _, x, n, h => by intro p hp; cases hp
  | .bool, x, n, h => by intro p hp; cases hp
  | .str, x, n, h => by intro p hp; cases hp
  | .tv _, x, n, h => by intro p hp; cases hp
  | .arr _, x, n, h => by intro p hp; cases hp
  | .val _, x, n, h => by intro p hp; cases hp
  | .own _ _, x, n, h => by cases h
  | .ownr _ _, x, n, h => by cases h
  | .map _, x, n, h => by cases h
  | .agg ks, x, n, h => onlyCs_ok ks x n h
  | .clo _ ks, x, n, h => onlyCs_ok ks x n h
  | .cell ty ks, x, n, h => by
    simp only [Kd.onlyC, Bool.and_eq_true] at h
    have e := Nat.eq_of_beq_eq_true h.1
    subst e
    intro p hp
    rcases List.mem_cons.1 hp with rfl | hp
    · exact ⟨_, ks, rfl, List.mem_cons_self⟩
    · obtain ⟨cs, l, h1, h2⟩ := onlyCs_ok ks x (n + 1) h.2 p hp
      exact ⟨cs, l, h1, List.mem_cons_of_mem _ h2⟩
theorem onlyCs_ok {τ : TypeId} : ∀ (ks : List Kd) (x : Kd.tys ks) (n : Nat), Kd.onlyCs τ ks = true → ∀ p ∈ (mks ks x n).2.1, ∃ cs l, p.2 = .cells τ cs ∧ (p.1, τ, l) ∈ Kd.cels n ks
  | [], x, n, h => by intro p hp; cases hp
  | k :: ks, x, n, h => by
    simp only [Kd.onlyCs, Bool.and_eq_true] at h
    intro p hp
    rcases List.mem_append.1 (show p ∈ (mk k x.1 n).2.1 ++ (mks ks x.2 (mk k x.1 n).2.2).2.1 from hp) with hp | hp
    · obtain ⟨cs, l, h1, h2⟩ := onlyC_ok k x.1 n h.1 p hp
      exact ⟨cs, l, h1, List.mem_append_left _ h2⟩
    · rw [mk_next k x.1 n] at hp
      obtain ⟨cs, l, h1, h2⟩ := onlyCs_ok ks x.2 (n + k.cnt) h.2 p hp
      exact ⟨cs, l, h1, List.mem_append_right _ h2⟩
end
theorem cellE_mem {rk : List Kd} : ∀ (ck : List (Nat × TypeId × List Kd)) (y : Kd.tys (outKs ck rk)) (n j : Nat) (ty : TypeId) (l : List Kd), (j, ty, l) ∈ ck → ∃ cs, (j, HE.cells ty cs) ∈ cellE ck (mks (outKs ck rk) y n).1
  | [], y, n, j, ty, l, h => by cases h
  | (j0, ty0, ks0) :: r, y, n, j, ty, l, h => by
    rcases List.mem_cons.1 h with e | h
    · cases e
      exact ⟨(mks ks0 y.1 n).1, List.mem_cons_self⟩
    · obtain ⟨cs, h1⟩ := cellE_mem r y.2 (mk (.agg ks0) y.1 n).2.2 j ty l h
      exact ⟨cs, List.mem_cons_of_mem _ h1⟩
theorem mem_fsts2 {ck : List (Nat × TypeId × List Kd)} {j : Nat} {ty : TypeId} {l : List Kd} (h : (j, ty, l) ∈ ck) : j ∈ fsts ck := by
  induction ck with
  | nil => cases h
  | cons c r ih =>
    rcases List.mem_cons.1 h with e | h
    · subst e; exact List.mem_cons_self
    · exact List.mem_cons_of_mem _ (ih h)

section
variable {P : Program} {Γ : Ctx} {σ : S} {o : Oper} {K : S → Prop}
theorem Pv.w {τ : TypeId} {st : Nat} {av : AV} (h : Pv P Γ σ o av) (hs : st = 0 ∨ (st = 2 ∧ dryO o.op = true)) : PvW τ st P Γ σ o av := by
  intro B ok a w hst
  obtain ⟨v, h1, h2⟩ := h B ok a w hst
  refine ⟨v, h1, fun w' hw => h2 w' ?_⟩
  rcases hs with rfl | ⟨rfl, hd⟩
  · rcases hw with hw | ⟨hw, _⟩ | hw
    · cases hw
    · cases hw
    · exact .inr hw
  · exact .inl hd
theorem okW.blk {τ ty : TypeId} {w w' : World} {b : Nat} {arr : Array Value} {fr : Nat × Nat} (h : okW τ 1 w w') (hb : w.heap[b]? = some (.cells arr ty fr)) (hne : ty ≠ τ) : w'.heap[b]? = w.heap[b]? := by
  have hlt := (Array.getElem?_eq_some_iff.1 hb).1
  rcases h with h | ⟨_, h⟩ | h
  · cases h
  · exact h.block b hlt fun arr' fr' e => by rw [hb] at e; cases e; exact hne rfl
  · exact h.block b hlt
theorem pvw_load {τ : TypeId} {t : TypeId} {x : Operand} {id off : Nat} {ty : TypeId} {cs : List AV} {av : AV} [TOne P t] (hop : o.op = .load t x) (hx : σ.get x = some (.ptr id off)) (hh : lk σ.heap id = some (.cells ty cs)) (hc : cs[off]? = some av) (hne : ty ≠ τ) : PvW τ 1 P Γ σ o av := by
  intro B ok a w hs
  obtain ⟨bd, vs, h1, h2, h3, h4⟩ := hs.ptr hx hh
  obtain ⟨v, g1, g2, g3⟩ := h4.get hc
  refine ⟨v, g3, fun w' hb => ?_⟩
  have hc' : w'.cell? ⟨bd.blk, off, none⟩ = some v := by
    rw [cell_row ((hb.blk h3 hne).trans h3)]
    simpa using g1
  simp only [execOp, hop, h2, Instr.loadAt, Instr.sureAddr, Sem.run_bind, Sem.run_pure, Result.andThen_ok, run_loadVar_one hc']
theorem pvw_load_agg {τ : TypeId} {t n : TypeId} {x : Operand} {id off : Nat} {ty : TypeId} {cs cs' : List AV} [TAgg P t n] (hop : o.op = .load t x) (hx : σ.get x = some (.ptr id off)) (hh : lk σ.heap id = some (.cells ty cs)) (hc : (cs.drop off).take n = cs') (hn : cs'.length = n) (hne : ty ≠ τ) : PvW τ 1 P Γ σ o (.agg cs') := by
  intro B ok a w hs
  obtain ⟨bd, vs, h1, h2, h3, h4⟩ := hs.ptr hx hh
  have h5 := (h4.drop off).take n
  rw [hc] at h5
  refine ⟨.agg ((vs.drop off).take n).toArray, ⟨_, rfl, h5⟩, fun w' hb => ?_⟩
  have hl : ((vs.drop off).take n).length = n := by rw [h5.length]; exact hn
  have := run_loadVar_agg (P := P) (t := t) (w := w') (b := bd.blk) (o := off) hl (fun j v hv => by
    rw [cell_row ((hb.blk h3 hne).trans h3)]
    rw [List.getElem?_take] at hv
    split at hv
    · simpa using hv
    · cases hv)
  simp only [execOp, hop, h2, Instr.loadAt, Instr.sureAddr, Sem.run_bind, Sem.run_pure, Result.andThen_ok, this]
/-- Readings of own cells of another type. -/
def nearF (T : Tab) (τ : TypeId) (σ : S) : Op → Option AV
  | .load t x => match σ.get x with
    | some (.ptr id off) => match lk σ.heap id with
      | some (.cells ty cs) => bif Nat.beq ty τ then none else match lk T.one t with
        | some _ => cs[off]?
        | none => match lk T.agg t with
          | some n => bif Nat.beq ((cs.drop off).take n).length n then some (.agg ((cs.drop off).take n)) else none
          | none => none
      | _ => none
    | _ => none
  | _ => none
theorem nearF_ok {T : Tab} (H : TabOk P T) {τ : TypeId} {op : Op} (hop : o.op = op) {av : AV} (h : nearF T τ σ op = some av) : PvW τ 1 P Γ σ o av := by
  unfold nearF at h
  split at h
  · split at h
    · rename_i id off hx
      split at h
      · rename_i ty cs hh
        cases hb : Nat.beq ty τ with
        | true => rw [hb] at h; cases h
        | false =>
          rw [hb] at h
          simp only [cond_false] at h
          have hne : ty ≠ τ := fun e => by subst e; rw [Nat.beq_refl] at hb; cases hb
          split at h
          · rename_i h1
            have := H.one.get h1
            exact pvw_load hop hx hh h hne
          · split at h
            · rename_i n h1
              have := H.agg.get h1
              cases hb2 : Nat.beq ((cs.drop off).take n).length n with
              | true => rw [hb2] at h; cases h; exact pvw_load_agg hop hx hh rfl (Nat.eq_of_beq_eq_true hb2) hne
              | false => rw [hb2] at h; cases h
            · cases h
      · cases h
    · cases h
  · cases h

/-- A call that is lent cells of one type alone. -/
theorem far_of {τ : TypeId} {c : Ct} {z : Kd.tys c.ak} {y : Kd.tys c.out} {B B1 : Nat → Option Bd} {ok ok1 : Nat → Prop} {w w' : World} (ho : Kd.onlyCs τ c.ak = true) (h2 : SatH B ok w (mks c.ak z 0).2.1) (e1 : ∀ j, j ∈ fsts c.cel → B1 j = B j)
    (h3 : SatH B1 ok1 w' (cellE c.cel (mks c.out y c.k0).1 ++ (mks c.out y c.k0).2.1)) (hk : Keeps (occs B (mks c.ak z 0).2.1) w w') : Far τ w w' := by
  have hin : ∀ b, occs B (mks c.ak z 0).2.1 b → ∃ arr, w.heap[b]? = some (Obj.cells arr τ (0, 0)) ∧ ∃ arr', w'.heap[b]? = some (Obj.cells arr' τ (0, 0)) := fun b ⟨i, x, bd, hm, hB, hoc⟩ => by
    obtain ⟨cs, l, g1, g2⟩ := onlyCs_ok c.ak z 0 ho _ hm
    simp only at g1 g2
    subst g1
    obtain ⟨bd', q1, q2, vs, q3, q4⟩ := h2.sat i _ hm
    rw [hB] at q1
    cases q1
    simp only [HE.occ, Option.some.injEq] at hoc
    subst hoc
    obtain ⟨cs2, r1⟩ := cellE_mem c.cel y c.k0 i τ l g2
    obtain ⟨bd2, r2, r3, vs2, r4, r5⟩ := h3.sat i _ (List.mem_append_left _ r1)
    rw [e1 i (mem_fsts2 g2), hB] at r2
    cases r2
    exact ⟨_, q3, _, r4⟩
  refine ⟨hk.os, hk.tape, hk.output, hk.size, fun k hk1 hn => hk.block k hk1 fun ho' => ?_, fun k arr fr hk1 => ?_⟩
  · obtain ⟨arr, h, _⟩ := hin k ho'
    exact hn arr _ h
  · by_cases hoc : occs B (mks c.ak z 0).2.1 k
    · obtain ⟨_, _, arr', h⟩ := hin k hoc
      exact ⟨arr', _, h⟩
    · exact ⟨arr, fr, (hk.block k (Array.getElem?_eq_some_iff.1 hk1).1 hoc).trans hk1⟩
theorem sop_callF {τ : TypeId} {f : FuncId} {x : Operand} {xs : List Operand} {ts : Array TypeId} {caps as : List AV} {c : Ct} {z : Kd.tys c.ak} {ss : List Src} {fz : List Nat} {M : Kd.tys c.out → Prop} [C : TCall P f] (hspec : SpecK P f c z M)
    (hop : o.op = .call { callee := .value x, args := xs.toArray, argTypes := ts }) (hx : σ.get x = some (.clo f caps)) (hargs : gets σ xs = some as) (e : xts σ.heap c.ak (as ++ caps) = some (z, ss, fz)) (ho : Kd.onlyCs τ c.ak = true)
    (c1 : distB (Src.ids ss) = true) (c2 : disjB (Src.ids ss) fz = true) (c3 : (!(Kd.fros c.out) || isNilN fz) = true) (hd : dstOk Γ.nt o.dst = true) (hK : ∀ y, M y → K ((aft c ss y σ).put o.dst (aftA c y σ))) : SopF τ P Γ o K σ := by
  rintro a w ⟨B, ok, hs⟩ K' Q' hk
  obtain ⟨cvs, hc1, hc2⟩ := hs.eval hx
  have hav := (hs.evals hargs).append hc2
  obtain ⟨B', ok', h1, h2, h3, h4, h5⟩ := hs.call e c1 c2 c3 hav
  have hrun : (execOp a.eval o).run P w = .ok (.enter f ((xs.map a.eval) ++ cvs).toArray) w := by
    simp only [execOp, hop, resolve, Deferred.ofValue, hc1, Sem.run_bind, Sem.run_pure, Result.andThen_ok, invoke]
    rw [C.call]
    simp
  have hc := hspec w ok' B' _ h1 h2 h3
  unfold Oper.wp
  rw [hrun]
  show Calls P f _ w _
  refine hc.mono fun e w' hh => ?_
  obtain ⟨y, B1, ok1, us, hM, rfl, hh⟩ := hh
  obtain ⟨B2, ok2, g1, g2, _⟩ := h5 y B1 ok1 us w' hh
  refine hk _ _ _ (hK y hM) ⟨_, _, g1.put hd g2⟩ ?_
  obtain ⟨e1, _, _, h3', _, hkp, _⟩ := hh
  exact far_of ho h2 e1 h3' hkp
end
end Go.Proofs.YthjmmofafpahhaaGreat.Sx
