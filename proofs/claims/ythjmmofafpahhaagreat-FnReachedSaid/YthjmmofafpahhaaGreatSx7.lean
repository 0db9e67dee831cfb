/- The symbolic layer: slices of whole numbers; slice literals; made slices. Program-independent. -/
import Derived.Test.YthjmmofafpahhaaGreatSx4
import Derived.Great.BuildSlice
namespace Go.Proofs.YthjmmofafpahhaaGreat.Sx
open Go Go.RowKit
set_option linter.unusedVariables false
set_option linter.unusedSimpArgs false

/-- A cell's value. -/
def tvA (q : TK) (x : q.ty) : AV := .d (emb q x)
@[simp] theorem rowsOf_length {q : TK} (ws : List q.ty) : (rowsOf q ws).length = ws.length := List.length_map _
@[simp] theorem rowsOf_nil {q : TK} : rowsOf q [] = [] := rfl
@[simp] theorem rowsOf_cons {q : TK} (n : q.ty) (ws : List q.ty) : rowsOf q (n :: ws) = [emb q n] :: rowsOf q ws := rfl
@[simp] theorem rowsOf_append {q : TK} (xs ys : List q.ty) : rowsOf q (xs ++ ys) = rowsOf q xs ++ rowsOf q ys := List.map_append
theorem rowsOf_drop {q : TK} (ws : List q.ty) (k : Nat) : (rowsOf q ws).drop k = rowsOf q (ws.drop k) := List.map_drop.symm
theorem rowsOf_take {q : TK} (ws : List q.ty) (k : Nat) : (rowsOf q ws).take k = rowsOf q (ws.take k) := List.map_take.symm
theorem rowsOf_get {q : TK} (ws : List q.ty) (i : Nat) (h : i < ws.length) : (rowsOf q ws)[i]? = some [emb q (ws.getD i q.dflt)] := by
  simp [rowsOf, List.getElem?_eq_getElem h, List.getD]
theorem rowsOf_set {q : TK} (ws : List q.ty) (i : Nat) (n : q.ty) : setCells (rowsOf q ws) i 0 [emb q n] = rowsOf q (ws.set i n) := by
  apply List.ext_getElem?
  intro k
  simp only [setCells, rowsOf, List.getElem?_modify, List.getElem?_map, List.getElem?_set, splice]
  by_cases hk : i = k
  · subst hk
    cases h : ws[i]? with
    | none =>
      have : ws.length ≤ i := List.getElem?_eq_none_iff.1 h
      simp [Nat.not_lt.2 this]
    | some x =>
      have : i < ws.length := (List.getElem?_eq_some_iff.1 h).1
      simp [this]
  · simp [hk]

section
variable {P : Program} {Γ : Ctx} {σ : S} {o : Oper} {K : S → Prop}

/-! ### Rows of whole numbers as rows -/
theorem updB_id {B : Nat → Option Bd} {i : Nat} {bd : Bd} (h : B i = some bd) : updB B i bd = B := by
  funext k
  unfold updB
  split
  · rename_i e; rw [e, h]
  · rfl
theorem StB.swap {B : Nat → Option Bd} {ok : Nat → Prop} {a : Act} {w : World} (h : StB Γ B ok σ a w) {id : Nat} {he he' : HE} (hh : lk σ.heap id = some he) (hs : ∀ bd, SatE B ok w bd he → SatE B ok w bd he') (ho : ∀ bd, he'.occ bd = he.occ bd) : StB Γ B ok (σ.setH id he') a w := by
  obtain ⟨bd, h1, h2⟩ := h.heap.sat id _ (lk_mem hh)
  have := h.rebind (w' := w) (he' := he') hh h1 (BdLe.refl bd) (Keeps.refl _ _) (by rw [updB_id h1]; exact hs bd h2) (fun b e => .inl (by rw [← ho]; exact e))
  rwa [updB_id h1] at this
theorem StB.toRow {B : Nat → Option Bd} {ok : Nat → Prop} {a : Act} {w : World} (h : StB Γ B ok σ a w) {id e ver : Nat} {q : TK} {ws : List q.ty} (hh : lk σ.heap id = some (.trow q e ver ws)) : StB Γ B ok (σ.setH id (.row e 1 ver (rowsOf q ws))) a w :=
  h.swap hh (fun bd x => x) (fun bd => rfl)
theorem StB.toIrow {B : Nat → Option Bd} {ok : Nat → Prop} {a : Act} {w : World} (h : StB Γ B ok σ a w) {id e ver : Nat} {q : TK} {ws : List q.ty} (hh : lk σ.heap id = some (.row e 1 ver (rowsOf q ws))) : StB Γ B ok (σ.setH id (.trow q e ver ws)) a w :=
  h.swap hh (fun bd x => x) (fun bd => rfl)
theorem setL_setL (h : List (Nat × HE)) (i : Nat) (x y : HE) : setL (setL h i x) i y = setL h i y := by
  induction h with
  | nil => rfl
  | cons p t ih =>
    obtain ⟨k, v⟩ := p
    simp only [setL, ih]
    cases Nat.beq k i <;> rfl
theorem lk_setL {h : List (Nat × HE)} {i : Nat} {x y : HE} (hh : lk h i = some x) : lk (setL h i y) i = some y := by
  induction h with
  | nil => cases hh
  | cons p t ih =>
    obtain ⟨k, v⟩ := p
    unfold lk at hh
    simp only [setL, lk]
    cases hb : Nat.beq k i with
    | true => rfl
    | false =>
      rw [hb] at hh
      exact ih hh
theorem put_heap {d : Option Tmp} {av : AV} : (σ.put d av).heap = σ.heap := by cases d <;> rfl
theorem put_setH {d : Option Tmp} {av : AV} {id : Nat} {he : HE} : (σ.setH id he).put d av = (σ.put d av).setH id he := by cases d <;> rfl
theorem setH_setH {id : Nat} {x y : HE} : (σ.setH id x).setH id y = σ.setH id y := by
  simp only [S.setH, setL_setL]

theorem Sop.conv {K1 : S → Prop} {σ1 : S} (hin : Sub Γ σ σ1) (hout : ∀ σ', K1 σ' → ∃ σ'', K σ'' ∧ Sub Γ σ' σ'') (h : Sop P Γ o K1 σ1) : Sop P Γ o K σ := by
  intro a w hs K' Q' hk
  exact h a w (hin a w hs) K' Q' fun σ' a' w' k hs' =>
    let ⟨σ'', k1, k2⟩ := hout σ' k
    hk σ'' a' w' k1 (k2 a' w' hs')

theorem sub_row {id e ver : Nat} {q : TK} {ws : List q.ty} (hh : lk σ.heap id = some (.trow q e ver ws)) : Sub Γ σ (σ.setH id (.row e 1 ver (rowsOf q ws))) := fun a w ⟨B, ok, h⟩ => ⟨B, ok, h.toRow hh⟩
theorem sub_irow {id e ver : Nat} {q : TK} {ws : List q.ty} (hh : lk σ.heap id = some (.row e 1 ver (rowsOf q ws))) : Sub Γ σ (σ.setH id (.trow q e ver ws)) := fun a w ⟨B, ok, h⟩ => ⟨B, ok, h.toIrow hh⟩
/-- An operation on a row of whole numbers, by what it does to a row. -/
theorem sop_asrow {id e ver ver' : Nat} {q : TK} {ws ws' : List q.ty} {av : AV} {d : Option Tmp} (hh : lk σ.heap id = some (.trow q e ver ws)) (hK : K ((σ.setH id (.trow q e ver' ws')).put d av))
    (h : ∀ K1 : S → Prop, K1 (((σ.setH id (.row e 1 ver (rowsOf q ws))).setH id (.row e 1 ver' (rowsOf q ws'))).put d av) → Sop P Γ o K1 (σ.setH id (.row e 1 ver (rowsOf q ws)))) : Sop P Γ o K σ := by
  refine Sop.conv (sub_row hh) ?_ (h (fun s => s = ((σ.setH id (.row e 1 ver (rowsOf q ws))).setH id (.row e 1 ver' (rowsOf q ws'))).put d av) rfl)
  rintro σ' rfl
  refine ⟨_, hK, ?_⟩
  rw [setH_setH, put_setH, put_setH]
  have h1 : lk ((σ.put d av).setH id (.row e 1 ver' (rowsOf q ws'))).heap id = some (.row e 1 ver' (rowsOf q ws')) := by
    simp only [S.setH, put_heap]
    exact lk_setL hh
  have := sub_irow (Γ := Γ) h1
  rwa [setH_setH] at this

theorem RelD.ofInts {ok : Nat → Prop} {w : World} {q : TK} {ws : List q.ty} {v : Value} (h : RelD ok w (.tv q ws) v) : RelD ok w (.arr 1 (rowsOf q ws)) v := by cases h with | tv _ _ _ h => exact h

theorem pv_len_ints {t : TypeId} {x : Operand} {q : TK} {ws : List q.ty} {e s : Nat} [T : TSl P t e s] (hop : o.op = .call { callee := .builtin .len, args := #[x], argTypes := #[t] }) (hx : σ.get x = some (.d (.tv q ws))) : Pv P Γ σ o (iv ws.length) := by
  intro B ok a w hs
  obtain ⟨A, cap, h1, _⟩ := RelD.inv (RelD.ofInts (hs.eval hx))
  refine ⟨_, .c _ rfl, fun w' _ => ?_⟩
  simp [execOp, hop, resolve, invoke, builtin, Builtin.len_, run_underlying T.und, h1, goInt]
theorem pv_lenr_ints {t : TypeId} {x : Operand} {id ver : Nat} {e' : Nat} {q : TK} {ws : List q.ty} {e s : Nat} [T : TSl P t e s] (hop : o.op = .call { callee := .builtin .len, args := #[x], argTypes := #[t] }) (hx : σ.get x = some (.row id ver)) (hh : lk σ.heap id = some (.trow q e' ver ws)) : Pv P Γ σ o (iv ws.length) := by
  intro B ok a w hs
  obtain ⟨bd, h1, h2, h3⟩ := hs.irow hx hh
  obtain ⟨A, c, h4, _⟩ := hdr_len h3
  refine ⟨_, .c _ rfl, fun w' _ => ?_⟩
  simp [execOp, hop, resolve, invoke, builtin, Builtin.len_, run_underlying T.und, h2, h4, goInt]

theorem index_core {ok : Nat → Prop} {w : World} {t e sz : Nat} {u : Value} {xs : List (List D)} {k : IntKind} {i : Int} [T : TSl P t e sz] (hr : RelD ok w (.arr sz xs) u) (h0 : 0 ≤ i) (hlt : i < xs.length) :
    ∃ bk of cap, u = .slice (some ⟨bk, of, none⟩) xs.length cap ∧ ∀ w', (Instr.indexAt t u (.int k i)).run P w' = .ok (.pointer (some ⟨bk, of + i.toNat * sz, none⟩)) w' := by
  obtain ⟨A, cap, h1, h2, h3, h4, h5⟩ := RelD.inv hr
  cases A with
  | none => have := (h3 rfl).1; subst this; simp at hlt; omega
  | some ad =>
    obtain ⟨bk, of, sp⟩ := ad
    have hsp := (h5 _ rfl).1
    simp only at hsp
    subst hsp
    exact ⟨bk, of, cap, h1, fun w' => by rw [h1]; exact run_indexAt h0 hlt⟩
theorem pv_index_ints {t e : Nat} {x ix : Operand} {q : TK} {ws : List q.ty} {k : IntKind} {i : Int} [T : TSl P t e 1] (hop : o.op = .indexAddr t x ix) (hx : σ.get x = some (.d (.tv q ws))) (hi : σ.get ix = some (.d (.c (.int k i)))) (h0 : 0 ≤ i) (hlt : i < ws.length) : Pv P Γ σ o (.tp q ws i.toNat) := by
  intro B ok a w hs
  have hi' := hs.evalc hi
  have hx' := RelD.ofInts (hs.eval hx)
  obtain ⟨bk, of, cap, h1, h2⟩ := index_core (T := T) (k := k) hx' h0 (by rw [rowsOf_length]; exact hlt)
  refine ⟨.pointer (some ⟨bk, of + i.toNat, none⟩), ⟨by omega, ⟨bk, of, none⟩, _, cap, h1 ▸ hx', rfl⟩, fun w' hb => ?_⟩
  have h3 := h2 w'
  rw [Nat.mul_one] at h3
  simp only [execOp, hop, hi', Sem.run_bind, h3, Result.andThen_ok, Sem.run_pure]
theorem pv_load_ints {t : TypeId} {x : Operand} {q : TK} {ws : List q.ty} {i : Nat} [TOne P t] (hop : o.op = .load t x) (hx : σ.get x = some (.tp q ws i)) : Pv P Γ σ o (tvA q (ws.getD i q.dflt)) := by
  intro B ok a w hs
  obtain ⟨h0, ad, n, cap, h1, h2⟩ := hs.eval hx
  obtain ⟨A, cap', h3, h4, h5, h6, h7⟩ := RelD.inv h1
  cases h3
  obtain ⟨h8, h9⟩ := h7 _ rfl
  obtain ⟨h10, v, h11, h12⟩ := h9 i 0 _ _ (rowsOf_get ws i h0) rfl
  refine ⟨v, h12, fun w' hb => ?_⟩
  have hb := hb.resolve_left (by simp [hop, dryO])
  rw [Nat.mul_one, Nat.add_zero] at h11
  have hc' : w'.cell? ⟨ad.block, ad.off + i, none⟩ = some v := by
    rw [hb.cell (p := ⟨ad.block, _, none⟩) (hs.heap.okb _ h10)]
    exact h11
  simp only [execOp, hop, h2, Instr.loadAt, Instr.sureAddr, Sem.run_bind, Sem.run_pure, Result.andThen_ok, run_loadVar_one hc']

/-- A reading of a row of whole numbers, by that of a row. -/
theorem pv_asrow {id e ver : Nat} {q : TK} {ws : List q.ty} {av : AV} (hh : lk σ.heap id = some (.trow q e ver ws)) (h : Pv P Γ (σ.setH id (.row e 1 ver (rowsOf q ws))) o av) : Pv P Γ σ o av :=
  fun B ok a w hs => h B ok a w (hs.toRow hh)
theorem pv_indexr_ints {t e : Nat} {x ix : Operand} {id ver e' : Nat} {q : TK} {ws : List q.ty} {k : IntKind} {i : Int} [T : TSl P t e 1] (hop : o.op = .indexAddr t x ix) (hx : σ.get x = some (.row id ver)) (hh : lk σ.heap id = some (.trow q e' ver ws)) (hi : σ.get ix = some (.d (.c (.int k i)))) (h0 : 0 ≤ i) (hlt : i < ws.length) : Pv P Γ σ o (.wp id ver i.toNat 0) := by
  refine pv_asrow hh (pv_index_row hop (by cases x <;> exact hx) (lk_setL hh) (by cases ix <;> exact hi) h0 (by rw [rowsOf_length]; exact hlt))
theorem StB.wplt {B : Nat → Option Bd} {ok : Nat → Prop} {a : Act} {w : World} (h : StB Γ B ok σ a w) {x : Operand} {id ver i : Nat} {e : Nat} {q : TK} {ws : List q.ty} (hx : σ.get x = some (.wp id ver i 0)) (hh : lk σ.heap id = some (.trow q e ver ws)) : i < ws.length := by
  obtain ⟨bd, arr, h1, h2, h3, h4, _⟩ := (h.toRow hh).wp (x := x) (by cases x <;> exact hx) (lk_setL hh)
  rwa [rowsOf_length] at h4
theorem pv_loadr_ints {t : TypeId} {x : Operand} {id ver i e : Nat} {q : TK} {ws : List q.ty} [TOne P t] (hop : o.op = .load t x) (hx : σ.get x = some (.wp id ver i 0)) (hh : lk σ.heap id = some (.trow q e ver ws)) : Pv P Γ σ o (tvA q (ws.getD i q.dflt)) := by
  intro B ok a w hs
  have hi := hs.wplt hx hh
  exact pv_asrow hh (pv_load_wp hop (by cases x <;> exact hx) (lk_setL hh) (rowsOf_get ws i hi) rfl) B ok a w hs
theorem sop_storer_ints {t : TypeId} {x y : Operand} {id ver i e : Nat} {q : TK} {ws : List q.ty} {n : q.ty} [T : TSize P t 1] (hop : o.op = .store t x y) (hx : σ.get x = some (.wp id ver i 0)) (hh : lk σ.heap id = some (.trow q e ver ws)) (hy : σ.get y = some (tvA q n))
    {d : Option Tmp} (he : o.dst = d) (hd : dstOk Γ.nt d = true) (hK : K ((σ.setH id (.trow q e ver (ws.set i n))).put d (.tup []))) : Sop P Γ o K σ :=
  sop_asrow hh hK fun K1 hK1 => sop_store_row (T := T) (cs' := [tvA q n]) (m := [emb q n]) hop (by cases x <;> exact hx) (lk_setL hh) (by cases y <;> exact hy) rfl rfl rfl (Nat.le_refl 1) he hd (by rw [rowsOf_set]; exact hK1)
theorem SrcOk.toRow {x : Operand} {sz : Nat} {ys : List (List D)} {id e ver : Nat} {q : TK} {ws : List q.ty} (hh : lk σ.heap id = some (.trow q e ver ws)) (h : SrcOk σ x sz ys) : SrcOk (σ.setH id (.row e 1 ver (rowsOf q ws))) x sz ys := by
  have g : ∀ {av}, σ.get x = some av → (σ.setH id (.row e 1 ver (rowsOf q ws))).get x = some av := fun {av} hg => by cases x <;> exact hg
  have other : ∀ {h : List (Nat × HE)} {i : Nat} {y : HE}, i ≠ id → lk h i = some y → lk (setL h id (.row e 1 ver (rowsOf q ws))) i = some y := by
    intro h
    induction h with
    | nil => intro i y _ e'; cases e'
    | cons p t ih =>
      obtain ⟨k, v⟩ := p
      intro i y hne hl
      unfold lk at hl
      simp only [setL, lk]
      cases hb : Nat.beq k i with
      | true =>
        rw [hb] at hl
        have := Nat.eq_of_beq_eq_true hb
        subst this
        have hb2 : Nat.beq k id = false := by
          cases hq : Nat.beq k id with
          | true => exact absurd (Nat.eq_of_beq_eq_true hq) hne
          | false => rfl
        rw [hb2]
        exact hl
      | false =>
        rw [hb] at hl
        exact ih hne hl
  cases h with
  | arr h => exact .arr (g h)
  | @row _ i2 v2 e2 h h2 =>
    by_cases hi : i2 = id
    · subst hi
      rw [hh] at h2
      cases h2
    · exact .row (g h) (other hi h2)
  | nil h => exact .nil (g h)
  | ints hz h => exact .ints hz (g h)
  | @irow q2 w2 i2 v2 e2 hz h h2 =>
    subst hz
    by_cases hi : i2 = id
    · subst hi
      rw [hh] at h2
      cases h2
      exact .row (g h) (lk_setL hh)
    · exact .irow rfl (g h) (other hi h2)
theorem sop_append_ints {t tx e by' : Nat} {s x : Operand} {id ver : Nat} {q : TK} {xs ys : List q.ty} [T : TSl P t e 1] [E : TEl P e 1 by'] [X : TNoInt P tx] (hop : o.op = .call { callee := .builtin .append, args := #[s, x], argTypes := #[t, tx] })
    (hs : σ.get s = some (.row id ver)) (hh : lk σ.heap id = some (.trow q e ver xs)) (hx : SrcOk σ x 1 (rowsOf q ys)) (hlen : xs.length + ys.length ≤ 1000000000000) (hby : Nat.ble by' 100 = true) {d : Option Tmp} (he : o.dst = d) (hd : dstOk Γ.nt d = true)
    (hK : K ((σ.setH id (.trow q e (ver + 1) (xs ++ ys))).put d (.row id (ver + 1)))) : Sop P Γ o K σ :=
  sop_asrow hh hK fun K1 hK1 => sop_append (ys := rowsOf q ys) hop (by cases s <;> exact hs) (lk_setL hh) (hx.toRow hh) (by simpa using hlen) hby he hd (by rw [← rowsOf_append]; exact hK1)
/-! ### Slice literals -/
noncomputable def partsOf (σ : S) : Nat → List (Nat × Operand) → Option (List (List D))
  | _, [] => some []
  | k, (i, x) :: r => bif Nat.beq i k then
      match σ.get x with
      | some av => match cellsOf av with
        | some cs => match dataOf cs, partsOf σ (k + 1) r with
          | some l, some ls => some (l :: ls)
          | _, _ => none
        | none => none
      | none => none
    else none
def lensOk (sz : Nat) : List (List D) → Bool
  | [] => true
  | l :: ls => Nat.beq l.length sz && lensOk sz ls
theorem lensOk_spec {sz : Nat} : ∀ {ys : List (List D)}, lensOk sz ys = true → ∀ l ∈ ys, l.length = sz
  | [], _, l, hl => by cases hl
  | y :: ys, h, l, hl => by
    simp only [lensOk, Bool.and_eq_true] at h
    rcases List.mem_cons.1 hl with rfl | hl
    · exact Nat.eq_of_beq_eq_true h.1
    · exact lensOk_spec h.2 l hl

theorem parts_spec {B : Nat → Option Bd} {ok : Nat → Prop} {a : Act} {w : World} (h : StB Γ B ok σ a w) : ∀ (ps : List (Nat × Operand)) (k : Nat) (ys : List (List D)), partsOf σ k ps = some ys →
    ∃ us : List (List Value), us.length = ys.length ∧ (∀ (i : Nat) (u : List Value) (l : List D), us[i]? = some u → ys[i]? = some l → RelAs B ok w (l.map .d) u) ∧ ∃ vs : List Value, (ps.map fun p => (p.1, a.eval p.2)) = (vs.zipIdx k).map (fun x => (x.2, x.1)) ∧ vs.map (fun v => v.cells) = us.map List.toArray
  | [], k, ys, hp => by
    cases hp
    exact ⟨[], rfl, (fun i u l hu => by simp at hu), [], rfl, rfl⟩
  | (i, x) :: r, k, ys, hp => by
    unfold partsOf at hp
    cases hb : Nat.beq i k with
    | false => rw [hb] at hp; cases hp
    | true =>
      rw [hb] at hp
      obtain rfl := Nat.eq_of_beq_eq_true hb
      simp only [cond_true] at hp
      split at hp
      · rename_i av hx
        split at hp
        · rename_i cs hc
          split at hp
          · rename_i l ls hd hr
            cases hp
            obtain ⟨us, h1, h2, vs, h3, h4⟩ := parts_spec h r (i + 1) ls hr
            obtain ⟨u, h5, h6⟩ := (h.eval hx).cells hc
            replace h6 := h6.dataOf hd
            refine ⟨u :: us, by simp [h1], fun j u' l' hu hl => ?_, a.eval x :: vs, ?_, ?_⟩
            · cases j with
              | zero =>
                simp only [List.getElem?_cons_zero, Option.some.injEq] at hu hl
                subst hu
                subst hl
                exact h6
              | succ j =>
                simp only [List.getElem?_cons_succ] at hu hl
                exact h2 j u' l' hu hl
            · simp only [List.map_cons, List.zipIdx_cons, h3]
            · simp only [List.map_cons, h5, h4]
          · cases hp
        · cases hp
      · cases hp

theorem flat_at {us : List (List Value)} {sz : Nat} (hl : ∀ u ∈ us, u.length = sz) {i j : Nat} {u : List Value} (hi : us[i]? = some u) (hj : j < sz) : us.flatten[i * sz + j]? = u[j]? := by
  induction us generalizing i with
  | nil => simp at hi
  | cons x xs ih =>
    have hx := hl x List.mem_cons_self
    cases i with
    | zero =>
      simp only [List.getElem?_cons_zero, Option.some.injEq] at hi
      subst hi
      rw [Nat.zero_mul, Nat.zero_add, List.flatten_cons, List.getElem?_append_left (by omega)]
    | succ i =>
      simp only [List.getElem?_cons_succ] at hi
      rw [List.flatten_cons, List.getElem?_append_right (by rw [hx, Nat.add_mul]; omega), hx]
      have e : (i + 1) * sz + j - sz = i * sz + j := by rw [Nat.add_mul]; omega
      rw [e]
      exact ih (fun u hu => hl u (List.mem_cons_of_mem _ hu)) hi

theorem lens_ints {q : TK} : ∀ ws : List q.ty, lensOk 1 (rowsOf q ws) = true
  | [] => rfl
  | a :: t => by simp [lensOk, lens_ints t]
/-- A new block that is a row. -/
theorem StB.newrow {B : Nat → Option Bd} {ok : Nat → Prop} {a : Act} {w : World} (h : StB Γ B ok σ a w) {e sz : Nat} {ys : List (List D)} {us : List (List Value)} (hlen : us.length = ys.length) (hys : ∀ l ∈ ys, l.length = sz)
    (hr : ∀ (i : Nat) (u : List Value) (l : List D), us[i]? = some u → ys[i]? = some l → RelAs B ok w (l.map .d) u) (hm : ys.length ≤ maxLen) {he : HE} (hS : ∀ B w bd, SatR ok w bd e sz 0 ys → SatE B ok w bd he) (hO : ∀ bd, he.occ bd = if bd.live then some bd.blk else none) :
    let bd : Bd := ⟨w.heap.size, 0, ys.length, ys.length, sz, 0, true⟩
    StB Γ (updB B σ.next bd) ok (σ.new he) a (w.alloc (.cells us.flatten.toArray e)) ∧ RelA (updB B σ.next bd) ok (w.alloc (.cells us.flatten.toArray e)) (.row σ.next 0) (.slice (some ⟨w.heap.size, 0, none⟩) ys.length ys.length) := by
  intro bd
  have hb : Below w.heap.size w (w.alloc (.cells us.flatten.toArray e)) := (Below.refl _ _).alloc (Nat.le_refl _) _
  have hul : ∀ u ∈ us, u.length = sz := fun u hu => by
    obtain ⟨i, hi, hi'⟩ := List.mem_iff_getElem.1 hu
    have h1 := List.getElem?_eq_getElem hi
    rw [hi'] at h1
    have h2 := List.getElem?_eq_getElem (by omega : i < ys.length)
    have := (hr i u _ h1 h2).length
    simp only [List.length_map] at this
    rw [this]
    exact hys _ (List.getElem_mem _)
  have hfl : us.flatten.length = ys.length * sz := by
    rw [← hlen]
    clear hlen hr h hb
    induction us with
    | nil => simp
    | cons x xs ih =>
      rw [List.flatten_cons, List.length_append, ih (fun u hu => hul u (List.mem_cons_of_mem _ hu)), hul x List.mem_cons_self, List.length_cons, Nat.add_mul]
      omega
  refine ⟨h.new hb (hS _ _ _ ⟨rfl, rfl, rfl, hys, ?_⟩) (fun b e' => ?_), rfl, bd, updB_same _ _ _, Nat.le_refl _, fun _ => rfl⟩
  · rw [if_pos rfl]
    refine ⟨_, heap_alloc_at w _, by simp [bd, hfl], Nat.le_refl _, hm, fun i j l d hi hj => ?_⟩
    have hi' : i < us.length := by have := (List.getElem?_eq_some_iff.1 hi).1; omega
    have h1 := List.getElem?_eq_getElem hi'
    have h2 := hr i _ l h1 hi
    obtain ⟨v, k1, k2, k3⟩ := h2.data j d hj
    have hjs : j < sz := by
      have := (List.getElem?_eq_some_iff.1 hj).1
      have := hys l (List.mem_of_getElem? hi)
      omega
    refine ⟨v, ?_, k2, k3.mono (fun _ x => x) (fun b hk => hb.block b (h.heap.okb b hk))⟩
    simp only [bd, Nat.zero_add, List.getElem?_toArray]
    rw [flat_at hul h1 hjs]
    exact k1
  · simp only [hO, bd, if_true, Option.some.injEq] at e'
    exact Nat.le_of_eq e'

theorem sopb_buildSlice_as {t e sz by' : Nat} {n : Nat} {ps : List (Nat × Operand)} {ys : List (List D)} [T : TSl P t e sz] [E : TEl P e sz by'] (hop : o.op = .buildSlice t n ps.toArray) (hp : partsOf σ 0 ps = some ys) (hl : lensOk sz ys = true) (hn : Nat.beq ys.length n = true) (hs : Nat.blt (n * sz) 1000000 = true)
    {he : HE} (hS : ∀ B ok w bd, SatR ok w bd e sz 0 ys → SatE B ok w bd he) (hO : ∀ bd, he.occ bd = if bd.live then some bd.blk else none) {d : Option Tmp} (hdst : o.dst = d) (hd : dstOk Γ.nt d = true) (hK : K ((σ.new he).put d (.row σ.next 0))) : SopB P Γ o K σ :=
  sopb_eff hdst hd hK fun B ok a w h => by
    obtain ⟨us, h1, h2, vs, h3, h4⟩ := parts_spec h ps 0 ys hp
    have hys := lensOk_spec hl
    obtain rfl := Nat.eq_of_beq_eq_true hn
    have hsm : ys.length * sz < 1000000 := Nat.le_of_ble_eq_true hs
    obtain ⟨i, z, hi, hsz, hby, hz, hzs, hpos⟩ := E.info
    have hle : ys.length ≤ ys.length * sz := Nat.le_mul_of_pos_right _ hpos
    obtain ⟨g1, g2⟩ := h.newrow (e := e) h1 hys h2 (by simp only [maxLen]; omega) (fun B w bd => hS B ok w bd) hO
    have hvl : vs.length = ys.length := by
      have := congrArg List.length h4
      simp only [List.length_map] at this
      omega
    have hvc : ∀ v ∈ vs, v.cells.size = sz := fun v hv => by
      obtain ⟨k, hk, hk'⟩ := List.mem_iff_getElem.1 hv
      have e1 : (vs.map fun v => v.cells)[k]? = some v.cells := by rw [List.getElem?_map, List.getElem?_eq_getElem hk, hk']; rfl
      rw [h4, List.getElem?_map] at e1
      cases hu : us[k]? with
      | none => rw [hu] at e1; cases e1
      | some u =>
        rw [hu] at e1
        simp only [Option.map_some, Option.some.injEq] at e1
        have hk2 : k < ys.length := by omega
        have := (h2 k u _ hu (List.getElem?_eq_getElem hk2)).length
        rw [← e1]
        simp only [List.size_toArray, this, List.length_map]
        exact hys _ (List.getElem_mem hk2)
    have hfm : (vs.flatMap fun v => v.cells.toList) = us.flatten := by
      have : (vs.flatMap fun v => v.cells.toList) = ((vs.map fun v => v.cells).map Array.toList).flatten := by
        rw [List.map_map]; rfl
      rw [this, h4, List.map_map]
      congr 1
      exact (List.map_congr_left fun x _ => rfl).trans (List.map_id us)
    refine ⟨_, _, _, ?_, g1, g2, (Below.refl _ _).alloc (Nat.le_refl _) _⟩
    have hparts : (ps.toArray.map fun (i, x) => (i, a.eval x)).toList = (vs.zipIdx 0).map fun x => (x.2, x.1) := by
      rw [← h3]
      simp
    by_cases h0 : ys.length = 0
    · have hy : ys = [] := List.eq_nil_of_length_eq_zero h0
      subst hy
      have hu : us = [] := List.eq_nil_of_length_eq_zero h1
      subst hu
      have hv : vs = [] := List.eq_nil_of_length_eq_zero hvl
      subst hv
      have hp0 : ps = [] := by
        simp only [List.zipIdx_nil, List.map_nil, List.map_eq_nil_iff] at h3
        exact h3
      subst hp0
      simp [execOp, hop, Instr.buildSlice, run_underlying T.und, T.size, Instr.fill, newRow]
      congr 2
      simp
    · have hfill := Great.fill_whole hpos vs ((Array.range (ys.length * i.size)).map (z.cells[· % z.cells.size]!)) hvc (by simp [hvl, hsz])
      rw [hfm] at hfill
      have hrun := run_buildSlice (P := P) w t e ys.length (ps.toArray.map fun (i, x) => (i, a.eval x)) us.flatten.toArray i z T.und hi hz (by rw [hsz]; omega) (by rw [hsz]; exact Nat.mul_ne_zero h0 (by omega)) (by rw [hparts, hsz] at *; exact hfill)
      simp only [execOp, hop, Sem.run_bind, hrun, Result.andThen_ok, Sem.run_pure]

theorem sop_buildSlice_as {t e sz by' : Nat} {n : Nat} {ps : List (Nat × Operand)} {ys : List (List D)} [T : TSl P t e sz] [E : TEl P e sz by'] (hop : o.op = .buildSlice t n ps.toArray) (hp : partsOf σ 0 ps = some ys) (hl : lensOk sz ys = true) (hn : Nat.beq ys.length n = true) (hs : Nat.blt (n * sz) 1000000 = true)
    {he : HE} (hS : ∀ B ok w bd, SatR ok w bd e sz 0 ys → SatE B ok w bd he) (hO : ∀ bd, he.occ bd = if bd.live then some bd.blk else none) {d : Option Tmp} (hdst : o.dst = d) (hd : dstOk Γ.nt d = true) (hK : K ((σ.new he).put d (.row σ.next 0))) : Sop P Γ o K σ :=
  (sopb_buildSlice_as hop hp hl hn hs hS hO hdst hd hK).sop

theorem sop_buildSlice {t e sz by' : Nat} {n : Nat} {ps : List (Nat × Operand)} {ys : List (List D)} [T : TSl P t e sz] [E : TEl P e sz by'] (hop : o.op = .buildSlice t n ps.toArray) (hp : partsOf σ 0 ps = some ys) (hl : lensOk sz ys = true) (hn : Nat.beq ys.length n = true) (hs : Nat.blt (n * sz) 1000000 = true)
    {d : Option Tmp} (he : o.dst = d) (hd : dstOk Γ.nt d = true) (hK : K ((σ.new (.row e sz 0 ys)).put d (.row σ.next 0))) : Sop P Γ o K σ :=
  sop_buildSlice_as (he := .row e sz 0 ys) hop hp hl hn hs (fun _ _ _ _ h => h) (fun _ => rfl) he hd hK
theorem sop_buildSlice_ints {t e by' : Nat} {n : Nat} {ps : List (Nat × Operand)} {q : TK} {ws : List q.ty} [T : TSl P t e 1] [E : TEl P e 1 by'] (hop : o.op = .buildSlice t n ps.toArray) (hp : partsOf σ 0 ps = some (rowsOf q ws)) (hn : Nat.beq ws.length n = true) (hs : Nat.blt n 1000000 = true)
    {d : Option Tmp} (he : o.dst = d) (hd : dstOk Γ.nt d = true) (hK : K ((σ.new (.trow q e 0 ws)).put d (.row σ.next 0))) : Sop P Γ o K σ :=
  sop_buildSlice_as (he := .trow q e 0 ws) hop hp (lens_ints ws) (by rw [rowsOf_length]; exact hn) (by rw [Nat.mul_one]; exact hs) (fun _ _ _ _ h => h) (fun _ => rfl) he hd hK
end
end Go.Proofs.YthjmmofafpahhaaGreat.Sx
