/- The symbolic layer: more operations. Program-independent. -/
import Derived.Test.YthjmmofafpahhaaGreatSx7
import Derived.Laws.MakeOwn
import Derived.Laws.Tables
import Derived.Laws.BytesString
import Derived.Lib.SliceRun
import Derived.Laws.Small
import Derived.Carry
import Derived.MapKept
namespace Go.Proofs.YthjmmofafpahhaaGreat.Sx
open Go Go.RowKit
set_option linter.unusedVariables false
set_option linter.unusedSimpArgs false

theorem RelD.nil {ok : Nat → Prop} {w : World} (sz : Nat) : RelD ok w (.arr sz []) (.slice none 0 0) :=
  .arr sz [] none 0 0 (fun _ _ => undef) rfl (Nat.le_refl _) (fun _ => ⟨rfl, rfl⟩) (by simp) (fun a e' => by cases e') (fun a e' => by cases e') (fun a e' => by cases e') (fun i j l d hi => by simp at hi)

theorem RelD.frozenR {ok' : Nat → Prop} {w : World} {bd : Bd} {e sz ver : Nat} {xs : List (List D)} {ok : Nat → Prop} (h : SatR ok w bd e sz ver xs) (hk : ∀ b, ok b → ok' b) (hb : ∀ b, (if bd.live then some bd.blk else none) = some b → ok' b) : RelD ok' w (.arr sz xs) bd.hdr := by
  obtain ⟨h1, h2, h3, h4, h5⟩ := h
  split at h5
  · rename_i hl
    obtain ⟨arr, g1, g2, g3, g4, g5⟩ := h5
    rw [Bd.hdr, if_pos hl]
    refine .arr sz xs _ _ _ (fun i j => (arr[bd.off + (i * sz + j)]?).getD undef) h3.symm g3 (fun e' => by cases e') h4 (fun a ha => by cases ha; rfl) (fun a ha _ => by cases ha; exact hb _ (by rw [if_pos hl])) (fun a ha i j hi hj => ?_) (fun i j l d hi hj => ?_)
    · cases ha
      have h6 := List.getElem?_eq_getElem hi
      have h7 : j < (xs[i]).length := by rw [h4 _ (List.getElem_mem hi)]; exact hj
      obtain ⟨v, k1, k2, k3⟩ := g5 i j _ _ h6 (List.getElem?_eq_getElem h7)
      rw [cell_row g1, k1]
      rfl
    · obtain ⟨v, k1, k2, k3⟩ := g5 i j l d hi hj
      show RelD ok' w d ((arr[bd.off + (i * sz + j)]?).getD undef)
      rw [k1]
      exact k3.mono hk (fun _ _ => rfl)
  · rename_i hl
    obtain ⟨h5, h6⟩ := h5
    subst h5
    rw [Bd.hdr, if_neg hl]
    exact RelD.nil sz

section
variable {P : Program} {Γ : Ctx} {σ : S} {o : Oper} {K : S → Prop}

theorem pv_min {x y : Operand} {k : IntKind} {m n : Int} {ts : Array TypeId} (hop : o.op = .call { callee := .builtin .min, args := #[x, y], argTypes := ts }) (hx : σ.get x = some (.d (.c (.int k m)))) (hy : σ.get y = some (.d (.c (.int k n)))) : Pv P Γ σ o (.d (.c (.int k (min m n)))) := by
  intro B ok a w hs
  have e1 := hs.evalc hx
  have e2 := hs.evalc hy
  refine ⟨_, .c _ rfl, fun w' _ => ?_⟩
  have e3 : min m n = if n < m then n else m := by
    by_cases h : n < m
    · rw [if_pos h]; omega
    · rw [if_neg h]; omega
  simp [execOp, hop, resolve, invoke, builtin, e1, e2, run_min_int2, e3]

theorem pv_cap_nil {x : Operand} {t e s : Nat} [T : TSl P t e s] (hop : o.op = .call { callee := .builtin .cap, args := #[x], argTypes := #[t] }) (hx : σ.get x = some (.d (.c (.slice none 0 0)))) : Pv P Γ σ o (iv 0) := by
  intro B ok a w hs
  have e1 := hs.evalc hx
  refine ⟨_, .c _ rfl, fun w' _ => ?_⟩
  simp [execOp, hop, resolve, invoke, builtin, Builtin.cap_, run_underlying T.und, e1, goInt]

/-! ### A struct out of its parts -/
class TBld (P : Program) (t : Nat) (z : outParam (List Value)) (ps : outParam (List (Nat × Nat))) : Prop where
  bld : ∃ it fs zv, P.info? t = some it ∧ P.underlying t = some (.struct fs) ∧ it.zero = some zv ∧ zv.cells = z.toArray ∧ fs.toList.mapM (fun f => (P.info? f.type).map fun i => (f.offset, i.size)) = some ps

def fillA (places : List (Nat × Nat)) (cells : List AV) : List (Nat × AV) → Option (List AV)
  | [] => some cells
  | (i, v) :: rest => match places[i]? with
    | some (off, size) => match cellsOf v with
      | some cs => bif Nat.beq cs.length size && Nat.ble (off + cs.length) cells.length then fillA places (splice cells off cs) rest else none
      | none => none
    | none => none
def getsP (σ : S) : List (Nat × Operand) → Option (List (Nat × AV))
  | [] => some []
  | (i, x) :: r => match σ.get x, getsP σ r with
    | some a, some as => some ((i, a) :: as)
    | _, _ => none

theorem splice_set {α : Type} (l : List α) (i : Nat) (c : α) (cs : List α) (h : i < l.length) : splice (l.set i c) (i + 1) cs = splice l i (c :: cs) := by
  obtain ⟨l1, x, l2, rfl, rfl⟩ : ∃ l1 x l2, l = l1 ++ x :: l2 ∧ l1.length = i :=
    ⟨l.take i, l[i], l.drop (i + 1), by simp, by simp; omega⟩
  have e1 : (l1 ++ x :: l2).set l1.length c = l1 ++ c :: l2 := by simp
  rw [e1]
  simp only [splice, List.length_cons]
  have e2 : (l1 ++ c :: l2).take (l1.length + 1) = l1 ++ [c] := by
    rw [List.take_append, List.take_of_length_le (Nat.le_succ _)]; simp
  have e3 : (l1 ++ c :: l2).drop (l1.length + 1 + cs.length) = l2.drop cs.length := by
    rw [Nat.add_assoc, List.drop_append]; simp [Nat.add_comm 1]
  have e4 : (l1 ++ x :: l2).drop (l1.length + (cs.length + 1)) = l2.drop cs.length := by
    rw [List.drop_append]; simp
  rw [e2, e3, e4]
  simp
theorem fill_at : ∀ (cs : List Value) (off k : Nat) (arr : Array Value), off + k + cs.length ≤ arr.size →
    (cs.zipIdx k).foldl (fun (r : Array Value) (x : Value × Nat) => r.setIfInBounds (off + x.2) x.1) arr = (splice arr.toList (off + k) cs).toArray
  | [], off, k, arr, h => by simp [splice]
  | c :: cs, off, k, arr, h => by
    simp only [List.length_cons] at h
    rw [List.zipIdx_cons, List.foldl_cons, fill_at cs off (k + 1) _ (by simp; omega), Array.toList_setIfInBounds, ← Nat.add_assoc, splice_set _ _ _ _ (by simp; omega)]

theorem fillA_ok {B : Nat → Option Bd} {ok : Nat → Prop} {a : Act} {w : World} (h : StB Γ B ok σ a w) {places : List (Nat × Nat)} : ∀ (ps : List (Nat × Operand)) (qs : List (Nat × AV)) (cells r : List AV) (vs : List Value), getsP σ ps = some qs → fillA places cells qs = some r → RelAs B ok w cells vs →
    ∃ us : List Value, Instr.fill (places.toArray[·]?) vs.toArray (ps.map fun p => (p.1, a.eval p.2)) = some us.toArray ∧ RelAs B ok w r us
  | [], qs, cells, r, vs, h1, h2, h3 => by
    cases h1
    cases h2
    exact ⟨vs, rfl, h3⟩
  | (i, x) :: ps, qs, cells, r, vs, h1, h2, h3 => by
    unfold getsP at h1
    split at h1
    · rename_i av as hx has
      cases h1
      unfold fillA at h2
      split at h2
      · rename_i off size hp
        split at h2
        · rename_i cs hc
          cases hb : (Nat.beq cs.length size && Nat.ble (off + cs.length) cells.length) with
          | false => rw [hb] at h2; cases h2
          | true =>
            rw [hb] at h2
            simp only [cond_true] at h2
            simp only [Bool.and_eq_true] at hb
            have q1 := Nat.eq_of_beq_eq_true hb.1
            have q2 := Nat.le_of_ble_eq_true hb.2
            obtain ⟨us, g1, g2⟩ := (h.eval hx).cells hc
            have hul := g2.length
            have hvl := h3.length
            obtain ⟨us', g3, g4⟩ := fillA_ok h ps as (splice cells off cs) r (splice vs off us) has h2 (by
              unfold splice
              rw [← hul]
              exact ((h3.take off).append g2).append (h3.drop _))
            refine ⟨us', ?_, g4⟩
            rw [← g3]
            simp only [List.map_cons, Instr.fill, List.getElem?_toArray, hp, g1, List.size_toArray]
            have hcond : ¬ ((us.length ≠ size) ∨ off + us.length > vs.length) := by omega
            have hif : (decide (us.length ≠ size) || decide (off + us.length > vs.length)) = false := by
              simp only [Bool.or_eq_false_iff, decide_eq_false_iff_not]
              exact ⟨fun e => hcond (.inl e), fun e => hcond (.inr e)⟩
            simp only [hif, Bool.false_eq_true, if_false]
            congr 1
            have := fill_at us off 0 vs.toArray (by simp; omega)
            simpa using this
        · cases h2
      · cases h2
    · cases h1

theorem pv_build {t : TypeId} {ps : List (Nat × Operand)} {z : List Value} {places : List (Nat × Nat)} {qs : List (Nat × AV)} {r : List AV} [T : TBld P t z places] (hop : o.op = .build t ps.toArray) (hz : z.all (·.oneCell') = true) (h1 : getsP σ ps = some qs) (h2 : fillA places (z.map fun v => .d (.c v)) qs = some r) : Pv P Γ σ o (.agg r) := by
  intro B ok a w hs
  obtain ⟨it, fs, zv, g1, g2, g3, g4, g5⟩ := T.bld
  obtain ⟨us, k1, k2⟩ := fillA_ok hs ps qs _ r z h1 h2 (RelAs.consts z hz)
  refine ⟨.agg us.toArray, ⟨us, rfl, k2⟩, fun w' _ => ?_⟩
  have hb : P.built t (ps.toArray.map fun (i, x) => (i, a.eval x)).toList = some us.toArray := by
    unfold Program.built
    rw [g1, g2]
    simp only [g3, g5, g4]
    rw [← k1]
    simp
  simp only [execOp, hop, Sem.run_bind, run_build w' t _ _ hb, Result.andThen_ok, Sem.run_pure]

/-! ### Bytes as a string -/
def bstr (ws : List Int) : ByteArray := ws.foldl (fun r n => r.push (UInt8.ofNat n.toNat)) ByteArray.empty

theorem run_loadRow {ok : Nat → Prop} {w : World} {q : TK} {ws : List q.ty} {v : Value} (h : RelD ok w (.arr 1 (rowsOf q ws)) v) (ho : ∀ n : q.ty, ∃ u, emb q n = .c u) :
    ∃ A cap, v = .slice A ws.length cap ∧ (A = none → ws = []) ∧ ∀ ad, A = some ad → (loadCells ad ws.length).run P w = .ok (ws.map fun n => match emb q n with | .c u => u | _ => undef).toArray w := by
  obtain ⟨A, cap, g1, g2, g3, g4, g5⟩ := RelD.inv h
  rw [rowsOf_length] at g1
  refine ⟨A, cap, g1, fun e => ?_, fun ad hA => ?_⟩
  · have := (g3 e).1
    cases ws with
    | nil => rfl
    | cons a t => cases this
  · have := run_loadCells_list (P := P) w ad (ws.map fun n => match emb q n with | .c u => u | _ => undef) (fun j v hv => by
      obtain ⟨hsp, hc⟩ := g5 ad hA
      obtain ⟨bk, of, sp⟩ := ad
      simp only at hsp
      subst hsp
      rw [Addr.add_none]
      simp only [List.getElem?_map] at hv
      cases hj : ws[j]? with
      | none => rw [hj] at hv; cases hv
      | some n =>
        rw [hj] at hv
        simp only [Option.map_some, Option.some.injEq] at hv
        obtain ⟨u, hu⟩ := ho n
        have hr : (rowsOf q ws)[j]? = some [emb q n] := by simp [rowsOf, hj]
        obtain ⟨_, v', k2, k3⟩ := hc j 0 _ _ hr rfl
        rw [hu] at k3 hv
        cases k3
        simp only at hv
        subst hv
        simpa using k2)
    simpa using this

/-- A value that reads as a row of cells. -/
theorem StB.srcr {B : Nat → Option Bd} {ok : Nat → Prop} {a : Act} {w : World} (h : StB Γ B ok σ a w) {x : Operand} {q : TK} {ws : List q.ty} (hx : SrcOk σ x 1 (rowsOf q ws)) : ∃ ok', RelD ok' w (.arr 1 (rowsOf q ws)) (a.eval x) := by
  have arr : ∀ {ys : List (List D)}, σ.get x = some (.d (.arr 1 ys)) → RelD ok w (.arr 1 ys) (a.eval x) := fun hx => h.eval hx
  have row : ∀ {e ver : Nat} {ys : List (List D)} {bd : Bd}, a.eval x = bd.hdr → SatR ok w bd e 1 ver ys → RelD (fun _ => True) w (.arr 1 ys) (a.eval x) := fun h1 h2 => by
    rw [h1]
    exact RelD.frozenR h2 (fun _ _ => trivial) (fun _ _ => trivial)
  generalize hys : rowsOf q ws = ys at hx
  cases hx with
  | arr hx => exact ⟨ok, arr hx⟩
  | row hx hh => obtain ⟨bd, h1, h2, h3⟩ := h.row hx hh; exact ⟨_, row h2 h3⟩
  | ints hz hx => exact ⟨ok, RelD.ofInts (h.eval hx)⟩
  | irow hz hx hh => obtain ⟨bd, h1, h2, h3⟩ := h.irow hx hh; exact ⟨_, row h2 h3⟩
  | nil hx => rw [h.evalc hx]; exact ⟨ok, RelD.nil 1⟩

theorem sop_conv_bs {s d e : TypeId} {x : Operand} {ws : List Int} [T : TSl P s e 1] [TS : TStr P d] [TI : TInt P e .u8] (hop : o.op = .convert s d x) (hx : SrcOk σ x 1 (rowsOf .u8 ws)) {dst : Option Tmp} (he : o.dst = dst) (hd : dstOk Γ.nt dst = true) (hK : K (σ.put dst (sv (bstr ws)))) : Sop P Γ o K σ :=
  sop_eff he hd hK fun B ok a w hs => by
    obtain ⟨ok', hr⟩ := hs.srcr hx
    obtain ⟨A, cap, h1, h2, h3⟩ := run_loadRow (P := P) (q := .u8) hr (fun n => ⟨.int .u8 n, rfl⟩)
    refine ⟨.string (bstr ws), w, B, ?_, hs, .c _ rfl⟩
    have hc : (convert s d (a.eval x)).run P w = .ok (.string (bstr ws)) w := by
      rw [h1, run_convert_bytes_string w s d e A _ cap T.und TI.und TS.und]
      cases A with
      | none =>
        have := h2 rfl
        subst this
        simp [Conv.bytesToString, bstr]
      | some ad => exact run_bytesToString w ad _ cap ws (h3 ad rfl)
    simp only [execOp, hop, Sem.run_bind, hc, Result.andThen_ok, Sem.run_pure]

/-! ### An owned row, sliced: what was its name is void -/
theorem run_slice_own {t e sz : Nat} [T : TSl P t e sz] {w : World} {lo hi : Option Value} {A : Option Addr} {n cap : Nat} {l h : Int} (hl : lo = some (.int .i64 l) ∨ lo = none ∧ l = 0) (hh : hi = some (.int .i64 h) ∨ hi = none ∧ h = n) (h0 : 0 ≤ l) (h1 : l ≤ h) (h2 : h ≤ cap) :
    (Instr.sliceAt t (.slice A n cap) lo hi none).run P w = .ok (.slice (if cap = l.toNat then A else A.map (·.add (l.toNat * sz))) (h.toNat - l.toNat) (cap - l.toNat)) w := by
  simp [Instr.sliceAt, Instr.slice, run_underlying T.und, T.size, run_sliceBounds hl hh h0 h1 h2]

theorem sop_slice_own {t e' : Nat} {x : Operand} {lo hi : Option Operand} {id ver e : Nat} {q : TK} {ws : List q.ty} {l h : Int} [T : TSl P t e' 1] (hop : o.op = .slice t x lo hi none) (hx : σ.get x = some (.row id ver)) (hh : lk σ.heap id = some (.trow q e ver ws))
    (hl : loOk σ lo l) (hhi : hiOk σ hi ws.length h) (h0 : 0 ≤ l) (h1 : l ≤ h) (h2 : h ≤ ws.length) {dst : Option Tmp} (he : o.dst = dst) (hd : dstOk Γ.nt dst = true)
    (hK : K ((σ.setH id (.trow q e (ver + 1) ((ws.drop l.toNat).take (h.toNat - l.toNat)))).put dst (.row id (ver + 1)))) : Sop P Γ o K σ :=
  sop_eff he hd hK fun B ok a w hs => by
    obtain ⟨bd, hB, hev, hsat⟩ := hs.irow hx hh
    have hlen := hdr_len hsat
    obtain ⟨A, c, g1, g2⟩ := hlen
    rw [rowsOf_length] at g1 g2
    have hrun := run_slice_own (P := P) (T := T) (w := w) (A := A) (n := ws.length) (cap := c) (hs.lo hl) (hs.hi hhi) h0 h1 (by omega)
    have hsub : ∀ i y, ((ws.drop l.toNat).take (h.toNat - l.toNat))[i]? = some y → ws[l.toNat + i]? = some y := fun i y hi => by
      rw [List.getElem?_take] at hi
      split at hi
      · simpa using hi
      · cases hi
    have hn : ((ws.drop l.toNat).take (h.toNat - l.toNat)).length = h.toNat - l.toNat := by rw [List.length_take, List.length_drop]; omega
    let bd' : Bd := ⟨bd.blk, if bd.cap = l.toNat then bd.off else bd.off + l.toNat, bd.cap - l.toNat, h.toNat - l.toNat, 1, ver + 1, bd.live⟩
    have hsat0 := hsat
    obtain ⟨k1, k2, k3, k4, k5⟩ := hsat
    rw [rowsOf_length] at k3
    have hble : BdLe bd bd' := ⟨by show bd.ver ≤ ver + 1; omega, fun e' => by have : bd.ver = ver + 1 := e'; omega⟩
    have hval : (Value.slice (if c = l.toNat then A else A.map (·.add (l.toNat * 1))) (h.toNat - l.toNat) (c - l.toNat)) = bd'.hdr := by
      unfold Bd.hdr at g1 ⊢
      by_cases hlv : bd.live = true
      · rw [if_pos hlv] at g1
        rw [if_pos (show bd'.live = true from hlv)]
        simp only [Value.slice.injEq] at g1
        obtain ⟨rfl, j2, rfl⟩ := g1
        simp only [bd', Option.map_some, Addr.add_none, Nat.mul_one]
        split <;> rfl
      · rw [if_neg hlv] at g1
        rw [if_neg (show ¬ bd'.live = true from hlv)]
        simp only [Value.slice.injEq] at g1
        obtain ⟨rfl, j2, rfl⟩ := g1
        have hz : l.toNat = 0 ∧ h.toNat = 0 := by omega
        simp [hz.1, hz.2]
    have hsat' : SatE (updB B id bd') ok w bd' (.trow q e (ver + 1) ((ws.drop l.toNat).take (h.toNat - l.toNat))) := by
      refine ⟨rfl, rfl, ?_, fun l' hl' => ?_, ?_⟩
      · rw [rowsOf_length, hn]
      · obtain ⟨y, _, rfl⟩ := List.mem_map.1 hl'
        rfl
      · split at k5
        · rename_i hlv
          rw [if_pos (show bd'.live = true from hlv)]
          obtain ⟨arr, j1, j2, j3, j4, j5⟩ := k5
          refine ⟨arr, j1, ?_, ?_, ?_, fun i j l' d hi hj => ?_⟩
          · simp only [bd']
            split <;> omega
          · simp only [bd']; omega
          · simp only [bd']; omega
          · simp only [rowsOf, List.getElem?_map] at hi
            cases hy : ((ws.drop l.toNat).take (h.toNat - l.toNat))[i]? with
            | none => rw [hy] at hi; cases hi
            | some y =>
              rw [hy] at hi
              simp only [Option.map_some, Option.some.injEq] at hi
              have hlt := (List.getElem?_eq_some_iff.1 hy).1
              have hold : (rowsOf q ws)[l.toNat + i]? = some l' := by simp [rowsOf, hsub i y hy, hi]
              obtain ⟨v, m1, m2, m3⟩ := j5 (l.toNat + i) j l' d hold hj
              refine ⟨v, ?_, m2, m3⟩
              simp only [bd']
              rw [if_neg (by omega)]
              rw [← m1]
              congr 1
              omega
        · rename_i hlv
          rw [if_neg (show ¬ bd'.live = true from hlv)]
          obtain ⟨j1, j2⟩ := k5
          have hws : ws = [] := by
            cases ws with
            | nil => rfl
            | cons a t => cases j1
          subst hws
          exact ⟨by simp, by simp only [bd']; omega⟩
    have hst := hs.rebind hh hB hble (Keeps.refl _ w) hsat' (fun b e' => .inl (by
      simp only [HE.occ, bd'] at e' ⊢
      exact e'))
    refine ⟨bd'.hdr, w, _, ?_, hst, ?_, bd', updB_same _ _ _, Nat.le_refl _, fun _ => rfl⟩
    · rw [← hval]
      simp [execOp, hop, hev, g1, hrun]
    · unfold Bd.hdr; split <;> rfl

/-- A part of an owned row, to be read or cleared. -/
theorem pv_slice_part {t e' : Nat} {x : Operand} {lo hi : Option Operand} {id ver e : Nat} {q : TK} {ws : List q.ty} {l h : Int} [T : TSl P t e' 1] (hop : o.op = .slice t x lo hi none) (hx : σ.get x = some (.row id ver)) (hh : lk σ.heap id = some (.trow q e ver ws))
    (hl : loOk σ lo l) (hhi : hiOk σ hi ws.length h) (h0 : 0 ≤ l) (h1 : l ≤ h) (h2 : h ≤ ws.length) : Pv P Γ σ o (.rowv id ver l.toNat (h.toNat - l.toNat)) := by
  intro B ok a w hs
  obtain ⟨bd, hB, hev, hsat⟩ := hs.irow hx hh
  obtain ⟨A, c, g1, g2⟩ := hdr_len hsat
  rw [rowsOf_length] at g1 g2
  have hrun := fun w' => run_slice_own (P := P) (T := T) (w := w') (A := A) (n := ws.length) (cap := c) (hs.lo hl) (hs.hi hhi) h0 h1 (by omega)
  obtain ⟨k1, k2, k3, k4, k5⟩ := hsat
  rw [rowsOf_length] at k3
  refine ⟨.slice (if c = l.toNat then A else A.map (·.add (l.toNat * 1))) (h.toNat - l.toNat) (c - l.toNat), ⟨rfl, bd, hB, Nat.le_of_eq k1.symm, fun _ => ⟨by omega, if c = l.toNat then A else A.map (·.add (l.toNat * 1)), c - l.toNat, rfl, by omega, ?_, ?_, ?_⟩⟩, fun w' _ => by simp [execOp, hop, hev, g1, hrun]⟩
  · unfold Bd.hdr at g1
    split at g1 <;> simp only [Value.slice.injEq] at g1 <;> obtain ⟨j1, j2, j3⟩ := g1
    · omega
    · split at k5
      · rename_i p q'; exact absurd q' p
      · omega
  · intro hlv
    rw [Bd.hdr, hlv] at g1
    simp only [Bool.false_eq_true, if_false, Value.slice.injEq] at g1
    obtain ⟨j1, j2, j3⟩ := g1
    subst j1
    exact ⟨by omega, by split <;> rfl⟩
  · intro hlv
    rw [Bd.hdr, hlv] at g1
    simp only [if_true, Value.slice.injEq] at g1
    obtain ⟨j1, j2, j3⟩ := g1
    subst j1
    by_cases hc : c = l.toNat
    · exact ⟨bd.off, by rw [if_pos hc], fun hpos => by omega⟩
    · exact ⟨bd.off + l.toNat * 1, by rw [if_neg hc]; simp [Addr.add_none], fun _ => by rw [k2]⟩

/-! ### A new row of zeros -/
def zeroK : TK → Value → Bool
  | .i64, .int .i64 0 => true
  | .u8, .int .u8 0 => true
  | .bool, .bool false => true
  | _, _ => false
theorem zeroK_ok {q : TK} {z : Value} (h : zeroK q z = true) : z = embV q q.dflt ∧ q.flat = true := by
  unfold zeroK at h
  split at h <;> first | exact ⟨rfl, rfl⟩ | cases h
theorem sop_makeSlice {t e by' : Nat} {x y : Operand} {n : Int} {q : TK} {z : Value} [T : TSl P t e 1] [E : TEl P e 1 by'] [Z : TZero P e z] (hop : o.op = .makeSlice t x y) (hx : σ.get x = some (iv n)) (hy : σ.get y = some (iv n)) (hz : zeroK q z = true) (hby : Nat.ble by' 100 = true)
    (h0 : 0 ≤ n) (h1 : n ≤ 1000000000000) {dst : Option Tmp} (he : o.dst = dst) (hd : dstOk Γ.nt dst = true) (hK : K ((σ.new (.trow q e 0 (List.replicate n.toNat q.dflt))).put dst (.row σ.next 0))) : SopB P Γ o K σ :=
  sopb_eff he hd hK fun B ok a w hs => by
    obtain ⟨i, z', hi, hsz, hbb, hz', hzs, hpos⟩ := E.info
    have ez : z' = z := by
      have := Z.zero w
      simp [zeroValue, typeInfo, hi, hz'] at this
      exact this
    subst ez
    obtain ⟨hzq, hfl⟩ := zeroK_ok hz
    have hzc : z'.cells = #[z'] := by subst hzq; cases q <;> first | rfl | cases hfl
    have ex := hs.evalc hx
    have ey := hs.evalc hy
    have hbyl := Nat.le_of_ble_eq_true hby
    have hrun := run_make (P := P) w t e i z' T.und hi hz' .i64 .i64 n n h0 (Int.le_refl _) (by
      rw [hbb]
      have h3 : (by' : Int) * n ≤ 100 * 1000000000000 := Int.mul_le_mul (by exact_mod_cast hbyl) h1 h0 (by decide)
      omega) (by omega)
    have hmc : madeCells z'.cells (n.toNat * i.size) = ((List.replicate n.toNat [z']).flatten).toArray := by
      rw [hsz, Nat.mul_one, hzc]
      have e1 : (List.replicate n.toNat [z']).flatten = List.replicate n.toNat z' := by
        generalize n.toNat = m
        induction m with
        | zero => rfl
        | succ m ih => rw [List.replicate_succ, List.flatten_cons, ih, List.replicate_succ]; rfl
      rw [e1]
      apply Array.ext
      · simp [madeCells]
      · intro j h1 h2
        simp [madeCells, Nat.mod_one]
    have hln : (rowsOf q (List.replicate n.toNat q.dflt)).length = n.toNat := by simp
    obtain ⟨g1, g2⟩ := hs.newrow (e := e) (sz := 1) (ys := rowsOf q (List.replicate n.toNat q.dflt)) (us := List.replicate n.toNat [z']) (by simp) (fun l hl => by obtain ⟨y, _, rfl⟩ := List.mem_map.1 hl; rfl)
      (fun j u l hu hl => by
        have hu' := List.mem_of_getElem? hu
        have hl' := List.mem_of_getElem? hl
        obtain ⟨_, rfl⟩ := List.mem_replicate.1 hu'
        obtain ⟨y, hy', rfl⟩ := List.mem_map.1 hl'
        obtain ⟨_, rfl⟩ := List.mem_replicate.1 hy'
        refine ⟨z', [], rfl, by subst hzq; exact embV_one hfl _, ?_, rfl⟩
        rw [emb_flat hfl, ← hzq]
        exact .c _ (by subst hzq; exact embV_one hfl _)) (by rw [hln]; simp only [maxLen]; omega) (he := .trow q e 0 (List.replicate n.toNat q.dflt)) (fun _ _ _ h => h) (fun _ => rfl)
    rw [hln] at g1 g2
    refine ⟨_, _, _, ?_, g1, g2, (Below.refl _ _).alloc (Nat.le_refl _) _⟩
    rw [← hmc]
    simp only [execOp, hop, ex, ey, Sem.run_bind, hrun, Result.andThen_ok, Sem.run_pure]

/-! ### Clearing a part of an owned row -/
theorem run_clear_part {t e ty : Nat} [T : TSl P t e 1] {z : Value} [Z : TZero P e z] (hzc : z.cells = #[z]) (h1 : z.oneCell' = true) {w : World} {g of len c et : Nat} {cur : Array Value} (hg : w.heap[g]? = some (.cells cur et (0, 0))) (hfit : of + len ≤ cur.size) :
    (Builtin.clear_ #[t] ty #[.slice (some ⟨g, of, none⟩) len c]).run P w = .ok (.tuple #[]) (w.setRow g (cur.toList.take of ++ List.replicate len z ++ cur.toList.drop (of + len)).toArray) := by
  have hzr : (Builtin.zeroCells z.cells len).toList = List.replicate len z := by
    rw [hzc]
    simp [Builtin.zeroCells]
    apply List.ext_getElem
    · simp
    · intro i h1 h2
      simp [Nat.mod_one]
  have hst := run_storeCells_at P g of et (List.replicate len z) 0 cur w hg (by simpa using hfit) (by intro v hv; rw [List.eq_of_mem_replicate hv]; exact h1)
  simp only [Nat.add_zero, List.length_replicate] at hst
  cases len with
  | zero =>
    have : (cur.toList.take of ++ List.replicate 0 z ++ cur.toList.drop (of + 0)).toArray = cur := by simp
    rw [this, setRow_self w g cur et (0, 0) hg]
    simp [Builtin.clear_, run_underlying T.und]
  | succ m => simp [Builtin.clear_, run_underlying T.und, Z.zero, hzr, hst]

theorem sop_clear {t e : Nat} {x : Operand} {id ver off len e' : Nat} {q : TK} {ws : List q.ty} {z : Value} [T : TSl P t e 1] [Z : TZero P e z] (hop : o.op = .call { callee := .builtin .clear, args := #[x], argTypes := #[t] }) (hx : σ.get x = some (.rowv id ver off len)) (hh : lk σ.heap id = some (.trow q e' ver ws)) (hz : zeroK q z = true)
    {dst : Option Tmp} (he : o.dst = dst) (hd : dstOk Γ.nt dst = true) (hK : K ((σ.setH id (.trow q e' ver (splice ws off (List.replicate len q.dflt)))).put dst (.tup []))) : Sop P Γ o K σ :=
  sop_eff he hd hK fun B ok a w hs => by
    obtain ⟨hzq, hfl⟩ := zeroK_ok hz
    have hz1 : z.oneCell' = true := by rw [hzq]; exact embV_one hfl _
    have hzc : z.cells = #[z] := by subst hzq; cases q <;> first | rfl | cases hfl
    obtain ⟨_, bd, hB, hle, hv⟩ := hs.eval hx
    obtain ⟨bd', g4, hsat⟩ := hs.heap.sat id _ (lk_mem hh)
    rw [hB] at g4
    cases g4
    have hsat0 := hsat
    obtain ⟨k1, k2, k3, k4, k5⟩ := hsat
    rw [rowsOf_length] at k3
    obtain ⟨j1, A, c, j2, j3, j4, j5, j6⟩ := hv k1.symm
    have hwl : off + len ≤ ws.length := by omega
    have hsl : (splice ws off (List.replicate len q.dflt)).length = ws.length := by simp [splice]; omega
    cases hlv : bd.live with
    | false =>
      obtain ⟨m1, m2⟩ := j5 hlv
      have hl0 : len = 0 := by omega
      subst hl0
      subst m2
      have e1 : splice ws off (List.replicate 0 q.dflt) = ws := by simp [splice]
      rw [e1]
      refine ⟨.tuple #[], w, B, ?_, ?_, [], rfl, rfl⟩
      · simp [execOp, hop, resolve, invoke, builtin, Builtin.clear_, run_underlying T.und, j2]
      · exact hs.swap hh (fun bd h => h) (fun bd => rfl) 
    | true =>
      obtain ⟨of, m1, m2⟩ := j6 hlv
      subst m1
      rw [if_pos hlv] at k5
      obtain ⟨arr, n1, n2, n3, n4, n5⟩ := k5
      by_cases hl0 : len = 0
      · subst hl0
        have e1 : splice ws off (List.replicate 0 q.dflt) = ws := by simp [splice]
        rw [e1]
        refine ⟨.tuple #[], w, B, ?_, ?_, [], rfl, rfl⟩
        · simp [execOp, hop, resolve, invoke, builtin, Builtin.clear_, run_underlying T.und, j2]
        · exact hs.swap hh (fun bd h => h) (fun bd => rfl)
      · have hof : of = bd.off + off := by rw [m2 (by omega), k2, Nat.mul_one]
        subst hof
        have hrun := run_clear_part (P := P) (t := t) (ty := o.type) (len := len) (c := c) hzc hz1 n1 (of := bd.off + off) (by omega)
        have hok : ∀ b, ok b → ∀ c, (w.setRow bd.blk c).heap[b]? = w.heap[b]? := fun b hk c => setRow_other w _ b _ (fun e' => hs.heap.avoid id _ (lk_mem hh) bd hB bd.blk (by simp [HE.occ, hlv]) (e' ▸ hk))
        have hsat' : SatE (updB B id bd) ok (w.setRow bd.blk (arr.toList.take (bd.off + off) ++ List.replicate len z ++ arr.toList.drop (bd.off + off + len)).toArray) bd (.trow q e' ver (splice ws off (List.replicate len q.dflt))) := by
          refine ⟨k1, k2, by rw [rowsOf_length, hsl]; exact k3, fun l hl => by obtain ⟨y, _, rfl⟩ := List.mem_map.1 hl; rfl, ?_⟩
          rw [if_pos hlv]
          refine ⟨_, setRow_heap w _ _ _ e' _ n1, ?_, n3, n4, fun i j l d hi hj => ?_⟩
          · simp only [List.size_toArray, List.length_append, List.length_take, List.length_drop, Array.length_toList, List.length_replicate]
            omega
          · have hi2 := (List.getElem?_eq_some_iff.1 hi).1
            rw [rowsOf_length, hsl] at hi2
            have hj0 : j = 0 := by
              have hl' := List.mem_of_getElem? hi
              obtain ⟨y, _, rfl⟩ := List.mem_map.1 hl'
              have := (List.getElem?_eq_some_iff.1 hj).1
              simpa using this
            subst hj0
            rw [Nat.mul_one, Nat.add_zero]
            simp only [rowsOf, List.getElem?_map, splice, List.length_replicate] at hi
            simp only [List.getElem?_toArray, List.append_assoc] at hi ⊢
            by_cases p1 : i < off
            · rw [List.getElem?_append_left (by simp; omega), List.getElem?_take_of_lt p1] at hi
              rw [List.getElem?_append_left (by simp; omega), List.getElem?_take_of_lt (by omega)]
              obtain ⟨v, q1, q2, q3⟩ := n5 i 0 l d (by simp only [rowsOf, List.getElem?_map]; exact hi) hj
              exact ⟨v, by simpa using q1, q2, q3.mono (fun _ x => x) (fun b hb => hok b hb _)⟩
            · by_cases p2 : i < off + len
              · rw [List.getElem?_append_right (by simp; omega), List.getElem?_append_left (by simp; omega), List.getElem?_replicate, if_pos (by simp; omega)] at hi
                simp only [Option.map_some, Option.some.injEq] at hi
                subst hi
                simp only [List.getElem?_cons_zero, Option.some.injEq] at hj
                subst hj
                rw [List.getElem?_append_right (by simp; omega), List.getElem?_append_left (by simp; omega), List.getElem?_replicate, if_pos (by simp; omega)]
                exact ⟨z, rfl, hz1, by rw [emb_flat hfl, ← hzq]; exact .c _ hz1⟩
              · rw [List.getElem?_append_right (by simp; omega), List.getElem?_append_right (by simp; omega), List.getElem?_drop] at hi
                rw [List.getElem?_append_right (by simp; omega), List.getElem?_append_right (by simp; omega), List.getElem?_drop]
                have e1 : off + len + (i - (ws.take off).length - (List.replicate len q.dflt).length) = i := by simp; omega
                rw [e1] at hi
                obtain ⟨v, q1, q2, q3⟩ := n5 i 0 l d (by simp only [rowsOf, List.getElem?_map]; exact hi) hj
                refine ⟨v, ?_, q2, q3.mono (fun _ x => x) (fun b hb => hok b hb _)⟩
                rw [← q1]
                simp only [Array.getElem?_toList]
                congr 1
                simp
                omega
        have hkeep : Keeps (fun b => (HE.trow q e' ver ws).occ bd = some b) w (w.setRow bd.blk (arr.toList.take (bd.off + off) ++ List.replicate len z ++ arr.toList.drop (bd.off + off + len)).toArray) := by
          have := Keeps.setRow w bd.blk (arr.toList.take (bd.off + off) ++ List.replicate len z ++ arr.toList.drop (bd.off + off + len)).toArray
          simp only [HE.occ, hlv, if_true]
          exact this
        have hst := hs.rebind hh hB (BdLe.refl bd) hkeep hsat' (fun b e => .inl e)
        refine ⟨.tuple #[], _, _, ?_, hst, [], rfl, rfl⟩
        simp only [execOp, hop, resolve, invoke, builtin, Sem.run_bind, Sem.run_pure, Result.andThen_ok, List.map_toArray, List.map_cons, List.map_nil, j2, hrun]

/-! ### Maps with whole numbers as keys -/
class TMap (P : Program) (t : Nat) (e : outParam Nat) : Prop where
  und : ∃ k, P.underlying t = some (.map k e) ∧ P.underlying k = some (.int .i64)
def mget {α : Type} (d : α) : List (Int × α) → Int → α
  | [], _ => d
  | (a, v) :: r, k => if a = k then v else mget d r k
def mput {α : Type} : List (Int × α) → Int → α → List (Int × α)
  | [], k, v => [(k, v)]
  | (a, x) :: r, k, v => if a = k then (a, v) :: r else (a, x) :: mput r k v
def mfind {α : Type} : List (Int × α) → Int → Nat → Option (Nat × α)
  | [], _, _ => none
  | (a, v) :: r, k, n => if a = k then some (n, v) else mfind r k (n + 1)

theorem mfind_get {α : Type} (d : α) : ∀ (l : List (Int × α)) (k : Int) (n : Nat), (match mfind l k n with | some (_, v) => v | none => d) = mget d l k
  | [], k, n => rfl
  | (a, v) :: r, k, n => by
    by_cases h : a = k
    · simp [mfind, mget, h]
    · simp only [mfind, mget, if_neg h]
      exact mfind_get d r k (n + 1)
theorem mfind_some {α : Type} : ∀ (l : List (Int × α)) (k : Int) (n : Nat) (i : Nat) (x : α), mfind l k n = some (i, x) → n ≤ i ∧ l[i - n]? = some (k, x) ∧ ∀ v, mput l k v = l.set (i - n) (k, v)
  | [], k, n, i, x, h => by cases h
  | (a, v) :: r, k, n, i, x, h => by
    unfold mfind at h
    split at h
    · rename_i e
      cases h
      subst e
      exact ⟨Nat.le_refl _, by simp, fun v => by simp [mput]⟩
    · rename_i e
      obtain ⟨h1, h2, h3⟩ := mfind_some r k (n + 1) i x h
      have e2 : i - n = (i - (n + 1)) + 1 := by omega
      refine ⟨by omega, by rw [e2]; simpa using h2, fun v => ?_⟩
      rw [e2, mput, if_neg e, h3]
      rfl
theorem mfind_none {α : Type} : ∀ (l : List (Int × α)) (k : Int) (n : Nat), mfind l k n = none → ∀ v, mput l k v = l ++ [(k, v)]
  | [], k, n, h, v => rfl
  | (a, x) :: r, k, n, h, v => by
    unfold mfind at h
    split at h
    · cases h
    · rename_i e
      rw [mput, if_neg e, mfind_none r k (n + 1) h v]
      rfl
theorem findNow_ok {q : TK} {k : Int} : ∀ (es : List MapEntry) (l : List (Int × q.ty)) (n : Nat), es.map (fun e => (e.key, e.val)) = l.map (fun p => (Value.int .i64 p.1, embV q p.2)) → Instr.findNow (.int .i64) (.int .i64 k) es n = some ((mfind l k n).map fun x => (x.1, embV q x.2))
  | [], [], n, h => rfl
  | [], p :: l, n, h => by simp at h
  | e :: es, [], n, h => by simp at h
  | e :: es, (a, v) :: l, n, h => by
    simp only [List.map_cons, List.cons.injEq, Prod.mk.injEq] at h
    obtain ⟨⟨h1, h2⟩, h3⟩ := h
    unfold Instr.findNow
    rw [h1]
    simp only [Instr.sameNow, if_true]
    by_cases e1 : a = k
    · subst e1
      simp [mfind, h2]
    · have e2 : (k == a) = false := by simp [Ne.symm e1]
      rw [e2]
      simp only [mfind, if_neg e1]
      exact findNow_ok es l (n + 1) h3
theorem run_checkKey_int {k : TypeId} (hk : P.underlying k = some (.int .i64)) {b : Bool} {n : Int} {w : World} : (Instr.checkKey b 10000 k (.int .i64 n)).run P w = .ok () w := by
  show (Instr.checkKey b (9999 + 1) k (.int .i64 n)).run P w = .ok () w
  unfold Instr.checkKey
  simp [run_underlying hk]
theorem run_lookup_int {t e : Nat} [T : TMap P t e] {q : TK} {z : Value} [Z : TZero P e z] (hz : zeroK q z = true) {w : World} {r : Nat} {ent : Array MapEntry} {clock : Nat} {l : List (Int × q.ty)} {k : Int} (hb : w.heap[r]? = some (.map ent clock))
    (hm : ent.toList.map (fun e => (e.key, e.val)) = l.map (fun p => (Value.int .i64 p.1, embV q p.2))) : (Instr.lookup t (.map (some r)) (.int .i64 k) false).run P w = .ok (embV q (mget q.dflt l k)) w := by
  obtain ⟨kt, h1, h2⟩ := T.und
  have hgo : (getObj r).run P w = .ok (.map ent clock) w := by simp [getObj, Sem.run, hb]
  obtain ⟨hzq, _⟩ := zeroK_ok hz
  have hf := findNow_ok (k := k) ent.toList l 0 hm
  have hg := mfind_get q.dflt l k 0
  have hk : (Instr.findKey kt (.int .i64 k) ent.toList).run P w = .ok ((mfind l k 0).map fun x => (x.1, embV q x.2)) w := by
    unfold Instr.findKey
    simp [run_underlying h2, hf]
  cases hmf : mfind l k 0 with
  | none =>
    rw [hmf] at hg hk
    simp [Instr.lookup, run_underlying h1, hgo, run_checkKey_int h2, hk, Z.zero, ← hg, hzq]
  | some x =>
    rw [hmf] at hg hk
    simp [Instr.lookup, run_underlying h1, hgo, run_checkKey_int h2, hk, ← hg]
theorem run_mapUpdate_int {t e : Nat} [T : TMap P t e] {q : TK} {w : World} {r : Nat} {ent : Array MapEntry} {clock : Nat} {l : List (Int × q.ty)} {k : Int} {v : q.ty} (hb : w.heap[r]? = some (.map ent clock))
    (hm : ent.toList.map (fun e => (e.key, e.val)) = l.map (fun p => (Value.int .i64 p.1, embV q p.2))) :
    ∃ (ent' : Array MapEntry) (clock' : Nat), (Instr.mapUpdate t (.map (some r)) (.int .i64 k) (embV q v)).run P w = (setObj r (.map ent' clock')).run P w ∧ ent'.toList.map (fun e => (e.key, e.val)) = (mput l k v).map (fun p => (Value.int .i64 p.1, embV q p.2)) := by
  obtain ⟨kt, h1, h2⟩ := T.und
  have hgo : (getObj r).run P w = .ok (.map ent clock) w := by simp [getObj, Sem.run, hb]
  have hf := findNow_ok (k := k) ent.toList l 0 hm
  have hk : (Instr.findKey kt (.int .i64 k) ent.toList).run P w = .ok ((mfind l k 0).map fun x => (x.1, embV q x.2)) w := by
    unfold Instr.findKey
    simp [run_underlying h2, hf]
  cases hmf : mfind l k 0 with
  | none =>
    rw [hmf] at hk
    refine ⟨ent.push { key := .int .i64 k, val := embV q v, born := clock }, clock + 1, ?_, ?_⟩
    · simp [Instr.mapUpdate, run_underlying h1, hgo, run_checkKey_int h2, hk]
    · rw [mfind_none l k 0 hmf]
      simp [hm]
  | some x =>
    obtain ⟨i, x⟩ := x
    rw [hmf] at hk
    obtain ⟨_, h3, h4⟩ := mfind_some l k 0 i x hmf
    rw [Nat.sub_zero] at h3
    have h5 : (ent.toList.map (fun e => (e.key, e.val)))[i]? = some (.int .i64 k, embV q x) := by rw [hm]; simp [h3]
    simp only [List.getElem?_map, Option.map_eq_some_iff] at h5
    obtain ⟨e0, h6, h7⟩ := h5
    simp only [Prod.mk.injEq] at h7
    have h8 : ent[i]? = some e0 := by simpa using h6
    refine ⟨ent.modify i fun e => { e with key := .int .i64 k, val := embV q v }, clock, ?_, ?_⟩
    · have hs : Instr.sameBits 10000 (.int .i64 k) (.int .i64 k) = true := by
        show Instr.sameBits (9999 + 1) _ _ = true
        simp [Instr.sameBits]
      simp [Instr.mapUpdate, run_underlying h1, hgo, run_checkKey_int h2, hk, h8, h7.1, Instr.keyThatStays, hs]
    · rw [h4 v, Nat.sub_zero, List.map_set, ← hm]
      apply List.ext_getElem?
      intro j
      simp only [Array.toList_modify, List.getElem?_map, List.getElem?_modify, List.getElem?_set, List.length_map]
      by_cases hj : i = j
      · subst hj
        have hlt : i < ent.toList.length := (List.getElem?_eq_some_iff.1 h6).1
        simp only [h6, if_true, hlt, Option.map_some]
        rfl
      · simp only [if_neg hj]
        cases ent.toList[j]? <;> simp [hj]

theorem sopb_makeMap {t : Nat} {q : TK} (hop : o.op = .makeMap t none) (hq : q.flat = true) {dst : Option Tmp} (he : o.dst = dst) (hd : dstOk Γ.nt dst = true) (hK : K ((σ.new (.imap q [])).put dst (.mp σ.next))) : SopB P Γ o K σ :=
  sopb_eff he hd hK fun B ok a w hs => by
    let bd : Bd := ⟨w.heap.size, 0, 0, 0, 0, 0, true⟩
    have hb : Below w.heap.size w (w.alloc (.map #[] 0)) := (Below.refl _ _).alloc (Nat.le_refl _) _
    refine ⟨.map (some w.heap.size), _, updB B σ.next bd, ?_, hs.new hb ⟨rfl, hq, #[], 0, heap_alloc_at w _, rfl⟩ (fun b e => ?_), ⟨rfl, bd, updB_same _ _ _, fun _ => rfl⟩, hb⟩
    · simp only [execOp, hop, Option.map_none, Sem.run_bind, run_makeMap, Result.andThen_ok, Sem.run_pure]
    · simp only [HE.occ, Option.some.injEq] at e
      exact Nat.le_of_eq e

theorem pv_lookup {t e : Nat} {x y : Operand} {id : Nat} {q : TK} {es : List (Int × q.ty)} {k : Int} {z : Value} [T : TMap P t e] [Z : TZero P e z] (hop : o.op = .lookup t x y false) (hx : σ.get x = some (.mp id)) (hh : lk σ.heap id = some (.imap q es)) (hy : σ.get y = some (iv k)) (hz : zeroK q z = true) : Pv P Γ σ o (tvA q (mget q.dflt es k)) := by
  intro B ok a w hs
  obtain ⟨_, bd, hB, hv⟩ := hs.eval hx
  obtain ⟨bd', g4, h0, hfl, ent, clock, h1, h2⟩ := hs.heap.sat id _ (lk_mem hh)
  rw [hB] at g4
  cases g4
  have ex := hv h0
  have ey := hs.evalc hy
  refine ⟨embV q (mget q.dflt es k), ?_, fun w' hb => ?_⟩
  · show RelD ok w (emb q _) _
    rw [emb_flat hfl]
    exact .c _ (embV_one hfl _)
  · have hb := hb.resolve_left (by simp [hop, dryO])
    have h1' : w'.heap[bd.blk]? = some (.map ent clock) := (hb.block _ (Array.getElem?_eq_some_iff.1 h1).1).trans h1
    have hrun := run_lookup_int (P := P) (T := T) (Z := Z) hz (k := k) h1' h2
    simp only [execOp, hop, ex, ey, Sem.run_bind, hrun, Result.andThen_ok, Sem.run_pure]

def cellV : (q : TK) → AV → Option q.ty
  | .i64, .d (.c (.int .i64 n)) => some n
  | .str, .d (.c (.string s)) => some s
  | .bool, .d (.c (.bool b)) => some b
  | .bool, .bl b => some b
  | _, _ => none
theorem cellV_ok {q : TK} {v : AV} {x : q.ty} {B : Nat → Option Bd} {ok : Nat → Prop} {w : World} {u : Value} (h : cellV q v = some x) (hr : RelA B ok w v u) : u = embV q x := by
  unfold cellV at h
  split at h <;> cases h <;> cases hr <;> rfl
theorem sop_mapUpdate {t e : Nat} {x y z : Operand} {id : Nat} {q : TK} {es : List (Int × q.ty)} {k : Int} {v : q.ty} {av : AV} [T : TMap P t e] (hop : o.op = .mapUpdate t x y z) (hx : σ.get x = some (.mp id)) (hh : lk σ.heap id = some (.imap q es)) (hy : σ.get y = some (iv k)) (hz : σ.get z = some av) (hv : cellV q av = some v)
    {dst : Option Tmp} (he : o.dst = dst) (hd : dstOk Γ.nt dst = true) (hK : K ((σ.setH id (.imap q (mput es k v))).put dst (.tup []))) : Sop P Γ o K σ :=
  sop_skip he hd hK fun B ok a w hs => by
    obtain ⟨_, bd, hB, hvv⟩ := hs.eval hx
    obtain ⟨bd', g4, h0, hfl, ent, clock, h1, h2⟩ := hs.heap.sat id _ (lk_mem hh)
    rw [hB] at g4
    cases g4
    have ex := hvv h0
    have ey := hs.evalc hy
    have ez := cellV_ok hv (hs.eval hz)
    obtain ⟨ent', clock', hrun, hm⟩ := run_mapUpdate_int (P := P) (T := T) (k := k) (v := v) h1 h2
    have hlt := (Array.getElem?_eq_some_iff.1 h1).1
    have hset : (setObj bd.blk (.map ent' clock')).run P w = .ok () { w with heap := w.heap.setIfInBounds bd.blk (.map ent' clock') } := by
      simp [setObj, Sem.run, h1]
    have hkeep : Keeps (fun b => (HE.imap q es).occ bd = some b) w { w with heap := w.heap.setIfInBounds bd.blk (.map ent' clock') } :=
      ⟨rfl, rfl, rfl, by simp, fun b hb hn => by
        simp only [HE.occ, Option.some.injEq] at hn
        exact Array.getElem?_setIfInBounds_ne hn⟩
    have hst := hs.rebind (he' := .imap q (mput es k v)) hh hB (BdLe.refl bd) hkeep ⟨h0, hfl, ent', clock', by simp [hlt], hm⟩ (fun b e => .inl e)
    refine ⟨_, _, ?_, hst⟩
    simp only [execOp, hop, ex, ey, ez, Sem.run_bind, hrun, hset, Result.andThen_ok, Sem.run_pure]

/-! ### append(nil, make(n)...): so many zeros, in one operation -/
theorem run_append_zeros {t tx ty e by' : Nat} {kx : IntKind} [T : TSl P t e 1] [E : TEl P e 1 by'] [X : TInt P tx kx] {z : Value} [Z : TZero P e z] (hzc : z.cells = #[z]) {w : World} {n : Nat} (h0 : 0 < n) (h1 : n ≤ 1000000000000) (hby : by' ≤ 100) :
    (Builtin.append_ #[t, tx] ty #[.slice none 0 0, .int .i64 (n : Int)]).run P w = .ok (.slice (some ⟨w.heap.size, 0, none⟩) n (grownCap w n 0 e)) (w.drew.alloc (.cells (List.replicate (n + (grownCap w n 0 e - n)) z).toArray e)) := by
  obtain ⟨i, z', hi, hs, hb, hz, hzs, hpos⟩ := E.info
  have ez : z' = z := by
    have := Z.zero w
    simp [zeroValue, typeInfo, hi, hz] at this
    exact this
  subst ez
  have wl : IntKind.i64.wrap (n : Int) = n := by rw [IntKind.wrap_i64]; omega
  have n1 : ¬ ((n : Int) < 0) := by omega
  have hbb : n * by' ≤ 1000000000000 * 100 := Nat.mul_le_mul h1 hby
  have n2 : ¬ (281474976710656 < (n : Int) * (i.bytes : Int)) := by
    rw [hb, ← Int.natCast_mul]
    omega
  have h48 := growslice_fits (need := n) (old := 0) (bytes := by') h0 (by omega)
  have h48' : ¬ (281474976710656 < Builtin.nextslicecap n 0 * i.bytes) := by rw [hb]; omega
  have n3 : ¬ (9223372036854775807 < (n : Int)) := by omega
  have hz1 : ∀ m, Builtin.zeroCells z'.cells m = (List.replicate m z').toArray := fun m => by
    rw [hzc]
    apply Array.ext
    · simp [Builtin.zeroCells]
    · intro j h1 h2
      simp [Builtin.zeroCells, Nat.mod_one]
  have hne : n ≠ 0 := by omega
  simp [Builtin.append_, run_underlying T.und, run_underlying X.und, T.size, typeInfo, zeroValue, hi, hz, asInt, asIntOf, wl, n1, n2, n3, h48', Question.forced, newRow, grownCap, hne, Builtin.firstCells, hz1, List.replicate_append_replicate]

theorem sop_append_zeros {t tx e by' : Nat} {kx : IntKind} {s x : Operand} {n : Int} {q : TK} {z : Value} [T : TSl P t e 1] [E : TEl P e 1 by'] [X : TInt P tx kx] [Z : TZero P e z] (hop : o.op = .call { callee := .builtin .append, args := #[s, x], argTypes := #[t, tx] })
    (hs : σ.get s = some (.d (.c (.slice none 0 0)))) (hx : σ.get x = some (iv n)) (hz : zeroK q z = true) (h0 : 0 < n) (h1 : n ≤ 1000000000000) (hby : Nat.ble by' 100 = true) {d : Option Tmp} (he : o.dst = d) (hd : dstOk Γ.nt d = true)
    (hK : K ((σ.new (.trow q e 0 (List.replicate n.toNat q.dflt))).put d (.row σ.next 0))) : Sop P Γ o K σ :=
  sop_eff he hd hK fun B ok a w h => by
    obtain ⟨hzq, hfl⟩ := zeroK_ok hz
    have hzc : z.cells = #[z] := by subst hzq; cases q <;> first | rfl | cases hfl
    have hz1 : z.oneCell' = true := by rw [hzq]; exact embV_one hfl _
    have es := h.evalc hs
    have ex := h.evalc hx
    obtain ⟨m, hm⟩ : ∃ m : Nat, n = m := ⟨n.toNat, by omega⟩
    subst hm
    have hrun := run_append_zeros (P := P) (t := t) (tx := tx) (ty := o.type) (Z := Z) (n := m) hzc (w := w) (by omega) (by omega) (Nat.le_of_ble_eq_true hby)
    have hge := grownCap_ge w m 0 e
    have hle := grownCap_le_maxLen w m 0 e (by simp only [maxLen]; omega)
    let bd : Bd := ⟨w.heap.size, 0, grownCap w m 0 e, m, 1, 0, true⟩
    have hb : Below w.heap.size w (w.drew.alloc (.cells (List.replicate (m + (grownCap w m 0 e - m)) z).toArray e)) := (Below.drew (Below.refl _ _)).alloc (Nat.le_refl _) _
    refine ⟨_, _, updB B σ.next bd, ?_, h.new (bd := bd) hb ⟨rfl, rfl, by simp [bd], fun l hl => by obtain ⟨y, _, rfl⟩ := List.mem_map.1 hl; rfl, ?_⟩ (fun b e' => ?_), rfl, bd, updB_same _ _ _, Nat.le_refl _, fun _ => rfl⟩
    · simp [execOp, hop, resolve, invoke, builtin, es, ex, hrun, Bd.hdr, bd]
    · rw [if_pos rfl]
      refine ⟨_, heap_alloc_at w.drew _, by simp [bd]; omega, hge, hle, fun i j l d hi hj => ?_⟩
      have hi2 := (List.getElem?_eq_some_iff.1 hi).1
      have hl' := List.mem_of_getElem? hi
      obtain ⟨y, hy, rfl⟩ := List.mem_map.1 hl'
      obtain ⟨_, rfl⟩ := List.mem_replicate.1 hy
      have hj0 : j = 0 := by
        have := (List.getElem?_eq_some_iff.1 hj).1
        simpa using this
      subst hj0
      simp only [List.getElem?_cons_zero, Option.some.injEq] at hj
      subst hj
      rw [rowsOf_length, List.length_replicate] at hi2
      refine ⟨z, ?_, hz1, by rw [emb_flat hfl, ← hzq]; exact .c _ hz1⟩
      simp only [bd, List.getElem?_toArray, List.getElem?_replicate]
      rw [if_pos (by simp at hi2; omega)]
    · simp only [HE.occ, bd, if_true, Option.some.injEq] at e'
      exact Nat.le_of_eq e'
end
end Go.Proofs.YthjmmofafpahhaaGreat.Sx
