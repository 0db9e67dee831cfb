/- The symbolic layer: functions of the library that turn a row where it lies. Program-independent. -/
import Derived.Test.YthjmmofafpahhaaGreatSxT
namespace Go.Proofs.YthjmmofafpahhaaGreat.Sx
open Go Go.RowKit
set_option linter.unusedVariables false
set_option linter.unusedSimpArgs false

section
variable {P : Program} {Γ : Ctx} {σ : S} {o : Oper} {K : S → Prop}

theorem sop_sort {f : FuncId} {x : Operand} {ts : Array TypeId} {id ver e : Nat} {ws : List Int} [C : TCall P f] [Z : TSort P f] (hop : o.op = .call { callee := .value (.func f), args := #[x], argTypes := ts }) (hx : σ.get x = some (.row id ver)) (hh : lk σ.heap id = some (.trow .i64 e ver ws))
    (hlen : ws.length < 4611686018427387904) (hd : dstOk Γ.nt o.dst = true) (hK : K ((σ.setH id (.trow .i64 e ver (sortI ws))).put o.dst (.tup []))) : Sop P Γ o K σ := by
  rintro a w ⟨B, ok, hs⟩ K' Q' hk
  obtain ⟨_, bd, hB, hle, hv⟩ := hs.eval hx
  obtain ⟨bd', g4, hsat⟩ := hs.heap.sat id _ (lk_mem hh)
  rw [hB] at g4
  cases g4
  obtain ⟨k1, k2, k3, k4, k5⟩ := hsat
  rw [rowsOf_length] at k3
  have hev := hv k1.symm
  have hsl : (sortI ws).length = ws.length := by simp [sortI]
  have hrun : (execOp a.eval o).run P w = .ok (.enter f #[a.eval x]) w := by
    have e0 : a.eval (.func f) = .func (.func f) #[] #[] := rfl
    simp only [execOp, hop, resolve, Deferred.ofValue, e0, Sem.run_bind, Sem.run_pure, Result.andThen_ok, invoke]
    rw [C.call]
    simp
  unfold Oper.wp
  rw [hrun]
  show Calls P f _ w _
  cases hlv : bd.live with
  | false =>
    rw [if_neg (by simp [hlv])] at k5
    obtain ⟨m1, m2⟩ := k5
    have hws : ws = [] := by
      cases ws with
      | nil => rfl
      | cons y r => simp [rowsOf] at m1
    subst hws
    rw [hev, Bd.hdr, if_neg (by simp [hlv])]
    refine (Z.empty none 0 w).mono ?_
    rintro r w' ⟨rfl, rfl⟩
    have e1 : sortI [] = [] := by simp [sortI]
    rw [e1] at hK
    exact hk _ _ _ hK ⟨_, _, StB.put (hs.swap hh (fun bd h => h) (fun bd => rfl)) hd ⟨[], rfl, rfl⟩⟩
  | true =>
    rw [if_pos hlv] at k5
    obtain ⟨arr, n1, n2, n3, n4, n5⟩ := k5
    rw [hev, Bd.hdr, if_pos hlv, k3]
    refine (Z.full bd.blk bd.off bd.cap ws w arr e n1 (fun j y hj => ?_) hlen).mono ?_
    · obtain ⟨v, q1, q2, q3⟩ := n5 j 0 [emb .i64 y] (emb .i64 y) (by simp [rowsOf, List.getElem?_map, hj]) rfl
      rw [Nat.mul_one, Nat.add_zero] at q1
      rw [q1]
      cases q3
      rfl
    · rintro r w' ⟨rfl, arr', hkeep, hw', hsz, hcs⟩
      have hok : ∀ b, ok b → w'.heap[b]? = w.heap[b]? := fun b hb => hkeep.block b (hs.heap.okb b hb) (fun e' => hs.heap.avoid id _ (lk_mem hh) bd hB b (by simp [HE.occ, hlv, e']) hb)
      have hkeep' : Keeps (fun b => (HE.trow .i64 e ver ws).occ bd = some b) w w' := hkeep.mono fun k _ e' => by subst e'; simp [HE.occ, hlv]
      have hsat' : SatE (updB B id bd) ok w' bd (.trow .i64 e ver (sortI ws)) := by
        refine ⟨k1, k2, by rw [rowsOf_length, hsl]; exact k3, fun l hl => by obtain ⟨y, _, rfl⟩ := List.mem_map.1 hl; rfl, ?_⟩
        rw [if_pos hlv]
        refine ⟨arr', hw', by rw [hsz]; exact n2, n3, n4, fun i j l d hi hj => ?_⟩
        simp only [rowsOf, List.getElem?_map, Option.map_eq_some_iff] at hi
        obtain ⟨y, hy, rfl⟩ := hi
        have hj0 : j = 0 := by
          have := (List.getElem?_eq_some_iff.1 hj).1
          simpa using this
        subst hj0
        simp only [List.getElem?_cons_zero, Option.some.injEq] at hj
        subst hj
        rw [Nat.mul_one, Nat.add_zero]
        exact ⟨_, hcs i y hy, rfl, .c _ rfl⟩
      have hst := hs.rebind hh hB (BdLe.refl bd) hkeep' hsat' (fun b e' => .inl e')
      exact hk _ _ _ hK ⟨_, _, hst.put hd ⟨[], rfl, rfl⟩⟩

theorem sop_ins {f e e2 : Nat} {x y z : Operand} {ts : Array TypeId} {id ver id2 ver2 : Nat} {ws : List Int} {k v : Int} [C : TCall P f] [Z : TIns P f e] (hop : o.op = .call { callee := .value (.func f), args := #[x, y, z], argTypes := ts })
    (hx : σ.get x = some (.row id ver)) (hh : lk σ.heap id = some (.trow .i64 e ver ws)) (hy : σ.get y = some (.d (.c (.int .i64 k)))) (hz : σ.get z = some (.row id2 ver2)) (hh2 : lk σ.heap id2 = some (.trow .i64 e2 ver2 [v])) (hne : id ≠ id2)
    (hk0 : 0 ≤ k) (hk1 : k ≤ ws.length) (hlen : ws.length + 1 ≤ 1000000000000) (hd : dstOk Γ.nt o.dst = true) (hK : K ((σ.setH id (.trow .i64 e (ver + 1) (ws.take k.toNat ++ v :: ws.drop k.toNat))).put o.dst (.row id (ver + 1)))) : Sop P Γ o K σ := by
  rintro a w ⟨B, ok, hs⟩ K' Q' hk
  obtain ⟨_, bd, hB, hle, hv⟩ := hs.eval hx
  obtain ⟨bd', g4, hsat⟩ := hs.heap.sat id _ (lk_mem hh)
  rw [hB] at g4
  cases g4
  obtain ⟨_, bd2, hB2, hle2, hv2⟩ := hs.eval hz
  obtain ⟨bd2', g42, hsat2⟩ := hs.heap.sat id2 _ (lk_mem hh2)
  rw [hB2] at g42
  cases g42
  obtain ⟨k1, k2, k3, k4, k5⟩ := hsat
  obtain ⟨l1, l2, l3, l4, l5⟩ := hsat2
  rw [rowsOf_length] at k3 l3
  have hev := hv k1.symm
  have hev2 := hv2 l1.symm
  have hey : a.eval y = .int .i64 k := by
    have := hs.eval hy
    generalize a.eval y = u at this
    cases this
    rfl
  have hlv2 : bd2.live = true := by
    cases hq : bd2.live with
    | true => rfl
    | false => rw [if_neg (by simp [hq])] at l5; simp [rowsOf] at l5
  rw [if_pos hlv2] at l5
  obtain ⟨varr, p1, p2, p3, p4, p5⟩ := l5
  have hvx : varr[bd2.off]? = some (.int .i64 v) := by
    obtain ⟨u, q1, q2, q3⟩ := p5 0 0 [emb .i64 v] (emb .i64 v) rfl rfl
    simp only [Nat.zero_mul, Nat.add_zero] at q1
    rw [q1]
    cases q3
    rfl
  obtain ⟨i, rfl⟩ : ∃ i : Nat, k = i := ⟨k.toNat, (Int.toNat_of_nonneg hk0).symm⟩
  rw [Int.toNat_natCast] at hK
  have hrun : (execOp a.eval o).run P w = .ok (.enter f #[a.eval x, a.eval y, a.eval z]) w := by
    have e0 : a.eval (.func f) = .func (.func f) #[] #[] := rfl
    simp only [execOp, hop, resolve, Deferred.ofValue, e0, Sem.run_bind, Sem.run_pure, Result.andThen_ok, invoke]
    rw [C.call]
    simp
  unfold Oper.wp
  rw [hrun]
  show Calls P f _ w _
  have hcall := Z.call (if bd.live then some ⟨bd.blk, bd.off, none⟩ else none) ws.length (if bd.live then bd.cap else 0) i bd2.blk bd2.off bd2.cap ws v w varr e2 p1 hvx rfl (by omega) hlen
    (by split; { rename_i hl; rw [if_pos hl] at k5; obtain ⟨_, _, _, n3, _⟩ := k5; rw [← k3]; exact n3 }; { rename_i hl; rw [if_neg hl] at k5; have := congrArg List.length k5.1; simp [rowsOf] at this; simp [this] })
    (by split; { rename_i hl; rw [if_pos hl] at k5; obtain ⟨_, _, _, _, n4, _⟩ := k5; exact n4 }; { omega })
    (fun e' => by
      split at e'
      · cases e'
      · rename_i hl
        rw [if_neg hl] at k5
        have := congrArg List.length k5.1
        simp [rowsOf] at this
        rw [if_neg hl]
        exact ⟨by simp [this], rfl⟩)
    (fun ad e' => by
      split at e'
      · rename_i hl
        cases e'
        rw [if_pos hl] at k5
        obtain ⟨arr, n1, n2, n3, n4, n5⟩ := k5
        refine ⟨bd.blk, bd.off, arr, rfl, fun e3 => ?_, n1, by rw [if_pos hl]; omega, fun j u hj => ?_⟩
        · exact hs.heap.apart id _ id2 _ (lk_mem hh) (lk_mem hh2) hne bd bd2 hB hB2 bd.blk (by simp [HE.occ, hl]) (by simp [HE.occ, hlv2, e3])
        · obtain ⟨u', q1, q2, q3⟩ := n5 j 0 [emb .i64 u] (emb .i64 u) (by simp [rowsOf, List.getElem?_map, hj]) rfl
          rw [Nat.mul_one, Nat.add_zero] at q1
          rw [q1]
          cases q3
          rfl
      · cases e')
  have e1 : a.eval x = .slice (if bd.live then some ⟨bd.blk, bd.off, none⟩ else none) ws.length (if bd.live then bd.cap else 0) := by
    rw [hev, Bd.hdr]
    split
    · rename_i hl; rw [k3]
    · rename_i hl
      rw [if_neg hl] at k5
      have := congrArg List.length k5.1
      simp [rowsOf] at this
      simp [this]
  have e2' : a.eval z = .slice (some ⟨bd2.blk, bd2.off, none⟩) 1 bd2.cap := by rw [hev2, Bd.hdr, if_pos hlv2, l3]; rfl
  rw [e1, hey, e2']
  refine hcall.mono ?_
  rintro r w' ⟨b', off', c', arr', rfl, hkeep, hw', hfit, hnc, hcm, hwh, hcs⟩
  have hkeep' : Keeps (fun b => (HE.trow .i64 e ver ws).occ bd = some b) w w' := hkeep.mono fun k _ ⟨ad, e', e3⟩ => by
    split at e'
    · rename_i hl; cases e'; subst e3; simp [HE.occ, hl]
    · cases e'
  let bd' : Bd := ⟨b', off', c', ws.length + 1, 1, ver + 1, true⟩
  have hble : BdLe bd bd' := ⟨by show bd.ver ≤ ver + 1; omega, fun e' => by have : bd.ver = ver + 1 := e'; omega⟩
  have hins : (ws.take i ++ v :: ws.drop i).length = ws.length + 1 := by
    simp only [List.length_append, List.length_take, List.length_cons, List.length_drop]
    omega
  have hsat' : SatE (updB B id bd') ok w' bd' (.trow .i64 e (ver + 1) (ws.take i ++ v :: ws.drop i)) := by
    refine ⟨rfl, rfl, by rw [rowsOf_length, hins], fun l hl => by obtain ⟨y, _, rfl⟩ := List.mem_map.1 hl; rfl, ?_⟩
    rw [if_pos rfl]
    refine ⟨arr', hw', by show off' + c' * 1 ≤ _; omega, hnc, hcm, fun i j l d hi hj => ?_⟩
    simp only [rowsOf, List.getElem?_map, Option.map_eq_some_iff] at hi
    obtain ⟨y, hy, rfl⟩ := hi
    have hj0 : j = 0 := by
      have := (List.getElem?_eq_some_iff.1 hj).1
      simpa using this
    subst hj0
    simp only [List.getElem?_cons_zero, Option.some.injEq] at hj
    subst hj
    rw [Nat.mul_one, Nat.add_zero]
    exact ⟨_, hcs i y hy, rfl, .c _ rfl⟩
  have hst := hs.rebind hh hB hble hkeep' hsat' (fun b e' => by
    simp only [HE.occ, bd', if_true, Option.some.injEq] at e'
    subst e'
    rcases hwh with ⟨ad, g1, g2⟩ | g
    · split at g1
      · rename_i hl; cases g1; exact .inl (by simp [HE.occ, hl, g2])
      · cases g1
    · exact .inr g)
  exact hk _ _ _ hK ⟨_, _, hst.put hd ⟨rfl, bd', updB_same _ _ _, Nat.le_refl _, fun _ => by simp [Bd.hdr, bd']⟩⟩

/-- What such a function does, computed. -/
def libF (T : Tab) (σ : S) : Op → Option (Prop × S × AV)
  | .call { callee := .value (.func f), args := ⟨xs⟩, argTypes := _ } => match lk T.call f, xs with
    | some _, [x] => match lk T.sort f, σ.get x with
      | some _, some (.row id ver) => match lk σ.heap id with
        | some (.trow q e ver' ws) => match TK.cast .i64 q ws with
          | some ws => bif Nat.beq ver' ver then some (ws.length < 4611686018427387904, σ.setH id (.trow .i64 e ver (sortI ws)), .tup []) else none
          | none => none
        | _ => none
      | _, _ => none
    | some _, [x, y, z] => match lk T.ins f, σ.get x, σ.get y, σ.get z with
      | some e0, some (.row id ver), some (.d (.c (.int .i64 k))), some (.row id2 ver2) => match lk σ.heap id, lk σ.heap id2 with
        | some (.trow q e ver' ws), some (.trow q2 e2 ver2' vs) => match TK.cast .i64 q ws, TK.cast .i64 q2 vs with
          | some ws, some [v] => bif Nat.beq ver' ver && (Nat.beq ver2' ver2 && (Nat.beq e e0 && !(Nat.beq id id2))) then
              some ((0 ≤ k ∧ k ≤ ws.length) ∧ ws.length + 1 ≤ 1000000000000, σ.setH id (.trow .i64 e (ver + 1) (ws.take k.toNat ++ v :: ws.drop k.toNat)), .row id (ver + 1)) else none
          | _, _ => none
        | _, _ => none
      | _, _, _, _ => none
    | _, _ => none
  | _ => none

theorem libF_ok {T : Tab} (HT : TabOk P T) {c : Prop} {σ' : S} {av : AV} (h : libF T σ o.op = some (c, σ', av)) (hc : c) (hd : dstOk Γ.nt o.dst = true) (hK : K (σ'.put o.dst av)) : Sop P Γ o K σ := by
  generalize hop : o.op = op at h
  unfold libF at h
  split at h
  · rename_i f xs ts
    split at h
    · rename_i x hcl
      have C := HT.call.get hcl
      split at h
      · rename_i id ver hso hx
        have Z := HT.sort.get hso
        split at h
        · rename_i q e ver' ws hh
          split at h
          · rename_i ws' hq
            cases TK.cast_ok hq
            cases hb : Nat.beq ver' ver with
            | false => rw [hb] at h; cases h
            | true =>
              rw [hb] at h
              cases h
              have := Nat.eq_of_beq_eq_true hb
              subst this
              exact sop_sort hop hx hh hc hd hK
          · cases h
        · cases h
      · cases h
    · rename_i x y z hcl
      have C := HT.call.get hcl
      split at h
      · rename_i e0 id ver k id2 ver2 hin hx hy hz
        have Z := HT.ins.get hin
        split at h
        · rename_i q e ver' ws q2 e2 ver2' vs hh hh2
          split at h
          · rename_i ws' v hq hq2
            cases TK.cast_ok hq
            cases TK.cast_ok hq2
            cases hb : (Nat.beq ver' ver && (Nat.beq ver2' ver2 && (Nat.beq e e0 && !(Nat.beq id id2)))) with
            | false => rw [hb] at h; cases h
            | true =>
              rw [hb] at h
              cases h
              simp only [Bool.and_eq_true, Bool.not_eq_true'] at hb
              obtain ⟨b1, b2, b3, b4⟩ := hb
              have := Nat.eq_of_beq_eq_true b1
              subst this
              have := Nat.eq_of_beq_eq_true b2
              subst this
              have := Nat.eq_of_beq_eq_true b3
              subst this
              exact sop_ins hop hx hh hy hz hh2 (fun e' => by subst e'; rw [Nat.beq_refl] at b4; cases b4) hc.1.1 hc.1.2 hc.2 hd hK
          · cases h
        · cases h
      · cases h
    · cases h
  · cases h
end
end Go.Proofs.YthjmmofafpahhaaGreat.Sx
