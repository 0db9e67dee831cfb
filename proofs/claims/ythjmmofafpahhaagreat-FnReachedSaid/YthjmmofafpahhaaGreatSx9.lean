/- The symbolic layer: operations that write, and whole code, computed. Program-independent. -/
import Derived.Test.YthjmmofafpahhaaGreatSx8
namespace Go.Proofs.YthjmmofafpahhaaGreat.Sx
open Go Go.RowKit
set_option linter.unusedVariables false
set_option linter.unusedSimpArgs false

def cellOf (q : TK) (v : AV) : Option q.ty := match q, v with
  | .i64, .d (.c (.int .i64 n)) => some n
  | .u8, .d (.c (.int .u8 n)) => some n
  | .str, .d (.c (.string s)) => some s
  | .ints, .d (.tv .i64 ws) => some ws
  | .strs, .d (.tv .str ws) => some ws
  | .bool, .d (.c (.bool b)) => some b
  | _, _ => none
theorem cellOf_ok {q : TK} {v : AV} {x : q.ty} (h : cellOf q v = some x) : v = tvA q x := by
  unfold cellOf at h
  split at h <;> cases h <;> rfl
def intsOf (σ : S) (q : TK) : Nat → List (Nat × Operand) → Option (List q.ty)
  | _, [] => some []
  | k, (i, x) :: r => bif Nat.beq i k then
      match σ.get x, intsOf σ q (k + 1) r with
      | some v, some ws => match cellOf q v with
        | some n => some (n :: ws)
        | none => none
      | _, _ => none
    else none
/-- The type of the cells of a slice's elements. -/
def kindT (T : Tab) (e : TypeId) : Option TK := match lk T.int e with
  | some .i64 => some .i64
  | some .u8 => some .u8
  | some _ => none
  | none => match lk T.str e with
    | some _ => some .str
    | none => match lk T.sl e with
      | some (e', 1) => match lk T.int e' with
        | some .i64 => some .ints
        | some _ => none
        | none => match lk T.str e' with
          | some _ => some .strs
          | none => none
      | _ => none

def srcF (σ : S) : (q : TK) → AV → Option (List q.ty)
  | q, .d (.tv q' ws) => match q, q' with
    | .i64, .i64 => some ws
    | .u8, .u8 => some ws
    | .str, .str => some ws
    | .ints, .ints => some ws
    | .strs, .strs => some ws
    | _, _ => none
  | q, .d (.c (.slice none 0 0)) => some []
  | q, .row id ver => match lk σ.heap id with
    | some (.trow q' e ver' ws) => bif Nat.beq ver' ver then match q, q' with
      | .i64, .i64 => some ws
      | .u8, .u8 => some ws
      | .str, .str => some ws
      | .ints, .ints => some ws
      | .strs, .strs => some ws
      | _, _ => none
      else none
    | _ => none
  | _, _ => none
/-- What type of cells a slice has. -/
def kindF (σ : S) : AV → Option TK
  | .d (.tv q _) => some q
  | .row id _ => match lk σ.heap id with
    | some (.trow q _ _ _) => some q
    | _ => none
  | _ => none

def storeF (T : Tab) (σ : S) (t : TypeId) : AV → AV → Option S
  | .ptr id off, av => match lk σ.heap id, cellsOf av, lk T.size t with
    | some (.cells ty cs), some cs', some n => bif Nat.beq cs'.length n && Nat.ble (off + n) cs.length then some (σ.setH id (.cells ty (splice cs off cs'))) else none
    | _, _, _ => none
  | .wp id ver i 0, v => match lk σ.heap id, lk T.size t with
    | some (.trow q e ver' ws), some 1 => match cellOf q v with
      | some n => bif Nat.beq ver' ver then some (σ.setH id (.trow q e ver (ws.set i n))) else none
      | none => none
    | _, _ => none
  | _, _ => none

def appendF (T : Tab) (σ : S) (t tx : TypeId) : AV → AV → Option (Option Prop × S × AV)
  | .row id ver, v => match lk σ.heap id, lk T.sl t, lk T.noint tx with
    | some (.trow q e ver' xs), some (e', 1), some _ => match srcF σ q v with
      | some ys => match lk T.el e' with
        | some (1, b) => bif Nat.beq ver' ver && Nat.beq e' e && Nat.ble b 100 then some (some (xs.length + ys.length ≤ 1000000000000), σ.setH id (.trow q e (ver + 1) (xs ++ ys)), .row id (ver + 1)) else none
        | _ => none
      | none => none
    | _, _, _ => none
  | .d (.c (.slice none 0 0)), v => match lk T.sl t, lk T.noint tx with
    | some (e', 1), some _ => match kindT T e' with
      | some q => match srcF σ q v with
        | some ys => match lk T.el e' with
          | some (1, b) => bif Nat.ble b 100 then some (some (ys.length ≤ 1000000000000), σ.new (.trow q e' 1 ys), .row σ.next 1) else none
          | _ => none
        | none => none
      | none => none
    | _, _ => none
  | _, _ => none

def sliceOwnF (T : Tab) (σ : S) (t : TypeId) (lo hi : Option Operand) : AV → Option (Option Prop × S × AV)
  | .row id ver => match lk σ.heap id with
    | some (.trow q e ver' ws) => match lk T.sl t, loF σ lo, hiF σ ws.length hi with
      | some (e', 1), some l, some h => bif Nat.beq ver' ver && !(isSomeO lo && isSomeO hi) then some (some (0 ≤ l ∧ l ≤ h ∧ h ≤ ws.length), σ.setH id (.trow q e (ver + 1) ((ws.drop l.toNat).take (h.toNat - l.toNat))), .row id (ver + 1)) else none
      | _, _, _ => none
    | _ => none
  | _ => none
def convBsF (T : Tab) (σ : S) (s d : TypeId) (u : AV) : Option (Option Prop × S × AV) := match lk T.str d, lk T.sl s with
  | some _, some (e, 1) => match lk T.int e with
    | some .u8 => match srcF σ .u8 u with
      | some ws => some (none, σ, sv (bstr ws))
      | none => none
    | _ => none
  | _, _ => none
def makeF (T : Tab) (σ : S) (t : TypeId) : AV → AV → Option (Option Prop × S × AV)
  | .d (.c (.int .i64 n)), .d (.c (.int .i64 n')) => match lk T.sl t with
    | some (e, 1) => match kindT T e, lk T.el e, lk T.zero e with
      | some q, some (1, b), some z => bif zeroK q z && Nat.ble b 100 then some (some (0 ≤ n ∧ n ≤ 1000000000000 ∧ n' = n), σ.new (.trow q e 0 (List.replicate n.toNat q.dflt)), .row σ.next 0) else none
      | _, _, _ => none
    | _ => none
  | _, _ => none
def clearF (T : Tab) (σ : S) (t : TypeId) : AV → Option S
  | .rowv id ver off len => match lk T.sl t, lk σ.heap id with
    | some (e, 1), some (.trow q e' ver' ws) => match lk T.zero e with
      | some z => bif Nat.beq ver' ver && zeroK q z then some (σ.setH id (.trow q e' ver (splice ws off (List.replicate len q.dflt)))) else none
      | none => none
    | _, _ => none
  | _ => none
/-- The type of a map's elements. -/
def kindM (T : Tab) (e : TypeId) : Option TK := match lk T.int e with
  | some .i64 => some .i64
  | some _ => none
  | none => match lk T.bool e with
    | some _ => some .bool
    | none => none
def makeMapF (T : Tab) (σ : S) (t : TypeId) : Option (S × AV) := match lk T.map t with
  | some e => match kindM T e with
    | some q => bif q.flat then some (σ.new (.imap q []), .mp σ.next) else none
    | none => none
  | none => none
def updF (T : Tab) (σ : S) (t : TypeId) : AV → AV → AV → Option S
  | .mp id, .d (.c (.int .i64 k)), w => match lk T.map t, lk σ.heap id with
    | some _, some (.imap q es) => match cellV q w with
      | some v => some (σ.setH id (.imap q (mput es k v)))
      | none => none
    | _, _ => none
  | _, _, _ => none
def zerosF (T : Tab) (σ : S) (t tx : TypeId) : AV → AV → Option (Option Prop × S × AV)
  | .d (.c (.slice none 0 0)), .d (.c (.int .i64 n)) => match lk T.sl t, lk T.int tx with
    | some (e, 1), some _ => match kindT T e, lk T.el e, lk T.zero e with
      | some q, some (1, b), some z => bif zeroK q z && Nat.ble b 100 then some (some (0 < n ∧ n ≤ 1000000000000), σ.new (.trow q e 0 (List.replicate n.toNat q.dflt)), .row σ.next 0) else none
      | _, _, _ => none
    | _, _ => none
  | _, _ => none
def effF (T : Tab) (σ : S) : Op → Option (Option Prop × S × AV)
  | .box ty x => match σ.get x with
    | some av => match cellsOf av with
      | some cs => some (none, σ.new (.cells ty cs), .ptr σ.next 0)
      | none => none
    | none => none
  | .alloc ty => match lk T.zero ty with
    | some z => match cellsOf (cv z) with
      | some cs => some (none, σ.new (.cells ty cs), .ptr σ.next 0)
      | none => none
    | none => none
  | .store t x y => match σ.get x, σ.get y with
    | some u, some v => match storeF T σ t u v with
      | some σ' => some (none, σ', .tup [])
      | none => none
    | _, _ => none
  | .buildSlice t n ⟨ps⟩ => match lk T.sl t with
    | some (e, 1) => match kindT T e with
      | some q => match intsOf σ q 0 ps, lk T.el e with
        | some ws, some (1, _) => bif Nat.beq ws.length n && Nat.blt n 1000000 then some (none, σ.new (.trow q e 0 ws), .row σ.next 0) else none
        | _, _ => none
      | none => none
    | _ => none
  | .call { callee := .builtin .append, args := ⟨[s, x]⟩, argTypes := ⟨[t, tx]⟩ } => match σ.get s, σ.get x with
    | some u, some v => match zerosF T σ t tx u v with
      | some r => some r
      | none => appendF T σ t tx u v
    | _, _ => none
  | .slice t x lo hi none => match σ.get x with
    | some u => match sliceOwnF T σ t lo hi u with
      | some r => some r
      | none => match sliceF T σ t lo hi u with
        | some (c, av) => some (c, σ, av)
        | none => none
    | none => none
  | .convert s d x => match σ.get x with
    | some u => match convF T s d u with
      | some (c, av) => some (c, σ, av)
      | none => convBsF T σ s d u
    | none => none
  | .makeSlice t x y => match σ.get x, σ.get y with
    | some u, some v => makeF T σ t u v
    | _, _ => none
  | .call { callee := .builtin .clear, args := ⟨[x]⟩, argTypes := ⟨[t]⟩ } => match σ.get x with
    | some u => match clearF T σ t u with
      | some σ' => some (none, σ', .tup [])
      | none => none
    | none => none
  | .makeMap t none => match makeMapF T σ t with
    | some (σ', av) => some (none, σ', av)
    | none => none
  | .mapUpdate t x y z => match σ.get x, σ.get y, σ.get z with
    | some u, some v, some w => match updF T σ t u v w with
      | some σ' => some (none, σ', .tup [])
      | none => none
    | _, _, _ => none
  | op => match pureF T σ op with
    | some (c, av) => some (c, σ, av)
    | none => none

section
variable {P : Program} {Γ : Ctx} {σ : S} {o : Oper} {K : S → Prop} {T : Tab}

theorem parts_ints {q : TK} : ∀ (ps : List (Nat × Operand)) (k : Nat) (ws : List q.ty), intsOf σ q k ps = some ws → partsOf σ k ps = some (rowsOf q ws)
  | [], k, ws, h => by cases h; rfl
  | (i, x) :: r, k, ws, h => by
    unfold intsOf at h
    unfold partsOf
    cases hb : Nat.beq i k with
    | false => rw [hb] at h; cases h
    | true =>
      rw [hb] at h
      simp only [cond_true] at h ⊢
      split at h
      · rename_i v ws' h1 h2
        split at h
        · rename_i n h3
          cases h
          rw [h1, cellOf_ok h3]
          simp only [tvA, cellsOf, dataOf, AV.toD, parts_ints r (k + 1) ws' h2]
          rfl
        · cases h
      · cases h

theorem srcF_ok {q : TK} {x : Operand} {v : AV} {ys : List q.ty} (hx : σ.get x = some v) (h : srcF σ q v = some ys) : SrcOk σ x 1 (rowsOf q ys) := by
  unfold srcF at h
  split at h
  · split at h <;> cases h <;> exact .ints rfl hx
  · cases h; exact .nil hx
  · rename_i id ver
    split at h
    · rename_i q' e ver' ws hh
      cases hb : Nat.beq ver' ver with
      | true =>
        rw [hb] at h
        have := Nat.eq_of_beq_eq_true hb
        subst this
        simp only [cond_true] at h
        split at h <;> cases h <;> exact .irow rfl hx hh
      | false => rw [hb] at h; cases h
    · cases h
  · cases h

theorem storeF_ok (H : TabOk P T) {t : TypeId} {x y : Operand} {u v : AV} {σ' : S} (hop : o.op = .store t x y) (hx : σ.get x = some u) (hy : σ.get y = some v) (h : storeF T σ t u v = some σ') (hd : dstOk Γ.nt o.dst = true) (hK : K (σ'.put o.dst (.tup []))) : Sop P Γ o K σ := by
  unfold storeF at h
  split at h
  · split at h
    · rename_i hh hc hn
      have := H.size.get hn
      cases hb : (Nat.beq (List.length _) _ && Nat.ble _ _) with
      | true =>
        rw [hb] at h; cases h
        simp only [Bool.and_eq_true] at hb
        exact sop_store hop hx hh hy hc (Nat.eq_of_beq_eq_true hb.1) (Nat.le_of_ble_eq_true hb.2) rfl hd hK
      | false => rw [hb] at h; cases h
    · cases h
  · rename_i _ id ver i
    split at h
    · rename_i q e ver' ws hh hn
      have := H.size.get hn
      split at h
      · rename_i n hc
        cases hb : Nat.beq ver' ver with
        | true =>
          rw [hb] at h; cases h
          have := Nat.eq_of_beq_eq_true hb
          subst this
          exact sop_storer_ints hop hx hh (by rw [hy, cellOf_ok hc]) rfl hd hK
        | false => rw [hb] at h; cases h
      · cases h
    · cases h
  · cases h

theorem sop_append_nil_ints {t tx e by' : Nat} {s x : Operand} {q : TK} {ys : List q.ty} [T : TSl P t e 1] [E : TEl P e 1 by'] [X : TNoInt P tx] (hop : o.op = .call { callee := .builtin .append, args := #[s, x], argTypes := #[t, tx] })
    (hs : σ.get s = some (.d (.c (.slice none 0 0)))) (hx : SrcOk σ x 1 (rowsOf q ys)) (hlen : ys.length ≤ 1000000000000) (hby : Nat.ble by' 100 = true) {d : Option Tmp} (he : o.dst = d) (hd : dstOk Γ.nt d = true)
    (hK : K ((σ.new (.trow q e 1 ys)).put d (.row σ.next 1))) : Sop P Γ o K σ := by
  intro a w hst
  obtain ⟨B, ok, h0⟩ := hst
  refine Sop.conv (σ1 := σ) (fun _ _ x => x) ?_ (sop_append_nil (K := fun s => s = (σ.new (.row e 1 1 (rowsOf q ys))).put d (.row σ.next 1)) hop hs hx (by simpa using hlen) hby he hd rfl) a w ⟨B, ok, h0⟩
  rintro σ' rfl
  refine ⟨_, hK, ?_⟩
  have h1 : lk ((σ.new (.row e 1 1 (rowsOf q ys))).put d (.row σ.next 1)).heap σ.next = some (.row e 1 1 (rowsOf q ys)) := by
    rw [put_heap]; simp [S.new, lk, Nat.beq_refl]
  have := sub_irow (Γ := Γ) h1
  rw [← put_setH] at this
  have e2 : (σ.new (.row e 1 1 (rowsOf q ys))).setH σ.next (.trow q e 1 ys) = σ.new (.trow q e 1 ys) := by
    have hn : setL σ.heap σ.next (.trow q e 1 ys) = σ.heap := setL_other fun k x hm => Nat.ne_of_lt (h0.idlt hm)
    simp [S.setH, S.new, setL, Nat.beq_refl, hn]
  rwa [e2] at this

theorem appendF_ok (H : TabOk P T) {t tx : TypeId} {s x : Operand} {u v : AV} {c : Option Prop} {σ' : S} {av : AV} (hop : o.op = .call { callee := .builtin .append, args := #[s, x], argTypes := #[t, tx] }) (hs : σ.get s = some u) (hx : σ.get x = some v)
    (h : appendF T σ t tx u v = some (c, σ', av)) (hc : condOk c) (hd : dstOk Γ.nt o.dst = true) (hK : K (σ'.put o.dst av)) : Sop P Γ o K σ := by
  unfold appendF at h
  split at h
  · rename_i id ver
    split at h
    · rename_i q e ver' xs e' _ hh h1 h2
      split at h
      · rename_i ys hys
        split at h
        · rename_i b h3
          cases hb : (Nat.beq ver' ver && Nat.beq e' e && Nat.ble b 100) with
          | true =>
            rw [hb] at h; cases h
            simp only [Bool.and_eq_true] at hb
            have q1 := Nat.eq_of_beq_eq_true hb.1.1
            have q2 := Nat.eq_of_beq_eq_true hb.1.2
            subst q1
            subst q2
            have i1 := H.sl.get h1
            have i2 := H.noint.get h2
            have i3 := H.el.get h3
            exact sop_append_ints hop hs hh (srcF_ok hx hys) hc hb.2 rfl hd hK
          | false => rw [hb] at h; cases h
        · cases h
      · cases h
    · cases h
  · split at h
    · rename_i e' _ h1 h2
      split at h
      · rename_i q hq
        split at h
        · rename_i ys hys
          split at h
          · rename_i b h3
            cases hb : Nat.ble b 100 with
            | true =>
              rw [hb] at h; cases h
              have i1 := H.sl.get h1
              have i2 := H.noint.get h2
              have i3 := H.el.get h3
              exact sop_append_nil_ints hop hs (srcF_ok hx hys) hc hb rfl hd hK
            | false => rw [hb] at h; cases h
          · cases h
        · cases h
      · cases h
    · cases h
  · cases h

theorem sliceOwnF_ok (H : TabOk P T) {t : TypeId} {x : Operand} {lo hi : Option Operand} {u : AV} {c : Option Prop} {σ' : S} {av : AV} (hop : o.op = .slice t x lo hi none) (hx : σ.get x = some u) (h : sliceOwnF T σ t lo hi u = some (c, σ', av)) (hc : condOk c) (hd : dstOk Γ.nt o.dst = true) (hK : K (σ'.put o.dst av)) : Sop P Γ o K σ := by
  unfold sliceOwnF at h
  split at h
  · rename_i id ver
    split at h
    · rename_i q e ver' ws hh
      split at h
      · rename_i e' l hi' h1 h2 h3
        have := H.sl.get h1
        cases hb : (Nat.beq ver' ver && !(isSomeO lo && isSomeO hi)) with
        | true =>
          rw [hb] at h; cases h
          simp only [Bool.and_eq_true] at hb
          have := Nat.eq_of_beq_eq_true hb.1
          subst this
          exact sop_slice_own hop hx hh (loF_ok h2) (hiF_ok h3) hc.1 hc.2.1 hc.2.2 rfl hd hK
        | false => rw [hb] at h; cases h
      · cases h
    · cases h
  · cases h
theorem convBsF_ok (H : TabOk P T) {s d : TypeId} {x : Operand} {u : AV} {c : Option Prop} {σ' : S} {av : AV} (hop : o.op = .convert s d x) (hx : σ.get x = some u) (h : convBsF T σ s d u = some (c, σ', av)) (hc : condOk c) (hd : dstOk Γ.nt o.dst = true) (hK : K (σ'.put o.dst av)) : Sop P Γ o K σ := by
  unfold convBsF at h
  split at h
  · rename_i e h1 h2
    split at h
    · rename_i h3
      split at h
      · rename_i ws h4
        cases h
        have := H.str.get h1
        have := H.sl.get h2
        have := H.int.get h3
        exact sop_conv_bs hop (srcF_ok hx h4) rfl hd hK
      · cases h
    · cases h
  · cases h
theorem makeF_ok (H : TabOk P T) {t : TypeId} {x y : Operand} {u v : AV} {c : Option Prop} {σ' : S} {av : AV} (hop : o.op = .makeSlice t x y) (hx : σ.get x = some u) (hy : σ.get y = some v) (h : makeF T σ t u v = some (c, σ', av)) (hc : condOk c) (hd : dstOk Γ.nt o.dst = true) (hK : K (σ'.put o.dst av)) : SopB P Γ o K σ := by
  unfold makeF at h
  split at h
  · split at h
    · rename_i e h1
      split at h
      · rename_i q b z h2 h3 h4
        cases hb : (zeroK q z && Nat.ble b 100) with
        | true =>
          rw [hb] at h; cases h
          simp only [Bool.and_eq_true] at hb
          have := H.sl.get h1
          have := H.el.get h3
          have := H.zero.get h4
          obtain ⟨c1, c2, c3⟩ := hc
          subst c3
          exact sop_makeSlice hop hx hy hb.1 hb.2 c1 c2 rfl hd hK
        | false => rw [hb] at h; cases h
      · cases h
    · cases h
  · cases h
theorem zerosF_ok (H : TabOk P T) {t tx : TypeId} {s x : Operand} {u v : AV} {c : Option Prop} {σ' : S} {av : AV} (hop : o.op = .call { callee := .builtin .append, args := #[s, x], argTypes := #[t, tx] }) (hs : σ.get s = some u) (hx : σ.get x = some v)
    (h : zerosF T σ t tx u v = some (c, σ', av)) (hc : condOk c) (hd : dstOk Γ.nt o.dst = true) (hK : K (σ'.put o.dst av)) : Sop P Γ o K σ := by
  unfold zerosF at h
  split at h
  · split at h
    · rename_i e _ h1 h2
      split at h
      · rename_i q b z h3 h4 h5
        cases hb : (zeroK q z && Nat.ble b 100) with
        | true =>
          rw [hb] at h; cases h
          simp only [Bool.and_eq_true] at hb
          have := H.sl.get h1
          have := H.int.get h2
          have := H.el.get h4
          have := H.zero.get h5
          exact sop_append_zeros hop hs hx hb.1 hc.1 hc.2 hb.2 rfl hd hK
        | false => rw [hb] at h; cases h
      · cases h
    · cases h
  · cases h
theorem clearF_ok (H : TabOk P T) {t : TypeId} {x : Operand} {u : AV} {σ' : S} (hop : o.op = .call { callee := .builtin .clear, args := #[x], argTypes := #[t] }) (hx : σ.get x = some u) (h : clearF T σ t u = some σ') (hd : dstOk Γ.nt o.dst = true) (hK : K (σ'.put o.dst (.tup []))) : Sop P Γ o K σ := by
  unfold clearF at h
  split at h
  · rename_i id ver off len
    split at h
    · rename_i e q e' ver' ws h1 hh
      split at h
      · rename_i z h2
        cases hb : (Nat.beq ver' ver && zeroK q z) with
        | true =>
          rw [hb] at h; cases h
          simp only [Bool.and_eq_true] at hb
          have := Nat.eq_of_beq_eq_true hb.1
          subst this
          have := H.sl.get h1
          have := H.zero.get h2
          exact sop_clear hop hx hh hb.2 rfl hd hK
        | false => rw [hb] at h; cases h
      · cases h
    · cases h
  · cases h
theorem makeMapF_ok {t : TypeId} {σ' : S} {av : AV} (hop : o.op = .makeMap t none) (h : makeMapF T σ t = some (σ', av)) (hd : dstOk Γ.nt o.dst = true) (hK : K (σ'.put o.dst av)) : SopB P Γ o K σ := by
  unfold makeMapF at h
  split at h
  · split at h
    · rename_i q hq
      cases hb : q.flat with
      | true => rw [hb] at h; cases h; exact sopb_makeMap hop hb rfl hd hK
      | false => rw [hb] at h; cases h
    · cases h
  · cases h
theorem updF_ok (H : TabOk P T) {t : TypeId} {x y z : Operand} {u v w : AV} {σ' : S} (hop : o.op = .mapUpdate t x y z) (hx : σ.get x = some u) (hy : σ.get y = some v) (hz : σ.get z = some w) (h : updF T σ t u v w = some σ') (hd : dstOk Γ.nt o.dst = true) (hK : K (σ'.put o.dst (.tup []))) : Sop P Γ o K σ := by
  unfold updF at h
  split at h
  · split at h
    · rename_i h1 hh
      split at h
      · rename_i h2
        cases h
        have := H.map.get h1
        exact sop_mapUpdate hop hx hh hy hz h2 rfl hd hK
      · cases h
    · cases h
  · cases h
/-- What an operation does. -/
theorem effF_ok (H : TabOk P T) {op : Op} (hop : o.op = op) {c : Option Prop} {σ' : S} {av : AV} (h : effF T σ op = some (c, σ', av)) (hc : condOk c) (hd : dstOk Γ.nt o.dst = true) (hK : K (σ'.put o.dst av)) : Sop P Γ o K σ := by
  unfold effF at h
  split at h
  · split at h
    · rename_i hx
      split at h
      · rename_i h1; cases h; exact sop_box hop hx h1 rfl hd hK
      · cases h
    · cases h
  · split at h
    · rename_i hx
      split at h
      · rename_i h1; cases h
        have := H.zero.get hx
        exact sop_alloc hop h1 rfl hd hK
      · cases h
    · cases h
  · split at h
    · rename_i hx hy
      split at h
      · rename_i h1; cases h; exact storeF_ok H hop hx hy h1 hd hK
      · cases h
    · cases h
  · split at h
    · rename_i n ps _ e h1
      split at h
      · rename_i q hq
        split at h
        · rename_i ws b h2 h3
          cases hb : (Nat.beq ws.length n && Nat.blt n 1000000) with
          | true =>
            rw [hb] at h; cases h
            simp only [Bool.and_eq_true] at hb
            have i1 := H.sl.get h1
            have i3 := H.el.get h3
            exact sop_buildSlice_ints hop (parts_ints _ _ _ h2) hb.1 hb.2 rfl hd hK
          | false => rw [hb] at h; cases h
        · cases h
      · cases h
    · cases h
  · split at h
    · rename_i hs hx
      split at h
      · rename_i h1; cases h; exact zerosF_ok H hop hs hx h1 hc hd hK
      · exact appendF_ok H hop hs hx h hc hd hK
    · cases h
  · split at h
    · rename_i hx
      split at h
      · rename_i h1; cases h; exact sliceOwnF_ok H hop hx h1 hc hd hK
      · split at h
        · rename_i h1; cases h; exact sop_pure (sliceF_ok H hop hx h1 hc) rfl hd hK
        · cases h
    · cases h
  · split at h
    · rename_i hx
      split at h
      · rename_i h1; cases h; exact sop_pure (convF_ok H hop hx h1 hc) rfl hd hK
      · exact convBsF_ok H hop hx h hc hd hK
    · cases h
  · split at h
    · rename_i hx hy; exact (makeF_ok H hop hx hy h hc hd hK).sop
    · cases h
  · split at h
    · rename_i hx
      split at h
      · rename_i h1; cases h; exact clearF_ok H hop hx h1 hd hK
      · cases h
    · cases h
  · split at h
    · rename_i h1; cases h; exact (makeMapF_ok hop h1 hd hK).sop
    · cases h
  · split at h
    · rename_i hx hy hz
      split at h
      · rename_i h1; cases h; exact updF_ok H hop hx hy hz h1 hd hK
      · cases h
    · cases h
  · split at h
    · rename_i h1; cases h; exact sop_pure (pureF_ok H hop h1 hc) rfl hd hK
    · cases h
end
end Go.Proofs.YthjmmofafpahhaaGreat.Sx
