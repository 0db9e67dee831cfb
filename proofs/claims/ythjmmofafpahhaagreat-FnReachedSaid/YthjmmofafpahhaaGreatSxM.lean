/- The symbolic layer: contracts by kinds; the end of a body; calls. Program-independent. -/
import Derived.Test.YthjmmofafpahhaaGreatSxL
namespace Go.Proofs.YthjmmofafpahhaaGreat.Sx
open Go Go.RowKit
set_option linter.unusedVariables false
set_option linter.unusedSimpArgs false

def resF (T : Tab) (σ : S) : List ResultVar → Option (List AV)
  | [] => some []
  | .tmp t :: r => match lk σ.env t, resF T σ r with
    | some a, some as => some (a :: as)
    | _, _ => none
  | .cell t ty :: r => match lk σ.env t, resF T σ r with
    | some (.ptr id off), some as => match lk σ.heap id with
      | some (.cells _ cs) => match lk T.one ty with
        | some _ => match cs[off]? with
          | some a => some (a :: as)
          | none => none
        | none => match lk T.agg ty with
          | some n => bif Nat.beq ((cs.drop off).take n).length n then some (.agg ((cs.drop off).take n) :: as) else none
          | none => none
      | _ => none
    | _, _ => none
theorem resF_ok {P : Program} {T : Tab} (H : TabOk P T) {σ : S} : ∀ {rs : List ResultVar} {as : List AV}, resF T σ rs = some as → ResAll P σ rs as
  | [], as, h => by cases h; exact .nil
  | .tmp t :: r, as, h => by
    unfold resF at h
    split at h
    · rename_i h1 h2; cases h; exact .cons (.tmp h1) (resF_ok H h2)
    · cases h
  | .cell t ty :: r, as, h => by
    unfold resF at h
    split at h
    · rename_i id off as' h1 h2
      split at h
      · rename_i ty' cs hh
        split at h
        · rename_i h3
          split at h
          · rename_i a h4
            cases h
            exact .cons (.one (H.one.get h3) h1 hh h4) (resF_ok H h2)
          · cases h
        · split at h
          · rename_i n h4
            cases hb : Nat.beq ((cs.drop off).take n).length n with
            | true =>
              rw [hb] at h
              cases h
              exact .cons (.agg (H.agg.get h4) h1 hh rfl (Nat.eq_of_beq_eq_true hb)) (resF_ok H h2)
            | false => rw [hb] at h; cases h
          · cases h
      · cases h
    · cases h


/-! ### Results as a row of values -/
def retV : List Value → Value
  | [v] => v
  | vs => .tuple vs.toArray
theorem retAV_rel {B : Nat → Option Bd} {ok : Nat → Prop} {w : World} : ∀ {as : List AV} {vs : List Value}, RelTs B ok w as vs → RelA B ok w (retAV as) (retV vs)
  | [], vs, h => by cases h; exact ⟨[], rfl, rfl⟩
  | [a], vs, h => by obtain ⟨v, vs', rfl, h4, h5⟩ := h; cases h5; exact h4
  | a :: b :: as, vs, h => by
    obtain ⟨v, vs', rfl, h4, v2, vs2, rfl, h6, h7⟩ := h
    exact ⟨v :: v2 :: vs2, rfl, v, _, rfl, h4, v2, vs2, rfl, h6, h7⟩
theorem StB.resAll' {P : Program} {Γ : Ctx} {σ : S} {B : Nat → Option Bd} {ok : Nat → Prop} {a : Act} {w : World} (h : StB Γ B ok σ a w) {fn : Func} {as : List AV} (hr : ResAll P σ fn.results.toList as) : ∃ vs, (results fn a.tmps).run P w = .ok (retV vs) w ∧ RelTs B ok w as vs := by
  have key : ∀ (rs : List ResultVar) (as : List AV), ResAll P σ rs as → ∃ vs : List Value, RelTs B ok w as vs ∧ (rs.mapM (resOne a.tmps)).run P w = .ok vs w := by
    intro rs as hr
    induction hr with
    | nil => exact ⟨[], rfl, rfl⟩
    | @cons rv av rs as h0 t ih =>
      obtain ⟨vs, h1, h2⟩ := ih
      obtain ⟨v, h3, h4⟩ := h.res h0
      refine ⟨v :: vs, ⟨v, vs, rfl, h3, h1⟩, ?_⟩
      rw [List.mapM_cons]
      simp only [Sem.run_bind]
      rw [h4]
      simp only [Result.andThen_ok, h2, Sem.run_pure]
  obtain ⟨vs, h1, h2⟩ := key _ _ hr
  have h3 : (results fn a.tmps).run P w = .ok (if h : vs.toArray.size = 1 then vs.toArray[0] else .tuple vs.toArray) w := by
    rw [results_eq, Array.mapM_eq_mapM_toList]
    simp only [Sem.run_bind, Sem.run_map]
    rw [h2]
    rfl
  refine ⟨vs, ?_, h1⟩
  rw [h3]
  match vs with
  | [] => rfl
  | [v] => rfl
  | a :: b :: r =>
    show Result.ok (if h : (a :: b :: r).toArray.size = 1 then _ else _) w = _
    rw [dif_neg (by simp)]
    rfl

/-! ### Contracts -/
structure Ct where
  ak : List Kd
  rk : List Kd
  same : List (Nat × Nat)
def outKs : List (Nat × TypeId × List Kd) → List Kd → List Kd
  | [], rk => rk
  | c :: r, rk => .agg c.2.2 :: outKs r rk
def cellE : List (Nat × TypeId × List Kd) → List AV → List (Nat × HE)
  | [], _ => []
  | (j, ty, _) :: r, as => match as with
    | .agg cs :: as' => (j, .cells ty cs) :: cellE r as'
    | _ => []
def restA : List (Nat × TypeId × List Kd) → List AV → List AV
  | [], as => as
  | _ :: r, as => match as with
    | _ :: as' => restA r as'
    | [] => []
def Ct.cel (c : Ct) : List (Nat × TypeId × List Kd) := Kd.cels 0 c.ak
def Ct.out (c : Ct) : List Kd := outKs c.cel c.rk
def Ct.k0 (c : Ct) : Nat := Kd.cnts c.ak
def fsts : List (Nat × TypeId × List Kd) → List Nat
  | [] => []
  | c :: r => c.1 :: fsts r

def SpecK (P : Program) (f : FuncId) (c : Ct) (x : Kd.tys c.ak) (K : Kd.tys c.out → Prop) : Prop :=
  ∀ w ok B vs, (∀ id, c.k0 ≤ id → B id = none) → SatH B ok w (mks c.ak x 0).2.1 → RelTs B ok w (mks c.ak x 0).1 vs →
    Calls P f vs.toArray w fun e w' => ∃ y B1 ok1 us, K y ∧ e = .returned (retV us) ∧ (∀ j, j ∈ fsts c.cel → B1 j = B j) ∧ (∀ i, i < c.k0 → i ∉ fsts c.cel → B1 i = none) ∧ (∀ i, c.k0 + Kd.cnts c.out ≤ i → B1 i = none) ∧
      SatH B1 ok1 w' (cellE c.cel (mks c.out y c.k0).1 ++ (mks c.out y c.k0).2.1) ∧ RelTs B1 ok1 w' (restA c.cel (mks c.out y c.k0).1) us ∧ Keeps (occs B (mks c.ak x 0).2.1) w w' ∧
      (∀ b, ok b → ok1 b) ∧ (∀ b, ok1 b → (ok b ∨ occs B (mks c.ak x 0).2.1 b) ∨ w.heap.size ≤ b) ∧ (∀ b, occs B1 (cellE c.cel (mks c.out y c.k0).1 ++ (mks c.out y c.k0).2.1) b → occs B (mks c.ak x 0).2.1 b ∨ w.heap.size ≤ b) ∧ ∀ p : Nat × Nat, p ∈ c.same → ∃ bd, B p.1 = some bd ∧ B1 (c.k0 + p.2) = some bd

/-! ### The end of a body -/
noncomputable def endAs (h : List (Nat × HE)) (as : List AV) : List (Nat × TypeId × List Kd) → Option (List AV)
  | [] => some as
  | (j, ty, _) :: r => match lk h j with
    | some (.cells ty' cs) => bif Nat.beq ty' ty then match endAs h as r with
      | some l => some (.agg cs :: l)
      | none => none
      else none
    | _ => none
/-- Rows that come back where they lay. -/
def srcAt : List Src → Nat → Option Nat
  | [], _ => none
  | .id i :: _, 0 => some i
  | .nil _ :: _, 0 => none
  | _ :: r, n + 1 => srcAt r n
theorem srcAt_ok {i : Nat} : ∀ {ss : List Src} {n : Nat}, srcAt ss n = some i → ss[n]? = some (.id i)
  | [], n, h => by cases h
  | .id k :: r, 0, h => by simp only [srcAt, Option.some.injEq] at h; subst h; rfl
  | .nil e :: r, 0, h => by cases h
  | .id k :: r, n + 1, h => srcAt_ok (ss := r) h
  | .nil e :: r, n + 1, h => srcAt_ok (ss := r) h
def sameB (ss : List Src) (k0 : Nat) (h : List (Nat × HE)) : List (Nat × Nat) → Bool
  | [] => true
  | (j, n) :: r => (match srcAt ss n, lk h j with
    | some i, some (.trow _ _ ver _) => Nat.beq i j && (Nat.beq ver 0 && Nat.blt j k0)
    | _, _ => false) && sameB ss k0 h r
theorem sameB_ok {ss : List Src} {k0 : Nat} {h : List (Nat × HE)} : ∀ {l : List (Nat × Nat)}, sameB ss k0 h l = true → ∀ p, p ∈ l → ss[p.2]? = some (.id p.1) ∧ p.1 < k0 ∧ ∃ q e ws, lk h p.1 = some (.trow q e 0 ws)
  | [], _, p, hp => by cases hp
  | (j, n) :: r, hs, p, hp => by
    simp only [sameB, Bool.and_eq_true] at hs
    obtain ⟨h1, h2⟩ := hs
    rcases List.mem_cons.1 hp with rfl | hp
    · split at h1
      · rename_i i q e ver ws h3 h4
        simp only [Bool.and_eq_true] at h1
        obtain ⟨a1, a2, a3⟩ := h1
        have := Nat.eq_of_beq_eq_true a1
        subst this
        have := Nat.eq_of_beq_eq_true a2
        subst this
        exact ⟨srcAt_ok h3, by simpa [Nat.blt, Nat.succ_le_iff] using a3, q, e, ws, h4⟩
      · cases h1
    · exact sameB_ok h2 p hp
mutual
theorem mk_all : ∀ (k : Kd) (x : k.ty) (n i : Nat), i < k.cnt → ∃ z, (n + i, z) ∈ (mk k x n).2.1
  | .int _, x, n, i, h => by simp [Kd.cnt] at h
  | .bool, x, n, i, h => by simp [Kd.cnt] at h
  | .str, x, n, i, h => by simp [Kd.cnt] at h
  | .tv _, x, n, i, h => by simp [Kd.cnt] at h
  | .arr _, x, n, i, h => by simp [Kd.cnt] at h
  | .own _ _, x, n, i, h => by
    simp only [Kd.cnt] at h
    have : i = 0 := by omega
    subst this
    exact ⟨_, List.mem_singleton.2 rfl⟩
  | .ownr _ _, x, n, i, h => by
    simp only [Kd.cnt] at h
    have : i = 0 := by omega
    subst this
    exact ⟨_, List.mem_singleton.2 rfl⟩
  | .val _, x, n, i, h => by simp [Kd.cnt] at h
  | .agg ks, x, n, i, h => mks_all ks x n i h
  | .cell ty ks, x, n, i, h => by
    simp only [Kd.cnt] at h
    cases i with
    | zero => exact ⟨_, List.mem_cons_self⟩
    | succ i =>
      obtain ⟨z, hz⟩ := mks_all ks x (n + 1) i (by omega)
      exact ⟨z, List.mem_cons_of_mem _ (by rw [show n + (i + 1) = n + 1 + i by omega]; exact hz)⟩
  | .map _, x, n, i, h => by
    simp only [Kd.cnt] at h
    have : i = 0 := by omega
    subst this
    exact ⟨_, List.mem_singleton.2 rfl⟩
  | .clo _ ks, x, n, i, h => mks_all ks x n i h
theorem mks_all : ∀ (ks : List Kd) (x : Kd.tys ks) (n i : Nat), i < Kd.cnts ks → ∃ z, (n + i, z) ∈ (mks ks x n).2.1
  | [], x, n, i, h => by simp [Kd.cnts] at h
  | k :: ks, x, n, i, h => by
    simp only [Kd.cnts] at h
    by_cases hi : i < k.cnt
    · obtain ⟨z, hz⟩ := mk_all k x.1 n i hi
      exact ⟨z, List.mem_append_left _ hz⟩
    · obtain ⟨z, hz⟩ := mks_all ks x.2 (mk k x.1 n).2.2 (i - k.cnt) (by omega)
      rw [mk_next k x.1 n] at hz
      refine ⟨z, List.mem_append_right _ ?_⟩
      show _ ∈ (mks ks x.2 (mk k x.1 n).2.2).2.1
      rw [mk_next k x.1 n]
      rw [show n + i = n + k.cnt + (i - k.cnt) by omega]
      exact hz
end
/-- Data that cannot be told so. -/
inductive NoWay : Prop
theorem NoWay.elim {p : Prop} (h : NoWay) : p := by cases h
noncomputable def endK (c : Ct) (T : Tab) (rs : List ResultVar) (K : Kd.tys c.out → Prop) (σ : S) : Prop := match resF T σ rs with
  | some as => match endAs σ.heap as c.cel with
    | some l => match xts σ.heap c.out l with
      | some (y, ss, fz) => bif distB (Src.ids ss) && (disjB (Src.ids ss) fz && (disjB (Src.ids ss) (fsts c.cel) && (disjB fz (fsts c.cel) && (distB (fsts c.cel) && sameB ss c.k0 σ.heap c.same)))) then K y else NoWay
      | none => NoWay
    | none => NoWay
  | none => NoWay

theorem mem_fsts {i : Nat} : ∀ {ck : List (Nat × TypeId × List Kd)} {m : Nat} {ty : TypeId} {ks : List Kd}, ck[m]? = some (i, ty, ks) → i ∈ fsts ck
  | [], m, ty, ks, h => by simp at h
  | c :: r, 0, ty, ks, h => by
    simp only [List.getElem?_cons_zero, Option.some.injEq] at h
    subst h
    exact List.mem_cons_self
  | c :: r, m + 1, ty, ks, h => List.mem_cons_of_mem _ (mem_fsts (m := m) (by simpa using h))
theorem fsts_get {i : Nat} : ∀ {ck : List (Nat × TypeId × List Kd)}, i ∈ fsts ck → ∃ (m : Nat) (ty : TypeId) (ks : List Kd), ck[m]? = some (i, ty, ks)
  | [], h => by cases h
  | c :: r, h => by
    rcases List.mem_cons.1 h with rfl | h
    · exact ⟨0, c.2.1, c.2.2, rfl⟩
    · obtain ⟨m, ty, ks, e⟩ := fsts_get h
      exact ⟨m + 1, ty, ks, by simpa using e⟩

theorem endAs_ok {B : Nat → Option Bd} {ok : Nat → Prop} {w : World} {h : List (Nat × HE)} (hs : ∀ i x, (i, x) ∈ h → ∃ bd, B i = some bd ∧ SatE B ok w bd x) {as : List AV} {us : List Value} (hr : RelTs B ok w as us) :
    ∀ {ck : List (Nat × TypeId × List Kd)} {l : List AV}, endAs h as ck = some l → ∃ cvs : List (List Value), cvs.length = ck.length ∧ RelTs B ok w l ((cvs.map fun vs => Value.agg vs.toArray) ++ us) ∧
      ∀ (m j : Nat) (ty : TypeId) (ks : List Kd) (vs : List Value), ck[m]? = some (j, ty, ks) → cvs[m]? = some vs → ∃ (bd : Bd) (cs : List AV), B j = some bd ∧ bd.ver = 0 ∧ (j, HE.cells ty cs) ∈ h ∧ w.heap[bd.blk]? = some (.cells vs.toArray ty (0, 0))
  | [], l, e => by cases e; exact ⟨[], rfl, hr, fun m j ty ks vs h1 _ => by simp at h1⟩
  | (j, ty, ks) :: r, l, e => by
    unfold endAs at e
    split at e
    · rename_i ty' cs hh
      cases hb : Nat.beq ty' ty with
      | false => rw [hb] at e; cases e
      | true =>
        rw [hb] at e
        have := Nat.eq_of_beq_eq_true hb
        subst this
        simp only [cond_true] at e
        split at e
        · rename_i l' h1
          cases e
          obtain ⟨cvs, g1, g2, g3⟩ := endAs_ok hs hr h1
          obtain ⟨bd, k1, k2, vs, k3, k4⟩ := hs _ _ (lk_mem hh)
          refine ⟨vs :: cvs, by simp [g1], ⟨_, _, rfl, ⟨vs, rfl, k4⟩, g2⟩, fun m j' ty2 ks' vs' q1 q2 => ?_⟩
          cases m with
          | zero =>
            simp only [List.getElem?_cons_zero, Option.some.injEq, Prod.mk.injEq] at q1 q2
            obtain ⟨rfl, rfl, rfl⟩ := q1
            subst q2
            exact ⟨bd, cs, k1, k2, lk_mem hh, k3⟩
          | succ m =>
            simp only [List.getElem?_cons_succ] at q1 q2
            exact g3 m j' ty2 ks' vs' q1 q2
        · cases e
    · cases e

theorem cellE_ok {B1 : Nat → Option Bd} {ok1 : Nat → Prop} {w : World} {rk : List Kd} {us : List Value} : ∀ (ck : List (Nat × TypeId × List Kd)) (y : Kd.tys (outKs ck rk)) (n : Nat) (cvs : List (List Value)), cvs.length = ck.length →
    RelTs B1 ok1 w (mks (outKs ck rk) y n).1 ((cvs.map fun vs => Value.agg vs.toArray) ++ us) →
    (∀ i x, (i, x) ∈ cellE ck (mks (outKs ck rk) y n).1 → ∃ (m : Nat) (ty : TypeId) (ks : List Kd) (vs : List Value) (cs : List AV), ck[m]? = some (i, ty, ks) ∧ cvs[m]? = some vs ∧ x = .cells ty cs ∧ RelAs B1 ok1 w cs vs) ∧ RelTs B1 ok1 w (restA ck (mks (outKs ck rk) y n).1) us
  | [], y, n, cvs, hl, hr => by
    obtain rfl := List.eq_nil_of_length_eq_zero hl
    exact ⟨(fun i x hm => by cases hm), hr⟩
  | (j, ty, ks) :: r, y, n, [], hl, hr => by cases hl
  | (j, ty, ks) :: r, y, n, vs :: cvs, hl, hr => by
    obtain ⟨v, vs', e, h1, h2⟩ := hr
    simp only [List.map_cons, List.cons_append, List.cons.injEq] at e
    obtain ⟨rfl, rfl⟩ := e
    obtain ⟨g1, g2⟩ := cellE_ok r y.2 _ cvs (by simpa using hl) h2
    refine ⟨fun i x hm => ?_, g2⟩
    rcases List.mem_cons.1 hm with hm | hm
    · cases hm
      obtain ⟨vs2, e2, h3⟩ := h1
      simp only [Value.agg.injEq] at e2
      have : vs = vs2 := by have := congrArg Array.toList e2; simpa using this
      subst this
      exact ⟨0, ty, ks, vs, _, rfl, rfl, rfl, h3⟩
    · obtain ⟨m, ty2, ks2, vs2, cs2, q1, q2, q3, q4⟩ := g1 i x hm
      exact ⟨m + 1, ty2, ks2, vs2, cs2, by simpa using q1, by simpa using q2, q3, q4⟩

theorem cellE_uniq {ck : List (Nat × TypeId × List Kd)} : ∀ {as : List AV}, (fsts ck).Nodup → (∀ i x, (i, x) ∈ cellE ck as → i ∈ fsts ck) ∧ ∀ i x y, (i, x) ∈ cellE ck as → (i, y) ∈ cellE ck as → x = y := by
  induction ck with
  | nil => intro as _; exact ⟨(fun i x h => by cases h), fun i x y h => by cases h⟩
  | cons c r ih =>
    intro as hn
    obtain ⟨j, ty, ks⟩ := c
    have hn' := List.nodup_cons.1 hn
    cases as with
    | nil => exact ⟨(fun i x h => by cases h), fun i x y h => by cases h⟩
    | cons a as =>
      cases a with
      | agg cs =>
        obtain ⟨h1, h2⟩ := ih (as := as) hn'.2
        refine ⟨fun i x hm => ?_, fun i x y hx hy => ?_⟩
        · rcases List.mem_cons.1 hm with hm | hm
          · cases hm; exact List.mem_cons_self
          · exact List.mem_cons_of_mem _ (h1 i x hm)
        · rcases List.mem_cons.1 hx with hx | hx <;> rcases List.mem_cons.1 hy with hy | hy
          · cases hx; cases hy; rfl
          · cases hx; exact absurd (h1 _ _ hy) hn'.1
          · cases hy; exact absurd (h1 _ _ hx) hn'.1
          · exact h2 i x y hx hy
      | _ => exact ⟨(fun i x h => by cases h), fun i x y h => by cases h⟩

/-- The ids handed in are k0. -/
def Ctx.from (Γ : Ctx) (k0 : Nat) : Prop := ∀ id, k0 ≤ id → Γ.B0 id = none
noncomputable def bodyK (c : Ct) (T : Tab) (rs : List ResultVar) (K : Kd.tys c.out → Prop) : SE → S → Prop
  | .normal, σ => endK c T rs K σ
  | .ret, σ => endK c T rs K σ
  | _, _ => False

theorem mks_cells : ∀ (ks : List Kd) (x : Kd.tys ks) (n : Nat) (m : Nat) (j : Nat) (ty : TypeId) (l : List Kd), (Kd.cels n ks)[m]? = some (j, ty, l) → ∃ cs, (j, HE.cells ty cs) ∈ (mks ks x n).2.1
  | [], x, n, m, j, ty, l, h => by simp [Kd.cels] at h
  | .agg ks' :: ks, x, n, m, j, ty, l, h => by
    simp only [Kd.cels, Kd.cel] at h
    by_cases hm : m < (Kd.cels n ks').length
    · rw [List.getElem?_append_left hm] at h
      obtain ⟨cs, g⟩ := mks_cells ks' x.1 n m j ty l h
      exact ⟨cs, List.mem_append_left _ g⟩
    · rw [List.getElem?_append_right (by omega)] at h
      obtain ⟨cs, g⟩ := mks_cells ks x.2 (n + Kd.cnt (.agg ks')) _ j ty l h
      refine ⟨cs, List.mem_append_right _ ?_⟩
      show _ ∈ (mks ks x.2 (mk (.agg ks') x.1 n).2.2).2.1
      rw [mk_next (.agg ks') x.1 n]
      exact g
  | .clo f ks' :: ks, x, n, m, j, ty, l, h => by
    simp only [Kd.cels, Kd.cel] at h
    by_cases hm : m < (Kd.cels n ks').length
    · rw [List.getElem?_append_left hm] at h
      obtain ⟨cs, g⟩ := mks_cells ks' x.1 n m j ty l h
      exact ⟨cs, List.mem_append_left _ g⟩
    · rw [List.getElem?_append_right (by omega)] at h
      obtain ⟨cs, g⟩ := mks_cells ks x.2 (n + Kd.cnt (.clo f ks')) _ j ty l h
      refine ⟨cs, List.mem_append_right _ ?_⟩
      show _ ∈ (mks ks x.2 (mk (.clo f ks') x.1 n).2.2).2.1
      rw [mk_next (.clo f ks') x.1 n]
      exact g
  | .cell ty' ks' :: ks, x, n, m, j, ty, l, h => by
    simp only [Kd.cels, Kd.cel, List.cons_append] at h
    cases m with
    | zero =>
      simp only [List.getElem?_cons_zero, Option.some.injEq, Prod.mk.injEq] at h
      obtain ⟨rfl, rfl, rfl⟩ := h
      exact ⟨_, List.mem_append_left _ List.mem_cons_self⟩
    | succ m =>
      simp only [List.getElem?_cons_succ] at h
      by_cases hm : m < (Kd.cels (n + 1) ks').length
      · rw [List.getElem?_append_left hm] at h
        obtain ⟨cs, g⟩ := mks_cells ks' x.1 (n + 1) m j ty l h
        exact ⟨cs, List.mem_append_left _ (List.mem_cons_of_mem _ g)⟩
      · rw [List.getElem?_append_right (by omega)] at h
        obtain ⟨cs, g⟩ := mks_cells ks x.2 (n + Kd.cnt (.cell ty' ks')) _ j ty l h
        refine ⟨cs, List.mem_append_right _ ?_⟩
        show _ ∈ (mks ks x.2 (mk (.cell ty' ks') x.1 n).2.2).2.1
        rw [mk_next (.cell ty' ks') x.1 n]
        exact g
  | .int k :: ks, x, n, m, j, ty, l, h => mks_cells ks x.2 n m j ty l h
  | .bool :: ks, x, n, m, j, ty, l, h => mks_cells ks x.2 n m j ty l h
  | .str :: ks, x, n, m, j, ty, l, h => mks_cells ks x.2 n m j ty l h
  | .tv _ :: ks, x, n, m, j, ty, l, h => mks_cells ks x.2 n m j ty l h
  | .arr _ :: ks, x, n, m, j, ty, l, h => mks_cells ks x.2 n m j ty l h
  | .val _ :: ks, x, n, m, j, ty, l, h => mks_cells ks x.2 n m j ty l h
  | .own _ _ :: ks, x, n, m, j, ty, l, h => by obtain ⟨cs, g⟩ := mks_cells ks x.2 (n + 1) m j ty l h; exact ⟨cs, List.mem_cons_of_mem _ g⟩
  | .ownr _ _ :: ks, x, n, m, j, ty, l, h => by obtain ⟨cs, g⟩ := mks_cells ks x.2 (n + 1) m j ty l h; exact ⟨cs, List.mem_cons_of_mem _ g⟩
  | .map _ :: ks, x, n, m, j, ty, l, h => by obtain ⟨cs, g⟩ := mks_cells ks x.2 (n + 1) m j ty l h; exact ⟨cs, List.mem_cons_of_mem _ g⟩

theorem spec_of_body {P : Program} {T : Tab} (HT : TabOk P T) {f : FuncId} {fn : Func} {code : Code} {c : Ct} {x : Kd.tys c.ak} {K : Kd.tys c.out → Prop} (hf : P.funcs[f]? = some fn) (hb : fn.body = some code) (nt : Nat) (hnt : fn.ntmps = nt) (rs : List ResultVar) (hres : fn.results.toList = rs) (hal : Nat.ble (mks c.ak x 0).1.length nt = true)
    (h : ∀ Γ : Ctx, Γ.nt = nt → Γ.from c.k0 → Run P Γ code (bodyK c T rs K) ⟨argEnv 0 (mks c.ak x 0).1, (mks c.ak x 0).2.1, c.k0⟩) : SpecK P f c x K := by
  intro w ok B vs hB hH hA
  have hvl := hA.length
  have hal' : (mks c.ak x 0).1.length ≤ nt := Nat.le_of_ble_eq_true hal
  refine calls_of_wp hf hb ?_
  let Γ : Ctx := ⟨w, ok, B, occI B (mks c.ak x 0).2.1, nt⟩
  have hst : StB Γ B ok ⟨argEnv 0 (mks c.ak x 0).1, (mks c.ak x 0).2.1, c.k0⟩ { tmps := vs.toArray ++ Array.replicate (fn.ntmps - vs.toArray.size) undef, defers := [] } w := by
    refine ⟨rfl, ?_, hH, fun t av hl => ?_, Keeps.refl _ _, fun _ x => x, fun _ x => .inl (.inl x), fun i x hm bd hbd b hob => .inl ⟨i, x, bd, hm, hbd, hob⟩, BLe.refl _, hB⟩
    · simp only [Array.size_append, List.size_toArray, Array.size_replicate, hnt]
      show _ = nt
      omega
    · obtain ⟨i, v, h1, h2, h3⟩ := argEnv_get _ vs 0 hA t av hl
      have hi := (List.getElem?_eq_some_iff.1 h2).1
      have ht : t = i := by omega
      subst ht
      refine ⟨by show t < nt; omega, ?_⟩
      rw [Array.getD_eq_getD_getElem?, Array.getElem?_append_left (by simpa using hi)]
      simp only [List.getElem?_toArray, h2, Option.getD_some]
      exact h3
  refine wp_mono (h Γ rfl hB _ w ⟨B, ok, hst⟩) fun e a' w' q => ?_
  have fin : ∀ σ', endK c T rs K σ' → St Γ σ' a' w' → a'.defers = [] ∧ ∃ v, (results fn a'.tmps).run P w' = .ok v w' ∧ ∃ y B1 ok1 us, K y ∧ (Ending.returned v) = .returned (retV us) ∧ (∀ j, j ∈ fsts c.cel → B1 j = B j) ∧ (∀ i, i < c.k0 → i ∉ fsts c.cel → B1 i = none) ∧ (∀ i, c.k0 + Kd.cnts c.out ≤ i → B1 i = none) ∧
      SatH B1 ok1 w' (cellE c.cel (mks c.out y c.k0).1 ++ (mks c.out y c.k0).2.1) ∧ RelTs B1 ok1 w' (restA c.cel (mks c.out y c.k0).1) us ∧ Keeps (occs B (mks c.ak x 0).2.1) w w' ∧
      (∀ b, ok b → ok1 b) ∧ (∀ b, ok1 b → (ok b ∨ occs B (mks c.ak x 0).2.1 b) ∨ w.heap.size ≤ b) ∧ (∀ b, occs B1 (cellE c.cel (mks c.out y c.k0).1 ++ (mks c.out y c.k0).2.1) b → occs B (mks c.ak x 0).2.1 b ∨ w.heap.size ≤ b) ∧ ∀ p : Nat × Nat, p ∈ c.same → ∃ bd, B p.1 = some bd ∧ B1 (c.k0 + p.2) = some bd := by
    rintro σ' he ⟨B', ok', hs⟩
    unfold endK at he
    split at he
    · rename_i as hr
      split at he
      · rename_i l hl
        split at he
        · rename_i y ss fz hx
          cases hbb : (distB (Src.ids ss) && (disjB (Src.ids ss) fz && (disjB (Src.ids ss) (fsts c.cel) && (disjB fz (fsts c.cel) && (distB (fsts c.cel) && sameB ss c.k0 σ'.heap c.same))))) with
          | false => rw [hbb] at he; exact he.elim
          | true =>
            rw [hbb] at he
            simp only [Bool.and_eq_true] at hbb
            obtain ⟨c1, c2, c3, c4, c6, c7⟩ := hbb
            refine ⟨hs.defers, ?_⟩
            obtain ⟨us, hv, hrel⟩ := hs.resAll' (hres ▸ resF_ok HT hr)
            obtain ⟨cvs, e1, e2, e3⟩ := endAs_ok hs.heap.sat hrel hl
            obtain ⟨B1, ok1, O, r1, r2⟩ := takeover hs.heap (xts_okT hs.heap.sat _ _ _ _ _ _ hx e2) (fsts c.cel) false c.k0 c1 c2 c3 c4
            obtain ⟨g1, g2⟩ := cellE_ok c.cel y c.k0 cvs e1 r1
            have hcel : ∀ (m j : Nat) (ty : TypeId) (ks : List Kd), c.cel[m]? = some (j, ty, ks) → j < c.k0 ∧ ∃ bd, B j = some bd ∧ B' j = some bd := fun m j ty ks hm => by
              have hm' : m < c.cel.length := (List.getElem?_eq_some_iff.1 hm).1
              obtain ⟨bd', cs, k1, k2, k3, k4⟩ := e3 m j ty ks _ hm (List.getElem?_eq_getElem (by omega : m < cvs.length))
              obtain ⟨cs0, k5⟩ := mks_cells c.ak x 0 m j ty ks hm
              obtain ⟨bd, k6, k7, _⟩ := hH.sat _ _ k5
              obtain ⟨bd2, k8, k9, k10⟩ := hs.ble j bd k6
              rw [k1] at k8
              cases k8
              have := k10 (k7.trans k2.symm)
              subst this
              refine ⟨Nat.lt_of_not_le fun hge => ?_, _, k6, k1⟩
              rw [hB j hge] at k6
              cases k6
            obtain ⟨u1, u2⟩ := cellE_uniq (as := (mks c.out y c.k0).1) (distB_ok c6)
            obtain ⟨S1, S2⟩ := O.sat (cellE c.cel (mks c.out y c.k0).1) (fun i z hm => by
              obtain ⟨m, ty, ks, vs', cs, q1, q2, rfl, q4⟩ := g1 i z hm
              obtain ⟨bd', cs', k1, k2, k3, k4⟩ := e3 m i ty ks vs' q1 q2
              exact ⟨u1 i _ hm, (hcel m i ty ks q1).1, _, bd', k3, k1, rfl, k2, vs', k4, q4⟩) u2
            have hlen : ss.length = Kd.cnts c.out := by
              have := mks_next c.out y c.k0
              omega
            have hown : ∀ i b, occI B' σ'.heap i b → occs B (mks c.ak x 0).2.1 b ∨ w.heap.size ≤ b := fun i b ⟨z, bd, hm, hbd, hob⟩ => hs.own i z hm bd hbd b hob
            refine ⟨_, hv, y, B1, ok1, us, he, rfl, fun j hj => ?_, fun i hi hn => O.cut i hi rfl hn, fun i hi => O.high i (by omega), S1, g2, hs.keeps, fun b hb => O.ok1 b (hs.ok1 b hb), fun b hb => ?_, fun b ⟨i, hi⟩ => ?_, fun p hp => ?_⟩
            · obtain ⟨m, ty, ks, hm⟩ := fsts_get hj
              obtain ⟨k1, bd, k2, k3⟩ := hcel m j ty ks hm
              rw [O.low j k1 (.inr hj), k2, k3]
            · rcases O.ok2 b hb with hb | hb
              · exact hs.ok2 b hb
              · obtain ⟨k, _, hk⟩ := hb
                exact (hown k b hk).imp .inr id
            · rcases S2 i b hi with ⟨_, q, _⟩ | ⟨_, _, k, _, _, _, q⟩
              · exact hown i b q
              · exact hown k b q
            · obtain ⟨q1, q2, qq, qe, qws, q3⟩ := sameB_ok c7 p hp
              obtain ⟨b0, k1, k2⟩ := O.src _ _ q1
              obtain ⟨z, hz⟩ := mks_all c.ak x 0 p.1 q2
              rw [Nat.zero_add] at hz
              obtain ⟨bd, k3, k4⟩ := hH.sat _ _ hz
              obtain ⟨bd2, k5, k6, k7⟩ := hs.ble _ bd k3
              rw [k1] at k5
              cases k5
              obtain ⟨bd3, k8, k9⟩ := hs.heap.sat _ _ (lk_mem q3)
              rw [k1] at k8
              cases k8
              have hv0 : b0.ver = 0 := k9.1
              have := k7 (by omega)
              subst this
              exact ⟨_, k3, by rw [k2, ← Bd.v0_of hv0]⟩
        · exact he.elim
      · exact he.elim
    · exact he.elim
  cases e with
  | normal => obtain ⟨σ', h1, h2⟩ := q; exact fin σ' h1 h2
  | ret => obtain ⟨σ', h1, h2⟩ := q; exact fin σ' h1 h2
  | exit i => obtain ⟨σ', h1, h2⟩ := q; exact h1.elim
  | goto i => obtain ⟨σ', h1, h2⟩ := q; exact h1.elim
  | panic ch => exact q.elim
  | outgrown => exact q.elim
end Go.Proofs.YthjmmofafpahhaaGreat.Sx
