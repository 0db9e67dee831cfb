/- The law FnReached holds: the walk is the printed proof of the function, and its model is true of every code. -/
import Derived.Test.YthjmmofafpahhaaGreatPuR
import Derived.Test.YthjmmofafpahhaaGreatGP
import Derived.Test.YthjmmofafpahhaaGreatRows
import Derived.WalkKit
import Derived.ProofKit
import Derived.OpenShut
import Derived.ShutString
import Derived.ChangeOld
import Derived.Below
namespace Go.Proofs.YthjmmofafpahhaaGreat.fnReached
open Go.ChangeShapes Go.WideShapes Go.ChangeAt Go.RowKit
open Go.ChangeMaps (open_string shut_string)
set_option linter.unusedVariables false

theorem own : ownKnob Tryz.prog.godebug = none := by kernel_rfl
theorem laidOut : laidOutB Tryz.prog = true := by kernel_rfl

/-- WHAT THE WALK IS TOLD OF A SLICE OF INTEGERS THAT CAME IN: it is nil; or it leads to a row of 'cap' cells, the numbers 'zs' (the first 'len' are its elements, the rest its spare room), each fitting its kind. -/
def IsRow (k : IntKind) (w : World) (a : Option Addr) (len cap : Nat) (zs : List Int) : Prop :=
  (a = none ∧ len = 0 ∧ cap = 0 ∧ zs = []) ∨
  ∃ x, a = some x ∧ x.spot = none ∧ len ≤ cap ∧ cap ≤ maxLen ∧ zs.length = cap ∧ (∀ i, i < zs.length → w.cell? (x.add i) = some (.int k (zs.getD i 0))) ∧ ∀ n ∈ zs, (Lit.int k n).wf = true

theorem spot_none {P : Program} {W : World} {base : Nat} {t e : TypeId} {x : Addr} {len cap : Nat} (ht : P.underlying t = some (.slice e)) (h : Value.okWide P W .any base t (.slice (some x) len cap)) : x.spot = none := by
  simp only [Value.okWide, ht, Cell.okWide, Cell.ok, World.has] at h
  exact h.2.2.2.1

/-! ### STEP 1: THE WALK -/
theorem row_rel {w : World} {a0 : Option Addr} {len0 cap0 : Nat} {z0 : List Int} (w0 : IsRow .u8 w a0 len0 cap0 z0) :
    Sx.RelD (fun b => b < w.heap.size) w (.tv .u8 (z0.take len0)) (.slice a0 len0 cap0) := by
  have hl : ∀ (ws : List Int) (l : List Sx.D), l ∈ Sx.rowsOf .u8 ws → l.length = 1 := fun ws l h => by
    simp only [Sx.rowsOf, List.mem_map] at h
    obtain ⟨_, _, rfl⟩ := h
    rfl
  rcases w0 with ⟨rfl, rfl, rfl, rfl⟩ | ⟨x, rfl, hs, h1, h2, h3, h4, h5⟩
  · refine .tv _ _ _ (.arr 1 _ none 0 0 (fun _ _ => .bool false) rfl (Nat.le_refl _) (fun _ => ⟨rfl, rfl⟩) (hl _) (fun a e => by cases e) (fun a e => by cases e) (fun a e => by cases e) (fun i j l d h => ?_))
    simp [Sx.rowsOf] at h
  · have hn : (Sx.rowsOf .u8 (z0.take len0)).length = len0 := by
      simp only [Sx.rowsOf, List.length_map, List.length_take]
      omega
    have hc : ∀ i, i < len0 → w.cell? ⟨x.block, x.off + i, none⟩ = some (.int .u8 (z0.getD i 0)) := fun i hi => by
      rw [← h4 i (by omega)]
      obtain ⟨b, o, sp⟩ := x
      cases hs
      unfold Addr.add
      split
      · rename_i e; subst e; rfl
      · rfl
    refine .tv _ _ _ (.arr 1 _ (some x) len0 cap0 (fun i _ => .int .u8 (z0.getD i 0)) hn h1 (fun e => by cases e) (hl _) (fun a e => by cases e; exact hs) (fun a e hne => ?_) (fun a e i j hi hj => ?_) (fun i j l d hi hj => ?_))
    · cases e
      have hp : 0 < len0 := by
        rcases Nat.eq_zero_or_pos len0 with e | e
        · exact absurd (List.length_eq_zero_iff.1 (hn.trans e)) hne
        · exact e
      have := hc 0 hp
      unfold World.cell? at this
      rcases Nat.lt_or_ge x.block w.heap.size with h | h
      · exact h
      · rw [Array.getElem?_eq_none h] at this
        cases this
    · cases e
      rw [hn] at hi
      have : i * 1 + j = i := by omega
      rw [this]
      exact hc i hi
    · simp only [Sx.rowsOf, List.getElem?_map, Option.map_eq_some_iff] at hi
      obtain ⟨n, hn', rfl⟩ := hi
      cases j with
      | zero =>
        simp only [List.getElem?_cons_zero, Option.some.injEq] at hj
        subst hj
        rw [List.getElem?_take] at hn'
        split at hn'
        · rw [List.getD_eq_getElem?_getD, hn']
          exact .c _ rfl
        · cases hn'
      | succ j => cases hj
theorem walk (a0 : Option Addr) (len0 cap0 : Nat) (z0 : List Int) (w : World) (w0 : IsRow .u8 w a0 len0 cap0 z0) :
    Calls Tryz.prog 3 #[.slice a0 len0 cap0] w fun e w' => e = .returned (.bool true) ∧ Below w.heap.size w w' := by
  have hb : ∀ x, x ∈ z0.take len0 → 0 ≤ x ∧ x < 256 := fun x hx => by
    rcases w0 with ⟨rfl, rfl, rfl, rfl⟩ | ⟨_, _, _, _, _, _, _, h5⟩
    · cases hx
    · have := h5 x (List.mem_of_mem_take hx)
      simp only [Lit.wf, Bool.and_eq_true, decide_eq_true_eq] at this
      have e1 : IntKind.u8.min = 0 := rfl
      have e2 : IntKind.u8.max = 255 := rfl
      rw [e1, e2] at this
      omega
  have hS := Sx.ok0_l_FnReached.2 (z0.take len0, ()) (fun y => y.1 = true) (Sx.law_FnReached hb)
  refine (hS w (fun b => b < w.heap.size) (fun _ => none) [.slice a0 len0 cap0] (fun _ _ => rfl) ⟨fun _ _ h => absurd h List.not_mem_nil, fun _ _ _ _ h => absurd h List.not_mem_nil, fun _ _ h => absurd h List.not_mem_nil, fun _ h => h, fun _ _ _ h => absurd h List.not_mem_nil⟩ ⟨_, [], rfl, row_rel w0, rfl⟩).mono fun e w' h => ?_
  obtain ⟨y, B1, ok1, us, hy, rfl, _, _, _, _, hr, hk, _⟩ := h
  obtain ⟨v, vs, rfl, hv, rfl⟩ := hr
  obtain ⟨b, _⟩ := y
  refine ⟨?_, ⟨hk.os, hk.tape, hk.output, hk.size, fun k hk' => hk.block k hk' ?_⟩⟩
  · cases hv
    cases hy
    rfl
  · rintro ⟨_, _, _, h, _⟩
    exact absurd h List.not_mem_nil

/-! ### THE ROW's STEP: WRITTEN OUT: LEAVE IT -/
set_option maxRecDepth 100000 in
theorem lifted (os : Os) (started : os.Started) (H : Type) (enc : TypeId × Value → H) :
    ReturnsInHanded {} Tryz.checked os 3 .any (Rows.fnReachedSpec.pre6 enc Tryz.prog Tryz.f3 Rows.fnReachedRow.domain false) (Rows.fnReachedSpec.post enc Tryz.prog Tryz.f3 false true false false) := by
  refine returnsInHanded_of_change (C := Tryz.checked) own started (by kernel_rfl) Tryz.func3
    (ChangeSpec.witness6 (enc := enc) (C := Tryz.checked) false ⟨#[], #[.slice none 0 0], []⟩ 8 (by kernel_rfl) (by kernel_rfl) (by kernel_rfl) (by kernel_rfl)) ?_
  intro W base args ds gs before hval0 hW hcnd _
  have hval : ∀ (j : Nat) t v, Tryz.f3.params[j]? = some t → args[j]? = some v → Value.okWide Tryz.prog W .any base t v := hval0
  have hW' := hW
  obtain ⟨p, q, hA0, hV, rfl, hfz, hnd⟩ := hW
  have hA : DataW.TrodAll enc Tryz.prog W 0 (fun _ => true) true Tryz.f3.params.toList args.toList ds p := hA0
  rw [Tryz.params3] at hA hval
  obtain ⟨v0, vs0, d0, ds0, p0, q0, hargs, rfl, rfl, h0, r0⟩ := trodAll_cons hA
  obtain ⟨rfl, rfl, rfl⟩ := trodAll_nil r0
  obtain rfl : args = #[v0] := by cases args; simp_all
  obtain ⟨rfl, rfl⟩ := trodVars_none hV
  obtain ⟨a0, len0, cap0, rfl⟩ := okWide_slice Tryz.underlying22 (hval 0 22 v0 rfl rfl)
  have k0 := h0
  have lt0 : ∀ x ∈ p0, x.block < W.heap.size := by obtain ⟨m, hm⟩ := k0; exact DataW.trod_lt m _ _ _ hm
  obtain ⟨z0, w0⟩ : ∃ zs, IsRow .u8 W a0 len0 cap0 zs := by
    obtain ⟨fuel, hf⟩ := h0
    rcases open_ints Tryz.underlying22 Tryz.underlying5 (by kernel_rfl) hf with ⟨hcs, _⟩ | ⟨x, l, c, zs, hcs, _, hl, hm, hz, _, hcell, hwz⟩
    · simp [Value.cells] at hcs
      obtain ⟨rfl, rfl, rfl⟩ := hcs
      exact ⟨[], .inl ⟨rfl, rfl, rfl, rfl⟩⟩
    · simp [Value.cells] at hcs
      obtain ⟨rfl, rfl, rfl⟩ := hcs
      exact ⟨zs, .inr ⟨_, rfl, spot_none Tryz.underlying22 (hval 0 22 _ rfl rfl), hl, hm, by simpa using hz, hcell, hwz⟩⟩
  clear hA0 hval0
  refine (walk a0 len0 cap0 z0 W w0).mono fun e W' ⟨he, bel⟩ => ?_
  subst he
  exact ⟨_, rfl, _, _, _, [], _, [], hW', trodAll_mk1 (shut_bool Tryz.underlying4 _), (trodAll_cons_mk (Below.trod laidOut (by kernel_rfl) (of_decide_eq_true (by kernel_rfl)) k0 bel lt0) trodAll_mk0), rfl, bel.frame _, fun h => by cases h⟩

theorem over : Rows.fnReachedRow.holds Tryz.pinned (OpenSpec.ofChange Rows.fnReachedSpec) :=
  OpenClaim.holds_of_wide 3 Tryz.f3 rfl rfl rfl rfl rfl rfl rfl ⟨rfl, rfl, rfl, rfl, rfl⟩ rfl rfl rfl rfl rfl (by kernel_rfl) Tryz.func3 (by kernel_rfl)
    (of_decide_eq_true (by kernel_rfl)) (by unfold Func.isWrapper; first | (rw [if_pos (by decide +kernel)]; kernel_rfl) | (rw [if_neg (by decide +kernel)]; exact ⟨rfl, rfl⟩))
    (fun os started H enc _ => lifted os started H enc)

/-- ████ THE STATEMENT ████ -/
theorem proved : Rows.FnReachedSaid := over
#print axioms proved
end Go.Proofs.YthjmmofafpahhaaGreat.fnReached
