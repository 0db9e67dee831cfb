/- The symbolic layer: the pure operations. Program-independent. -/
import Derived.Test.YthjmmofafpahhaaGreatSx1
import Derived.IntWalk
import Derived.Laws.Cells
import Derived.Laws.Strings
namespace Go.Proofs.YthjmmofafpahhaaGreat.Sx
open Go Go.RowKit
set_option linter.unusedVariables false
set_option linter.unusedSimpArgs false

/-! ### What the program's tables say of a type, as classes -/
class TAgg (P : Program) (t : Nat) (n : outParam Nat) : Prop where
  agg : ∀ w, (isAgg t).run P w = .ok true w
  size : ∀ w, (sizeOf t).run P w = .ok n w
class TOne (P : Program) (t : Nat) : Prop where
  agg : ∀ w, (isAgg t).run P w = .ok false w
  size : ∀ w, (sizeOf t).run P w = .ok 1 w
class TSl (P : Program) (t : Nat) (e sz : outParam Nat) : Prop where
  und : P.underlying t = some (.slice e)
  size : ∀ w, (sizeOf e).run P w = .ok sz w
class TStr (P : Program) (t : Nat) : Prop where
  und : P.underlying t = some .string
class TInt (P : Program) (t : Nat) (k : outParam IntKind) : Prop where
  und : P.underlying t = some (.int k)
class TFld (P : Program) (t f : Nat) (off : outParam Nat) : Prop where
  fld : ∃ fs : Array Field, P.underlying t = some (.struct fs) ∧ ∃ fd, fs[f]? = some fd ∧ fd.offset = off ∧ ∃ n, (∀ w, (sizeOf fd.type).run P w = .ok (n + 1) w)
class TPart (P : Program) (t f : Nat) (off n : outParam Nat) (agg : outParam Bool) : Prop where
  fld : ∃ fs : Array Field, P.underlying t = some (.struct fs) ∧ ∃ fd, fs[f]? = some fd ∧ fd.offset = off ∧ (∀ w, (sizeOf fd.type).run P w = .ok n w) ∧ (∀ w, (isAgg fd.type).run P w = .ok agg w)
class TCall (P : Program) (f : Nat) : Prop where
  call : ∀ args w, (callFunc f args).run P w = .ok (.enter f args) w

abbrev iv (n : Int) : AV := .d (.c (.int .i64 n))
abbrev bv (b : Bool) : AV := .d (.c (.bool b))
abbrev sv (s : ByteArray) : AV := .d (.c (.string s))
abbrev u8v (n : Int) : AV := .d (.c (.int .u8 n))

section
variable {P : Program} {Γ : Ctx} {σ : S} {o : Oper}

theorem pv_move {x : Operand} {av : AV} (hop : o.op = .move x) (hx : σ.get x = some av) : Pv P Γ σ o av := by
  intro B ok a w hs
  exact ⟨a.eval x, hs.eval hx, fun w' _ => by simp [execOp, hop]⟩
theorem pv_assign {x : Operand} {av : AV} (hop : o.op = .assign x) (hx : σ.get x = some av) : Pv P Γ σ o av := by
  intro B ok a w hs
  exact ⟨a.eval x, hs.eval hx, fun w' _ => by simp [execOp, hop]⟩
theorem pv_pick_t {c x y : Operand} {av : AV} (hop : o.op = .pick c x y) (hc : σ.get c = some (.bl true)) (hx : σ.get x = some av) : Pv P Γ σ o av := by
  intro B ok a w hs
  have := hs.evalb hc
  exact ⟨a.eval x, hs.eval hx, fun w' _ => by simp [execOp, hop, this, asBool]⟩
theorem pv_pick_f {c x y : Operand} {av : AV} (hop : o.op = .pick c x y) (hc : σ.get c = some (.bl false)) (hx : σ.get y = some av) : Pv P Γ σ o av := by
  intro B ok a w hs
  have := hs.evalb hc
  exact ⟨a.eval y, hs.eval hx, fun w' _ => by simp [execOp, hop, this, asBool]⟩

/-- A binary operation on scalars that makes a scalar. -/
theorem pv_bin {b : BinOp} {t t' : TypeId} {x y : Operand} {u v r : Value} (hop : o.op = .binOp b t x y t') (hx : σ.get x = some (.d (.c u))) (hy : σ.get y = some (.d (.c v)))
    (hr : ∀ (a : Act) w, a.eval x = u → a.eval y = v → (do eqGuard b t x y u v; binOp b t u v).run P w = .ok r w) (h1 : r.oneCell' = true) : Pv P Γ σ o (.d (.c r)) := by
  intro B ok a w hs
  have ex := hs.evalc hx
  have ey := hs.evalc hy
  refine ⟨r, .c r h1, fun w' _ => ?_⟩
  have := hr a w' ex ey
  simp only [execOp, hop, ex, ey, Sem.run_bind] at this ⊢
  rw [← Sem.run_bind, ← Sem.run_bind] at *
  simp only [Sem.run_bind] at this ⊢
  rw [this]
  rfl

theorem eqGuard_ii {b : BinOp} {t : TypeId} {x y : Operand} {k k' : IntKind} {m n : Int} (w : World) : (eqGuard b t x y (.int k m) (.int k' n)).run P w = .ok () w := by
  unfold eqGuard
  cases b <;> rfl
theorem eqGuard_ss {b : BinOp} {t : TypeId} {x y : Operand} {m n : ByteArray} (w : World) : (eqGuard b t x y (.string m) (.string n)).run P w = .ok () w := by
  unfold eqGuard
  cases b <;> rfl
theorem eqGuard_bb {b : BinOp} {t : TypeId} {x y : Operand} {m n : Bool} (w : World) : (eqGuard b t x y (.bool m) (.bool n)).run P w = .ok () w := by
  unfold eqGuard
  cases b <;> rfl

theorem pv_int {b : BinOp} {t t' : TypeId} {x y : Operand} {k : IntKind} {m n : Int} {r : Value} (hop : o.op = .binOp b t x y t') (hx : σ.get x = some (.d (.c (.int k m)))) (hy : σ.get y = some (.d (.c (.int k n))))
    (hr : ∀ w, (binOp b t (.int k m) (.int k n)).run P w = .ok r w) (h1 : r.oneCell' = true) : Pv P Γ σ o (.d (.c r)) :=
  pv_bin hop hx hy (fun a w _ _ => by simp [eqGuard_ii, hr]) h1

def i64ok (n : Int) : Prop := -9223372036854775808 ≤ n ∧ n ≤ 9223372036854775807

theorem pv_addw {t t' : TypeId} {x y : Operand} {k : IntKind} {m n : Int} (hop : o.op = .binOp .add t x y t') (hx : σ.get x = some (.d (.c (.int k m)))) (hy : σ.get y = some (.d (.c (.int k n)))) : Pv P Γ σ o (.d (.c (.int k (k.wrap (m + n))))) :=
  pv_int hop hx hy (fun w => by simp [binOp, Op.intArith]) rfl
theorem pv_subw {t t' : TypeId} {x y : Operand} {k : IntKind} {m n : Int} (hop : o.op = .binOp .sub t x y t') (hx : σ.get x = some (.d (.c (.int k m)))) (hy : σ.get y = some (.d (.c (.int k n)))) : Pv P Γ σ o (.d (.c (.int k (k.wrap (m - n))))) :=
  pv_int hop hx hy (fun w => by simp [binOp, Op.intArith]) rfl
theorem pv_mulw {t t' : TypeId} {x y : Operand} {k : IntKind} {m n : Int} (hop : o.op = .binOp .mul t x y t') (hx : σ.get x = some (.d (.c (.int k m)))) (hy : σ.get y = some (.d (.c (.int k n)))) : Pv P Γ σ o (.d (.c (.int k (k.wrap (m * n))))) :=
  pv_int hop hx hy (fun w => by simp [binOp, Op.intArith]) rfl
theorem pv_add {t t' : TypeId} {x y : Operand} {m n : Int} (hop : o.op = .binOp .add t x y t') (hx : σ.get x = some (iv m)) (hy : σ.get y = some (iv n)) (hb : i64ok (m + n)) : Pv P Γ σ o (iv (m + n)) := by
  have := pv_addw (P := P) (Γ := Γ) hop hx hy; rwa [IntWalk.i64_in _ hb] at this
theorem pv_sub {t t' : TypeId} {x y : Operand} {m n : Int} (hop : o.op = .binOp .sub t x y t') (hx : σ.get x = some (iv m)) (hy : σ.get y = some (iv n)) (hb : i64ok (m - n)) : Pv P Γ σ o (iv (m - n)) := by
  have := pv_subw (P := P) (Γ := Γ) hop hx hy; rwa [IntWalk.i64_in _ hb] at this
theorem pv_mul {t t' : TypeId} {x y : Operand} {m n : Int} (hop : o.op = .binOp .mul t x y t') (hx : σ.get x = some (iv m)) (hy : σ.get y = some (iv n)) (hb : i64ok (m * n)) : Pv P Γ σ o (iv (m * n)) := by
  have := pv_mulw (P := P) (Γ := Γ) hop hx hy; rwa [IntWalk.i64_in _ hb] at this
/-- A binary operation that yields a Bool of which p is known. -/
theorem pv_cmp {b : BinOp} {t t' : TypeId} {x y : Operand} {u v : Value} {p : Prop} [Decidable p] (hop : o.op = .binOp b t x y t') (hx : σ.get x = some (.d (.c u))) (hy : σ.get y = some (.d (.c v)))
    (hr : ∀ w, (do eqGuard b t x y u v; binOp b t u v).run P w = .ok (.bool (decide p)) w) : Pv P Γ σ o (.pr p) := by
  intro B ok a w hs
  have ex := hs.evalc hx
  have ey := hs.evalc hy
  refine ⟨.bool (decide p), ⟨_, rfl, decide_eq_true_iff⟩, fun w' _ => ?_⟩
  have := hr w'
  simp only [execOp, hop, ex, ey, Sem.run_bind] at this ⊢
  rw [this]
  rfl
theorem pv_icmp {b : BinOp} {t t' : TypeId} {x y : Operand} {k : IntKind} {m n : Int} {p : Prop} [Decidable p] (hop : o.op = .binOp b t x y t') (hx : σ.get x = some (.d (.c (.int k m)))) (hy : σ.get y = some (.d (.c (.int k n))))
    (hr : ∀ w, (binOp b t (.int k m) (.int k n)).run P w = .ok (.bool (decide p)) w) : Pv P Γ σ o (.pr p) :=
  pv_cmp hop hx hy (fun w => by simp [eqGuard_ii, hr])
theorem pv_eql {t t' : TypeId} {x y : Operand} {k : IntKind} {m n : Int} (hop : o.op = .binOp .eql t x y t') (hx : σ.get x = some (.d (.c (.int k m)))) (hy : σ.get y = some (.d (.c (.int k n)))) : Pv P Γ σ o (.pr (m = n)) :=
  pv_icmp hop hx hy (fun w => by simp [binOp, Op.intCmp]; rfl)
theorem pv_neq {t t' : TypeId} {x y : Operand} {k : IntKind} {m n : Int} (hop : o.op = .binOp .neq t x y t') (hx : σ.get x = some (.d (.c (.int k m)))) (hy : σ.get y = some (.d (.c (.int k n)))) : Pv P Γ σ o (.pr (m ≠ n)) :=
  pv_icmp hop hx hy (fun w => by simp [binOp, Op.intCmp, bne]; rfl)
theorem pv_lss {t t' : TypeId} {x y : Operand} {k : IntKind} {m n : Int} (hop : o.op = .binOp .lss t x y t') (hx : σ.get x = some (.d (.c (.int k m)))) (hy : σ.get y = some (.d (.c (.int k n)))) : Pv P Γ σ o (.pr (m < n)) :=
  pv_icmp hop hx hy (fun w => by simp [binOp, Op.intCmp])
theorem pv_leq {t t' : TypeId} {x y : Operand} {k : IntKind} {m n : Int} (hop : o.op = .binOp .leq t x y t') (hx : σ.get x = some (.d (.c (.int k m)))) (hy : σ.get y = some (.d (.c (.int k n)))) : Pv P Γ σ o (.pr (m ≤ n)) :=
  pv_icmp hop hx hy (fun w => by simp [binOp, Op.intCmp])
theorem pv_gtr {t t' : TypeId} {x y : Operand} {k : IntKind} {m n : Int} (hop : o.op = .binOp .gtr t x y t') (hx : σ.get x = some (.d (.c (.int k m)))) (hy : σ.get y = some (.d (.c (.int k n)))) : Pv P Γ σ o (.pr (n < m)) :=
  pv_icmp hop hx hy (fun w => by simp [binOp, Op.intCmp])
theorem pv_geq {t t' : TypeId} {x y : Operand} {k : IntKind} {m n : Int} (hop : o.op = .binOp .geq t x y t') (hx : σ.get x = some (.d (.c (.int k m)))) (hy : σ.get y = some (.d (.c (.int k n)))) : Pv P Γ σ o (.pr (n ≤ m)) :=
  pv_icmp hop hx hy (fun w => by simp [binOp, Op.intCmp])

theorem and_low (x : Int) (n : Nat) (hn : n ≤ 63) : IntKind.i64.wrap ((BitVec.ofInt 64 x &&& BitVec.ofInt 64 (2 ^ n - 1)).toNat) = x % 2 ^ n := by
  have h1 : (BitVec.ofInt 64 ((2 : Int) ^ n - 1)) = BitVec.ofNat 64 (2 ^ n - 1) := by
    have : ((2 : Int) ^ n - 1) = ((2 ^ n - 1 : Nat) : Int) := by
      have := Nat.one_le_two_pow (n := n)
      rw [Int.ofNat_sub this]; simp
    rw [this]; rfl
  rw [h1]
  have h2 : (BitVec.ofInt 64 x &&& BitVec.ofNat 64 (2 ^ n - 1)).toNat = (BitVec.ofInt 64 x).toNat % 2 ^ n := by
    rw [BitVec.toNat_and, BitVec.toNat_ofNat]
    have hlt : 2 ^ n - 1 < 2 ^ 64 := by
      have : 2 ^ n ≤ 2 ^ 63 := Nat.pow_le_pow_right (by omega) hn
      omega
    rw [Nat.mod_eq_of_lt hlt, Nat.and_two_pow_sub_one_eq_mod]
  rw [h2, BitVec.toNat_ofInt]
  have hp : (2 : Int) ^ n ≤ 2 ^ 63 := by
    have : (2 : Nat) ^ n ≤ 2 ^ 63 := Nat.pow_le_pow_right (by omega) hn
    exact_mod_cast this
  have hpos : (0 : Int) < 2 ^ n := by
    have : 0 < (2 : Nat) ^ n := Nat.two_pow_pos n
    exact_mod_cast this
  have h0 : 0 ≤ x % ((2 ^ 64 : Nat) : Int) := Int.emod_nonneg _ (by decide)
  have e : (((x % ((2 ^ 64 : Nat) : Int)).toNat % 2 ^ n : Nat) : Int) = x % 2 ^ n := by
    rw [Int.natCast_emod, Int.toNat_of_nonneg h0]
    have hd : ((2 : Int) ^ n) ∣ ((2 ^ 64 : Nat) : Int) := by
      refine ⟨2 ^ (64 - n), ?_⟩
      rw [← Int.pow_add]
      have : n + (64 - n) = 64 := by omega
      rw [this]; decide
    have hc : (((2 ^ n : Nat)) : Int) = (2 : Int) ^ n := by simp
    rw [hc, Int.emod_emod_of_dvd _ hd]
  rw [e]
  have hb := Int.emod_nonneg x (Int.ne_of_gt hpos)
  have hl := Int.emod_lt_of_pos x hpos
  have h63 : (2 : Int) ^ 63 = 9223372036854775808 := by decide
  exact IntWalk.i64_in _ ⟨by omega, by omega⟩

theorem pv_andm {t t' : TypeId} {x y : Operand} {m : Int} (j : Nat) (hj : j ≤ 63) (hop : o.op = .binOp .and t x y t') (hx : σ.get x = some (iv m)) (hy : σ.get y = some (iv (2 ^ j - 1))) : Pv P Γ σ o (iv (m % 2 ^ j)) :=
  pv_int hop hx hy (fun w => by simp only [binOp, Op.intBits, Op.intBits]; exact congrArg (fun z => Result.ok (Value.int .i64 z) w) (and_low m j hj)) rfl
/-- Exclusive or. -/
def xorI (k : IntKind) (m n : Int) : Int := k.wrap ((BitVec.ofInt k.bits m ^^^ BitVec.ofInt k.bits n).toNat)
theorem pv_xor {t t' : TypeId} {x y : Operand} {k : IntKind} {m n : Int} (hop : o.op = .binOp .xor t x y t') (hx : σ.get x = some (.d (.c (.int k m)))) (hy : σ.get y = some (.d (.c (.int k n)))) : Pv P Γ σ o (.d (.c (.int k (xorI k m n)))) :=
  pv_int hop hx hy (fun w => by simp only [binOp, Op.intBits, ne_eq, not_true_eq_false, if_false]; rfl) rfl
theorem pv_shrn {t t' : TypeId} {x y : Operand} {m : Int} (j : Nat) (hj : j ≤ 63) (hop : o.op = .binOp .shr t x y t') (hx : σ.get x = some (iv m)) (hy : σ.get y = some (.d (.c (.int .u64 j)))) : Pv P Γ σ o (iv (m / 2 ^ j)) :=
  pv_bin hop hx hy (fun a w _ _ => by
    simp only [Sem.run_bind, eqGuard_ii, Result.andThen_ok, binOp, Op.shift]
    rw [if_neg (by omega)]
    have e : min ((j : Int)).toNat (IntKind.bits .i64) = j := by
      have : IntKind.bits .i64 = 64 := rfl
      rw [this]; omega
    rw [e]
    exact congrArg (fun z => Result.ok (Value.int .i64 z) w) (Int.fdiv_eq_ediv_of_nonneg m (Int.le_of_lt (Int.pow_pos (by decide))))) rfl

theorem pv_shrnu {t t' : TypeId} {x y : Operand} {m : Int} (j : Nat) (hj : j ≤ 63) (hop : o.op = .binOp .shr t x y t') (hx : σ.get x = some (.d (.c (.int .u64 m)))) (hy : σ.get y = some (.d (.c (.int .u64 j)))) : Pv P Γ σ o (.d (.c (.int .u64 (m / 2 ^ j)))) :=
  pv_bin hop hx hy (fun a w _ _ => by
    simp only [Sem.run_bind, eqGuard_ii, Result.andThen_ok, binOp, Op.shift]
    rw [if_neg (by omega)]
    have e : min ((j : Int)).toNat (IntKind.bits .u64) = j := by
      have : IntKind.bits .u64 = 64 := rfl
      rw [this]; omega
    rw [e]
    exact congrArg (fun z => Result.ok (Value.int .u64 z) w) (Int.fdiv_eq_ediv_of_nonneg m (Int.le_of_lt (Int.pow_pos (by decide))))) rfl

theorem pv_and7 {t t' : TypeId} {x y : Operand} {m : Int} (hop : o.op = .binOp .and t x y t') (hx : σ.get x = some (iv m)) (hy : σ.get y = some (iv 7)) : Pv P Γ σ o (iv (m % 8)) :=
  pv_int hop hx hy (fun w => by simp only [binOp, Op.intBits, Op.intBits]; exact congrArg (fun z => Result.ok (Value.int .i64 z) w) (and_low m 3 (by omega))) rfl

theorem pv_shr3 {t t' : TypeId} {x y : Operand} {m : Int} (hop : o.op = .binOp .shr t x y t') (hx : σ.get x = some (iv m)) (hy : σ.get y = some (.d (.c (.int .u64 3)))) : Pv P Γ σ o (iv (m / 8)) :=
  pv_bin hop hx hy (fun a w _ _ => by
    simp only [Sem.run_bind, eqGuard_ii, Result.andThen_ok, binOp, Op.shift]
    rw [if_neg (by decide)]
    exact congrArg (fun z => Result.ok (Value.int .i64 z) w) (Int.fdiv_eq_ediv_of_nonneg m (by decide))) rfl

theorem pv_quo {t t' : TypeId} {x y : Operand} {m n : Int} (hop : o.op = .binOp .quo t x y t') (hx : σ.get x = some (iv m)) (hy : σ.get y = some (iv n)) (hm : 0 ≤ m ∧ m ≤ 9223372036854775807) (hn : 1 ≤ n) : Pv P Γ σ o (iv (m / n)) :=
  pv_int hop hx hy (fun w => by
    have hne : n ≠ 0 := by omega
    simp only [binOp, Op.intDiv, ne_eq, not_true_eq_false, if_false, hne]
    exact congrArg (fun z => Result.ok (Value.int .i64 z) w) (IntWalk.i64_quo m n ⟨hm.1, hm.2, hn⟩)) rfl
theorem pv_rem {t t' : TypeId} {x y : Operand} {k : IntKind} {m n : Int} (hop : o.op = .binOp .rem t x y t') (hx : σ.get x = some (.d (.c (.int k m)))) (hy : σ.get y = some (.d (.c (.int k n)))) (hm : 0 ≤ m) (hn : n ≠ 0) : Pv P Γ σ o (.d (.c (.int k (m % n)))) :=
  pv_int hop hx hy (fun w => by
    simp only [binOp, Op.intDiv, ne_eq, not_true_eq_false, if_false, hn]
    exact congrArg (fun z => Result.ok (Value.int k z) w) (Int.tmod_eq_emod_of_nonneg hm)) rfl

theorem pv_not {t : TypeId} {x : Operand} {b : Bool} (hop : o.op = .unOp .not t x) (hx : σ.get x = some (bv b)) : Pv P Γ σ o (bv (!b)) := by
  intro B ok a w hs
  have := hs.evalc hx
  exact ⟨_, .c _ rfl, fun w' _ => by simp [execOp, hop, this, Op.unary]⟩
theorem pv_not_bl {t : TypeId} {x : Operand} {b : Bool} (hop : o.op = .unOp .not t x) (hx : σ.get x = some (.bl b)) : Pv P Γ σ o (.bl (!b)) := by
  intro B ok a w hs
  have := hs.evalb hx
  exact ⟨.bool (!b), rfl, fun w' _ => by simp [execOp, hop, this, Op.unary]⟩
theorem pv_not_pr {t : TypeId} {x : Operand} {p : Prop} (hop : o.op = .unOp .not t x) (hx : σ.get x = some (.pr p)) : Pv P Γ σ o (.pr (¬ p)) := by
  intro B ok a w hs
  obtain ⟨b, h1, h2⟩ := hs.evalp hx
  refine ⟨.bool (!b), ⟨_, rfl, ?_⟩, fun w' _ => by simp [execOp, hop, h1, Op.unary]⟩
  rw [← h2]
  cases b <;> simp
theorem pv_neg {t : TypeId} {x : Operand} {m : Int} (hop : o.op = .unOp .neg t x) (hx : σ.get x = some (iv m)) (hb : i64ok (-m)) : Pv P Γ σ o (iv (-m)) := by
  intro B ok a w hs
  have := hs.evalc hx
  refine ⟨_, .c _ rfl, fun w' _ => ?_⟩
  unfold i64ok at hb
  have e := IntWalk.i64_in (0 - m) (by omega)
  simp only [execOp, hop, this, Op.unary, Op.intArith, Sem.run_bind, Sem.run_pure, Result.andThen_ok, e]
  rw [Int.zero_sub]

theorem ba_eq {s t : ByteArray} : (s.toList == t.toList) = decide (s = t) := by
  have h : ∀ u : ByteArray, u.toList = u.data.toList := ByteArray.toList_eq
  by_cases e : s = t
  · subst e; simp
  · rw [decide_eq_false e]
    rw [beq_eq_false_iff_ne]
    intro hc
    apply e
    rw [h, h] at hc
    cases s; cases t
    congr 1
    exact Array.toList_inj.1 hc

theorem pv_str_eql {t t' : TypeId} {x y : Operand} {m n : ByteArray} (hop : o.op = .binOp .eql t x y t') (hx : σ.get x = some (sv m)) (hy : σ.get y = some (sv n)) : Pv P Γ σ o (.pr (m = n)) :=
  pv_cmp hop hx hy (fun w => by simp [eqGuard_ss, binOp, Op.stringOp, ba_eq])
theorem pv_str_neq {t t' : TypeId} {x y : Operand} {m n : ByteArray} (hop : o.op = .binOp .neq t x y t') (hx : σ.get x = some (sv m)) (hy : σ.get y = some (sv n)) : Pv P Γ σ o (.pr (m ≠ n)) :=
  pv_cmp hop hx hy (fun w => by simp [eqGuard_ss, binOp, Op.stringOp, ba_eq])
theorem pv_str_add {t t' : TypeId} {x y : Operand} {m n : ByteArray} (hop : o.op = .binOp .add t x y t') (hx : σ.get x = some (sv m)) (hy : σ.get y = some (sv n)) (hb : m.size + n.size ≤ 9223372036854775807) : Pv P Γ σ o (sv (m ++ n)) :=
  pv_bin hop hx hy (fun a w _ _ => by
    simp only [Sem.run_bind, eqGuard_ss, Result.andThen_ok, binOp, Op.stringOp]
    rw [if_neg]
    · rfl
    · have : IntKind.i64.max = 9223372036854775807 := by decide
      rw [this]; omega) rfl
theorem pv_bool_eql {t t' : TypeId} {x y : Operand} {m n : Bool} (hu : P.underlying t = some .bool) (hop : o.op = .binOp .eql t x y t') (hx : σ.get x = some (bv m)) (hy : σ.get y = some (bv n)) : Pv P Γ σ o (bv (m == n)) :=
  pv_bin hop hx hy (fun a w _ _ => by simp [eqGuard_bb, binOp, run_equal_bool w t m n hu]) rfl
theorem pv_bool_neq {t t' : TypeId} {x y : Operand} {m n : Bool} (hu : P.underlying t = some .bool) (hop : o.op = .binOp .neq t x y t') (hx : σ.get x = some (bv m)) (hy : σ.get y = some (bv n)) : Pv P Γ σ o (bv (m != n)) :=
  pv_bin hop hx hy (fun a w _ _ => by simp [eqGuard_bb, binOp, run_equal_bool w t m n hu, bne]) rfl

theorem pv_conv_int {s d : TypeId} {x : Operand} {k : IntKind} {m : Int} {kd : IntKind} [TInt P d kd] [TInt P s k] (hop : o.op = .convert s d x) (hx : σ.get x = some (.d (.c (.int k m)))) : Pv P Γ σ o (.d (.c (.int kd (kd.wrap m)))) := by
  intro B ok a w hs
  have := hs.evalc hx
  refine ⟨_, .c _ rfl, fun w' _ => ?_⟩
  simp [execOp, hop, this, convert, run_underlying (TInt.und (P := P) (t := s)), run_underlying (TInt.und (P := P) (t := d)), Conv.intToInt]

/-! ### Addresses and loads -/
theorem StB.ptr {B : Nat → Option Bd} {ok : Nat → Prop} {a : Act} {w : World} (h : StB Γ B ok σ a w) {x : Operand} {id off : Nat} {ty : TypeId} {cs : List AV} (hx : σ.get x = some (.ptr id off)) (hh : lk σ.heap id = some (.cells ty cs)) :
    ∃ bd vs, B id = some bd ∧ a.eval x = .pointer (some ⟨bd.blk, off, none⟩) ∧ w.heap[bd.blk]? = some (.cells vs.toArray ty (0, 0)) ∧ RelAs B ok w cs vs := by
  obtain ⟨_, bd, h1, h2⟩ := h.eval hx
  obtain ⟨bd', h3, h4, vs, h5, h6⟩ := h.heap.sat id _ (lk_mem hh)
  rw [h1] at h3
  cases h3
  exact ⟨bd, vs, h1, h2 h4, h5, h6⟩

theorem pv_nilCheck {x : Operand} {id off : Nat} {ty : TypeId} {cs : List AV} (hop : o.op = .nilCheck x) (hx : σ.get x = some (.ptr id off)) (hh : lk σ.heap id = some (.cells ty cs)) : Pv P Γ σ o (.ptr id off) := by
  intro B ok a w hs
  obtain ⟨bd, vs, h1, h2, h3, h4⟩ := hs.ptr hx hh
  exact ⟨_, hs.eval hx, fun w' _ => by simp [execOp, hop, h2]⟩

theorem RelAs.length {B : Nat → Option Bd} {ok : Nat → Prop} {w : World} : ∀ {as : List AV} {vs : List Value}, RelAs B ok w as vs → vs.length = as.length
  | [], vs, h => by cases h; rfl
  | a :: as, vs, h => by obtain ⟨v, vs', rfl, _, _, h4⟩ := h; simp [RelAs.length h4]
theorem RelAs.get {B : Nat → Option Bd} {ok : Nat → Prop} {w : World} : ∀ {as : List AV} {vs : List Value}, RelAs B ok w as vs → ∀ {i : Nat} {a : AV}, as[i]? = some a → ∃ v, vs[i]? = some v ∧ v.oneCell' = true ∧ RelA B ok w a v
  | [], _, _, i, a, ha => by simp at ha
  | b :: as, vs, h, 0, a, ha => by
    obtain ⟨v, vs', rfl, h2, h3, h4⟩ := h
    simp only [List.getElem?_cons_zero, Option.some.injEq] at ha
    subst ha
    exact ⟨v, rfl, h2, h3⟩
  | b :: as, vs, h, i + 1, a, ha => by
    obtain ⟨v, vs', rfl, h2, h3, h4⟩ := h
    simp only [List.getElem?_cons_succ] at ha ⊢
    exact RelAs.get h4 ha
theorem RelAs.take {B : Nat → Option Bd} {ok : Nat → Prop} {w : World} : ∀ {as : List AV} {vs : List Value}, RelAs B ok w as vs → ∀ n, RelAs B ok w (as.take n) (vs.take n)
  | [], vs, h, n => by cases h; simp [RelAs]
  | a :: as, vs, h, 0 => by simp [RelAs]
  | a :: as, vs, h, n + 1 => by
    obtain ⟨v, vs', rfl, h2, h3, h4⟩ := h
    exact ⟨v, vs'.take n, rfl, h2, h3, RelAs.take h4 n⟩
theorem RelAs.drop {B : Nat → Option Bd} {ok : Nat → Prop} {w : World} : ∀ {as : List AV} {vs : List Value}, RelAs B ok w as vs → ∀ n, RelAs B ok w (as.drop n) (vs.drop n)
  | [], vs, h, n => by cases h; simp [RelAs]
  | a :: as, vs, h, 0 => h
  | a :: as, vs, h, n + 1 => by
    obtain ⟨v, vs', rfl, h2, h3, h4⟩ := h
    exact RelAs.drop h4 n

theorem Addr.add_none (b o n : Nat) : (⟨b, o, none⟩ : Addr).add n = ⟨b, o + n, none⟩ := by
  unfold Addr.add
  split
  · rename_i h; subst h; rfl
  · rfl

theorem cell_row {w : World} {b o : Nat} {arr : Array Value} {ty : TypeId} {fr : Nat × Nat} (h : w.heap[b]? = some (.cells arr ty fr)) : w.cell? ⟨b, o, none⟩ = arr[o]? := by
  simp [World.cell?, h]

/-- A run that loads whole cells. -/
theorem run_loadVar_agg {t n : Nat} [T : TAgg P t n] {w : World} {b o : Nat} {vs : List Value} (hn : vs.length = n) (h : ∀ j v, vs[j]? = some v → w.cell? ⟨b, o + j, none⟩ = some v) : (loadVar t ⟨b, o, none⟩).run P w = .ok (.agg vs.toArray) w := by
  have := run_loadCells_list (P := P) w ⟨b, o, none⟩ vs (fun j v hv => by rw [Addr.add_none]; exact h j v hv)
  rw [hn] at this
  simp only [loadVar, Sem.run_bind, T.agg, T.size, Result.andThen_ok, if_true, this, Sem.run_pure]
theorem run_loadVar_one {t : Nat} [T : TOne P t] {w : World} {a : Addr} {v : Value} (h : w.cell? a = some v) : (loadVar t a).run P w = .ok v w := by
  simp only [loadVar, Sem.run_bind, T.agg, Result.andThen_ok]
  simp [run_load, h]

theorem pv_load {t : TypeId} {x : Operand} {id off : Nat} {ty : TypeId} {cs : List AV} {av : AV} [TOne P t] (hop : o.op = .load t x) (hx : σ.get x = some (.ptr id off)) (hh : lk σ.heap id = some (.cells ty cs)) (hc : cs[off]? = some av) : Pv P Γ σ o av := by
  intro B ok a w hs
  obtain ⟨bd, vs, h1, h2, h3, h4⟩ := hs.ptr hx hh
  obtain ⟨v, g1, g2, g3⟩ := h4.get hc
  refine ⟨v, g3, fun w' hb => ?_⟩
  have hb := hb.resolve_left (by simp [hop, dryO])
  have hc' : w'.cell? ⟨bd.blk, off, none⟩ = some v := by
    rw [hb.cell (p := ⟨bd.blk, off, none⟩) (Array.getElem?_eq_some_iff.1 h3).1, cell_row h3]
    simpa using g1
  simp only [execOp, hop, h2, Instr.loadAt, Instr.sureAddr, Sem.run_bind, Sem.run_pure, Result.andThen_ok, run_loadVar_one hc']

theorem pv_load_agg {t n : TypeId} {x : Operand} {id off : Nat} {ty : TypeId} {cs cs' : List AV} [TAgg P t n] (hop : o.op = .load t x) (hx : σ.get x = some (.ptr id off)) (hh : lk σ.heap id = some (.cells ty cs)) (hc : (cs.drop off).take n = cs') (hn : cs'.length = n) : Pv P Γ σ o (.agg cs') := by
  intro B ok a w hs
  obtain ⟨bd, vs, h1, h2, h3, h4⟩ := hs.ptr hx hh
  have h5 := (h4.drop off).take n
  rw [hc] at h5
  refine ⟨.agg ((vs.drop off).take n).toArray, ⟨_, rfl, h5⟩, fun w' hb => ?_⟩
  have hb := hb.resolve_left (by simp [hop, dryO])
  have hl : ((vs.drop off).take n).length = n := by rw [h5.length]; exact hn
  have := run_loadVar_agg (P := P) (t := t) (w := w') (b := bd.blk) (o := off) hl (fun j v hv => by
    rw [hb.cell (p := ⟨bd.blk, off + j, none⟩) (Array.getElem?_eq_some_iff.1 h3).1, cell_row h3]
    rw [List.getElem?_take] at hv
    split at hv
    · simpa using hv
    · cases hv)
  simp only [execOp, hop, h2, Instr.loadAt, Instr.sureAddr, Sem.run_bind, Sem.run_pure, Result.andThen_ok, this]

theorem pv_fieldAddr {t : TypeId} {x : Operand} {f id off d : Nat} {ty : TypeId} {cs : List AV} [T : TFld P t f d] (hop : o.op = .fieldAddr t x f) (hx : σ.get x = some (.ptr id off)) (hh : lk σ.heap id = some (.cells ty cs)) : Pv P Γ σ o (.ptr id (off + d)) := by
  intro B ok a w hs
  obtain ⟨bd, vs, h1, h2, h3, h4⟩ := hs.ptr hx hh
  obtain ⟨fs, g1, fd, g2, g3, n, g4⟩ := T.fld
  refine ⟨.pointer (some ⟨bd.blk, off + d, none⟩), ⟨rfl, bd, h1, fun _ => rfl⟩, fun w' hb => ?_⟩
  simp only [execOp, hop, h2, Instr.fieldAt, run_underlying g1, g2, Instr.sureAddr, fieldPlace, Sem.run_bind, Sem.run_pure, Result.andThen_ok, g4, Sem.run_ite, Nat.succ_ne_zero, if_false, g3, Addr.add_none, Nat.add_one_ne_zero]

theorem pv_field {t : TypeId} {x : Operand} {f d n : Nat} {ag : Bool} {cs : List AV} {av : AV} [T : TPart P t f d n ag] (hop : o.op = .field t x f) (hx : σ.get x = some (.agg cs)) (hc : (if ag then some (.agg ((cs.drop d).take n)) else cs[d]?) = some av) : Pv P Γ σ o av := by
  intro B ok a w hs
  obtain ⟨vs, h1, h2⟩ := hs.eval hx
  obtain ⟨fs, g1, fd, g2, g3, g4, g5⟩ := T.fld
  cases ag with
  | true =>
    simp only [if_true, Option.some.injEq] at hc
    subst hc
    refine ⟨.agg ((vs.drop d).take n).toArray, ⟨_, rfl, (h2.drop d).take n⟩, fun w' hb => ?_⟩
    simp only [execOp, hop, h1, Instr.field, run_underlying g1, g2, asAgg, part, Sem.run_bind, Sem.run_pure, Result.andThen_ok, g4, g5, g3, if_true]
    congr 2
    simp [List.extract_eq_take_drop]
  | false =>
    simp only [Bool.false_eq_true, if_false] at hc
    obtain ⟨v, k1, k2, k3⟩ := h2.get hc
    refine ⟨v, k3, fun w' hb => ?_⟩
    simp only [execOp, hop, h1, Instr.field, run_underlying g1, g2, asAgg, part, Sem.run_bind, Sem.run_pure, Result.andThen_ok, g4, g5, g3, Bool.false_eq_true, if_false]
    simp [k1]

/-! ### Read-only slices -/
theorem RelD.inv {ok : Nat → Prop} {w : World} {sz : Nat} {xs : List (List D)} {v : Value} (h : RelD ok w (.arr sz xs) v) :
    ∃ A cap, v = .slice A xs.length cap ∧ xs.length ≤ cap ∧ (A = none → xs = [] ∧ cap = 0) ∧ (∀ l ∈ xs, l.length = sz) ∧ (∀ a, A = some a → a.spot = none ∧ ∀ i j l d, xs[i]? = some l → l[j]? = some d → ok a.block ∧ ∃ v, w.cell? ⟨a.block, a.off + (i * sz + j), none⟩ = some v ∧ RelD ok w d v) := by
  cases h with
  | arr _ _ A n cap cv hn hcap hnil hl hA hok hc hr =>
    subst hn
    refine ⟨A, cap, rfl, hcap, hnil, hl, fun a ha => ⟨hA a ha, fun i j l d hi hj => ?_⟩⟩
    have hlt : i < xs.length := (List.getElem?_eq_some_iff.1 hi).1
    have hjlt : j < sz := by
      have := hl l (List.mem_of_getElem? hi)
      have := (List.getElem?_eq_some_iff.1 hj).1
      omega
    have hx : xs ≠ [] := by intro e; subst e; simp at hlt
    exact ⟨hok a ha hx, _, hc a ha i j hlt hjlt, hr i j l d hi hj⟩

theorem pv_len_arr {t : TypeId} {x : Operand} {sz : Nat} {xs : List (List D)} {e s : Nat} [T : TSl P t e s] (hop : o.op = .call { callee := .builtin .len, args := #[x], argTypes := #[t] }) (hx : σ.get x = some (.d (.arr sz xs))) : Pv P Γ σ o (iv xs.length) := by
  intro B ok a w hs
  obtain ⟨A, cap, h1, _⟩ := RelD.inv (hs.eval hx)
  refine ⟨_, .c _ rfl, fun w' _ => ?_⟩
  simp [execOp, hop, resolve, invoke, builtin, Builtin.len_, run_underlying T.und, h1, goInt]
theorem pv_len_nil {t : TypeId} {x : Operand} {e s : Nat} [T : TSl P t e s] (hop : o.op = .call { callee := .builtin .len, args := #[x], argTypes := #[t] }) (hx : σ.get x = some (.d (.c (.slice none 0 0)))) : Pv P Γ σ o (iv 0) := by
  intro B ok a w hs
  have := hs.evalc hx
  refine ⟨_, .c _ rfl, fun w' _ => ?_⟩
  simp [execOp, hop, resolve, invoke, builtin, Builtin.len_, run_underlying T.und, this, goInt]
theorem pv_len_str {t : TypeId} {x : Operand} {s : ByteArray} [T : TStr P t] (hop : o.op = .call { callee := .builtin .len, args := #[x], argTypes := #[t] }) (hx : σ.get x = some (sv s)) : Pv P Γ σ o (iv s.size) := by
  intro B ok a w hs
  have := hs.evalc hx
  refine ⟨_, .c _ rfl, fun w' _ => ?_⟩
  simp [execOp, hop, resolve, invoke, builtin, Builtin.len_, run_underlying T.und, this, goInt]

theorem StB.row {B : Nat → Option Bd} {ok : Nat → Prop} {a : Act} {w : World} (h : StB Γ B ok σ a w) {x : Operand} {id ver : Nat} {e sz : Nat} {xs : List (List D)} (hx : σ.get x = some (.row id ver)) (hh : lk σ.heap id = some (.row e sz ver xs)) :
    ∃ bd, B id = some bd ∧ a.eval x = bd.hdr ∧ SatE B ok w bd (.row e sz ver xs) := by
  obtain ⟨_, bd, h1, h2, h3⟩ := h.eval hx
  obtain ⟨bd', h4, h5⟩ := h.heap.sat id _ (lk_mem hh)
  rw [h1] at h4
  cases h4
  exact ⟨bd, h1, h3 h5.1.symm, h5⟩

theorem StB.irow {B : Nat → Option Bd} {ok : Nat → Prop} {a : Act} {w : World} (h : StB Γ B ok σ a w) {x : Operand} {id ver : Nat} {e : Nat} {q : TK} {ws : List q.ty} (hx : σ.get x = some (.row id ver)) (hh : lk σ.heap id = some (.trow q e ver ws)) :
    ∃ bd, B id = some bd ∧ a.eval x = bd.hdr ∧ SatE B ok w bd (.row e 1 ver (rowsOf q ws)) := by
  obtain ⟨_, bd, h1, h2, h3⟩ := h.eval hx
  obtain ⟨bd', h4, h5⟩ := h.heap.sat id _ (lk_mem hh)
  rw [h1] at h4
  cases h4
  exact ⟨bd, h1, h3 h5.1.symm, h5⟩

theorem hdr_len {bd : Bd} {B : Nat → Option Bd} {ok : Nat → Prop} {w : World} {e sz ver : Nat} {xs : List (List D)} (h : SatE B ok w bd (.row e sz ver xs)) : ∃ A c, bd.hdr = .slice A xs.length c ∧ xs.length ≤ c := by
  obtain ⟨h1, h2, h3, h4, h5⟩ := h
  unfold Bd.hdr
  split at h5
  · rename_i hl
    obtain ⟨arr, g1, g2, g3, g4, g5⟩ := h5
    simp only [hl, if_true]
    exact ⟨_, _, by rw [h3], by omega⟩
  · rename_i hl
    obtain ⟨h5, h6⟩ := h5
    subst h5
    simp only [hl]
    exact ⟨_, _, rfl, Nat.le_refl _⟩

theorem pv_len_row {t : TypeId} {x : Operand} {id ver : Nat} {e' sz : Nat} {xs : List (List D)} {e s : Nat} [T : TSl P t e s] (hop : o.op = .call { callee := .builtin .len, args := #[x], argTypes := #[t] }) (hx : σ.get x = some (.row id ver)) (hh : lk σ.heap id = some (.row e' sz ver xs)) : Pv P Γ σ o (iv xs.length) := by
  intro B ok a w hs
  obtain ⟨bd, h1, h2, h3⟩ := hs.row hx hh
  obtain ⟨A, c, h4, _⟩ := hdr_len h3
  refine ⟨_, .c _ rfl, fun w' _ => ?_⟩
  simp [execOp, hop, resolve, invoke, builtin, Builtin.len_, run_underlying T.und, h2, h4, goInt]

theorem run_indexAt {t e sz : Nat} [T : TSl P t e sz] {w : World} {b o n cap : Nat} {k : IntKind} {i : Int} (h0 : 0 ≤ i) (hlt : i < n) : (Instr.indexAt t (.slice (some ⟨b, o, none⟩) n cap) (.int k i)).run P w = .ok (.pointer (some ⟨b, o + i.toNat * sz, none⟩)) w := by
  simp only [Instr.indexAt, asIntOf, Sem.run_bind, Sem.run_pure, Result.andThen_ok, run_underlying T.und, T.size]
  simp [h0, hlt, T.size, Addr.add_none]

theorem pv_index_arr {t e sz : Nat} {x ix : Operand} {s : Nat} {xs : List (List D)} {k : IntKind} {i : Int} [T : TSl P t e sz] (hop : o.op = .indexAddr t x ix) (hx : σ.get x = some (.d (.arr sz xs))) (hi : σ.get ix = some (.d (.c (.int k i)))) (h0 : 0 ≤ i) (hlt : i < xs.length) : Pv P Γ σ o (.rp sz xs i.toNat 0) := by
  intro B ok a w hs
  have hx' := hs.eval hx
  have hi' := hs.evalc hi
  obtain ⟨A, cap, h1, h2, h3, h4, h5⟩ := RelD.inv hx'
  cases A with
  | none => have := (h3 rfl).1; subst this; simp at hlt; omega
  | some ad =>
    obtain ⟨bk, of, sp⟩ := ad
    have hsp := (h5 _ rfl).1
    simp only at hsp
    subst hsp
    refine ⟨.pointer (some ⟨bk, of + i.toNat * sz, none⟩), ⟨by omega, ⟨bk, of, none⟩, xs.length, cap, h1 ▸ hx', rfl⟩, fun w' hb => ?_⟩
    simp only [execOp, hop, h1, hi', Sem.run_bind, run_indexAt h0 hlt, Result.andThen_ok, Sem.run_pure]

theorem pv_index_row {t e sz : Nat} {x ix : Operand} {id ver e' : Nat} {xs : List (List D)} {k : IntKind} {i : Int} [T : TSl P t e sz] (hop : o.op = .indexAddr t x ix) (hx : σ.get x = some (.row id ver)) (hh : lk σ.heap id = some (.row e' sz ver xs)) (hi : σ.get ix = some (.d (.c (.int k i)))) (h0 : 0 ≤ i) (hlt : i < xs.length) : Pv P Γ σ o (.wp id ver i.toNat 0) := by
  intro B ok a w hs
  obtain ⟨bd, h1, h2, h3, h4, h5, h6, h7⟩ := hs.row hx hh
  have hi' := hs.evalc hi
  split at h7
  · rename_i hl
    have hh : bd.hdr = .slice (some ⟨bd.blk, bd.off, none⟩) bd.len bd.cap := by simp [Bd.hdr, hl]
    refine ⟨.pointer (some ⟨bd.blk, bd.off + i.toNat * sz, none⟩), ⟨rfl, bd, h1, by omega, fun _ => ⟨hl, by omega, by rw [h4]; rfl⟩⟩, fun w' hb => ?_⟩
    have hlt' : i < (bd.len : Int) := by rw [h5]; exact hlt
    simp only [execOp, hop, h2, hh, hi', Sem.run_bind, run_indexAt (T := T) h0 hlt', Result.andThen_ok, Sem.run_pure]
  · obtain ⟨h7, _⟩ := h7
    subst h7
    simp at hlt
    omega

theorem pv_load_rp {t : TypeId} {x : Operand} {sz : Nat} {xs : List (List D)} {i j : Nat} {d : D} [TOne P t] (hop : o.op = .load t x) (hx : σ.get x = some (.rp sz xs i j)) {l : List D} (hi : xs[i]? = some l) (hj : l[j]? = some d) : Pv P Γ σ o (.d d) := by
  intro B ok a w hs
  obtain ⟨h0, ad, n, cap, h1, h2⟩ := hs.eval hx
  obtain ⟨A, cap', h3, h4, h5, h6, h7⟩ := RelD.inv h1
  cases h3
  obtain ⟨h8, h9⟩ := h7 _ rfl
  obtain ⟨h10, v, h11, h12⟩ := h9 i j l d hi hj
  refine ⟨v, h12, fun w' hb => ?_⟩
  have hb := hb.resolve_left (by simp [hop, dryO])
  have hc' : w'.cell? ⟨ad.block, ad.off + (i * sz + j), none⟩ = some v := by
    rw [hb.cell (p := ⟨ad.block, _, none⟩) (hs.heap.okb _ h10)]
    exact h11
  simp only [execOp, hop, h2, Instr.loadAt, Instr.sureAddr, Sem.run_bind, Sem.run_pure, Result.andThen_ok, run_loadVar_one hc']

theorem RelAs.ofD {B : Nat → Option Bd} {ok : Nat → Prop} {w : World} (f : Nat → Value) : ∀ (l : List D) (k : Nat), (∀ j d, l[j]? = some d → RelD ok w d (f (k + j))) → RelAs B ok w (l.map .d) ((List.range' k l.length).map f)
  | [], k, _ => rfl
  | d :: l, k, h => by
    refine ⟨f k, (List.range' (k + 1) l.length).map f, by simp [List.range'_succ], ?_, ?_, ?_⟩
    · exact (by simpa using h 0 d rfl : RelD ok w d (f k)).oneCell
    · exact (by simpa using h 0 d rfl : RelD ok w d (f k))
    · exact RelAs.ofD f l (k + 1) fun j d hj => by
        have := h (j + 1) d (by simpa using hj)
        rwa [show k + (j + 1) = k + 1 + j by omega] at this

theorem pv_load_rp_agg {t n : TypeId} {x : Operand} {sz : Nat} {xs : List (List D)} {i : Nat} [TAgg P t n] (hop : o.op = .load t x) (hx : σ.get x = some (.rp sz xs i 0)) {l : List D} (hi : xs[i]? = some l) (hn : sz = n) : Pv P Γ σ o (.agg (l.map .d)) := by
  intro B ok a w hs
  obtain ⟨h0, ad, m, cap, h1, h2⟩ := hs.eval hx
  subst hn
  obtain ⟨A, cap', h3, h4, h5, h6, h7⟩ := RelD.inv h1
  cases h3
  obtain ⟨h8, h9⟩ := h7 _ rfl
  have hl : l.length = sz := h6 l (List.mem_of_getElem? hi)
  let f : Nat → Value := fun j => (w.cell? ⟨ad.block, ad.off + (i * sz + j), none⟩).getD undef
  have hf : ∀ j d, l[j]? = some d → RelD ok w d (f (0 + j)) ∧ w.cell? ⟨ad.block, ad.off + (i * sz + j), none⟩ = some (f j) ∧ ok ad.block := fun j d hj => by
    obtain ⟨h10, v, h11, h12⟩ := h9 i j l d hi hj
    have : f j = v := by simp [f, h11]
    rw [Nat.zero_add, this]
    exact ⟨h12, h11, h10⟩
  refine ⟨.agg ((List.range' 0 l.length).map f).toArray, ⟨_, rfl, RelAs.ofD f l 0 fun j d hj => (hf j d hj).1⟩, fun w' hb => ?_⟩
  have hb := hb.resolve_left (by simp [hop, dryO])
  have := run_loadVar_agg (P := P) (t := t) (w := w') (b := ad.block) (o := ad.off + i * sz) (vs := (List.range' 0 l.length).map f) (by simpa using hl) (fun j v hv => by
    have hj : j < l.length := by
      have := (List.getElem?_eq_some_iff.1 hv).1
      simpa using this
    obtain ⟨_, g2, g3⟩ := hf j l[j] (List.getElem?_eq_getElem hj)
    rw [hb.cell (p := ⟨ad.block, _, none⟩) (hs.heap.okb _ g3), Nat.add_assoc, g2]
    rw [List.getElem?_map, List.getElem?_range' hj] at hv
    simpa using hv)
  have e : ad.off + (i * sz + 0) = ad.off + i * sz := by omega
  simp only [execOp, hop, h2, Instr.loadAt, Instr.sureAddr, Sem.run_bind, Sem.run_pure, Result.andThen_ok, e, this]

theorem pv_fieldAddr_rp {t : TypeId} {x : Operand} {f d sz i j : Nat} {xs : List (List D)} [T : TFld P t f d] (hop : o.op = .fieldAddr t x f) (hx : σ.get x = some (.rp sz xs i j)) : Pv P Γ σ o (.rp sz xs i (j + d)) := by
  intro B ok a w hs
  obtain ⟨h0, ad, m, cap, h1, h2⟩ := hs.eval hx
  obtain ⟨fs, g1, fd, g2, g3, n, g4⟩ := T.fld
  refine ⟨.pointer (some ⟨ad.block, ad.off + (i * sz + (j + d)), none⟩), ⟨h0, ad, m, cap, h1, rfl⟩, fun w' hb => ?_⟩
  have e : ad.off + (i * sz + j) + d = ad.off + (i * sz + (j + d)) := by omega
  simp only [execOp, hop, h2, Instr.fieldAt, run_underlying g1, g2, Instr.sureAddr, fieldPlace, Sem.run_bind, Sem.run_pure, Result.andThen_ok, g4, Sem.run_ite, Nat.succ_ne_zero, if_false, g3, Addr.add_none, Nat.add_one_ne_zero, e]

/-- What a pointer into an owned row points at. -/
theorem StB.wp {B : Nat → Option Bd} {ok : Nat → Prop} {a : Act} {w : World} (h : StB Γ B ok σ a w) {x : Operand} {id ver i j : Nat} {e sz : Nat} {xs : List (List D)} (hx : σ.get x = some (.wp id ver i j)) (hh : lk σ.heap id = some (.row e sz ver xs)) :
    ∃ bd arr, B id = some bd ∧ bd.live = true ∧ a.eval x = .pointer (some ⟨bd.blk, bd.off + (i * sz + j), none⟩) ∧ i < xs.length ∧ SatE B ok w bd (.row e sz ver xs) ∧ w.heap[bd.blk]? = some (.cells arr e (0, 0)) ∧
      ∀ i j l d, xs[i]? = some l → l[j]? = some d → ∃ v, arr[bd.off + (i * sz + j)]? = some v ∧ v.oneCell' = true ∧ RelD ok w d v := by
  obtain ⟨_, bd, h1, h2, h3⟩ := h.eval hx
  obtain ⟨bd', h4, h5⟩ := h.heap.sat id _ (lk_mem hh)
  rw [h1] at h4
  cases h4
  obtain ⟨h6, h60, h7⟩ := h3 h5.1.symm
  have h8 := h5
  obtain ⟨g1, g2, g3, g4, g5⟩ := h8
  rw [if_pos h6] at g5
  obtain ⟨arr, k1, k2, k3, k4, k5⟩ := g5
  rw [g2] at h7
  exact ⟨bd, arr, h1, h6, h7, by omega, h5, k1, k5⟩

theorem pv_load_wp {t : TypeId} {x : Operand} {id ver i j e sz : Nat} {xs : List (List D)} {d : D} [TOne P t] (hop : o.op = .load t x) (hx : σ.get x = some (.wp id ver i j)) (hh : lk σ.heap id = some (.row e sz ver xs)) {l : List D} (hi : xs[i]? = some l) (hj : l[j]? = some d) : Pv P Γ σ o (.d d) := by
  intro B ok a w hs
  obtain ⟨bd, arr, h1, h2, h3, h30, h4, h5, h6⟩ := hs.wp hx hh
  obtain ⟨v, k1, k2, k3⟩ := h6 i j l d hi hj
  refine ⟨v, k3, fun w' hb => ?_⟩
  have hb := hb.resolve_left (by simp [hop, dryO])
  have hc' : w'.cell? ⟨bd.blk, bd.off + (i * sz + j), none⟩ = some v := by
    rw [hb.cell (p := ⟨bd.blk, _, none⟩) (Array.getElem?_eq_some_iff.1 h5).1, cell_row h5]
    exact k1
  simp only [execOp, hop, h3, Instr.loadAt, Instr.sureAddr, Sem.run_bind, Sem.run_pure, Result.andThen_ok, run_loadVar_one hc']

theorem pv_fieldAddr_wp {t : TypeId} {x : Operand} {f d id ver i j e sz : Nat} {xs : List (List D)} [T : TFld P t f d] (hop : o.op = .fieldAddr t x f) (hx : σ.get x = some (.wp id ver i j)) (hh : lk σ.heap id = some (.row e sz ver xs)) : Pv P Γ σ o (.wp id ver i (j + d)) := by
  intro B ok a w hs
  obtain ⟨bd, arr, h1, h2, h3, h30, h4, h5, h6⟩ := hs.wp hx hh
  obtain ⟨fs, g1, fd, g2, g3, n, g4⟩ := T.fld
  refine ⟨.pointer (some ⟨bd.blk, bd.off + (i * sz + (j + d)), none⟩), ⟨rfl, bd, h1, by rw [h4.1]; exact Nat.le_refl _, fun _ => ⟨h2, by have := h4.2.2.1; omega, by rw [h4.2.1]⟩⟩, fun w' hb => ?_⟩
  have e : bd.off + (i * sz + j) + d = bd.off + (i * sz + (j + d)) := by omega
  simp only [execOp, hop, h3, Instr.fieldAt, run_underlying g1, g2, Instr.sureAddr, fieldPlace, Sem.run_bind, Sem.run_pure, Result.andThen_ok, g4, Sem.run_ite, Nat.succ_ne_zero, if_false, g3, Addr.add_none, Nat.add_one_ne_zero, e]

/-! ### Strings -/
theorem pv_index_str {t : TypeId} {x ix : Operand} {s : ByteArray} {k : IntKind} {i : Int} {b : UInt8} [T : TStr P t] (hop : o.op = .index t x ix) (hx : σ.get x = some (sv s)) (hi : σ.get ix = some (.d (.c (.int k i)))) (h0 : 0 ≤ i) (hb : s.data.toList[i.toNat]? = some b) : Pv P Γ σ o (u8v b.toNat) := by
  intro B ok a w hs
  have e1 := hs.evalc hx
  have e2 := hs.evalc hi
  refine ⟨_, .c _ rfl, fun w' _ => ?_⟩
  have e3 : s[i.toNat]? = some b := by
    have hlt : i.toNat < s.size := by
      have := (List.getElem?_eq_some_iff.1 hb).1
      simpa using this
    rw [getElem?_pos s i.toNat hlt]
    have := (List.getElem?_eq_some_iff.1 hb).2
    rw [← this]
    rfl
  simp only [execOp, hop, e1, e2, Instr.index, asIntOf, Sem.run_bind, Sem.run_pure, Result.andThen_ok, run_underlying T.und, h0, if_true, e3]

def cutS (s : ByteArray) (l h : Nat) : ByteArray := s.extract l h

theorem run_sliceBound {w : World} {c : BoundsCode} {i : Int} {y : Nat} (h0 : 0 ≤ i) (h1 : i ≤ y) : (Instr.sliceBound (.int .i64 i) y c).run P w = .ok i.toNat w := by
  simp [Instr.sliceBound, asIntOf, h0, h1]

/-- The bounds of a slice expression without a third index. -/
theorem run_sliceBounds {w : World} {sl : Bool} {n cap : Nat} {lo hi : Option Value} {l h : Int} (hl : lo = some (.int .i64 l) ∨ lo = none ∧ l = 0) (hh : hi = some (.int .i64 h) ∨ hi = none ∧ h = n) (h0 : 0 ≤ l) (h1 : l ≤ h) (h2 : h ≤ cap) :
    (Instr.sliceBounds sl n cap lo hi none).run P w = .ok (l.toNat, h.toNat, cap) w := by
  have hlh : l ≤ (h.toNat : Int) := by omega
  rcases hl with rfl | ⟨rfl, rfl⟩ <;> rcases hh with rfl | ⟨rfl, rfl⟩ <;>
    simp [Instr.sliceBounds, run_sliceBound h0 hlh, run_sliceBound (Int.le_trans h0 h1) h2]
  rw [run_sliceBound h0 (by omega)]
  rfl

def loOk (σ : S) (lo : Option Operand) (l : Int) : Prop := match lo with | none => l = 0 | some y => σ.get y = some (iv l)
def hiOk (σ : S) (hi : Option Operand) (n : Nat) (h : Int) : Prop := match hi with | none => h = n | some y => σ.get y = some (iv h)
theorem StB.lo {B : Nat → Option Bd} {ok : Nat → Prop} {a : Act} {w : World} (hs : StB Γ B ok σ a w) {lo : Option Operand} {l : Int} (h : loOk σ lo l) : lo.map a.eval = some (.int .i64 l) ∨ lo.map a.eval = none ∧ l = 0 := by
  cases lo with
  | none => exact .inr ⟨rfl, h⟩
  | some y => exact .inl (by simp [hs.evalc h])
theorem StB.hi {B : Nat → Option Bd} {ok : Nat → Prop} {a : Act} {w : World} (hs : StB Γ B ok σ a w) {hi : Option Operand} {n : Nat} {l : Int} (h : hiOk σ hi n l) : hi.map a.eval = some (.int .i64 l) ∨ hi.map a.eval = none ∧ l = n := by
  cases hi with
  | none => exact .inr ⟨rfl, h⟩
  | some y => exact .inl (by simp [hs.evalc h])

theorem pv_slice_str {t : TypeId} {x : Operand} {lo hi : Option Operand} {s : ByteArray} {l h : Int} [T : TStr P t] (hop : o.op = .slice t x lo hi none) (hx : σ.get x = some (sv s))
    (hl : loOk σ lo l) (hh : hiOk σ hi s.size h) (h0 : 0 ≤ l) (h1 : l ≤ h) (h2 : h ≤ s.size) : Pv P Γ σ o (sv (cutS s l.toNat h.toNat)) := by
  intro B ok a w hs
  have e1 := hs.evalc hx
  refine ⟨_, .c _ rfl, fun w' _ => ?_⟩
  simp [execOp, hop, e1, Instr.sliceAt, Instr.slice, run_underlying T.und, run_sliceBounds (hs.lo hl) (hs.hi hh) h0 h1 h2, cutS]

theorem pv_slice_rel {t e sz : Nat} {x : Operand} {lo hi : Option Operand} {s : Nat} {xs : List (List D)} {l h : Int} [T : TSl P t e sz] (hop : o.op = .slice t x lo hi none) (hrel : ∀ B ok a w, StB Γ B ok σ a w → RelD ok w (.arr sz xs) (a.eval x))
    (hl : loOk σ lo l) (hh : hiOk σ hi xs.length h) (h0 : 0 ≤ l) (h1 : l ≤ h) (h2 : h ≤ xs.length) : ∀ B ok a w, StB Γ B ok σ a w → ∃ v, RelD ok w (.arr sz ((xs.drop l.toNat).take (h.toNat - l.toNat))) v ∧ ∀ w', (dryO o.op = true ∨ Below w.heap.size w w') → (execOp a.eval o).run P w' = .ok (.value v) w' := by
  intro B ok a w hs
  obtain ⟨A, cap, g1, g2, g3, g4, g5⟩ := RelD.inv (hrel B ok a w hs)
  have hn : ((xs.drop l.toNat).take (h.toNat - l.toNat)).length = h.toNat - l.toNat := by
    rw [List.length_take, List.length_drop]; omega
  have hsub : ∀ i l', ((xs.drop l.toNat).take (h.toNat - l.toNat))[i]? = some l' → xs[l.toNat + i]? = some l' := fun i l' hi => by
    rw [List.getElem?_take] at hi
    split at hi
    · simpa using hi
    · cases hi
  refine ⟨.slice (if cap = l.toNat then A else A.map (·.add (l.toNat * sz))) (h.toNat - l.toNat) (cap - l.toNat), ?_, fun w' _ => ?_⟩
  · let f : Nat → Nat → Value := fun i j => match A with | none => undef | some ad => (w.cell? ⟨ad.block, ad.off + ((l.toNat + i) * sz + j), none⟩).getD undef
    have hspot : ∀ a, A = some a → a.spot = none := fun a ha => (g5 a ha).1
    have hcell : ∀ ad i j l' d, A = some ad → ((xs.drop l.toNat).take (h.toNat - l.toNat))[i]? = some l' → l'[j]? = some d → ok ad.block ∧ w.cell? ⟨ad.block, ad.off + ((l.toNat + i) * sz + j), none⟩ = some (f i j) ∧ RelD ok w d (f i j) := fun ad i j l' d hA hi hj => by
      subst hA
      obtain ⟨k1, v, k2, k3⟩ := (g5 ad rfl).2 (l.toNat + i) j l' d (hsub i l' hi) hj
      have : f i j = v := by simp [f, k2]
      rw [this]
      exact ⟨k1, k2, k3⟩
    have hne : ∀ i l', ((xs.drop l.toNat).take (h.toNat - l.toNat))[i]? = some l' → ¬ cap = l.toNat := fun i l' hi => by
      have := (List.getElem?_eq_some_iff.1 hi).1
      omega
    cases A with
    | none =>
      obtain ⟨g3, g3'⟩ := g3 rfl
      subst g3
      subst g3'
      refine .arr sz _ _ _ _ f hn (by omega) (fun _ => ⟨by simp, by omega⟩) (by simp) (fun a ha => ?_) (fun a ha => ?_) (fun a ha => ?_) (fun i j l' d hi => by simp at hi)
      all_goals (split at ha <;> simp at ha)
    | some ad =>
      have hsp := hspot ad rfl
      obtain ⟨bk, of, sp⟩ := ad
      simp only at hsp
      subst hsp
      refine .arr sz _ _ _ _ f hn (by omega) (fun e => ?_) (fun l' hl' => g4 l' (List.mem_of_mem_drop (List.mem_of_mem_take hl'))) (fun a ha => ?_) (fun a ha hx' => ?_) (fun a ha i j hi hj => ?_) (fun i j l' d hi hj => (hcell _ i j l' d rfl hi hj).2.2)
      · split at e <;> simp at e
      · split at ha
        · cases ha; rfl
        · simp only [Option.map_some, Option.some.injEq, Addr.add_none] at ha; subst ha; rfl
      · obtain ⟨l', hl'⟩ := List.exists_mem_of_ne_nil _ hx'
        obtain ⟨i, hi, hi'⟩ := List.mem_iff_getElem.1 hl'
        have hi2 := List.getElem?_eq_getElem hi
        rw [hi'] at hi2
        rw [if_neg (hne i l' hi2)] at ha
        simp only [Option.map_some, Option.some.injEq, Addr.add_none] at ha
        subst ha
        by_cases hz : sz = 0
        · -- no cells: the block is read by nobody; the old reading gives it all the same
          have hxs : xs ≠ [] := by intro e; subst e; simp at hl'
          have hx0 : RelD ok w (.arr sz xs) _ := hrel B ok a w hs
          rw [g1] at hx0
          cases hx0 with
          | arr _ _ _ _ _ _ _ _ _ _ _ hok _ _ => exact hok ⟨bk, of, none⟩ rfl hxs
        · have hl2 := g4 l' (List.mem_of_mem_drop (List.mem_of_mem_take hl'))
          have h0l : 0 < l'.length := by omega
          exact (hcell _ i 0 l' _ rfl hi2 (List.getElem?_eq_getElem h0l)).1
      · have hi2 := List.getElem?_eq_getElem hi
        rw [if_neg (hne i _ hi2)] at ha
        simp only [Option.map_some, Option.some.injEq, Addr.add_none] at ha
        subst ha
        have hl2 := g4 _ (List.mem_of_mem_drop (List.mem_of_mem_take (List.getElem_mem hi)))
        have hj2 : j < (((xs.drop l.toNat).take (h.toNat - l.toNat))[i]).length := by omega
        have := (hcell _ i j _ _ rfl hi2 (List.getElem?_eq_getElem hj2)).2.1
        have e : of + l.toNat * sz + (i * sz + j) = of + ((l.toNat + i) * sz + j) := by rw [Nat.add_mul]; omega
        simp only [e]
        exact this
  · simp [execOp, hop, g1, Instr.sliceAt, Instr.slice, run_underlying T.und, T.size, run_sliceBounds (hs.lo hl) (hs.hi hh) h0 h1 (Int.le_trans h2 (by exact_mod_cast g2))]

theorem pv_slice_arr {t e sz : Nat} {x : Operand} {lo hi : Option Operand} {s : Nat} {xs : List (List D)} {l h : Int} [T : TSl P t e sz] (hop : o.op = .slice t x lo hi none) (hx : σ.get x = some (.d (.arr sz xs)))
    (hl : loOk σ lo l) (hh : hiOk σ hi xs.length h) (h0 : 0 ≤ l) (h1 : l ≤ h) (h2 : h ≤ xs.length) : Pv P Γ σ o (.d (.arr sz ((xs.drop l.toNat).take (h.toNat - l.toNat)))) :=
  pv_slice_rel (s := s) hop (fun B ok a w hs => hs.eval hx) hl hh h0 h1 h2

/-! ### Tuples, closures -/
theorem RelTs.get {B : Nat → Option Bd} {ok : Nat → Prop} {w : World} : ∀ {as : List AV} {vs : List Value}, RelTs B ok w as vs → ∀ {i : Nat} {a : AV}, as[i]? = some a → ∃ v, vs[i]? = some v ∧ RelA B ok w a v
  | [], _, _, i, a, ha => by simp at ha
  | b :: as, vs, h, 0, a, ha => by
    obtain ⟨v, vs', rfl, h3, h4⟩ := h
    simp only [List.getElem?_cons_zero, Option.some.injEq] at ha
    subst ha
    exact ⟨v, rfl, h3⟩
  | b :: as, vs, h, i + 1, a, ha => by
    obtain ⟨v, vs', rfl, h3, h4⟩ := h
    simp only [List.getElem?_cons_succ] at ha ⊢
    exact RelTs.get h4 ha

theorem pv_extract {x : Operand} {i : Nat} {cs : List AV} {av : AV} (hop : o.op = .extract x i) (hx : σ.get x = some (.tup cs)) (hc : cs[i]? = some av) : Pv P Γ σ o av := by
  intro B ok a w hs
  obtain ⟨vs, h1, h2⟩ := hs.eval hx
  obtain ⟨v, h3, h4⟩ := h2.get hc
  refine ⟨v, h4, fun w' _ => ?_⟩
  simp [execOp, hop, h1, Instr.extract, h3]

def gets (σ : S) : List Operand → Option (List AV)
  | [] => some []
  | x :: xs => match σ.get x, gets σ xs with
    | some a, some as => some (a :: as)
    | _, _ => none

theorem StB.evals {B : Nat → Option Bd} {ok : Nat → Prop} {a : Act} {w : World} (h : StB Γ B ok σ a w) : ∀ {xs : List Operand} {as : List AV}, gets σ xs = some as → RelTs B ok w as (xs.map a.eval)
  | [], as, hx => by cases hx; rfl
  | x :: xs, as, hx => by
    unfold gets at hx
    split at hx
    · rename_i b bs h1 h2
      cases hx
      exact ⟨_, _, rfl, h.eval h1, h.evals h2⟩
    · cases hx

theorem pv_makeFunc {f : FuncId} {caps : List Operand} {as : List AV} (hop : o.op = .makeFunc (.func f) #[] caps.toArray) (hx : gets σ caps = some as) : Pv P Γ σ o (.clo f as) := by
  intro B ok a w hs
  refine ⟨_, ⟨_, rfl, hs.evals hx⟩, fun w' _ => ?_⟩
  simp [execOp, hop, Instr.makeFunc]
end
end Go.Proofs.YthjmmofafpahhaaGreat.Sx
