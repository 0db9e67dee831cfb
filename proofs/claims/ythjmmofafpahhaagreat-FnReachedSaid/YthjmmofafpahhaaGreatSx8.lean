/- The symbolic layer: what an operation does, computed. Program-independent. -/
import Derived.Test.YthjmmofafpahhaaGreatSx6
namespace Go.Proofs.YthjmmofafpahhaaGreat.Sx
open Go Go.RowKit
set_option linter.unusedVariables false
set_option linter.unusedSimpArgs false

/-! ### The tables of a program -/
structure Tab where
  agg : List (Nat × Nat)
  one : List (Nat × Unit)
  sl : List (Nat × (Nat × Nat))
  str : List (Nat × Unit)
  bool : List (Nat × Unit)
  int : List (Nat × IntKind)
  fld : List (Nat × List (Nat × (Nat × Nat × Bool)))
  zero : List (Nat × Value)
  size : List (Nat × Nat)
  el : List (Nat × (Nat × Nat))
  noint : List (Nat × Unit)
  call : List (Nat × Unit)
  bld : List (Nat × (List Value × List (Nat × Nat)))
  map : List (Nat × Nat)
  sort : List (Nat × Unit)
  ins : List (Nat × Nat)
  wrap : Bool

def AllP {α : Type} (p : Nat → α → Prop) : List (Nat × α) → Prop
  | [] => True
  | (k, v) :: t => p k v ∧ AllP p t
theorem AllP.get {α : Type} {p : Nat → α → Prop} : ∀ {l : List (Nat × α)}, AllP p l → ∀ {k : Nat} {v : α}, lk l k = some v → p k v
  | [], _, k, v, h => by cases h
  | (k', v') :: t, ha, k, v, h => by
    unfold lk at h
    cases hb : Nat.beq k' k with
    | true =>
      rw [hb] at h
      simp only [cond_true, Option.some.injEq] at h
      have := Nat.eq_of_beq_eq_true hb
      subst this
      subst h
      exact ha.1
    | false =>
      rw [hb] at h
      exact AllP.get ha.2 h

class TBool (P : Program) (t : Nat) : Prop where
  und : P.underlying t = some .bool
class TF (P : Program) (t f : Nat) (x : Nat × Nat × Bool) : Prop where
  a : TFld P t f x.1
  b : TPart P t f x.1 x.2.1 x.2.2

/-- A row in order. -/
def sortI (ws : List Int) : List Int := ws.mergeSort fun x y => decide (x ≤ y)
/-- A function that puts a row in order where it lies. -/
class TSort (P : Program) (f : Nat) : Prop where
  empty : ∀ (p : Option Addr) (cap : Nat) (w : World), Calls P f #[.slice p 0 cap] w fun r w' => r = .returned (.tuple #[]) ∧ w' = w
  full : ∀ (b off cap : Nat) (zs : List Int) (w : World) (arr : Array Value) (e : TypeId), w.heap[b]? = some (.cells arr e (0, 0)) → (∀ j x, zs[j]? = some x → arr[off + j]? = some (.int .i64 x)) → zs.length < 4611686018427387904 →
    Calls P f #[.slice (some ⟨b, off, none⟩) zs.length cap] w fun r w' => r = .returned (.tuple #[]) ∧ ∃ arr', Keeps (fun k => k = b) w w' ∧ w'.heap[b]? = some (.cells arr' e (0, 0)) ∧ arr'.size = arr.size ∧ ∀ j x, (sortI zs)[j]? = some x → arr'[off + j]? = some (.int .i64 x)
/-- A function that puts one more into a row. -/
class TIns (P : Program) (f e : Nat) : Prop where
  call : ∀ (A : Option Addr) (n c i vb voff vc : Nat) (cs : List Int) (x : Int) (w : World) (varr : Array Value) (ve : TypeId),
    w.heap[vb]? = some (.cells varr ve (0, 0)) → varr[voff]? = some (.int .i64 x) → cs.length = n → i ≤ n → n + 1 ≤ 1000000000000 → n ≤ c → c ≤ maxLen → (A = none → n = 0 ∧ c = 0) →
    (∀ a, A = some a → ∃ b off arr, a = ⟨b, off, none⟩ ∧ b ≠ vb ∧ w.heap[b]? = some (.cells arr e (0, 0)) ∧ off + c ≤ arr.size ∧ ∀ j y, cs[j]? = some y → arr[off + j]? = some (.int .i64 y)) →
    Calls P f #[.slice A n c, .int .i64 i, .slice (some ⟨vb, voff, none⟩) 1 vc] w fun r w' => ∃ b' off' c' arr', r = .returned (.slice (some ⟨b', off', none⟩) (n + 1) c') ∧ Keeps (fun k => ∃ a, A = some a ∧ k = a.block) w w' ∧
      w'.heap[b']? = some (.cells arr' e (0, 0)) ∧ off' + c' ≤ arr'.size ∧ n + 1 ≤ c' ∧ c' ≤ maxLen ∧ ((∃ a, A = some a ∧ b' = a.block) ∨ w.heap.size ≤ b') ∧ ∀ j y, (cs.take i ++ x :: cs.drop i)[j]? = some y → arr'[off' + j]? = some (.int .i64 y)
structure TabOk (P : Program) (T : Tab) : Prop where
  agg : AllP (fun t n => TAgg P t n) T.agg
  one : AllP (fun t _ => TOne P t) T.one
  sl : AllP (fun t x => TSl P t x.1 x.2) T.sl
  str : AllP (fun t _ => TStr P t) T.str
  bool : AllP (fun t _ => TBool P t) T.bool
  int : AllP (fun t k => TInt P t k) T.int
  fld : AllP (fun t fs => AllP (fun f x => TF P t f x) fs) T.fld
  zero : AllP (fun t z => TZero P t z) T.zero
  size : AllP (fun t n => TSize P t n) T.size
  el : AllP (fun t x => TEl P t x.1 x.2) T.el
  noint : AllP (fun t _ => TNoInt P t) T.noint
  call : AllP (fun t _ => TCall P t) T.call
  bld : AllP (fun t x => TBld P t x.1 x.2) T.bld
  map : AllP (fun t e => TMap P t e) T.map
  sort : AllP (fun f _ => TSort P f) T.sort
  ins : AllP (fun f e => TIns P f e) T.ins

def condOk : Option Prop → Prop
  | none => True
  | some p => p

/-! ### Reading operations -/
def getB : AV → Option Prop
  | .bl b => some (b = true)
  | .pr p => some p
  | .d (.c (.bool b)) => some (b = true)
  | _ => none

def binF (T : Tab) (b : BinOp) (t : TypeId) : AV → AV → Option (Option Prop × AV)
  | .d (.c (.int k m)), .d (.c (.int k' n)) =>
    match b with
    | .shr => match k, k', n with
      | .i64, .u64, .ofNat 3 => some (none, iv (m / 8))
      | .i64, .u64, .ofNat j => bif Nat.ble j 63 then some (none, iv (m / 2 ^ j)) else none
      | .u64, .u64, .ofNat j => bif Nat.ble j 63 then some (none, .d (.c (.int .u64 (m / 2 ^ j)))) else none
      | _, _, _ => none
    | _ => if k = k' then
      match b with
      | .add => match T.wrap, k with
        | false, .i64 => some (some (i64ok (m + n)), iv (m + n))
        | _, k => some (none, .d (.c (.int k (k.wrap (m + n)))))
      | .sub => match T.wrap, k with
        | false, .i64 => some (some (i64ok (m - n)), iv (m - n))
        | _, k => some (none, .d (.c (.int k (k.wrap (m - n)))))
      | .mul => match T.wrap, k with
        | false, .i64 => some (some (i64ok (m * n)), iv (m * n))
        | _, k => some (none, .d (.c (.int k (k.wrap (m * n)))))
      | .xor => some (none, .d (.c (.int k (xorI k m n))))
      | .quo => match k with
        | .i64 => some (some ((0 ≤ m ∧ m ≤ 9223372036854775807) ∧ 1 ≤ n), iv (m / n))
        | _ => none
      | .rem => some (some (0 ≤ m ∧ n ≠ 0), .d (.c (.int k (m % n))))
      | .and => match k, n with
        | .i64, .ofNat 7 => some (none, iv (m % 8))
        | .i64, .ofNat 255 => some (none, iv (m % 256))
        | .i64, .ofNat 1073741823 => some (none, iv (m % 1073741824))
        | .i64, .ofNat 4294967295 => some (none, iv (m % 4294967296))
        | _, _ => none
      | .eql => some (none, .pr (m = n))
      | .neq => some (none, .pr (m ≠ n))
      | .lss => some (none, .pr (m < n))
      | .leq => some (none, .pr (m ≤ n))
      | .gtr => some (none, .pr (n < m))
      | .geq => some (none, .pr (n ≤ m))
      | _ => none
      else none
  | .d (.c (.string m)), .d (.c (.string n)) =>
    match b with
    | .eql => some (none, .pr (m = n))
    | .neq => some (none, .pr (m ≠ n))
    | .add => some (some (m.size + n.size ≤ 9223372036854775807), sv (m ++ n))
    | _ => none
  | x, y =>
    match getB x, getB y, lk T.bool t, b with
    | some p, some q, some _, .eql => some (none, .pr (p ↔ q))
    | some p, some q, some _, .neq => some (none, .pr (¬ (p ↔ q)))
    | _, _, _, _ => none

def notF : AV → Option AV
  | .bl b => some (.bl (!b))
  | .pr p => some (.pr (¬ p))
  | .d (.c (.bool b)) => some (.pr (¬ (b = true)))
  | _ => none

def convF (T : Tab) (s d : TypeId) : AV → Option (Option Prop × AV)
  | .d (.c (.int k m)) => match lk T.int s, lk T.int d with
    | some k1, some k2 => if k1 = k then
        match k1, k2 with
        | .u8, .i64 => some (some (0 ≤ m ∧ m < 256), iv m)
        | .i64, .i64 => some (some (i64ok m), iv m)
        | _, k2 => some (none, .d (.c (.int k2 (k2.wrap m))))
      else none
    | _, _ => none
  | _ => none

def loadF (T : Tab) (σ : S) (t : TypeId) : AV → Option AV
  | .ptr id off => match lk σ.heap id with
    | some (.cells ty cs) => match lk T.one t with
      | some _ => cs[off]?
      | none => match lk T.agg t with
        | some n => bif Nat.beq ((cs.drop off).take n).length n then some (.agg ((cs.drop off).take n)) else none
        | none => none
    | _ => none
  | .tp q ws i => match lk T.one t with
    | some _ => some (tvA q (ws.getD i q.dflt))
    | none => none
  | .wp id ver i 0 => match lk σ.heap id, lk T.one t with
    | some (.trow q e ver' ws), some _ => bif Nat.beq ver' ver then some (tvA q (ws.getD i q.dflt)) else none
    | _, _ => none
  | _ => none

def fldF (T : Tab) (t f : Nat) : Option (Nat × Nat × Bool) := match lk T.fld t with
  | some fs => lk fs f
  | none => none

def fieldAddrF (T : Tab) (σ : S) (t f : Nat) : AV → Option AV
  | .ptr id off => match fldF T t f, lk σ.heap id with
    | some (d, _, _), some (.cells _ _) => some (.ptr id (off + d))
    | _, _ => none
  | .rp sz xs i j => match fldF T t f with
    | some (d, _, _) => some (.rp sz xs i (j + d))
    | none => none
  | _ => none

def fieldF (T : Tab) (t f : Nat) : AV → Option AV
  | .agg cs => match fldF T t f with
    | some (d, n, true) => some (.agg ((cs.drop d).take n))
    | some (d, n, false) => cs[d]?
    | none => none
  | _ => none

def nilF (σ : S) : AV → Option AV
  | .ptr id off => match lk σ.heap id with
    | some (.cells _ _) => some (.ptr id off)
    | _ => none
  | _ => none

def lenF (T : Tab) (σ : S) (t : TypeId) : AV → Option AV
  | .d (.tv q ws) => match lk T.sl t with
    | some _ => some (iv ws.length)
    | none => none
  | .d (.arr sz xs) => match lk T.sl t with
    | some _ => some (iv xs.length)
    | none => none
  | .d (.c (.string s)) => match lk T.str t with
    | some _ => some (iv s.size)
    | none => none
  | .d (.c (.slice none 0 0)) => match lk T.sl t with
    | some _ => some (iv 0)
    | none => none
  | .row id ver => match lk T.sl t, lk σ.heap id with
    | some _, some (.trow _ _ ver' ws) => bif Nat.beq ver' ver then some (iv ws.length) else none
    | some _, some (.row _ _ ver' xs) => bif Nat.beq ver' ver then some (iv xs.length) else none
    | _, _ => none
  | _ => none

def indexF (T : Tab) (σ : S) (t : TypeId) : AV → AV → Option (Option Prop × AV)
  | .d (.tv q ws), .d (.c (.int k i)) => match lk T.sl t with
    | some (e, 1) => some (some (0 ≤ i ∧ i < ws.length), .tp q ws i.toNat)
    | _ => none
  | .d (.arr sz xs), .d (.c (.int k i)) => match lk T.sl t with
    | some (e, sz') => bif Nat.beq sz' sz then some (some (0 ≤ i ∧ i < xs.length), .rp sz xs i.toNat 0) else none
    | _ => none
  | .row id ver, .d (.c (.int k i)) => match lk T.sl t, lk σ.heap id with
    | some (e, 1), some (.trow _ _ ver' ws) => bif Nat.beq ver' ver then some (some (0 ≤ i ∧ i < ws.length), .wp id ver i.toNat 0) else none
    | _, _ => none
  | _, _ => none

def loF (σ : S) : Option Operand → Option Int
  | none => some 0
  | some y => match σ.get y with
    | some (.d (.c (.int .i64 l))) => some l
    | _ => none
def hiF (σ : S) (n : Int) : Option Operand → Option Int
  | none => some n
  | some y => match σ.get y with
    | some (.d (.c (.int .i64 l))) => some l
    | _ => none

/-- A byte of a text. -/
def bget (s : ByteArray) (i : Nat) : Int := (((s.data.toList[i]?).getD 0).toNat : Int)
def isSomeO : Option Operand → Bool
  | none => false
  | some _ => true
def minF : AV → AV → Option AV
  | .d (.c (.int k m)), .d (.c (.int k' n)) => if k = k' then some (.d (.c (.int k (min m n)))) else none
  | _, _ => none
def capF (T : Tab) (t : TypeId) : AV → Option AV
  | .d (.c (.slice none 0 0)) => match lk T.sl t with
    | some _ => some (iv 0)
    | none => none
  | _ => none
def buildF (T : Tab) (σ : S) (t : TypeId) (ps : List (Nat × Operand)) : Option AV := match lk T.bld t, getsP σ ps with
  | some (z, places), some qs => bif z.all (·.oneCell') then match fillA places (z.map fun v => .d (.c v)) qs with
    | some r => some (.agg r)
    | none => none
    else none
  | _, _ => none
def strAtF (T : Tab) (t : TypeId) : AV → AV → Option (Option Prop × AV)
  | .d (.c (.string s)), .d (.c (.int k i)) => match lk T.str t with
    | some _ => some (some (0 ≤ i ∧ i < s.size), u8v (bget s i.toNat))
    | none => none
  | _, _ => none
def lookupF (T : Tab) (σ : S) (t : TypeId) : AV → AV → Option AV
  | .mp id, .d (.c (.int .i64 k)) => match lk T.map t, lk σ.heap id with
    | some e, some (.imap q es) => match lk T.zero e with
      | some z => bif zeroK q z then some (tvA q (mget q.dflt es k)) else none
      | none => none
    | _, _ => none
  | _, _ => none
def sliceF (T : Tab) (σ : S) (t : TypeId) (lo hi : Option Operand) : AV → Option (Option Prop × AV)
  | .d (.tv q ws) => match lk T.sl t, loF σ lo, hiF σ ws.length hi with
    | some (e, 1), some l, some h => some (some (0 ≤ l ∧ l ≤ h ∧ h ≤ ws.length), .d (.tv q ((ws.drop l.toNat).take (h.toNat - l.toNat))))
    | _, _, _ => none
  | .d (.arr sz xs) => match lk T.sl t, loF σ lo, hiF σ xs.length hi with
    | some (e, sz'), some l, some h => bif Nat.beq sz' sz then some (some (0 ≤ l ∧ l ≤ h ∧ h ≤ xs.length), .d (.arr sz ((xs.drop l.toNat).take (h.toNat - l.toNat)))) else none
    | _, _, _ => none
  | .d (.c (.string s)) => match lk T.str t, loF σ lo, hiF σ s.size hi with
    | some _, some l, some h => some (some (0 ≤ l ∧ l ≤ h ∧ h ≤ s.size), sv (cutS s l.toNat h.toNat))
    | _, _, _ => none
  | .d (.c (.slice none 0 0)) => match lk T.sl t, loF σ lo, hiF σ 0 hi with
    | some (e, sz), some l, some h => some (some (0 ≤ l ∧ l ≤ h ∧ h ≤ 0), .d (.c (.slice none 0 0)))
    | _, _, _ => none
  | .row id ver => match lk σ.heap id with
    | some (.trow q e ver' ws) => match lk T.sl t, loF σ lo, hiF σ ws.length hi with
      | some (e', 1), some l, some h => bif Nat.beq ver' ver && (isSomeO lo && isSomeO hi) then some (some (0 ≤ l ∧ l ≤ h ∧ h ≤ ws.length), .rowv id ver l.toNat (h.toNat - l.toNat)) else none
      | _, _, _ => none
    | _ => none
  | _ => none

def pureF (T : Tab) (σ : S) : Op → Option (Option Prop × AV)
  | .move x => match σ.get x with
    | some av => some (none, av)
    | none => none
  | .assign x => match σ.get x with
    | some av => some (none, av)
    | none => none
  | .pick c x y => match σ.get c with
    | some (.bl true) => match σ.get x with
      | some av => some (none, av)
      | none => none
    | some (.bl false) => match σ.get y with
      | some av => some (none, av)
      | none => none
    | _ => none
  | .binOp b t x y t' => match σ.get x, σ.get y with
    | some u, some v => binF T b t u v
    | _, _ => none
  | .unOp .not t x => match σ.get x with
    | some u => match notF u with
      | some av => some (none, av)
      | none => none
    | none => none
  | .unOp .neg t x => match σ.get x with
    | some (.d (.c (.int .i64 m))) => some (some (i64ok (-m)), iv (-m))
    | _ => none
  | .convert s d x => match σ.get x with
    | some u => convF T s d u
    | none => none
  | .load t x => match σ.get x with
    | some u => match loadF T σ t u with
      | some av => some (none, av)
      | none => none
    | none => none
  | .fieldAddr t x f => match σ.get x with
    | some u => match fieldAddrF T σ t f u with
      | some av => some (none, av)
      | none => none
    | none => none
  | .field t x f => match σ.get x with
    | some u => match fieldF T t f u with
      | some av => some (none, av)
      | none => none
    | none => none
  | .nilCheck x => match σ.get x with
    | some u => match nilF σ u with
      | some av => some (none, av)
      | none => none
    | none => none
  | .call { callee := .builtin .len, args := ⟨[x]⟩, argTypes := ⟨[t]⟩ } => match σ.get x with
    | some u => match lenF T σ t u with
      | some av => some (none, av)
      | none => none
    | none => none
  | .indexAddr t x ix => match σ.get x, σ.get ix with
    | some u, some v => indexF T σ t u v
    | _, _ => none
  | .slice t x lo hi none => match σ.get x with
    | some u => sliceF T σ t lo hi u
    | none => none
  | .extract x i => match σ.get x with
    | some (.tup cs) => match cs[i]? with
      | some av => some (none, av)
      | none => none
    | _ => none
  | .makeFunc (.func f) ⟨[]⟩ ⟨caps⟩ => match gets σ caps with
    | some as => some (none, .clo f as)
    | none => none
  | .call { callee := .builtin .min, args := ⟨[x, y]⟩, argTypes := _ } => match σ.get x, σ.get y with
    | some u, some v => match minF u v with
      | some av => some (none, av)
      | none => none
    | _, _ => none
  | .call { callee := .builtin .cap, args := ⟨[x]⟩, argTypes := ⟨[t]⟩ } => match σ.get x with
    | some u => match capF T t u with
      | some av => some (none, av)
      | none => none
    | none => none
  | .build t ⟨ps⟩ => match buildF T σ t ps with
    | some av => some (none, av)
    | none => none
  | .index t x ix => match σ.get x, σ.get ix with
    | some u, some v => strAtF T t u v
    | _, _ => none
  | .makeInterface t _ => match lk T.str t with
    | some _ => some (none, .any)
    | none => none
  | .lookup t x y false => match σ.get x, σ.get y with
    | some u, some v => match lookupF T σ t u v with
      | some av => some (none, av)
      | none => none
    | _, _ => none
  | _ => none

section
variable {P : Program} {Γ : Ctx} {σ : S} {o : Oper} {K : S → Prop} {T : Tab}

theorem evalB {B : Nat → Option Bd} {ok : Nat → Prop} {w : World} {av : AV} {p : Prop} {v : Value} (h : getB av = some p) (hr : RelA B ok w av v) : ∃ b : Bool, v = .bool b ∧ (b = true ↔ p) := by
  cases av with
  | bl b => cases h; cases hr; exact ⟨b, rfl, Iff.rfl⟩
  | pr p => cases h; exact hr
  | d x =>
    cases x with
    | c u =>
      cases u with
      | bool b => cases h; cases hr; exact ⟨b, rfl, Iff.rfl⟩
      | _ => cases h
    | _ => cases h
  | _ => cases h

theorem bin_bool {b : BinOp} {t t' : TypeId} {x y : Operand} {u v : AV} {p q r : Prop} (hop : o.op = .binOp b t x y t') (hx : σ.get x = some u) (hy : σ.get y = some v) (hp : getB u = some p) (hq : getB v = some q) (tb : TBool P t)
    (hr : (b = .eql ∧ r = (p ↔ q)) ∨ (b = .neq ∧ r = ¬ (p ↔ q))) : Pv P Γ σ o (.pr r) := by
  intro B ok a w hs
  obtain ⟨m, h1, h2⟩ := evalB hp (hs.eval hx)
  obtain ⟨n, h3, h4⟩ := evalB hq (hs.eval hy)
  rcases hr with ⟨rfl, rfl⟩ | ⟨rfl, rfl⟩
  · refine ⟨.bool (m == n), ⟨_, rfl, ?_⟩, fun w' _ => ?_⟩
    · rw [← h2, ← h4]; cases m <;> cases n <;> simp
    · simp only [execOp, hop, h1, h3, Sem.run_bind, eqGuard_bb, Result.andThen_ok, binOp]
      simp [run_equal_bool w' t m n tb.und]
  · refine ⟨.bool (m != n), ⟨_, rfl, ?_⟩, fun w' _ => ?_⟩
    · rw [← h2, ← h4]; cases m <;> cases n <;> simp
    · simp only [execOp, hop, h1, h3, Sem.run_bind, eqGuard_bb, Result.andThen_ok, binOp]
      simp [run_equal_bool w' t m n tb.und, bne]

theorem binF_ok (H : TabOk P T) {b : BinOp} {t t' : TypeId} {x y : Operand} {u v : AV} {c : Option Prop} {av : AV} (hop : o.op = .binOp b t x y t') (hx : σ.get x = some u) (hy : σ.get y = some v) (h : binF T b t u v = some (c, av)) (hc : condOk c) : Pv P Γ σ o av := by
  unfold binF at h
  split at h
  · rename_i k m k' n
    split at h
    · split at h
      · cases h; exact pv_shr3 hop hx hy
      · rename_i j _
        cases hb : Nat.ble j 63 with
        | true => rw [hb] at h; cases h; exact pv_shrn j (Nat.le_of_ble_eq_true hb) hop hx hy
        | false => rw [hb] at h; cases h
      · rename_i j
        cases hb : Nat.ble j 63 with
        | true => rw [hb] at h; cases h; exact pv_shrnu j (Nat.le_of_ble_eq_true hb) hop hx hy
        | false => rw [hb] at h; cases h
      · cases h
    · split at h
      · rename_i hk
        subst hk
        split at h
        · split at h
          · cases h; exact pv_add hop hx hy hc
          · cases h; exact pv_addw hop hx hy
        · split at h
          · cases h; exact pv_sub hop hx hy hc
          · cases h; exact pv_subw hop hx hy
        · split at h
          · cases h; exact pv_mul hop hx hy hc
          · cases h; exact pv_mulw hop hx hy
        · cases h; exact pv_xor hop hx hy
        · split at h
          · cases h; exact pv_quo hop hx hy hc.1 hc.2
          · cases h
        · cases h; exact pv_rem hop hx hy hc.1 hc.2
        · split at h
          · cases h; exact pv_and7 hop hx hy
          · cases h; exact pv_andm 8 (by decide) hop hx hy
          · cases h; exact pv_andm 30 (by decide) hop hx hy
          · cases h; exact pv_andm 32 (by decide) hop hx hy
          · cases h
        · cases h; exact pv_eql hop hx hy
        · cases h; exact pv_neq hop hx hy
        · cases h; exact pv_lss hop hx hy
        · cases h; exact pv_leq hop hx hy
        · cases h; exact pv_gtr hop hx hy
        · cases h; exact pv_geq hop hx hy
        · cases h
      · cases h
  · split at h
    · cases h; exact pv_str_eql hop hx hy
    · cases h; exact pv_str_neq hop hx hy
    · cases h; exact pv_str_add hop hx hy hc
    · cases h
  · split at h
    · rename_i p q _ h1 h2 h3
      cases h; exact bin_bool hop hx hy h1 h2 (H.bool.get h3) (.inl ⟨rfl, rfl⟩)
    · rename_i p q _ h1 h2 h3
      cases h; exact bin_bool hop hx hy h1 h2 (H.bool.get h3) (.inr ⟨rfl, rfl⟩)
    · cases h

theorem notF_ok {t : TypeId} {x : Operand} {u av : AV} (hop : o.op = .unOp .not t x) (hx : σ.get x = some u) (h : notF u = some av) : Pv P Γ σ o av := by
  unfold notF at h
  split at h
  · cases h; exact pv_not_bl hop hx
  · cases h; exact pv_not_pr hop hx
  · cases h
    intro B ok a w hs
    have := hs.evalc hx
    rename_i b
    refine ⟨.bool (!b), ⟨_, rfl, ?_⟩, fun w' _ => by simp [execOp, hop, this, Op.unary]⟩
    cases b <;> simp
  · cases h

theorem wrap_i64 {m : Int} (h : i64ok m) : IntKind.i64.wrap m = m := IntWalk.i64_in _ h
theorem convF_ok (H : TabOk P T) {s d : TypeId} {x : Operand} {u : AV} {c : Option Prop} {av : AV} (hop : o.op = .convert s d x) (hx : σ.get x = some u) (h : convF T s d u = some (c, av)) (hc : condOk c) : Pv P Γ σ o av := by
  unfold convF at h
  split at h
  · rename_i k m
    split at h
    · rename_i k1 k2 h1 h2
      split at h
      · rename_i hk
        subst hk
        have i1 := H.int.get h1
        have i2 := H.int.get h2
        have key := @pv_conv_int P Γ σ o s d x k1 m k2 i2 i1 hop hx
        split at h
        · cases h
          rw [wrap_i64 ⟨by have := hc.1; omega, by have := hc.2; omega⟩] at key
          exact key
        · cases h
          rw [wrap_i64 hc] at key
          exact key
        · cases h; exact key
      · cases h
    · cases h
  · cases h

theorem loadF_ok (H : TabOk P T) {t : TypeId} {x : Operand} {u av : AV} (hop : o.op = .load t x) (hx : σ.get x = some u) (h : loadF T σ t u = some av) : Pv P Γ σ o av := by
  unfold loadF at h
  split at h
  · split at h
    · rename_i hh
      split at h
      · rename_i h1
        have := H.one.get h1
        exact pv_load hop hx hh h
      · split at h
        · rename_i n h1
          have := H.agg.get h1
          cases hb : Nat.beq (((_ : List AV).drop _).take n).length n with
          | true =>
            rw [hb] at h
            cases h
            exact pv_load_agg hop hx hh rfl (Nat.eq_of_beq_eq_true hb)
          | false => rw [hb] at h; cases h
        · cases h
    · cases h
  · split at h
    · rename_i h1
      cases h
      have := H.one.get h1
      exact pv_load_ints hop hx
    · cases h
  · rename_i id ver i
    split at h
    · rename_i q e ver' ws _ hh h1
      have := H.one.get h1
      cases hb : Nat.beq ver' ver with
      | true =>
        rw [hb] at h
        cases h
        have := Nat.eq_of_beq_eq_true hb
        subst this
        exact pv_loadr_ints hop hx hh
      | false => rw [hb] at h; cases h
    · cases h
  · cases h

theorem fldF_ok (H : TabOk P T) {t f : Nat} {x : Nat × Nat × Bool} (h : fldF T t f = some x) : TF P t f x := by
  unfold fldF at h
  split at h
  · rename_i h1
    exact (H.fld.get h1).get h
  · cases h
theorem fieldAddrF_ok (H : TabOk P T) {t f : Nat} {x : Operand} {u av : AV} (hop : o.op = .fieldAddr t x f) (hx : σ.get x = some u) (h : fieldAddrF T σ t f u = some av) : Pv P Γ σ o av := by
  unfold fieldAddrF at h
  split at h
  · split at h
    · rename_i h1 hh
      cases h
      have := (fldF_ok H h1).a
      exact pv_fieldAddr hop hx hh
    · cases h
  · split at h
    · rename_i h1
      cases h
      have := (fldF_ok H h1).a
      exact pv_fieldAddr_rp hop hx
    · cases h
  · cases h
theorem fieldF_ok (H : TabOk P T) {t f : Nat} {x : Operand} {u av : AV} (hop : o.op = .field t x f) (hx : σ.get x = some u) (h : fieldF T t f u = some av) : Pv P Γ σ o av := by
  unfold fieldF at h
  split at h
  · split at h
    · rename_i h1
      have := (fldF_ok H h1).b
      exact pv_field hop hx (by simpa using h)
    · rename_i h1
      have := (fldF_ok H h1).b
      exact pv_field hop hx (by simpa using h)
    · cases h
  · cases h
theorem nilF_ok {x : Operand} {u av : AV} (hop : o.op = .nilCheck x) (hx : σ.get x = some u) (h : nilF σ u = some av) : Pv P Γ σ o av := by
  unfold nilF at h
  split at h
  · split at h
    · rename_i hh
      cases h
      exact pv_nilCheck hop hx hh
    · cases h
  · cases h
theorem lenF_ok (H : TabOk P T) {t : TypeId} {x : Operand} {u av : AV} (hop : o.op = .call { callee := .builtin .len, args := #[x], argTypes := #[t] }) (hx : σ.get x = some u) (h : lenF T σ t u = some av) : Pv P Γ σ o av := by
  unfold lenF at h
  split at h
  · split at h
    · rename_i h1; cases h; have := H.sl.get h1; exact pv_len_ints hop hx
    · cases h
  · split at h
    · rename_i h1; cases h; have := H.sl.get h1; exact pv_len_arr hop hx
    · cases h
  · split at h
    · rename_i h1; cases h; have := H.str.get h1; exact pv_len_str hop hx
    · cases h
  · split at h
    · rename_i h1; cases h; have := H.sl.get h1; exact pv_len_nil hop hx
    · cases h
  · rename_i id ver
    split at h
    · rename_i _ _ ver' ws h1 hh
      have := H.sl.get h1
      cases hb : Nat.beq ver' ver with
      | true =>
        rw [hb] at h; cases h
        have := Nat.eq_of_beq_eq_true hb
        subst this
        exact pv_lenr_ints hop hx hh
      | false => rw [hb] at h; cases h
    · rename_i ver' xs h1 hh
      have := H.sl.get h1
      cases hb : Nat.beq ver' ver with
      | true =>
        rw [hb] at h; cases h
        have := Nat.eq_of_beq_eq_true hb
        subst this
        exact pv_len_row hop hx hh
      | false => rw [hb] at h; cases h
    · cases h
  · cases h
theorem indexF_ok (H : TabOk P T) {t : TypeId} {x ix : Operand} {u v : AV} {c : Option Prop} {av : AV} (hop : o.op = .indexAddr t x ix) (hx : σ.get x = some u) (hy : σ.get ix = some v) (h : indexF T σ t u v = some (c, av)) (hc : condOk c) : Pv P Γ σ o av := by
  unfold indexF at h
  split at h
  · split at h
    · rename_i h1; cases h
      have := H.sl.get h1
      exact pv_index_ints hop hx hy hc.1 hc.2
    · cases h
  · rename_i sz xs k i
    split at h
    · rename_i e sz' h1
      have := H.sl.get h1
      cases hb : Nat.beq sz' sz with
      | true =>
        rw [hb] at h; cases h
        have := Nat.eq_of_beq_eq_true hb
        subst this
        exact pv_index_arr (s := 0) hop hx hy hc.1 hc.2
      | false => rw [hb] at h; cases h
    · cases h
  · rename_i id ver k i
    split at h
    · rename_i e _ _ ver' ws h1 hh
      have := H.sl.get h1
      cases hb : Nat.beq ver' ver with
      | true =>
        rw [hb] at h; cases h
        have := Nat.eq_of_beq_eq_true hb
        subst this
        exact pv_indexr_ints hop hx hh hy hc.1 hc.2
      | false => rw [hb] at h; cases h
    · cases h
  · cases h
theorem loF_ok {lo : Option Operand} {l : Int} (h : loF σ lo = some l) : loOk σ lo l := by
  unfold loF at h
  split at h
  · cases h; rfl
  · split at h
    · rename_i h1; cases h; exact h1
    · cases h
theorem hiF_ok {hi : Option Operand} {n : Nat} {l : Int} (h : hiF σ n hi = some l) : hiOk σ hi n l := by
  unfold hiF at h
  split at h
  · cases h; rfl
  · split at h
    · rename_i h1; cases h; exact h1
    · cases h
theorem RelD.toInts {ok : Nat → Prop} {w : World} {q : TK} {ws : List q.ty} {v : Value} (h : RelD ok w (.arr 1 (rowsOf q ws)) v) : RelD ok w (.tv q ws) v := .tv q ws v h
theorem sliceF_ok (H : TabOk P T) {t : TypeId} {x : Operand} {lo hi : Option Operand} {u : AV} {c : Option Prop} {av : AV} (hop : o.op = .slice t x lo hi none) (hx : σ.get x = some u) (h : sliceF T σ t lo hi u = some (c, av)) (hc : condOk c) : Pv P Γ σ o av := by
  unfold sliceF at h
  split at h
  · rename_i ws
    split at h
    · rename_i e l hh h1 h2 h3
      cases h
      have := H.sl.get h1
      have hlo := loF_ok h2
      have hhi := hiF_ok h3
      have hk := pv_slice_rel (s := 0) (o := o) (P := P) (Γ := Γ) (xs := rowsOf _ _) hop (fun B ok a w hs => RelD.ofInts (hs.eval hx)) hlo (by rw [rowsOf_length]; exact hhi) hc.1 hc.2.1 (by rw [rowsOf_length]; exact hc.2.2)
      intro B ok a w hs
      obtain ⟨v, k1, k2⟩ := hk B ok a w hs
      rw [rowsOf_drop, rowsOf_take] at k1
      exact ⟨v, RelD.toInts k1, k2⟩
    · cases h
  · rename_i sz xs
    split at h
    · rename_i e sz' l hh h1 h2 h3
      have := H.sl.get h1
      cases hb : Nat.beq sz' sz with
      | true =>
        rw [hb] at h; cases h
        have := Nat.eq_of_beq_eq_true hb
        subst this
        exact pv_slice_arr (s := 0) hop hx (loF_ok h2) (hiF_ok h3) hc.1 hc.2.1 hc.2.2
      | false => rw [hb] at h; cases h
    · cases h
  · split at h
    · rename_i h1 h2 h3
      cases h
      have := H.str.get h1
      exact pv_slice_str hop hx (loF_ok h2) (hiF_ok h3) hc.1 hc.2.1 hc.2.2
    · cases h
  · split at h
    · rename_i e sz l h' h1 h2 h3
      cases h
      have := H.sl.get h1
      have h3 : hiOk σ hi 0 h' := hiF_ok (n := 0) h3
      intro B ok a w hs
      have e1 := hs.evalc hx
      have hrun := fun w' => run_slice_own (P := P) (T := this) (w := w') (A := none) (n := 0) (cap := 0) (hs.lo (loF_ok h2)) (hs.hi h3) hc.1 hc.2.1 hc.2.2
      refine ⟨.slice none 0 0, .c _ rfl, fun w' _ => ?_⟩
      have e2 : l.toNat = 0 := by obtain ⟨c1, c2, c3⟩ := hc; omega
      have e3 : h'.toNat = 0 := by obtain ⟨c1, c2, c3⟩ := hc; omega
      simp [execOp, hop, e1, hrun, e2, e3]
    · cases h
  · rename_i id ver
    split at h
    · rename_i q e ver' ws hh
      split at h
      · rename_i e' l hi' h1 h2 h3
        have := H.sl.get h1
        cases hb : (Nat.beq ver' ver && (isSomeO lo && isSomeO hi)) with
        | true =>
          rw [hb] at h; cases h
          simp only [Bool.and_eq_true] at hb
          have := Nat.eq_of_beq_eq_true hb.1
          subst this
          exact pv_slice_part hop hx hh (loF_ok h2) (hiF_ok h3) hc.1 hc.2.1 hc.2.2
        | false => rw [hb] at h; cases h
      · cases h
    · cases h
  · cases h
theorem pv_iface {t : TypeId} {x : Operand} [T : TStr P t] (hop : o.op = .makeInterface t x) : Pv P Γ σ o .any := by
  intro B ok a w hs
  exact ⟨.iface t (a.eval x), trivial, fun w' _ => by simp [execOp, hop, Instr.makeInterface, run_underlying T.und]⟩
theorem minF_ok {x y : Operand} {u v av : AV} {ts : Array TypeId} (hop : o.op = .call { callee := .builtin .min, args := #[x, y], argTypes := ts }) (hx : σ.get x = some u) (hy : σ.get y = some v) (h : minF u v = some av) : Pv P Γ σ o av := by
  unfold minF at h
  split at h
  · split at h
    · rename_i hk
      cases h
      subst hk
      exact pv_min hop hx hy
    · cases h
  · cases h
theorem capF_ok (H : TabOk P T) {t : TypeId} {x : Operand} {u av : AV} (hop : o.op = .call { callee := .builtin .cap, args := #[x], argTypes := #[t] }) (hx : σ.get x = some u) (h : capF T t u = some av) : Pv P Γ σ o av := by
  unfold capF at h
  split at h
  · split at h
    · rename_i h1
      cases h
      have := H.sl.get h1
      exact pv_cap_nil hop hx
    · cases h
  · cases h
theorem buildF_ok (H : TabOk P T) {t : TypeId} {ps : List (Nat × Operand)} {av : AV} (hop : o.op = .build t ps.toArray) (h : buildF T σ t ps = some av) : Pv P Γ σ o av := by
  unfold buildF at h
  split at h
  · rename_i z places qs h1 h2
    have := H.bld.get h1
    cases hb : z.all (·.oneCell') with
    | true =>
      rw [hb] at h
      simp only [cond_true] at h
      split at h
      · rename_i h3
        cases h
        exact pv_build hop hb h2 h3
      · cases h
    | false => rw [hb] at h; cases h
  · cases h
theorem strAtF_ok (H : TabOk P T) {t : TypeId} {x ix : Operand} {u v : AV} {c : Option Prop} {av : AV} (hop : o.op = .index t x ix) (hx : σ.get x = some u) (hy : σ.get ix = some v) (h : strAtF T t u v = some (c, av)) (hc : condOk c) : Pv P Γ σ o av := by
  unfold strAtF at h
  split at h
  · rename_i s k i
    split at h
    · rename_i h1
      cases h
      have := H.str.get h1
      obtain ⟨h2, h3⟩ := hc
      have hlt : i.toNat < s.data.toList.length := by
        have : s.data.toList.length = s.size := by rw [Array.length_toList]; rfl
        omega
      have he := List.getElem?_eq_getElem hlt
      have := pv_index_str (P := P) (Γ := Γ) hop hx hy h2 he
      rw [bget, he]
      exact this
    · cases h
  · cases h
theorem lookupF_ok (H : TabOk P T) {t : TypeId} {x y : Operand} {u v : AV} {av : AV} (hop : o.op = .lookup t x y false) (hx : σ.get x = some u) (hy : σ.get y = some v) (h : lookupF T σ t u v = some av) : Pv P Γ σ o av := by
  unfold lookupF at h
  split at h
  · split at h
    · rename_i h1 hh
      split at h
      · rename_i z h2
        have := H.map.get h1
        have := H.zero.get h2
        cases hb : zeroK _ z with
        | true => rw [hb] at h; cases h; exact pv_lookup hop hx hh hy hb
        | false => rw [hb] at h; cases h
      · cases h
    · cases h
  · cases h

/-- What a reading operation yields. -/
theorem pureF_ok (H : TabOk P T) {op : Op} (hop : o.op = op) {c : Option Prop} {av : AV} (h : pureF T σ op = some (c, av)) (hc : condOk c) : Pv P Γ σ o av := by
  unfold pureF at h
  split at h
  · split at h
    · rename_i hx; cases h; exact pv_move hop hx
    · cases h
  · split at h
    · rename_i hx; cases h; exact pv_assign hop hx
    · cases h
  · split at h
    · rename_i hcc
      split at h
      · rename_i hx; cases h; exact pv_pick_t hop hcc hx
      · cases h
    · rename_i hcc
      split at h
      · rename_i hx; cases h; exact pv_pick_f hop hcc hx
      · cases h
    · cases h
  · split at h
    · rename_i hx hy; exact binF_ok H hop hx hy h hc
    · cases h
  · split at h
    · rename_i hx
      split at h
      · rename_i h1; cases h; exact notF_ok hop hx h1
      · cases h
    · cases h
  · split at h
    · rename_i hx; cases h; exact pv_neg hop hx hc
    · cases h
  · split at h
    · rename_i hx; exact convF_ok H hop hx h hc
    · cases h
  · split at h
    · rename_i hx
      split at h
      · rename_i h1; cases h; exact loadF_ok H hop hx h1
      · cases h
    · cases h
  · split at h
    · rename_i hx
      split at h
      · rename_i h1; cases h; exact fieldAddrF_ok H hop hx h1
      · cases h
    · cases h
  · split at h
    · rename_i hx
      split at h
      · rename_i h1; cases h; exact fieldF_ok H hop hx h1
      · cases h
    · cases h
  · split at h
    · rename_i hx
      split at h
      · rename_i h1; cases h; exact nilF_ok hop hx h1
      · cases h
    · cases h
  · split at h
    · rename_i hx
      split at h
      · rename_i h1; cases h; exact lenF_ok H hop hx h1
      · cases h
    · cases h
  · split at h
    · rename_i hx hy; exact indexF_ok H hop hx hy h hc
    · cases h
  · split at h
    · rename_i hx; exact sliceF_ok H hop hx h hc
    · cases h
  · split at h
    · rename_i hx
      split at h
      · rename_i h1; cases h; exact pv_extract hop hx h1
      · cases h
    · cases h
  · split at h
    · rename_i hx; cases h; exact pv_makeFunc hop hx
    · cases h
  · split at h
    · rename_i hx hy
      split at h
      · rename_i h1; cases h; exact minF_ok hop hx hy h1
      · cases h
    · cases h
  · split at h
    · rename_i hx
      split at h
      · rename_i h1; cases h; exact capF_ok H hop hx h1
      · cases h
    · cases h
  · split at h
    · rename_i h1; cases h; exact buildF_ok H hop h1
    · cases h
  · split at h
    · rename_i hx hy; exact strAtF_ok H hop hx hy h hc
    · cases h
  · split at h
    · rename_i h1
      cases h
      have := H.str.get h1
      exact pv_iface hop
    · cases h
  · split at h
    · rename_i hx hy
      split at h
      · rename_i h1; cases h; exact lookupF_ok H hop hx hy h1
      · cases h
    · cases h
  · cases h
end
end Go.Proofs.YthjmmofafpahhaaGreat.Sx
