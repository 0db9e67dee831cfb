/- The symbolic layer: whole code, computed. Program-independent. -/
import Derived.Test.YthjmmofafpahhaaGreatSxI
namespace Go.Proofs.YthjmmofafpahhaaGreat.Sx
open Go Go.RowKit
set_option linter.unusedVariables false
set_option linter.unusedSimpArgs false

def guardTmp (all : List Oper) (j : Nat) : Option Tmp := match all[j]? with
  | some o => o.dst
  | none => none

theorem guardTmp_ok {all : List Oper} {j : Nat} {t : Tmp} (h : guardTmp all j = some t) : (all.toArray[j]?).bind (·.dst) = some t := by
  unfold guardTmp at h
  split at h
  · rename_i o h1
    simp only [List.getElem?_toArray, h1, Option.bind_some]
    exact h
  · cases h


/-! ### Tables of contracts -/
structure FE where
  c : Ct
  m : Kd.tys c.ak → (Kd.tys c.out → Prop) → Prop
abbrev FnTab := FuncId → List AV → Option FE
def FnOk (P : Program) (F : FnTab) : Prop := ∀ f as e, F f as = some e → TCall P f ∧ ∀ x K, e.m x K → SpecK P f e.c x K
/-- What is told about a body from outside: its loops (by the first region in them), the plans of its regions. -/
structure Dir where
  loop : List (Nat × LD)
  plan : List (Nat × (PI × PT))
  join : List (Nat × LD)
def keyOf : Code → Option Nat
  | .region id _ _ => some id
  | .seq a b => match keyOf a with
    | some k => some k
    | none => keyOf b
  | .cond _ a b => match keyOf a with
    | some k => some k
    | none => keyOf b
  | .block _ c => keyOf c
  | .loop c => keyOf c
  | _ => none

/-- What a piece of code is called whose ways out come together. -/
def joinKey : Code → Option Nat
  | .block i _ => some i
  | .cond _ a b => match keyOf a with
    | some k => some (k + 1000000)
    | none => match keyOf b with
      | some k => some (k + 1000000)
      | none => none
  | .region id _ true => some (id + 3000000)
  | .seq _ b => match joinKey b with
    | some k => some (k + 10000000)
    | none => none
  | _ => none
def joinD (D : List (Nat × LD)) (a : Code) : Option LD := match D with
  | [] => none
  | d :: r => match joinKey a with
    | some k => lk (d :: r) k
    | none => none
def planC (l : List Oper) (pi : PI) (t : PT) : Bool := Region.noSelect l.toArray && planT (oisOf l.toArray pi 0 l) t 0 l.length
/-! ### Values worked out before they are handed on -/
/-- A name worked out. -/
def forceN : Nat → (Nat → Prop) → Prop
  | 0, f => f 0
  | n + 1, f => forceN n fun m => f (m + 1)
theorem forceN_iff : ∀ {n : Nat} {f : Nat → Prop}, forceN n f ↔ f n
  | 0, f => Iff.rfl
  | n + 1, f => forceN_iff (n := n)
def forceV : Value → (Value → Prop) → Prop
  | .int k n, f => f (.int k n)
  | .bool b, f => f (.bool b)
  | .string s, f => f (.string s)
  | v, f => f v
def forceD : D → (D → Prop) → Prop
  | .c v, f => forceV v fun v' => f (.c v')
  | .arr sz xs, f => f (.arr sz xs)
  | .tv q ws, f => f (.tv q ws)
mutual
def forceA : AV → (AV → Prop) → Prop
  | .d x, f => forceD x fun x' => f (.d x')
  | .agg cs, f => forceAs cs fun cs' => f (.agg cs')
  | .tup cs, f => forceAs cs fun cs' => f (.tup cs')
  | .clo g cs, f => forceAs cs fun cs' => f (.clo g cs')
  | .ptr i o, f => forceN i fun i => f (.ptr i o)
  | .rp a b c d, f => f (.rp a b c d)
  | .row a b, f => forceN a fun a => forceN b fun b => f (.row a b)
  | .rowv a b c d, f => forceN a fun a => forceN b fun b => f (.rowv a b c d)
  | .wp a b c d, f => forceN a fun a => forceN b fun b => f (.wp a b c d)
  | .mp a, f => forceN a fun a => f (.mp a)
  | .bl a, f => f (.bl a)
  | .pr a, f => f (.pr a)
  | .tp q a b, f => f (.tp q a b)
  | .any, f => f .any
def forceAs : List AV → (List AV → Prop) → Prop
  | [], f => f []
  | a :: as, f => forceA a fun a' => forceAs as fun as' => f (a' :: as')
end
def forceE : List (Nat × AV) → (List (Nat × AV) → Prop) → Prop
  | [], f => f []
  | (t, a) :: r, f => forceA a fun a' => forceE r fun r' => f ((t, a') :: r')
def forceX : HE → (HE → Prop) → Prop
  | .cells ty cs, f => forceAs cs fun cs' => f (.cells ty cs')
  | .row a b c d, f => f (.row a b c d)
  | .trow q a b c, f => forceN b fun b => f (.trow q a b c)
  | .imap q a, f => f (.imap q a)
def forceH : List (Nat × HE) → (List (Nat × HE) → Prop) → Prop
  | [], f => f []
  | (i, x) :: r, f => forceN i fun i' => forceX x fun x' => forceH r fun r' => f ((i', x') :: r')
def forceS (σ : S) (f : S → Prop) : Prop := match σ with
  | ⟨e, h, n⟩ => forceN n fun n' => forceE e fun e' => forceH h fun h' => f ⟨e', h', n'⟩
def forceT (σ : S) (f : S → Prop) : Prop := match σ with
  | ⟨e, h, n⟩ => forceN n fun n' => forceH h fun h' => f ⟨e, h', n'⟩
def forceC (c : Ct) (σ : S) (f : S → Prop) : Prop := match c.same with
  | [] => forceT σ f
  | _ :: _ => forceS σ f
theorem forceV_iff {v : Value} {f : Value → Prop} : forceV v f ↔ f v := by cases v <;> exact Iff.rfl
theorem forceD_iff {v : D} {f : D → Prop} : forceD v f ↔ f v := by
  cases v with
  | c v => exact forceV_iff
  | _ => exact Iff.rfl
mutual
theorem forceA_iff : ∀ (a : AV) (f : AV → Prop), forceA a f ↔ f a
  | .d x, f => forceD_iff
  | .agg cs, f => forceAs_iff cs _
  | .tup cs, f => forceAs_iff cs _
  | .clo g cs, f => forceAs_iff cs _
  | .ptr i o, f => forceN_iff
  | .rp a b c d, f => Iff.rfl
  | .row a b, f => forceN_iff.trans forceN_iff
  | .rowv a b c d, f => forceN_iff.trans forceN_iff
  | .wp a b c d, f => forceN_iff.trans forceN_iff
  | .mp a, f => forceN_iff
  | .bl a, f => Iff.rfl
  | .pr a, f => Iff.rfl
  | .tp _ a b, f => Iff.rfl
  | .any, f => Iff.rfl
theorem forceAs_iff : ∀ (as : List AV) (f : List AV → Prop), forceAs as f ↔ f as
  | [], f => Iff.rfl
  | a :: as, f => (forceA_iff a _).trans (forceAs_iff as _)
end
theorem forceE_iff : ∀ {l : List (Nat × AV)} {f : List (Nat × AV) → Prop}, forceE l f ↔ f l
  | [], f => Iff.rfl
  | (t, a) :: r, f => (forceA_iff a _).trans forceE_iff
theorem forceX_iff {x : HE} {f : HE → Prop} : forceX x f ↔ f x := by
  cases x with
  | cells ty cs => exact forceAs_iff cs _
  | trow q a b c => exact forceN_iff
  | _ => exact Iff.rfl
theorem forceH_iff : ∀ {l : List (Nat × HE)} {f : List (Nat × HE) → Prop}, forceH l f ↔ f l
  | [], f => Iff.rfl
  | (t, a) :: r, f => forceN_iff.trans (forceX_iff.trans forceH_iff)
theorem forceS_iff {σ : S} {f : S → Prop} : forceS σ f ↔ f σ := forceN_iff.trans (forceE_iff.trans forceH_iff)
theorem forceT_iff {σ : S} {f : S → Prop} : forceT σ f ↔ f σ := forceN_iff.trans forceH_iff
theorem forceC_iff {c : Ct} {σ : S} {f : S → Prop} : forceC c σ f ↔ f σ := by
  unfold forceC
  split
  · exact forceT_iff
  · exact forceS_iff

/-! ### Operations -/
/-- Going on with a state that has one value more. -/
def kput (nt : Nat) (K : S → Prop) (σ : S) (d : Option Tmp) (av : AV) : Prop := bif dstOk nt d then (match d with
  | none => K σ
  | some t => forceA av fun av => match σ with
    | ⟨e, h, n⟩ => K ⟨(t, av) :: e, h, n⟩) else False
theorem kput_iff {nt : Nat} {K : S → Prop} {σ : S} {d : Option Tmp} {av : AV} : kput nt K σ d av ↔ dstOk nt d = true ∧ K (σ.put d av) := by
  unfold kput
  cases h : dstOk nt d with
  | true => cases d <;> simp [S.put, forceA_iff]
  | false => simp
def andC (c : Option Prop) (p : Prop) : Prop := match c with
  | none => p
  | some q => q ∧ p
theorem andC_iff {c : Option Prop} {p : Prop} : andC c p ↔ condOk c ∧ p := by
  cases c <;> simp [andC, condOk]
/-- Where the computation stands still. -/
inductive Stuck (σ : S) (o : Oper) : Prop
inductive Stuck2 (σ : S) (c : Code) : Prop
theorem Stuck.elim {σ : S} {o : Oper} {p : Prop} (h : Stuck σ o) : p := by cases h
theorem Stuck2.elim {σ : S} {c : Code} {p : Prop} (h : Stuck2 σ c) : p := by cases h

noncomputable def callM (nt : Nat) (F : FnTab) (σ : S) (mild : Bool) (o : Oper) (K : S → Prop) : Prop := match o.op with
  | .call { callee := .value x, args := ⟨xs⟩, argTypes := _ } => match σ.get x, gets σ xs with
    | some (.clo f caps), some as => match F f (as ++ caps) with
      | some e => match xts σ.heap e.c.ak (as ++ caps) with
        | some (z, ss, fz) => bif distB (Src.ids ss) && (disjB (Src.ids ss) fz && ((!(Kd.fros e.c.out) || isNilN fz) && (!mild || isNilN (Src.ids ss)))) then
            e.m z fun y => forceC e.c (aftS e.c ss y σ) fun σ' => kput nt K σ' o.dst (aftA e.c y σ) else Stuck σ o
        | none => Stuck σ o
      | none => Stuck σ o
    | _, _ => Stuck σ o
  | _ => Stuck σ o
/-- A call that is lent cells of type τ alone. -/
noncomputable def callF (nt : Nat) (F : FnTab) (τ : TypeId) (σ : S) (o : Oper) (K : S → Prop) : Prop := match o.op with
  | .call { callee := .value x, args := ⟨xs⟩, argTypes := _ } => match σ.get x, gets σ xs with
    | some (.clo f caps), some as => match F f (as ++ caps) with
      | some e => match xts σ.heap e.c.ak (as ++ caps) with
        | some (z, ss, fz) => bif distB (Src.ids ss) && (disjB (Src.ids ss) fz && ((!(Kd.fros e.c.out) || isNilN fz) && (Kd.onlyCs τ e.c.ak && dstOk nt o.dst))) then
            e.m z fun y => forceT (aft e.c ss y σ) fun σ' => kput nt K σ' o.dst (aftA e.c y σ) else Stuck σ o
        | none => Stuck σ o
      | none => Stuck σ o
    | _, _ => Stuck σ o
  | _ => Stuck σ o
noncomputable def callFZ (nt : Nat) (F : FnTab) (τ : TypeId) (σ : S) (o : Oper) (K : S → Prop) : Prop := match o.op with
  | .call { callee := .value x, args := ⟨xs⟩, argTypes := _ } => match σ.get x, gets σ xs with
    | some (.clo f caps), some as => match F f (as ++ caps) with
      | some e => match xts σ.heap e.c.ak (as ++ caps) with
        | some (z, ss, fz) => bif Kd.fros e.c.out && !(isNilN fz) then forceS (frzAll fz σ) fun σ' => callF nt F τ σ' o K else callF nt F τ σ o K
        | none => Stuck σ o
      | none => Stuck σ o
    | _, _ => Stuck σ o
  | _ => Stuck σ o
/-- A call, ahead of which rows are given up that are read by what comes back. -/
noncomputable def callZ (nt : Nat) (F : FnTab) (σ : S) (mild : Bool) (o : Oper) (K : S → Prop) : Prop := match o.op with
  | .call { callee := .value x, args := ⟨xs⟩, argTypes := _ } => match σ.get x, gets σ xs with
    | some (.clo f caps), some as => match F f (as ++ caps) with
      | some e => match xts σ.heap e.c.ak (as ++ caps) with
        | some (z, ss, fz) => bif Kd.fros e.c.out && !(isNilN fz) then forceS (frzAll fz σ) fun σ' => callM nt F σ' mild o K else callM nt F σ mild o K
        | none => Stuck σ o
      | none => Stuck σ o
    | _, _ => Stuck σ o
  | .panic _ => False
  | _ => Stuck σ o
noncomputable def opM (nt : Nat) (T : Tab) (F : FnTab) (σ : S) (o : Oper) (K : S → Prop) : Prop := match libF T σ o.op with
  | some (c, σ', av) => c ∧ forceT σ' fun σ' => kput nt K σ' o.dst av
  | none => match effF T σ o.op with
    | some (c, σ', av) => andC c (bif pureO o.op then kput nt K σ' o.dst av else forceT σ' fun σ' => kput nt K σ' o.dst av)
    | none => callZ nt F σ false o K
/-- Of operations that write no block that was there. -/
def newF (T : Tab) (σ : S) : Op → Option (Option Prop × S × AV)
  | .makeMap t none => match makeMapF T σ t with
    | some (σ', av) => some (none, σ', av)
    | none => none
  | .makeSlice t x y => match σ.get x, σ.get y with
    | some u, some v => makeF T σ t u v
    | _, _ => none
  | .box ty x => match σ.get x with
    | some av => match cellsOf av with
      | some cs => some (none, σ.new (.cells ty cs), .ptr σ.next 0)
      | none => none
    | none => none
  | .alloc ty => match lk T.zero ty with
    | some z => match cellsOf (cv z) with
      | some cs => some (none, σ.new (.cells ty cs), .ptr σ.next 0)
      | none => none
    | none => none
  | .buildSlice t n ⟨ps⟩ => match lk T.sl t with
    | some (e, 1) => match kindT T e with
      | some q => match intsOf σ q 0 ps, lk T.el e with
        | some ws, some (1, _) => bif Nat.beq ws.length n && Nat.blt n 1000000 then some (none, σ.new (.trow q e 0 ws), .row σ.next 0) else none
        | _, _ => none
      | none => none
    | _ => none
  | _ => none
noncomputable def newM (nt : Nat) (T : Tab) (F : FnTab) (σ : S) (o : Oper) (K : S → Prop) : Prop := match newF T σ o.op with
  | some (c, σ', av) => andC c (kput nt K σ' o.dst av)
  | none => callZ nt F σ true o K
noncomputable def nearM (nt : Nat) (T : Tab) (τ : TypeId) (σ : S) (o : Oper) (K : S → Prop) : Prop := match nearF T τ σ o.op with
  | some av => kput nt K σ o.dst av
  | none => Stuck σ o
noncomputable def pureM (nt : Nat) (T : Tab) (σ : S) (o : Oper) (K : S → Prop) : Prop := match pureF T σ o.op with
  | some (c, av) => andC c (kput nt K σ o.dst av)
  | none => Stuck σ o

/-- What a guard says. -/
inductive GR where
  | yes
  | no
  | ask (t : Tmp) (want : Bool) (p q : Prop)
  | stuck
def guardR (all : List Oper) (σ : S) (o : Oper) : GR := match o.guard with
  | none => .yes
  | some (j, want) => match guardTmp all j with
    | none => .stuck
    | some t => match lk σ.env t with
      | some (.bl b) => bif b == want then .yes else .no
      | some (.tup []) => .no
      | some (.pr p) => .ask t want p (¬ p)
      | some (.d (.c (.bool b))) => .ask t want (b = true) (b = false)
      | _ => .stuck
def guardM (nt : Nat) (all : List Oper) (σ : S) (o : Oper) (X K : S → Prop) : Prop := match guardR all σ o with
  | .yes => X σ
  | .no => kput nt K σ o.dst (.tup [])
  | .ask t true p q => (p → kput nt X σ (some t) (.bl true)) ∧ (q → kput nt (fun σ => kput nt K σ o.dst (.tup [])) σ (some t) (.bl false))
  | .ask t false p q => (q → kput nt X σ (some t) (.bl false)) ∧ (p → kput nt (fun σ => kput nt K σ o.dst (.tup [])) σ (some t) (.bl true))
  | .stuck => Stuck σ o

/-- A loop: there is something that holds at its head, and a measure that falls. -/
structure LoopP {α : Type} (step : α → (α → Prop) → Prop) (x0 : α) : Prop where
  ex : ∃ (I : α → Prop) (μ : α → Nat), I x0 ∧ ∀ x, I x → step x fun y => I y ∧ μ y < μ x

/-- Ways that come together: what holds there, and what follows. -/
structure JoinP {α : Type} (step : (α → Prop) → Prop) (rest : α → Prop) : Prop where
  ex : ∃ J : α → Prop, step J ∧ ∀ x, J x → rest x
/-- Two orders of operations. -/
structure AltP (a b : Prop) : Prop where
  l : a
  r : b
theorem altP_self {a : Prop} : AltP a a ↔ a := ⟨fun h => h.1, fun h => ⟨h, h⟩⟩
theorem altP_true {a : Prop} : AltP a True ↔ a := ⟨fun h => h.1, fun h => ⟨h, trivial⟩⟩
theorem joinP_of {α : Type} {step : (α → Prop) → Prop} {rest : α → Prop} (h : step rest) : JoinP step rest := ⟨⟨rest, h, fun _ h => h⟩⟩
inductive Fr where
  | seq (y : Code)
  | block (i : Nat)
  | loop (d : LD) (σ0 : S) (K : d.ty → Prop)
noncomputable def loopK (k0 : Nat) (d : LD) (σ0 : S) (K : d.ty → Prop) (σ : S) : Prop := match matchR k0 d σ0 σ with
  | some (y, E) => E ∧ K y
  | none => Stuck2 σ .skip
noncomputable def konQ (P : Program) (Γ : Ctx) (k0 : Nat) (Q : SE → S → Prop) : List Fr → SE → S → Prop
  | [] => Q
  | .seq y :: r => thenQ P Γ y (konQ P Γ k0 Q r)
  | .block i :: r => blockQ i (konQ P Γ k0 Q r)
  | .loop d σ0 K :: r => fun e σ => match e with
    | .normal => loopK k0 d σ0 K σ
    | .exit i => konQ P Γ k0 Q r (.exit i) σ
    | .goto l => konQ P Γ k0 Q r (.goto l) σ
    | .ret => konQ P Γ k0 Q r .ret σ
inductive Pt where
  | code (c : Code)
  | ops (all l : List Oper)
  | plan (all : List Oper) (pi : PI) (t : PT)
  | alts (all : List Oper) (pi : PI) (l : PTs)
  | out (e : SE)

section
variable (k0 nt : Nat) (T : Tab) (F : FnTab) (D : Dir) (Q : SE → S → Prop)
/-- One operation of a region that draws its order. -/
noncomputable def stepM (all : List Oper) (pi : PI) (i : Nat) (K : S → Prop) (σ : S) : Prop := match all[i]? with
  | some o => guardM nt all σ o (fun σ => bif pureO o.op then (bif pi.near.contains i && !(dryO o.op) then nearM nt T pi.tau σ o K else pureM nt T σ o K)
      else bif pi.mild.contains i then newM nt T F σ o K
      else bif pi.far.contains i then callFZ nt F pi.tau σ o K
      else opM nt T F σ o K) K
  | none => Stuck2 σ .skip
noncomputable def run : Nat → Pt → List Fr → S → Prop
  | 0, _, _, σ => Stuck2 σ .skip
  | n + 1, .code c, ks, σ => match c with
    | .skip => run n (.out .normal) ks σ
    | .label _ => run n (.out .normal) ks σ
    | .ret => run n (.out .ret) ks σ
    | .exit i => run n (.out (.exit i)) ks σ
    | .seq a b => match joinD D.join a with
      | some d => JoinP (fun J => run n (.code a) (.loop d σ J :: ks) σ) (fun x => forceS (headR d σ x) (run n (.code b) ks))
      | none => run n (.code a) (.seq b :: ks) σ
    | .block i c => run n (.code c) (.block i :: ks) σ
    | .region id ⟨l⟩ false => run n (.ops l l) ks σ
    | .region id ⟨l⟩ true => match lk D.plan id with
      | some (pi, ord) => bif planC l pi ord then run n (.plan l pi ord) ks σ else Stuck2 σ c
      | none => Stuck2 σ c
    | .cond x a b => match σ.get x with
      | some (.bl true) => run n (.code a) ks σ
      | some (.bl false) => run n (.code b) ks σ
      | some (.pr p) => (p → run n (.code a) ks σ) ∧ (¬ p → run n (.code b) ks σ)
      | some (.d (.c (.bool v))) => (v = true → run n (.code a) ks σ) ∧ (v = false → run n (.code b) ks σ)
      | _ => Stuck2 σ c
    | .loop b => match keyOf b with
      | some k => match lk D.loop k with
        | some d => match matchR k0 d σ σ with
          | some (x0, E) => E ∧ LoopP (fun x K => forceS (headR d σ x) (run n (.code b) (.loop d σ K :: ks))) x0
          | none => Stuck2 σ c
        | none => Stuck2 σ c
      | none => Stuck2 σ c
    | c => Stuck2 σ c
  | n + 1, .ops all l, ks, σ => match l with
    | [] => run n (.out .normal) ks σ
    | o :: rest => guardM nt all σ o (fun σ => opM nt T F σ o (run n (.ops all rest) ks)) (run n (.ops all rest) ks)
  | n + 1, .plan all pi t, ks, σ => match t with
    | .done => run n (.out .normal) ks σ
    | .step i r => stepM nt T F all pi i (run n (.plan all pi r) ks) σ
    | .alts l => run n (.alts all pi l) ks σ
  | n + 1, .alts all pi l, ks, σ => match l with
    | .nil => True
    | .cons i r l => AltP (stepM nt T F all pi i (run n (.plan all pi r) ks) σ) (run n (.alts all pi l) ks σ)
  | n + 1, .out e, ks, σ => match ks with
    | [] => Q e σ
    | .seq y :: r => match e with
      | .normal => run n (.code y) r σ
      | e => run n (.out e) r σ
    | .block i :: r => match e with
      | .exit j => bif Nat.beq j i then run n (.out .normal) r σ else run n (.out (.exit j)) r σ
      | e => run n (.out e) r σ
    | .loop d σ0 K :: r => match e with
      | .normal => loopK k0 d σ0 K σ
      | e => run n (.out e) r σ
end
def sem (P : Program) (Γ : Ctx) (k0 : Nat) (Q : SE → S → Prop) : Pt → List Fr → S → Prop
  | .code c, ks, σ => Run P Γ c (konQ P Γ k0 Q ks) σ
  | .ops all l, ks, σ => Sops P Γ all.toArray l (konQ P Γ k0 Q ks) σ
  | .plan all pi t, ks, σ => Region.noSelect all.toArray = true → Pops P Γ all pi (konQ P Γ k0 Q ks) t σ
  | .alts all pi l, ks, σ => Region.noSelect all.toArray = true → ∀ i r, PTs.Mem i r l → PStep P Γ all pi (konQ P Γ k0 Q ks) i r σ
  | .out e, ks, σ => konQ P Γ k0 Q ks e σ

/-! ### It is right -/
section
variable {P : Program} {Γ : Ctx} {k0 nt : Nat} {T : Tab} {F : FnTab} {D : Dir} {Q : SE → S → Prop}
theorem callM_ok (HF : FnOk P F) (hnt : Γ.nt = nt) {o : Oper} {σ : S} {K : S → Prop} {mild : Bool} (h : callM nt F σ mild o K) : Sop P Γ o K σ ∧ (mild = true → SopB P Γ o K σ) := by
  unfold callM at h
  split at h
  · rename_i x xs ts hop
    split at h
    · rename_i f caps as hx hargs
      split at h
      · rename_i e he
        split at h
        · rename_i z ss fz hz
          cases hb : (distB (Src.ids ss) && (disjB (Src.ids ss) fz && ((!(Kd.fros e.c.out) || isNilN fz) && (!mild || isNilN (Src.ids ss))))) with
          | false => rw [hb] at h; exact h.elim
          | true =>
            rw [hb] at h
            simp only [Bool.and_eq_true] at hb
            obtain ⟨c1, c2, c3, c4⟩ := hb
            obtain ⟨hcall, hspec⟩ := HF f _ e he
            cases hd : dstOk Γ.nt o.dst with
            | true =>
              obtain ⟨g1, g2⟩ := sop_callK (K := K) (hspec z _ h) hop hx hargs hz c1 c2 c3 hd (fun y hy => (kput_iff.1 (forceC_iff.1 hy)).2)
              exact ⟨g1, fun hm => g2 (by simpa [hm] using c4)⟩
            | false =>
              have hM : ∀ y, ¬ forceC e.c (aftS e.c ss y σ) (fun σ' => kput nt K σ' o.dst (aftA e.c y σ)) := fun y hy => by
                have := (kput_iff.1 (forceC_iff.1 hy)).1
                rw [← hnt, hd] at this
                cases this
              have hdo : ∃ t, o.dst = some t := by
                cases hdd : o.dst with
                | none => rw [hdd] at hd; cases hd
                | some t => exact ⟨t, rfl⟩
              -- the model cannot hold: nothing follows it
              have hsp := hspec z (fun _ => False) ?_
              · refine ⟨fun a w hst => ?_, fun _ a w hst => ?_⟩
                all_goals
                  obtain ⟨B, ok, hs⟩ := hst
                  intro K' Q' hk
                  obtain ⟨cvs, hc1, hc2⟩ := hs.eval hx
                  have hav := (hs.evals hargs).append hc2
                  obtain ⟨B', ok', h1, h2, h3, h4, h5⟩ := hs.call hz c1 c2 c3 hav
                  have hrun : (execOp a.eval o).run P w = .ok (.enter f ((xs.map a.eval) ++ cvs).toArray) w := by
                    simp only [execOp, hop, resolve, Deferred.ofValue, hc1, Sem.run_bind, Sem.run_pure, Result.andThen_ok, invoke]
                    rw [hcall.call]
                    simp
                  have hc := hsp w ok' B' _ h1 h2 h3
                  unfold Oper.wp
                  rw [hrun]
                  show Calls P f _ w _
                  exact hc.mono fun e w' ⟨y, _, _, _, hy, _⟩ => hy.elim
              · have : (fun y => forceC e.c (aftS e.c ss y σ) fun σ' => kput nt K σ' o.dst (aftA e.c y σ)) = fun _ => False := funext fun y => propext ⟨fun hy => hM y hy, fun hy => hy.elim⟩
                rw [← this]
                exact h
        · exact h.elim
      · exact h.elim
    · exact h.elim
  · exact h.elim
theorem callZ_ok (HF : FnOk P F) (hnt : Γ.nt = nt) {o : Oper} {σ : S} {K : S → Prop} {mild : Bool} (h : callZ nt F σ mild o K) : Sop P Γ o K σ ∧ (mild = true → SopB P Γ o K σ) := by
  unfold callZ at h
  split at h
  · split at h
    · split at h
      · split at h
        · rename_i e _ _ z ss fz hz
          cases hb : (Kd.fros e.c.out && !(isNilN fz)) with
          | true =>
            rw [hb] at h
            simp only [cond_true] at h
            have h' := callM_ok (P := P) (Γ := Γ) HF hnt (forceS_iff.1 h)
            exact ⟨fun a w hst => h'.1 a w (sub_frzAll a w hst), fun hm a w hst => h'.2 hm a w (sub_frzAll a w hst)⟩
          | false =>
            rw [hb] at h
            exact callM_ok HF hnt h
        · exact h.elim
      · exact h.elim
    · exact h.elim
  · exact h.elim
  · exact h.elim
theorem callF_ok (HF : FnOk P F) (hnt : Γ.nt = nt) {τ : TypeId} {o : Oper} {σ : S} {K : S → Prop} (h : callF nt F τ σ o K) : SopF τ P Γ o K σ := by
  unfold callF at h
  split at h
  · rename_i x xs ts hop
    split at h
    · rename_i f caps as hx hargs
      split at h
      · rename_i e he
        split at h
        · rename_i z ss fz hz
          cases hb : (distB (Src.ids ss) && (disjB (Src.ids ss) fz && ((!(Kd.fros e.c.out) || isNilN fz) && (Kd.onlyCs τ e.c.ak && dstOk nt o.dst)))) with
          | false => rw [hb] at h; exact h.elim
          | true =>
            rw [hb] at h
            simp only [Bool.and_eq_true] at hb
            obtain ⟨c1, c2, c3, c4, c5⟩ := hb
            obtain ⟨hcall, hspec⟩ := HF f _ e he
            exact sop_callF (K := K) (hspec z _ h) hop hx hargs hz c4 c1 c2 c3 (by rw [hnt]; exact c5) (fun y hy => (kput_iff.1 (forceT_iff.1 hy)).2)
        · exact h.elim
      · exact h.elim
    · exact h.elim
  · exact h.elim
theorem callFZ_ok (HF : FnOk P F) (hnt : Γ.nt = nt) {τ : TypeId} {o : Oper} {σ : S} {K : S → Prop} (h : callFZ nt F τ σ o K) : SopF τ P Γ o K σ := by
  unfold callFZ at h
  split at h
  · split at h
    · split at h
      · split at h
        · rename_i e _ _ z ss fz hz
          cases hb : (Kd.fros e.c.out && !(isNilN fz)) with
          | true =>
            rw [hb] at h
            simp only [cond_true] at h
            have h' := callF_ok (P := P) (Γ := Γ) HF hnt (forceS_iff.1 h)
            exact fun a w hst => h' a w (sub_frzAll a w hst)
          | false =>
            rw [hb] at h
            exact callF_ok HF hnt h
        · exact h.elim
      · exact h.elim
    · exact h.elim
  · exact h.elim
theorem opM_ok (HT : TabOk P T) (HF : FnOk P F) (hnt : Γ.nt = nt) {o : Oper} {σ : S} {K : S → Prop} (h : opM nt T F σ o K) : Sop P Γ o K σ := by
  unfold opM at h
  split at h
  · rename_i c σ' av h1
    obtain ⟨h4, h5⟩ := kput_iff.1 (forceT_iff.1 h.2)
    exact libF_ok HT h1 h.1 (by rw [hnt]; exact h4) h5
  split at h
  · rename_i c σ' av h1
    obtain ⟨h2, h3⟩ := andC_iff.1 h
    have h3 : kput nt K σ' o.dst av := by
      cases hb : pureO o.op with
      | true => rw [hb] at h3; exact h3
      | false =>
        rw [hb] at h3
        simp only [cond_false] at h3
        exact forceT_iff.1 h3
    obtain ⟨h4, h5⟩ := kput_iff.1 h3
    exact effF_ok HT rfl h1 h2 (by rw [hnt]; exact h4) h5
  · exact (callZ_ok HF hnt h).1
theorem newM_ok (HT : TabOk P T) (HF : FnOk P F) (hnt : Γ.nt = nt) {o : Oper} {σ : S} {K : S → Prop} (h : newM nt T F σ o K) : SopB P Γ o K σ := by
  unfold newM at h
  split at h
  · rename_i c σ' av h1
    obtain ⟨hcc, h⟩ := andC_iff.1 h
    obtain ⟨h4, h5⟩ := kput_iff.1 h
    have hd : dstOk Γ.nt o.dst = true := by rw [hnt]; exact h4
    generalize hop : o.op = op at h1
    unfold newF at h1
    split at h1
    · split at h1
      · rename_i hm; cases h1; exact makeMapF_ok hop hm hd h5
      · cases h1
    · split at h1
      · rename_i hx hy; exact makeF_ok HT hop hx hy h1 hcc hd h5
      · cases h1
    · split at h1
      · rename_i hx
        split at h1
        · rename_i hc; cases h1; exact sopb_box hop hx hc rfl hd h5
        · cases h1
      · cases h1
    · split at h1
      · rename_i hx
        split at h1
        · rename_i hc; cases h1
          have := HT.zero.get hx
          exact sopb_alloc hop hc rfl hd h5
        · cases h1
      · cases h1
    · split at h1
      · rename_i n ps _ e q1
        split at h1
        · rename_i q hq
          split at h1
          · rename_i ws b q2 q3
            cases hb : (Nat.beq ws.length n && Nat.blt n 1000000) with
            | true =>
              rw [hb] at h1; cases h1
              simp only [Bool.and_eq_true] at hb
              have i1 := HT.sl.get q1
              have i3 := HT.el.get q3
              exact sopb_buildSlice_as (he := .trow q e 0 ws) hop (parts_ints _ _ _ q2) (lens_ints ws) (by rw [rowsOf_length]; exact hb.1) (by rw [Nat.mul_one]; exact hb.2) (fun _ _ _ _ h => h) (fun _ => rfl) rfl hd h5
            | false => rw [hb] at h1; cases h1
          · cases h1
        · cases h1
      · cases h1
    · cases h1
  · exact (callZ_ok HF hnt h).2 rfl
theorem pureM_ok (HT : TabOk P T) (hnt : Γ.nt = nt) {o : Oper} {σ : S} {K : S → Prop} (h : pureM nt T σ o K) : ∃ av, Pv P Γ σ o av ∧ dstOk Γ.nt o.dst = true ∧ K (σ.put o.dst av) := by
  unfold pureM at h
  split at h
  · rename_i c av h1
    obtain ⟨h2, h3⟩ := andC_iff.1 h
    obtain ⟨h4, h5⟩ := kput_iff.1 h3
    exact ⟨av, pureF_ok HT rfl h1 h2, by rw [hnt]; exact h4, h5⟩
  · exact h.elim

/-- What a guard comes to, seen from memory. -/
theorem guardM_ok (hnt : Γ.nt = nt) {all : List Oper} {o : Oper} {σ : S} {X K : S → Prop} (h : guardM nt all σ o X K) {a : Act} {w : World} (hst : St Γ σ a w) :
    (Region.wanted o (yielded all.toArray a.tmps) = true ∧ ∃ σ1, X σ1 ∧ St Γ σ1 a w) ∨ (Region.wanted o (yielded all.toArray a.tmps) = false ∧ ∃ σ1, K σ1 ∧ St Γ σ1 (a.put o.dst undef) w) := by
  obtain ⟨B, ok, hs⟩ := hst
  have skip : ∀ {σ1 : S}, StB Γ B ok σ1 a w → kput nt K σ1 o.dst (.tup []) → ∃ σ1, K σ1 ∧ St Γ σ1 (a.put o.dst undef) w := fun h1 h2 => by
    obtain ⟨h3, h4⟩ := kput_iff.1 h2
    exact ⟨_, h4, B, ok, h1.put (by rw [hnt]; exact h3) ⟨[], rfl, rfl⟩⟩
  unfold guardM at h
  unfold guardR at h
  cases hg : o.guard with
  | none =>
    rw [hg] at h
    exact .inl ⟨by simp [Region.wanted, hg], σ, h, B, ok, hs⟩
  | some jw =>
    obtain ⟨j, want⟩ := jw
    rw [hg] at h
    simp only at h
    cases hj0 : guardTmp all j with
    | none => rw [hj0] at h; exact h.elim
    | some t =>
      rw [hj0] at h
      simp only at h
      have hj := guardTmp_ok hj0
      cases ht : lk σ.env t with
      | none => rw [ht] at h; exact h.elim
      | some av =>
        obtain ⟨v, hv1, hy⟩ := hs.guard hj ht
        have hv2 := (hs.env t _ ht).2
        have key : ∀ b : Bool, a.tmps.getD t undef = .bool b → StB Γ B ok (σ.put (some t) (.bl b)) a w := fun b e => hs.know ht fun u _ e' => by rw [← e', e]; rfl
        have hyb : ∀ b : Bool, a.tmps.getD t undef = .bool b → yielded all.toArray a.tmps j = some b := fun b e => by
          have hlt : t < a.tmps.size := by rw [hs.size]; exact (hs.env t _ ht).1
          simp only [yielded, hj, Option.bind_some]
          rw [Array.getD_eq_getD_getElem?, Array.getElem?_eq_getElem hlt, Option.getD_some] at e
          rw [Array.getElem?_eq_getElem hlt, e]
        have ask : ∀ {p q : Prop}, GVal av p q → (match GR.ask t want p q with
            | .yes => X σ
            | .no => kput nt K σ o.dst (.tup [])
            | .ask t true p q => (p → kput nt X σ (some t) (.bl true)) ∧ (q → kput nt (fun σ => kput nt K σ o.dst (.tup [])) σ (some t) (.bl false))
            | .ask t false p q => (q → kput nt X σ (some t) (.bl false)) ∧ (p → kput nt (fun σ => kput nt K σ o.dst (.tup [])) σ (some t) (.bl true))
            | .stuck => Stuck σ o) → (Region.wanted o (yielded all.toArray a.tmps) = true ∧ ∃ σ1, X σ1 ∧ St Γ σ1 a w) ∨ (Region.wanted o (yielded all.toArray a.tmps) = false ∧ ∃ σ1, K σ1 ∧ St Γ σ1 (a.put o.dst undef) w) := fun {p q} hv hh => by
          rcases hv.spec hv2 with ⟨e, hp⟩ | ⟨e, hq⟩
          · cases want with
            | true => exact .inl ⟨by simp [Region.wanted, hg, hyb _ e], _, (kput_iff.1 (hh.1 hp)).2, B, ok, key _ e⟩
            | false => exact .inr ⟨by simp [Region.wanted, hg, hyb _ e], skip (key _ e) (kput_iff.1 (hh.2 hp)).2⟩
          · cases want with
            | true => exact .inr ⟨by simp [Region.wanted, hg, hyb _ e], skip (key _ e) (kput_iff.1 (hh.2 hq)).2⟩
            | false => exact .inl ⟨by simp [Region.wanted, hg, hyb _ e], _, (kput_iff.1 (hh.1 hq)).2, B, ok, key _ e⟩
        rw [ht] at h
        split at h
        · rename_i e
          split at e
          · rename_i b e'
            cases e'
            cases hb : (b == want) with
            | true =>
              have hb := eq_of_beq hb
              cases hv1
              exact .inl ⟨by simp [Region.wanted, hg, hy, hb], σ, h, B, ok, hs⟩
            | false => rw [hb] at e; cases e
          all_goals cases e
        · rename_i e
          split at e
          · rename_i b e'
            cases e'
            cases hb : (b == want) with
            | true => rw [hb] at e; cases e
            | false =>
              cases hv1
              have hne : ¬ b = want := fun e2 => by subst e2; simp at hb
              exact .inr ⟨by simp [Region.wanted, hg, hy, hne], skip hs h⟩
          · rename_i e'
            cases e'
            obtain ⟨vs, rfl, rfl⟩ := hv1
            exact .inr ⟨by simp [Region.wanted, hg, hy], skip hs h⟩
          all_goals cases e
        · rename_i e
          split at e
          · rename_i b e'
            cases hb : (b == want) <;> rw [hb] at e <;> cases e
          · cases e
          · rename_i p e'
            cases e'
            cases e
            exact ask (.pr _) h
          · rename_i b e'
            cases e'
            cases e
            exact ask (.bool _) h
          · cases e
        · rename_i e
          split at e
          · rename_i b e'
            cases hb : (b == want) <;> rw [hb] at e <;> cases e
          · cases e
          · rename_i p e'
            cases e'
            cases e
            exact ask (.pr _) h
          · rename_i b e'
            cases e'
            cases e
            exact ask (.bool _) h
          · cases e
        · exact h.elim

theorem sops_guardM (hnt : Γ.nt = nt) {all : List Oper} {o : Oper} {rest : List Oper} {σ : S} {X K : S → Prop} {Q : SE → S → Prop} (h : guardM nt all σ o X K) (hX : ∀ σ, X σ → Sop P Γ o (Sops P Γ all.toArray rest Q) σ) (hK : ∀ σ, K σ → Sops P Γ all.toArray rest Q σ) : Sops P Γ all.toArray (o :: rest) Q σ := by
  intro a w hst
  refine wpList_step fun K' hK' => ?_
  rcases guardM_ok hnt h hst with ⟨h1, σ1, h2, h3⟩ | ⟨h1, σ1, h2, h3⟩
  · rw [if_pos h1]
    exact hX σ1 h2 a w h3 K' _ fun σ' a' w' k hs' => hK' _ _ (k a' w' hs')
  · rw [if_neg (by simp [h1])]
    exact hK' _ _ (hK σ1 h2 _ _ h3)

theorem pstep_guardM (hnt : Γ.nt = nt) {all : List Oper} {pi : PI} {i : Nat} {o : Oper} {rest : PT} {σ : S} {X K : S → Prop} {Q : SE → S → Prop} (hi : all[i]? = some o) (h : guardM nt all σ o X K)
    (hX : ∀ σ, X σ → (pureO o.op = true ∧ ∃ av, PvW pi.tau (stO pi i o) P Γ σ o av ∧ dstOk Γ.nt o.dst = true ∧ Pops P Γ all pi Q rest (σ.put o.dst av)) ∨ (pureO o.op = false ∧ ((lvO pi i o = 0 ∧ SopB P Γ o (Pops P Γ all pi Q rest) σ) ∨ (lvO pi i o = 1 ∧ SopF pi.tau P Γ o (Pops P Γ all pi Q rest) σ) ∨ (lvO pi i o = 2 ∧ Sop P Γ o (Pops P Γ all pi Q rest) σ)))) (hK : ∀ σ, K σ → Pops P Γ all pi Q rest σ) :
    PStep P Γ all pi Q i rest σ ∧ (Region.noSelect all.toArray = true → Pops P Γ all pi Q (.step i rest) σ) := by
  have hp : pureO o.op = true → ∀ a w, St Γ σ a w → ∃ v σ', Yld P all.toArray pi.tau (stO pi i o) w o v a ∧ St Γ σ' (a.put o.dst v) w ∧ Pops P Γ all pi Q rest σ' := fun hp a w hst => by
    rcases guardM_ok hnt h hst with ⟨h1, σ1, h2, B, ok, h3⟩ | ⟨h1, σ1, h2, h3⟩
    · rcases hX σ1 h2 with ⟨_, av, q1, q2, q3⟩ | ⟨q, _⟩
      · obtain ⟨v, r1, r2⟩ := q1 B ok a w h3
        exact ⟨v, _, .inl ⟨h1, r2⟩, ⟨B, ok, h3.put q2 r1⟩, q3⟩
      · rw [hp] at q; cases q
    · exact ⟨undef, σ1, .inr ⟨h1, rfl⟩, h3, hK σ1 h2⟩
  have he : pureO o.op = false → ∀ a w, St Γ σ a w → wpOp P all.toArray (Post Γ Q) i (fun a' w' => stepOk pi.tau (lvO pi i o) w w' ∧ ∃ σ', St Γ σ' a' w' ∧ Pops P Γ all pi Q rest σ') a w := fun hp a w hst => by
    have hi' : all.toArray[i]? = some o := by simpa using hi
    unfold wpOp
    simp only [hi']
    rcases guardM_ok hnt h hst with ⟨h1, σ1, h2, h3⟩ | ⟨h1, σ1, h2, h3⟩
    · rw [if_pos h1]
      refine .inl ?_
      rcases hX σ1 h2 with ⟨q, _⟩ | ⟨_, q⟩
      · rw [hp] at q; cases q
      · rcases q with ⟨q1, q2⟩ | ⟨q1, q2⟩ | ⟨q1, q2⟩
        · exact q2 a w h3 _ _ fun σ' a' w' k hs' hb => ⟨stepOk.of hb, σ', hs', k⟩
        · exact q2 a w h3 _ _ fun σ' a' w' k hs' hb => ⟨stepOk.far (by omega) hb, σ', hs', k⟩
        · exact q2 a w h3 _ _ fun σ' a' w' k hs' => ⟨by rw [q1]; exact stepOk.any, σ', hs', k⟩
    · rw [if_neg (by simp [h1])]
      exact ⟨stepOk.refl, σ1, h3, hK σ1 h2⟩
  exact ⟨pstep_of hi hp he, fun hs => pops_step hs hi hp (pstep_of hi hp he)⟩

theorem pstep_stepM (HT : TabOk P T) (HF : FnOk P F) (hnt : Γ.nt = nt) {all : List Oper} {pi : PI} {i : Nat} {rest : PT} {σ : S} {K : S → Prop} {Q : SE → S → Prop} (h : stepM nt T F all pi i K σ) (hK : ∀ σ, K σ → Pops P Γ all pi Q rest σ) :
    PStep P Γ all pi Q i rest σ ∧ (Region.noSelect all.toArray = true → Pops P Γ all pi Q (.step i rest) σ) := by
  unfold stepM at h
  split at h
  · rename_i o hi
    refine pstep_guardM hnt hi h (fun σ' hx => ?_) hK
    cases hp : pureO o.op with
    | true =>
      rw [hp] at hx
      simp only [cond_true] at hx
      cases hn : (pi.near.contains i && !(dryO o.op)) with
      | true =>
        rw [hn] at hx
        simp only [cond_true] at hx
        simp only [Bool.and_eq_true, Bool.not_eq_true'] at hn
        have hst : stO pi i o = 1 := by simp only [stO, hn.2, hn.1, cond_false, cond_true]
        unfold nearM at hx
        split at hx
        · rename_i av hav
          obtain ⟨q2, q3⟩ := kput_iff.1 hx
          exact .inl ⟨rfl, av, by rw [hst]; exact nearF_ok HT rfl hav, by rw [hnt]; exact q2, hK _ q3⟩
        · exact hx.elim
      | false =>
        rw [hn] at hx
        obtain ⟨av, q1, q2, q3⟩ := pureM_ok (P := P) HT hnt hx
        refine .inl ⟨rfl, av, q1.w ?_, q2, hK _ q3⟩
        cases hd : dryO o.op with
        | true => exact .inr ⟨by simp [stO, hd], rfl⟩
        | false =>
          rw [hd] at hn
          simp only [Bool.not_false, Bool.and_true] at hn
          exact .inl (by simp only [stO, hd, hn, cond_false])
    | false =>
      rw [hp] at hx
      simp only [cond_false] at hx
      refine .inr ⟨rfl, ?_⟩
      cases hmm : pi.mild.contains i with
      | true =>
        rw [hmm] at hx
        have := newM_ok (P := P) (Γ := Γ) HT HF hnt hx
        exact .inl ⟨by simp only [lvO, hmm, Bool.or_true, cond_true], SopB.mono hK this⟩
      | false =>
        rw [hmm] at hx
        simp only [cond_false] at hx
        cases hff : pi.far.contains i with
        | true =>
          rw [hff] at hx
          have := callFZ_ok (P := P) (Γ := Γ) HF hnt hx
          exact .inr (.inl ⟨by simp only [lvO, hp, hmm, hff, Bool.or_self, cond_false, cond_true], SopF.mono hK this⟩)
        | false =>
          rw [hff] at hx
          exact .inr (.inr ⟨by simp only [lvO, hp, hmm, hff, Bool.or_self, cond_false], Sop.mono hK (opM_ok HT HF hnt hx)⟩)
  · exact h.elim

theorem run_ok (HT : TabOk P T) (HF : FnOk P F) (hm : P.follows .mixedOrders = true) (hnt : Γ.nt = nt) (hk : Γ.from k0) : ∀ (n : Nat) (p : Pt) (ks : List Fr) (σ : S), run k0 nt T F D Q n p ks σ → sem P Γ k0 Q p ks σ := by
  intro n
  induction n with
  | zero => intro p ks σ h; exact h.elim
  | succ n ih =>
    intro p ks σ h
    cases p with
    | code c =>
      unfold run at h
      split at h
      · exact run_skip (ih _ _ _ h)
      · exact run_label (ih _ _ _ h)
      · exact run_ret (ih _ _ _ h)
      · exact run_exit (ih _ _ _ h)
      · rename_i a b
        split at h
        · rename_i d hd
          obtain ⟨J, h0, h1⟩ := h
          have h2 : Run P Γ a (konQ P Γ k0 Q (.loop d σ J :: ks)) σ := ih (.code a) _ _ h0
          refine run_cut (α := d.ty) (headR d σ) J ?_ (fun z hz => ih (.code b) _ _ (forceS_iff.1 (h1 z hz)))
          refine Run.mono h2 fun e σ' hq => ?_
          cases e with
          | normal =>
            simp only [konQ, loopK] at hq
            split at hq
            · rename_i y E' hy
              exact ⟨y, hq.2, matchR_ok hk hy hq.1⟩
            · exact hq.elim
          | exit i => exact hq
          | goto l => exact hq
          | ret => exact hq
        · exact run_seq (ih _ _ _ h)
      · exact run_block (ih _ _ _ h)
      · exact run_region (ih _ _ _ h)
      · rename_i id l
        split at h
        · rename_i pi ord hp
          cases hb : planC l pi ord with
          | false => rw [hb] at h; exact h.elim
          | true =>
            rw [hb] at h
            have hb' := hb
            simp only [planC, Bool.and_eq_true] at hb'
            exact run_region_plan hm ⟨hb⟩ (ih _ _ _ h hb'.1)
        · exact h.elim
      · rename_i x a b
        split at h
        · rename_i hc; exact run_cond_t hc (ih _ _ _ h)
        · rename_i hc; exact run_cond_f hc (ih _ _ _ h)
        · rename_i hc; exact run_cond_pr hc (fun hp => ih _ _ _ (h.1 hp)) (fun hp => ih _ _ _ (h.2 hp))
        · rename_i hc; exact run_cond hc (fun hp => ih _ _ _ (h.1 hp)) (fun hp => ih _ _ _ (h.2 hp))
        · exact h.elim
      · rename_i b
        split at h
        · split at h
          · rename_i d hd
            split at h
            · rename_i x0 E hx
              obtain ⟨hE, ⟨I, μ, h0, h1⟩⟩ := h
              refine run_loop (α := d.ty) (headR d σ) I μ x0 h0 (matchR_ok hk hx hE) fun x hx' => ?_
              have h2 : Run P Γ b (konQ P Γ k0 Q (.loop d σ (fun y => I y ∧ μ y < μ x) :: ks)) (headR d σ x) := ih (.code b) _ _ (forceS_iff.1 (h1 x hx'))
              refine Run.mono h2 fun e σ' hq => ?_
              cases e with
              | normal =>
                simp only [konQ, loopK] at hq
                split at hq
                · rename_i y E' hy
                  exact ⟨y, hq.2.1, hq.2.2, matchR_ok hk hy hq.1⟩
                · exact hq.elim
              | exit i => exact hq
              | goto l => exact hq
              | ret => exact hq
            · exact h.elim
          · exact h.elim
        · exact h.elim
      · exact h.elim
    | ops all l =>
      unfold run at h
      split at h
      · exact sops_nil (ih _ _ _ h)
      · rename_i o rest
        exact sops_guardM hnt h (fun σ' hx => Sop.mono (fun s hs => ih (.ops all rest) ks s hs) (opM_ok HT HF hnt hx)) (fun σ' hx => ih (.ops all rest) ks σ' hx)
    | plan all pi t =>
      intro hsel
      unfold run at h
      split at h
      · exact pops_nil (ih _ _ _ h)
      · exact (pstep_stepM HT HF hnt h fun σ' hx => ih (.plan all pi _) ks σ' hx hsel).2 hsel
      · exact pops_alts (ih _ _ _ h hsel)
    | alts all pi l =>
      intro hsel i r hmem
      unfold run at h
      cases hmem with
      | head l => exact (pstep_stepM HT HF hnt h.1 fun σ' hx => ih (.plan all pi _) ks σ' hx hsel).1
      | tail j q hm' => exact ih (.alts all pi _) ks σ h.2 hsel i r hm'
    | out e =>
      unfold run at h
      split at h
      · exact h
      · split at h
        · exact then_normal (ih _ _ _ h)
        · have := ih _ _ _ h
          cases e <;> first | exact this | contradiction
      · rename_i i r
        split at h
        · rename_i j
          cases hb : Nat.beq j i with
          | true =>
            rw [hb] at h
            show blockQ i (konQ P Γ k0 Q r) (.exit j) σ
            simp only [blockQ, hb, cond_true]
            exact ih _ _ _ h
          | false =>
            rw [hb] at h
            show blockQ i (konQ P Γ k0 Q r) (.exit j) σ
            simp only [blockQ, hb, cond_false]
            exact ih _ _ _ h
        · have := ih _ _ _ h
          rename_i hne
          cases e <;> first | exact this | exact absurd rfl (hne _)
      · split at h
        · exact h
        · have := ih _ _ _ h
          cases e <;> first | exact this | contradiction

theorem fnOk_nil {P : Program} : FnOk P (fun f _ => lk [] f) := fun f as e h => by cases h
theorem fnOk_of {P : Program} {l : List (Nat × FE)} (h : AllP (fun f e => TCall P f ∧ ∀ x K, e.m x K → SpecK P f e.c x K) l) : FnOk P (fun f _ => lk l f) := fun f as e he => h.get he
/-- What a translation gives, in one. -/
structure Env (P : Program) (T : Tab) (F : FnTab) : Prop where
  tab : TabOk P T
  fns : FnOk P F
  mixed : P.follows .mixedOrders = true
theorem spec_run (E : Env P T F) {f : FuncId} {fn : Func} {code : Code} {c : Ct} {x : Kd.tys c.ak} {K : Kd.tys c.out → Prop} (hf : P.funcs[f]? = some fn) (hb : fn.body = some code) (nt : Nat) (hnt : fn.ntmps = nt) (rs : List ResultVar) (hres : fn.results.toList = rs) (hal : Nat.ble (mks c.ak x 0).1.length nt = true) (n : Nat) (D : Dir)
    (h : forceS ⟨argEnv 0 (mks c.ak x 0).1, (mks c.ak x 0).2.1, c.k0⟩ (run c.k0 nt T F D (bodyK c T rs K) n (.code code) [])) : SpecK P f c x K :=
  spec_of_body E.tab hf hb nt hnt rs hres hal fun Γ hΓ hk => run_ok E.tab E.fns E.mixed hΓ hk n _ _ _ (forceS_iff.1 h)
end
end Go.Proofs.YthjmmofafpahhaaGreat.Sx
