/- The symbolic layer: kinds of data, and how what is owned is taken over under new names. Program-independent. -/
import Derived.Test.YthjmmofafpahhaaGreatSx9
namespace Go.Proofs.YthjmmofafpahhaaGreat.Sx
open Go Go.RowKit
set_option linter.unusedVariables false
set_option linter.unusedSimpArgs false

/-- Cells of one type as cells of another: only where the types are the same. -/
def TK.cast : (q q' : TK) → List q'.ty → Option (List q.ty)
  | .i64, .i64, ws => some ws
  | .u8, .u8, ws => some ws
  | .str, .str, ws => some ws
  | .ints, .ints, ws => some ws
  | .strs, .strs, ws => some ws
  | .bool, .bool, ws => some ws
  | _, _, _ => none
theorem TK.cast_ok {q q' : TK} {ws : List q'.ty} {xs : List q.ty} (h : TK.cast q q' ws = some xs) : (⟨q', ws⟩ : Sigma fun q : TK => List q.ty) = ⟨q, xs⟩ := by
  cases q <;> cases q' <;> first | (cases h; rfl) | cases h
def TK.castM : (q q' : TK) → List (Int × q'.ty) → Option (List (Int × q.ty))
  | .i64, .i64, ws => some ws
  | .bool, .bool, ws => some ws
  | .str, .str, ws => some ws
  | _, _, _ => none
theorem TK.castM_ok {q q' : TK} {ws : List (Int × q'.ty)} {xs : List (Int × q.ty)} (h : TK.castM q q' ws = some xs) : (⟨q', ws⟩ : Sigma fun q : TK => List (Int × q.ty)) = ⟨q, xs⟩ := by
  cases q <;> cases q' <;> first | (cases h; rfl) | cases h
/-- Kinds of data that go in and out of contracts and loops. -/
inductive Kd where
  | int (k : IntKind)
  | bool
  | str
  | tv (q : TK)
  | arr (sz : Nat)
  | own (q : TK) (e : TypeId)
  | ownr (e sz : Nat)
  | val (v : Value)
  | agg (ks : List Kd)
  | cell (ty : TypeId) (ks : List Kd)
  | map (q : TK)
  | clo (f : FuncId) (ks : List Kd)

mutual
def Kd.ty : Kd → Type
  | .int _ => Int
  | .bool => Bool
  | .str => ByteArray
  | .tv q => List q.ty
  | .arr _ => List (List D)
  | .own q _ => List q.ty
  | .ownr _ _ => List (List D)
  | .val _ => Unit
  | .agg ks => Kd.tys ks
  | .cell _ ks => Kd.tys ks
  | .map q => List (Int × q.ty)
  | .clo _ ks => Kd.tys ks
def Kd.tys : List Kd → Type
  | [] => Unit
  | k :: ks => Kd.ty k × Kd.tys ks
end

mutual
/-- Data as an abstract value, with new entries from n on. -/
def mk : (k : Kd) → k.ty → Nat → AV × List (Nat × HE) × Nat
  | .int k, x, n => (.d (.c (.int k x)), [], n)
  | .bool, x, n => (.d (.c (.bool x)), [], n)
  | .str, x, n => (.d (.c (.string x)), [], n)
  | .tv q, x, n => (.d (.tv q x), [], n)
  | .arr sz, x, n => (.d (.arr sz x), [], n)
  | .own q e, x, n => (.row n 0, [(n, .trow q e 0 x)], n + 1)
  | .ownr e sz, x, n => (.row n 0, [(n, .row e sz 0 x)], n + 1)
  | .val v, _, n => (.d (.c v), [], n)
  | .agg ks, x, n => match mks ks x n with
    | (cs, h, m) => (.agg cs, h, m)
  | .cell ty ks, x, n => match mks ks x (n + 1) with
    | (cs, h, m) => (.ptr n 0, (n, .cells ty cs) :: h, m)
  | .map q, x, n => (.mp n, [(n, .imap q x)], n + 1)
  | .clo f ks, x, n => match mks ks x n with
    | (cs, h, m) => (.clo f cs, h, m)
def mks : (ks : List Kd) → Kd.tys ks → Nat → List AV × List (Nat × HE) × Nat
  | [], _, n => ([], [], n)
  | k :: ks, x, n => match mk k x.1 n with
    | (a, h, m) => match mks ks x.2 m with
      | (as, h', l) => (a :: as, h ++ h', l)
end

/-- Where a new entry comes from. -/
inductive Src where
  | id (i : Nat)
  | nil (e : TypeId)
def Src.ids : List Src → List Nat
  | [] => []
  | .id i :: r => i :: Src.ids r
  | .nil _ :: r => Src.ids r
def Src.names : Src → Nat → Prop
  | .id i, j => i = j
  | .nil _, _ => False
theorem Src.names_mem {s : Src} {i : Nat} (hn : s.names i) : ∀ {ss : List Src} {j : Nat}, ss[j]? = some s → i ∈ Src.ids ss
  | [], j, h => by simp at h
  | u :: r, 0, h => by
    simp only [List.getElem?_cons_zero, Option.some.injEq] at h
    subst h
    cases u with
    | id k => cases hn; exact List.mem_cons_self
    | nil e => exact hn.elim
  | u :: r, j + 1, h => by
    simp only [List.getElem?_cons_succ] at h
    have := Src.names_mem hn h
    cases u with
    | id k => exact List.mem_cons_of_mem _ this
    | nil e => exact this

/-- A statement as a Bool. -/
noncomputable def tf (p : Prop) : Bool := @decide p (Classical.propDecidable p)
mutual
/-- The data of an abstract value, the entries that are taken over, and the rows that are frozen. -/
noncomputable def xt (h : List (Nat × HE)) : (k : Kd) → AV → Option (k.ty × List Src × List Nat)
  | .int k, a => match a with
    | .d (.c (.int k' x)) => if k' = k then some (x, [], []) else none
    | _ => none
  | .bool, a => match a with
    | .d (.c (.bool x)) => some (x, [], [])
    | .bl x => some (x, [], [])
    | .pr p => some (tf p, [], [])
    | _ => none
  | .str, a => match a with
    | .d (.c (.string x)) => some (x, [], [])
    | _ => none
  | .tv q, a => match a with
    | .d (.tv q' x) => match TK.cast q q' x with
      | some x => some (x, [], [])
      | none => none
    | .d (.c (.slice none 0 0)) => some ([], [], [])
    | .row id ver => match lk h id with
      | some (.trow q' e ver' ws) => bif Nat.beq ver' ver then match TK.cast q q' ws with
        | some x => some (x, [], [id])
        | none => none
        else none
      | _ => none
    | _ => none
  | .arr sz, a => match a with
    | .d (.arr sz' x) => bif Nat.beq sz' sz then some (x, [], []) else none
    | .d (.c (.slice none 0 0)) => some ([], [], [])
    | .row id ver => match lk h id with
      | some (.row e sz' ver' xs) => bif Nat.beq ver' ver && Nat.beq sz' sz then some (xs, [], [id]) else none
      | _ => none
    | _ => none
  | .own q e, a => match a with
    | .d (.c (.slice none 0 0)) => some ([], [.nil e], [])
    | .row id ver => match lk h id with
      | some (.trow q' e' ver' ws) => bif Nat.beq ver' ver && Nat.beq e' e then match TK.cast q q' ws with
        | some x => some (x, [.id id], [])
        | none => none
        else none
      | _ => none
    | _ => none
  | .ownr e sz, a => match a with
    | .d (.c (.slice none 0 0)) => some ([], [.nil e], [])
    | .row id ver => match lk h id with
      | some (.row e' sz' ver' xs) => bif Nat.beq ver' ver && (Nat.beq e' e && Nat.beq sz' sz) then some (xs, [.id id], []) else none
      | _ => none
    | _ => none
  | .val v, a => match v, a with
    | .slice none 0 0, .d (.c (.slice none 0 0)) => some ((), [], [])
    | .pointer none, .d (.c (.pointer none)) => some ((), [], [])
    | _, _ => none
  | .agg ks, a => match a with
    | .agg cs => match xts h ks cs with
      | some y => some y
      | none => none
    | _ => none
  | .cell ty ks, a => match a with
    | .ptr id 0 => match lk h id with
      | some (.cells ty' cs) => bif Nat.beq ty' ty then match xts h ks cs with
        | some (x, ss, fz) => some (x, .id id :: ss, fz)
        | none => none
        else none
      | _ => none
    | _ => none
  | .map q, a => match a with
    | .mp id => match lk h id with
      | some (.imap q' es) => match TK.castM q q' es with
        | some x => some (x, [.id id], [])
        | none => none
      | _ => none
    | _ => none
  | .clo f ks, a => match a with
    | .clo f' cs => bif Nat.beq f' f then match xts h ks cs with
      | some y => some y
      | none => none
      else none
    | _ => none
noncomputable def xts (h : List (Nat × HE)) : (ks : List Kd) → List AV → Option (Kd.tys ks × List Src × List Nat)
  | [], as => match as with
    | [] => some ((), [], [])
    | _ => none
  | k :: ks, as => match as with
    | a :: as => match xt h k a with
      | some (x, ss, fz) => match xts h ks as with
        | some (y, ss', fz') => some ((x, y), ss ++ ss', fz ++ fz')
        | none => none
      | none => none
    | [] => none
end

def occI (B : Nat → Option Bd) (h : List (Nat × HE)) (i b : Nat) : Prop := ∃ x bd, (i, x) ∈ h ∧ B i = some bd ∧ x.occ bd = some b
def occs (B : Nat → Option Bd) (h : List (Nat × HE)) (b : Nat) : Prop := ∃ i, occI B h i b
/-- The blocks of the entries of F. -/
def lent (B : Nat → Option Bd) (h : List (Nat × HE)) (F : List Nat) (b : Nat) : Prop := ∃ i, i ∈ F ∧ occI B h i b

def Bd.v0 (b : Bd) : Bd := { b with ver := 0 }
theorem Bd.v0_of {b : Bd} (h : b.ver = 0) : b = b.v0 := by cases b; simp only at h; subst h; rfl
/-- New entries from n on, of these sources, bound to these places. -/
inductive Ents (B : Nat → Option Bd) (w : World) (h : List (Nat × HE)) (B' : Nat → Option Bd) (ok' : Nat → Prop) : Nat → List Src → List (Nat × HE) → List Bd → Prop
  | nil (n : Nat) : Ents B w h B' ok' n [] [] []
  | cons {n : Nat} {s : Src} {ss : List Src} {he : HE} {es : List (Nat × HE)} {bd : Bd} {bs : List Bd} (h1 : SatE B' ok' w bd he) (h2 : ∀ b, he.occ bd = some b → ∃ i, s.names i ∧ occI B h i b) (h4 : ∀ i, s.names i → ∃ b0, B i = some b0 ∧ bd = b0.v0 ∧ ∀ ty cs, he = .cells ty cs → b0.ver = 0) (h3 : Ents B w h B' ok' (n + 1) ss es bs) :
      Ents B w h B' ok' n (s :: ss) ((n, he) :: es) (bd :: bs)
theorem Ents.append {B : Nat → Option Bd} {w : World} {h : List (Nat × HE)} {B' : Nat → Option Bd} {ok' : Nat → Prop} {n : Nat} {ss : List Src} {es : List (Nat × HE)} {bs : List Bd} (h1 : Ents B w h B' ok' n ss es bs) :
    ∀ {ss' : List Src} {es' : List (Nat × HE)} {bs' : List Bd}, Ents B w h B' ok' (n + ss.length) ss' es' bs' → Ents B w h B' ok' n (ss ++ ss') (es ++ es') (bs ++ bs') := by
  induction h1 with
  | nil n => intro ss' es' bs' h2; exact h2
  | cons g1 g2 g4 g3 ih =>
    intro ss' es' bs' h2
    refine .cons g1 g2 g4 (ih ?_)
    rw [List.length_cons] at h2
    rwa [Nat.add_right_comm, Nat.add_assoc]
theorem Ents.get {B : Nat → Option Bd} {w : World} {h : List (Nat × HE)} {B' : Nat → Option Bd} {ok' : Nat → Prop} {n : Nat} {ss : List Src} {es : List (Nat × HE)} {bs : List Bd} (h1 : Ents B w h B' ok' n ss es bs) :
    ∀ {i : Nat} {x : HE}, (i, x) ∈ es → ∃ j s bd, i = n + j ∧ ss[j]? = some s ∧ bs[j]? = some bd ∧ es[j]? = some (i, x) ∧ SatE B' ok' w bd x ∧ (∀ b, x.occ bd = some b → ∃ i, s.names i ∧ occI B h i b) ∧ ∀ i, s.names i → ∃ b0, B i = some b0 ∧ bd = b0.v0 ∧ ∀ ty cs, x = .cells ty cs → b0.ver = 0 := by
  induction h1 with
  | nil n => intro i x hm; cases hm
  | cons g1 g2 g4 g3 ih =>
    intro i x hm
    rcases List.mem_cons.1 hm with e | hm
    · cases e
      exact ⟨0, _, _, rfl, rfl, rfl, rfl, g1, g2, g4⟩
    · obtain ⟨j, s, bd, h1, h2, h3, h4, h5, h6⟩ := ih hm
      exact ⟨j + 1, s, bd, by omega, h2, h3, h4, h5, h6⟩
theorem Ents.src {B : Nat → Option Bd} {w : World} {h : List (Nat × HE)} {B' : Nat → Option Bd} {ok' : Nat → Prop} {n : Nat} {ss : List Src} {es : List (Nat × HE)} {bs : List Bd} (h1 : Ents B w h B' ok' n ss es bs) :
    ∀ (k j : Nat), ss[k]? = some (Src.id j) → ∃ b0, B j = some b0 ∧ bs[k]? = some b0.v0 := by
  induction h1 with
  | nil n => intro k j hk; simp at hk
  | cons g1 g2 g4 g3 ih =>
    intro k j hk
    cases k with
    | zero =>
      simp only [List.getElem?_cons_zero, Option.some.injEq] at hk
      subst hk
      obtain ⟨b0, q1, q2, _⟩ := g4 j rfl
      exact ⟨b0, q1, by simp [q2]⟩
    | succ k =>
      simp only [List.getElem?_cons_succ] at hk ⊢
      exact ih k j hk
theorem Ents.len {B : Nat → Option Bd} {w : World} {h : List (Nat × HE)} {B' : Nat → Option Bd} {ok' : Nat → Prop} {n : Nat} {ss : List Src} {es : List (Nat × HE)} {bs : List Bd} (h1 : Ents B w h B' ok' n ss es bs) : es.length = ss.length ∧ bs.length = ss.length := by
  induction h1 with
  | nil n => exact ⟨rfl, rfl⟩
  | cons g1 g2 g4 g3 ih => exact ⟨by simp [ih.1], by simp [ih.2]⟩

/-- A row that is nothing. -/
def nilBd (sz : Nat) : Bd := ⟨0, 0, 0, 0, sz, 0, false⟩
theorem nilBd_sat {ok : Nat → Prop} {w : World} (e sz : Nat) : SatR ok w (nilBd sz) e sz 0 [] := ⟨rfl, rfl, rfl, (fun l hl => by cases hl), by simp [nilBd]⟩
theorem SatR.v0 {ok ok' : Nat → Prop} {w : World} {bd : Bd} {e sz ver : Nat} {xs : List (List D)} (hk : ∀ b, ok b → ok' b) (h : SatR ok w bd e sz ver xs) : SatR ok' w bd.v0 e sz 0 xs := by
  obtain ⟨h1, h2, h3, h4, h5⟩ := SatR.mono hk (fun _ _ => rfl) (fun _ => rfl) h
  exact ⟨rfl, h2, h3, h4, h5⟩

section
variable {B : Nat → Option Bd} {ok : Nat → Prop} {w : World} {h : List (Nat × HE)}

/-- What is known of a value behind its taking over. -/
def Took (B : Nat → Option Bd) (ok : Nat → Prop) (w : World) (h : List (Nat × HE)) (ss : List Src) (fz : List Nat) (m : Nat → AV × List (Nat × HE) × Nat) (v : Value) : Prop :=
  ∃ bs : List Bd, bs.length = ss.length ∧ ∀ n B' ok', (∀ j bd, bs[j]? = some bd → B' (n + j) = some bd) → (∀ b, ok b → ok' b) → (∀ b, lent B h fz b → ok' b) →
    RelA B' ok' w (m n).1 v ∧ Ents B w h B' ok' n ss (m n).2.1 bs ∧ (m n).2.2 = n + ss.length
def Tooks (B : Nat → Option Bd) (ok : Nat → Prop) (w : World) (h : List (Nat × HE)) (ss : List Src) (fz : List Nat) (m : Nat → List AV × List (Nat × HE) × Nat) (R : (Nat → Option Bd) → (Nat → Prop) → List AV → Prop) : Prop :=
  ∃ bs : List Bd, bs.length = ss.length ∧ ∀ n B' ok', (∀ j bd, bs[j]? = some bd → B' (n + j) = some bd) → (∀ b, ok b → ok' b) → (∀ b, lent B h fz b → ok' b) →
    R B' ok' (m n).1 ∧ Ents B w h B' ok' n ss (m n).2.1 bs ∧ (m n).2.2 = n + ss.length

theorem took0 {m : Nat → AV × List (Nat × HE) × Nat} {a : AV} {v : Value} {fz : List Nat} (e : ∀ n, m n = (a, [], n)) (hr : ∀ B' ok', (∀ b, ok b → ok' b) → (∀ b, lent B h fz b → ok' b) → RelA B' ok' w a v) : Took B ok w h [] fz m v :=
  ⟨[], rfl, fun n B' ok' _ h2 h3 => by rw [e n]; exact ⟨hr B' ok' h2 h3, .nil n, rfl⟩⟩

theorem took1 {m : Nat → AV × List (Nat × HE) × Nat} {f : Nat → AV} {he : HE} {v : Value} {fz : List Nat} {s : Src} {bd : Bd} (e : ∀ n, m n = (f n, [(n, he)], n + 1)) (hr : ∀ n B' ok', B' n = some bd → RelA B' ok' w (f n) v)
    (hs : ∀ B' ok', (∀ b, ok b → ok' b) → SatE B' ok' w bd he) (ho : ∀ b, he.occ bd = some b → ∃ i, s.names i ∧ occI B h i b) (hv : ∀ i, s.names i → ∃ b0, B i = some b0 ∧ bd = b0.v0 ∧ ∀ ty cs, he = .cells ty cs → b0.ver = 0) : Took B ok w h [s] fz m v :=
  ⟨[bd], rfl, fun n B' ok' h1 h2 h3 => by
    rw [e n]
    exact ⟨hr n B' ok' (h1 0 bd rfl), .cons (hs B' ok' h2) ho hv (.nil _), rfl⟩⟩

mutual
theorem xt_ok (hs : ∀ i x, (i, x) ∈ h → ∃ bd, B i = some bd ∧ SatE B ok w bd x) : ∀ (k : Kd) (a : AV) (x : k.ty) (ss : List Src) (fz : List Nat) (v : Value), xt h k a = some (x, ss, fz) → RelA B ok w a v → Took B ok w h ss fz (mk k x) v
  | .int k, a, x, ss, fz, v, e, hr => by
    unfold xt at e
    split at e
    · split at e
      · rename_i hk
        cases e
        subst hk
        exact took0 (fun n => rfl) (fun B' ok' h2 _ => RelA.mono (BLe.refl _) h2 (fun _ _ => rfl) (.d (.c (.int _ _))) v hr)
      · cases e
    · cases e
  | .bool, a, x, ss, fz, v, e, hr => by
    unfold xt at e
    split at e
    · cases e; exact took0 (fun n => rfl) (fun B' ok' h2 _ => RelD.mono hr h2 (fun _ _ => rfl))
    · cases e; cases hr; exact took0 (fun n => rfl) (fun B' ok' h2 _ => .c _ rfl)
    · cases e
      rename_i p
      obtain ⟨y, rfl, hy⟩ := hr
      refine took0 (fun n => rfl) (fun B' ok' h2 _ => ?_)
      have : y = tf p := by
        cases y <;> simp_all [tf]
      rw [← this]
      exact .c _ rfl
    · cases e
  | .str, a, x, ss, fz, v, e, hr => by
    unfold xt at e
    split at e
    · cases e; exact took0 (fun n => rfl) (fun B' ok' h2 _ => RelD.mono hr h2 (fun _ _ => rfl))
    · cases e
  | .tv q, a, x, ss, fz, v, e, hr => by
    unfold xt at e
    split at e
    · split at e
      · rename_i x' hx
        cases e
        cases TK.cast_ok hx
        exact took0 (fun n => rfl) (fun B' ok' h2 _ => RelD.mono hr h2 (fun _ _ => rfl))
      · cases e
    · cases e; cases hr; exact took0 (fun n => rfl) (fun B' ok' h2 _ => .tv q _ _ (RelD.nil 1))
    · rename_i id ver
      split at e
      · rename_i q' e' ver' ws hh
        cases hb : Nat.beq ver' ver with
        | false => rw [hb] at e; cases e
        | true =>
          rw [hb] at e
          simp only [cond_true] at e
          split at e
          · rename_i x' hx
            cases e
            cases TK.cast_ok hx
            have := Nat.eq_of_beq_eq_true hb
            subst this
            obtain ⟨_, bd, g1, g2, g3⟩ := hr
            obtain ⟨bd', g4, g5⟩ := hs _ _ (lk_mem hh)
            rw [g1] at g4
            cases g4
            have hv := g3 g5.1.symm
            subst hv
            exact took0 (fun n => rfl) (fun B' ok' h2 h3 => .tv q _ _ (RelD.frozenR g5 h2 fun b hb => h3 b ⟨id, List.mem_singleton.2 rfl, _, bd, lk_mem hh, g1, hb⟩))
          · cases e
      · cases e
    · cases e
  | .arr sz, a, x, ss, fz, v, e, hr => by
    unfold xt at e
    split at e
    · rename_i sz' y
      cases hb : Nat.beq sz' sz with
      | false => rw [hb] at e; cases e
      | true =>
        rw [hb] at e
        cases e
        have := Nat.eq_of_beq_eq_true hb
        subst this
        exact took0 (fun n => rfl) (fun B' ok' h2 _ => RelD.mono hr h2 (fun _ _ => rfl))
    · cases e; cases hr; exact took0 (fun n => rfl) (fun B' ok' h2 _ => RelD.nil sz)
    · rename_i id ver
      split at e
      · rename_i e' sz' ver' ws hh
        cases hb : (Nat.beq ver' ver && Nat.beq sz' sz) with
        | false => rw [hb] at e; cases e
        | true =>
          rw [hb] at e
          cases e
          simp only [Bool.and_eq_true] at hb
          have q1 := Nat.eq_of_beq_eq_true hb.1
          have q2 := Nat.eq_of_beq_eq_true hb.2
          subst q1
          subst q2
          obtain ⟨_, bd, g1, g2, g3⟩ := hr
          obtain ⟨bd', g4, g5⟩ := hs _ _ (lk_mem hh)
          rw [g1] at g4
          cases g4
          have hv := g3 g5.1.symm
          subst hv
          exact took0 (fun n => rfl) (fun B' ok' h2 h3 => RelD.frozenR g5 h2 fun b hb => h3 b ⟨id, List.mem_singleton.2 rfl, _, bd, lk_mem hh, g1, hb⟩)
      · cases e
    · cases e
  | .own q e0, a, x, ss, fz, v, e, hr => by
    unfold xt at e
    split at e
    · cases e
      cases hr
      exact took1 (bd := nilBd 1) (fun n => rfl) (fun n B' ok' hB => ⟨rfl, _, hB, Nat.le_refl _, fun _ => rfl⟩) (fun B' ok' _ => nilBd_sat _ 1) (fun b hb => by simp [HE.occ, nilBd] at hb) (fun i hi => hi.elim)
    · rename_i id ver
      split at e
      · rename_i q' e' ver' ws hh
        cases hb : (Nat.beq ver' ver && Nat.beq e' e0) with
        | false => rw [hb] at e; cases e
        | true =>
          rw [hb] at e
          simp only [cond_true] at e
          split at e
          · rename_i x' hx
            cases e
            cases TK.cast_ok hx
            simp only [Bool.and_eq_true] at hb
            have q1 := Nat.eq_of_beq_eq_true hb.1
            have q2 := Nat.eq_of_beq_eq_true hb.2
            subst q1
            subst q2
            obtain ⟨hc, bd, g1, g2, g3⟩ := hr
            obtain ⟨bd', g4, g5⟩ := hs _ _ (lk_mem hh)
            rw [g1] at g4
            cases g4
            have hv := g3 g5.1.symm
            subst hv
            exact took1 (bd := bd.v0) (fun n => rfl) (fun n B' ok' hB => ⟨hc, _, hB, Nat.le_refl _, fun _ => rfl⟩) (fun B' ok' h2 => SatR.v0 h2 g5) (fun b hb => ⟨id, rfl, _, bd, lk_mem hh, g1, hb⟩) (fun i hi => by cases hi; exact ⟨bd, g1, rfl, fun _ _ e => by cases e⟩)
          · cases e
      · cases e
    · cases e
  | .ownr e0 sz0, a, x, ss, fz, v, e, hr => by
    unfold xt at e
    split at e
    · cases e
      cases hr
      exact took1 (bd := nilBd sz0) (fun n => rfl) (fun n B' ok' hB => ⟨rfl, _, hB, Nat.le_refl _, fun _ => rfl⟩) (fun B' ok' _ => nilBd_sat _ sz0) (fun b hb => by simp [HE.occ, nilBd] at hb) (fun i hi => hi.elim)
    · rename_i id ver
      split at e
      · rename_i e' sz' ver' ws hh
        cases hb : (Nat.beq ver' ver && (Nat.beq e' e0 && Nat.beq sz' sz0)) with
        | false => rw [hb] at e; cases e
        | true =>
          rw [hb] at e
          cases e
          simp only [Bool.and_eq_true] at hb
          have q1 := Nat.eq_of_beq_eq_true hb.1
          have q2 := Nat.eq_of_beq_eq_true hb.2.1
          have q3 := Nat.eq_of_beq_eq_true hb.2.2
          subst q1
          subst q2
          subst q3
          obtain ⟨hc, bd, g1, g2, g3⟩ := hr
          obtain ⟨bd', g4, g5⟩ := hs _ _ (lk_mem hh)
          rw [g1] at g4
          cases g4
          have hv := g3 g5.1.symm
          subst hv
          exact took1 (bd := bd.v0) (fun n => rfl) (fun n B' ok' hB => ⟨hc, _, hB, Nat.le_refl _, fun _ => rfl⟩) (fun B' ok' h2 => SatR.v0 h2 g5) (fun b hb => ⟨id, rfl, _, bd, lk_mem hh, g1, hb⟩) (fun i hi => by cases hi; exact ⟨bd, g1, rfl, fun _ _ e => by cases e⟩)
      · cases e
    · cases e
  | .val u, a, x, ss, fz, v, e, hr => by
    unfold xt at e
    split at e
    · cases e; exact took0 (fun n => rfl) (fun B' ok' h2 _ => RelD.mono hr h2 (fun _ _ => rfl))
    · cases e; exact took0 (fun n => rfl) (fun B' ok' h2 _ => RelD.mono hr h2 (fun _ _ => rfl))
    · cases e
  | .agg ks, a, x, ss, fz, v, e, hr => by
    unfold xt at e
    split at e
    · rename_i cs
      have e : xts h ks cs = some (x, ss, fz) := by
        split at e
        · rename_i y hy; cases e; exact hy
        · cases e
      obtain ⟨vs, rfl, h1⟩ := hr
      obtain ⟨bs, g1, g2⟩ := xts_ok hs ks cs x ss fz vs e h1
      refine ⟨bs, g1, fun n B' ok' k1 k2 k3 => ?_⟩
      obtain ⟨q1, q2, q3⟩ := g2 n B' ok' k1 k2 k3
      exact ⟨⟨vs, rfl, q1⟩, q2, q3⟩
    · cases e
  | .cell ty ks, a, x, ss, fz, v, e, hr => by
    unfold xt at e
    split at e
    · rename_i id
      split at e
      · rename_i ty' cs hh
        cases hb : Nat.beq ty' ty with
        | false => rw [hb] at e; cases e
        | true =>
          rw [hb] at e
          have := Nat.eq_of_beq_eq_true hb
          subst this
          simp only [cond_true] at e
          split at e
          · rename_i x' ss' fz' h1
            cases e
            obtain ⟨hc, bd, g1, g2⟩ := hr
            obtain ⟨bd', g3, g4, vs, g5, g6⟩ := hs _ _ (lk_mem hh)
            rw [g1] at g3
            cases g3
            obtain ⟨bs, q1, q2⟩ := xts_ok hs ks cs x ss' fz vs h1 g6
            refine ⟨bd :: bs, by simp [q1], fun n B' ok' k1 k2 k3 => ?_⟩
            obtain ⟨r1, r2, r3⟩ := q2 (n + 1) B' ok' (fun j b hj => by rw [Nat.add_assoc, Nat.add_comm 1 j]; exact k1 (j + 1) b hj) k2 k3
            refine ⟨⟨hc, bd, k1 0 bd rfl, g2⟩, .cons ⟨g4, vs, g5, r1⟩ (fun b hb => ⟨id, rfl, _, bd, lk_mem hh, g1, hb⟩) (fun i hi => by cases hi; exact ⟨bd, g1, Bd.v0_of g4, fun _ _ _ => g4⟩) r2, ?_⟩
            show (mks ks x (n + 1)).2.2 = _
            rw [r3, List.length_cons]
            omega
          · cases e
      · cases e
    · cases e
  | .map q, a, x, ss, fz, v, e, hr => by
    unfold xt at e
    split at e
    · rename_i id
      split at e
      · rename_i q' es hh
        split at e
        · rename_i hx
          cases e
          cases TK.castM_ok hx
          obtain ⟨hc, bd, g1, g2⟩ := hr
          obtain ⟨bd', g3, g4, gf, ent, ck, g5⟩ := hs _ _ (lk_mem hh)
          rw [g1] at g3
          cases g3
          exact took1 (bd := bd) (fun n => rfl) (fun n B' ok' hB => ⟨hc, _, hB, g2⟩) (fun B' ok' h2 => ⟨g4, gf, ent, ck, g5⟩) (fun b hb => ⟨id, rfl, _, bd, lk_mem hh, g1, hb⟩) (fun i hi => by cases hi; exact ⟨bd, g1, Bd.v0_of g4, fun _ _ _ => g4⟩)
        · cases e
      · cases e
    · cases e
  | .clo f ks, a, x, ss, fz, v, e, hr => by
    unfold xt at e
    split at e
    · rename_i f' cs
      cases hb : Nat.beq f' f with
      | false => rw [hb] at e; cases e
      | true =>
        rw [hb] at e
        have := Nat.eq_of_beq_eq_true hb
        subst this
        simp only [cond_true] at e
        have e : xts h ks cs = some (x, ss, fz) := by
          split at e
          · rename_i y hy; cases e; exact hy
          · cases e
        obtain ⟨vs, rfl, h1⟩ := hr
        obtain ⟨bs, g1, g2⟩ := xts_okT hs ks cs x ss fz vs e h1
        refine ⟨bs, g1, fun n B' ok' k1 k2 k3 => ?_⟩
        obtain ⟨q1, q2, q3⟩ := g2 n B' ok' k1 k2 k3
        exact ⟨⟨vs, rfl, q1⟩, q2, q3⟩
    · cases e
theorem xts_ok (hs : ∀ i x, (i, x) ∈ h → ∃ bd, B i = some bd ∧ SatE B ok w bd x) : ∀ (ks : List Kd) (as : List AV) (x : Kd.tys ks) (ss : List Src) (fz : List Nat) (vs : List Value), xts h ks as = some (x, ss, fz) → RelAs B ok w as vs → Tooks B ok w h ss fz (mks ks x) (fun B' ok' as' => RelAs B' ok' w as' vs)
  | [], as, x, ss, fz, vs, e, hr => by
    unfold xts at e
    split at e
    · cases e; cases hr; exact ⟨[], rfl, fun n B' ok' _ _ _ => ⟨rfl, .nil n, rfl⟩⟩
    · cases e
  | k :: ks, as, x, ss, fz, vs, e, hr => by
    unfold xts at e
    split at e
    · rename_i a as'
      split at e
      · rename_i x1 ss1 fz1 e1
        split at e
        · rename_i x2 ss2 fz2 e2
          cases e
          obtain ⟨v, vs', rfl, h1, h2, h3⟩ := hr
          obtain ⟨bs1, g1, g2⟩ := xt_ok hs k a x1 ss1 fz1 v e1 h2
          obtain ⟨bs2, g3, g4⟩ := xts_ok hs ks as' x2 ss2 fz2 vs' e2 h3
          refine ⟨bs1 ++ bs2, by simp [g1, g3], fun n B' ok' k1 k2 k3 => ?_⟩
          obtain ⟨q1, q2, q3⟩ := g2 n B' ok' (fun j b hj => k1 j b (by rw [List.getElem?_append_left (List.getElem?_eq_some_iff.1 hj).1]; exact hj)) k2 (fun b ⟨i, hi, ho⟩ => k3 b ⟨i, List.mem_append_left _ hi, ho⟩)
          obtain ⟨r1, r2, r3⟩ := g4 (mk k x1 n).2.2 B' ok' (fun j b hj => by
            rw [q3, ← g1, Nat.add_assoc]
            exact k1 (bs1.length + j) b (by rw [List.getElem?_append_right (by omega), Nat.add_sub_cancel_left]; exact hj)) k2 (fun b ⟨i, hi, ho⟩ => k3 b ⟨i, List.mem_append_right _ hi, ho⟩)
          rw [q3] at r2
          refine ⟨⟨v, vs', rfl, h1, q1, r1⟩, ?_, ?_⟩
          · show Ents B w h B' ok' n (ss1 ++ ss2) ((mk k x1 n).2.1 ++ (mks ks x2 (mk k x1 n).2.2).2.1) (bs1 ++ bs2)
            rw [q3]
            exact q2.append r2
          · show (mks ks x2 (mk k x1 n).2.2).2.2 = _
            rw [r3, q3, List.length_append]
            omega
        · cases e
      · cases e
    · cases e
theorem xts_okT (hs : ∀ i x, (i, x) ∈ h → ∃ bd, B i = some bd ∧ SatE B ok w bd x) : ∀ (ks : List Kd) (as : List AV) (x : Kd.tys ks) (ss : List Src) (fz : List Nat) (vs : List Value), xts h ks as = some (x, ss, fz) → RelTs B ok w as vs → Tooks B ok w h ss fz (mks ks x) (fun B' ok' as' => RelTs B' ok' w as' vs)
  | [], as, x, ss, fz, vs, e, hr => by
    unfold xts at e
    split at e
    · cases e; cases hr; exact ⟨[], rfl, fun n B' ok' _ _ _ => ⟨rfl, .nil n, rfl⟩⟩
    · cases e
  | k :: ks, as, x, ss, fz, vs, e, hr => by
    unfold xts at e
    split at e
    · rename_i a as'
      split at e
      · rename_i x1 ss1 fz1 e1
        split at e
        · rename_i x2 ss2 fz2 e2
          cases e
          obtain ⟨v, vs', rfl, h2, h3⟩ := hr
          obtain ⟨bs1, g1, g2⟩ := xt_ok hs k a x1 ss1 fz1 v e1 h2
          obtain ⟨bs2, g3, g4⟩ := xts_okT hs ks as' x2 ss2 fz2 vs' e2 h3
          refine ⟨bs1 ++ bs2, by simp [g1, g3], fun n B' ok' k1 k2 k3 => ?_⟩
          obtain ⟨q1, q2, q3⟩ := g2 n B' ok' (fun j b hj => k1 j b (by rw [List.getElem?_append_left (List.getElem?_eq_some_iff.1 hj).1]; exact hj)) k2 (fun b ⟨i, hi, ho⟩ => k3 b ⟨i, List.mem_append_left _ hi, ho⟩)
          obtain ⟨r1, r2, r3⟩ := g4 (mk k x1 n).2.2 B' ok' (fun j b hj => by
            rw [q3, ← g1, Nat.add_assoc]
            exact k1 (bs1.length + j) b (by rw [List.getElem?_append_right (by omega), Nat.add_sub_cancel_left]; exact hj)) k2 (fun b ⟨i, hi, ho⟩ => k3 b ⟨i, List.mem_append_right _ hi, ho⟩)
          rw [q3] at r2
          refine ⟨⟨v, vs', rfl, q1, r1⟩, ?_, ?_⟩
          · show Ents B w h B' ok' n (ss1 ++ ss2) ((mk k x1 n).2.1 ++ (mks ks x2 (mk k x1 n).2.2).2.1) (bs1 ++ bs2)
            rw [q3]
            exact q2.append r2
          · show (mks ks x2 (mk k x1 n).2.2).2.2 = _
            rw [r3, q3, List.length_append]
            omega
        · cases e
      · cases e
    · cases e
end
end
end Go.Proofs.YthjmmofafpahhaaGreat.Sx
