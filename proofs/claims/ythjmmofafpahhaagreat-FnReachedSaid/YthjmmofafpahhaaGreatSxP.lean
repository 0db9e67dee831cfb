/- The symbolic layer: heads of loops. Program-independent. -/
import Derived.Test.YthjmmofafpahhaaGreatSxO
namespace Go.Proofs.YthjmmofafpahhaaGreat.Sx
open Go Go.RowKit
set_option linter.unusedVariables false
set_option linter.unusedSimpArgs false

theorem Sop.mono {P : Program} {Γ : Ctx} {o : Oper} {K K' : S → Prop} {σ : S} (hK : ∀ s, K s → K' s) (h : Sop P Γ o K σ) : Sop P Γ o K' σ :=
  fun a w hs K1 Q1 hk => h a w hs K1 Q1 fun σ' a' w' k => hk σ' a' w' (hK σ' k)
theorem SopB.mono {P : Program} {Γ : Ctx} {o : Oper} {K K' : S → Prop} {σ : S} (hK : ∀ s, K s → K' s) (h : SopB P Γ o K σ) : SopB P Γ o K' σ :=
  fun a w hs K1 Q1 hk => h a w hs K1 Q1 fun σ' a' w' k => hk σ' a' w' (hK σ' k)
theorem Run.mono {P : Program} {Γ : Ctx} {σ : S} {c : Code} {Q Q' : SE → S → Prop} (h : Run P Γ c Q σ) (hq : ∀ e σ, Q e σ → Q' e σ) : Run P Γ c Q' σ := by
  intro a w hs
  refine wp_mono (h a w hs) fun e a' w' q => ?_
  cases e with
  | normal => obtain ⟨σ', h1, h2⟩ := q; exact ⟨σ', hq _ _ h1, h2⟩
  | exit i => obtain ⟨σ', h1, h2⟩ := q; exact ⟨σ', hq _ _ h1, h2⟩
  | goto l => obtain ⟨σ', h1, h2⟩ := q; exact ⟨σ', hq _ _ h1, h2⟩
  | ret => obtain ⟨σ', h1, h2⟩ := q; exact ⟨σ', hq _ _ h1, h2⟩
  | panic ch => exact q.elim
  | outgrown => exact q.elim


/-! ### One abstract value tells what another tells -/
def eqvC : Value → AV → Prop
  | .int k m, b => match b with
    | .d (.c (.int k' n)) => if k = k' then m = n else False
    | .any => True
    | _ => False
  | .bool m, b => match b with
    | .d (.c (.bool n)) => m = n
    | .bl n => m = n
    | .pr q => (m = true ↔ q)
    | .any => True
    | _ => False
  | .string m, b => match b with
    | .d (.c (.string n)) => m = n
    | .any => True
    | _ => False
  | .slice none 0 0, b => match b with
    | .d (.c u) => u = .slice none 0 0
    | .d (.tv _ ws) => ws = []
    | .d (.arr _ xs) => xs = []
    | .any => True
    | _ => False
  | v, b => match b with
    | .d (.c u) => v = u
    | .any => True
    | _ => False
def eqvD : D → AV → Prop
  | .c v, b => eqvC v b
  | .tv q ws, b => match b with
    | .d (.tv q' ws') => match TK.cast q q' ws' with
      | some xs => ws = xs
      | none => False
    | .any => True
    | _ => False
  | .arr sz xs, b => match b with
    | .d (.arr sz' xs') => sz = sz' ∧ xs = xs'
    | .any => True
    | _ => False
def eqvBl (m : Bool) : AV → Prop
  | .bl n => m = n
  | .d (.c (.bool n)) => m = n
  | .pr q => (m = true ↔ q)
  | .any => True
  | _ => False
def eqvPr (p : Prop) : AV → Prop
  | .pr q => (p ↔ q)
  | .d (.c (.bool n)) => (n = true ↔ p)
  | .any => True
  | _ => False
mutual
def eqvP : AV → AV → Prop
  | .d x, b => eqvD x b
  | .bl x, b => eqvBl x b
  | .pr p, b => eqvPr p b
  | .ptr i o, b => match b with
    | .ptr i' o' => bif Nat.beq i i' && Nat.beq o o' then True else False
    | .any => True
    | _ => False
  | .rp sz xs i j, b => match b with
    | .rp sz' xs' i' j' => sz = sz' ∧ xs = xs' ∧ i = i' ∧ j = j'
    | .any => True
    | _ => False
  | .row i v, b => match b with
    | .row i' v' => bif Nat.beq i i' && Nat.beq v v' then True else False
    | .any => True
    | _ => False
  | .rowv i v o l, b => match b with
    | .rowv i' v' o' l' => i = i' ∧ v = v' ∧ o = o' ∧ l = l'
    | .any => True
    | _ => False
  | .wp i v o l, b => match b with
    | .wp i' v' o' l' => i = i' ∧ v = v' ∧ o = o' ∧ l = l'
    | .any => True
    | _ => False
  | .agg as, b => match b with
    | .agg bs => eqvPs as bs
    | .any => True
    | _ => False
  | .tup as, b => match b with
    | .tup bs => eqvPs as bs
    | .any => True
    | _ => False
  | .clo f as, b => match b with
    | .clo g bs => bif Nat.beq f g then eqvPs as bs else False
    | .any => True
    | _ => False
  | .mp i, b => match b with
    | .mp j => bif Nat.beq i j then True else False
    | .any => True
    | _ => False
  | .tp q ws i, b => match b with
    | .tp q' ws' i' => match TK.cast q q' ws' with
      | some xs => ws = xs ∧ i = i'
      | none => False
    | .any => True
    | _ => False
  | .any, b => match b with
    | .any => True
    | _ => False
def eqvPs : List AV → List AV → Prop
  | [], [] => True
  | a :: as, b :: bs => eqvP a b ∧ eqvPs as bs
  | _, _ => False
end

section
variable {B : Nat → Option Bd} {ok : Nat → Prop} {w : World}
theorem eqvC_ok {u : Value} {b : AV} {v : Value} (h : eqvC u b) (hr : RelD ok w (.c u) v) : RelA B ok w b v := by
  cases hr with
  | c _ h1 =>
  unfold eqvC at h
  split at h
  · split at h
    · split at h
      · rename_i hk; subst hk; subst h; exact .c _ rfl
      · exact h.elim
    · trivial
    · exact h.elim
  · split at h
    · subst h; exact .c _ rfl
    · subst h; rfl
    · exact ⟨_, rfl, h⟩
    · trivial
    · exact h.elim
  · split at h
    · subst h; exact .c _ rfl
    · trivial
    · exact h.elim
  · split at h
    · subst h; exact .c _ rfl
    · subst h; exact RelD.tv _ [] _ (RelD.nil 1)
    · subst h; exact RelD.nil _
    · trivial
    · exact h.elim
  · split at h
    · subst h; exact .c _ h1
    · trivial
    · exact h.elim
mutual
theorem eqvP_ok : ∀ (a b : AV) (v : Value), eqvP a b → RelA B ok w a v → RelA B ok w b v
  | .d x, b, v, h, hr => by
    replace h : eqvD x b := h
    cases x with
    | c u => exact eqvC_ok h hr
    | tv q ws =>
      simp only [eqvD] at h
      split at h
      · split at h
        · rename_i hx
          subst h
          cases TK.cast_ok hx
          exact hr
        · exact h.elim
      · trivial
      · exact h.elim
    | arr sz xs =>
      simp only [eqvD] at h
      split at h
      · obtain ⟨rfl, rfl⟩ := h; exact hr
      · trivial
      · exact h.elim
  | .bl x, b, v, h, hr => by
    replace h : eqvBl x b := h
    cases hr
    unfold eqvBl at h
    split at h
    · subst h; rfl
    · subst h; exact RelD.c _ rfl
    · exact ⟨_, rfl, h⟩
    · trivial
    · exact h.elim
  | .pr p, b, v, h, hr => by
    replace h : eqvPr p b := h
    obtain ⟨x, rfl, hx⟩ := hr
    unfold eqvPr at h
    split at h
    · exact ⟨x, rfl, hx.trans h⟩
    · rename_i n
      have : x = n := by
        have := hx.trans h.symm
        cases x <;> cases n <;> simp_all
      subst this
      exact RelD.c _ rfl
    · trivial
    · exact h.elim
  | .ptr i o, b, v, h, hr => by
    unfold eqvP at h
    split at h
    · rename_i i' o'
      cases hb : (Nat.beq i i' && Nat.beq o o') with
      | true =>
        simp only [Bool.and_eq_true] at hb
        have q1 := Nat.eq_of_beq_eq_true hb.1
        have q2 := Nat.eq_of_beq_eq_true hb.2
        subst q1; subst q2; exact hr
      | false => rw [hb] at h; exact h.elim
    · trivial
    · exact h.elim
  | .rp _ _ _ _, b, v, h, hr => by unfold eqvP at h; split at h <;> first | (obtain ⟨rfl, rfl, rfl, rfl⟩ := h; exact hr) | trivial | exact h.elim
  | .row i o, b, v, h, hr => by
    unfold eqvP at h
    split at h
    · rename_i i' o'
      cases hb : (Nat.beq i i' && Nat.beq o o') with
      | true =>
        simp only [Bool.and_eq_true] at hb
        have q1 := Nat.eq_of_beq_eq_true hb.1
        have q2 := Nat.eq_of_beq_eq_true hb.2
        subst q1; subst q2; exact hr
      | false => rw [hb] at h; exact h.elim
    · trivial
    · exact h.elim
  | .rowv _ _ _ _, b, v, h, hr => by unfold eqvP at h; split at h <;> first | (obtain ⟨rfl, rfl, rfl, rfl⟩ := h; exact hr) | trivial | exact h.elim
  | .wp _ _ _ _, b, v, h, hr => by unfold eqvP at h; split at h <;> first | (obtain ⟨rfl, rfl, rfl, rfl⟩ := h; exact hr) | trivial | exact h.elim
  | .agg as, b, v, h, hr => by
    unfold eqvP at h
    split at h
    · obtain ⟨vs, h1, h2⟩ := hr; exact ⟨vs, h1, eqvPs_ok as _ vs h h2⟩
    · trivial
    · exact h.elim
  | .tup as, b, v, h, hr => by
    unfold eqvP at h
    split at h
    · obtain ⟨vs, h1, h2⟩ := hr; exact ⟨vs, h1, eqvPs_okT as _ vs h h2⟩
    · trivial
    · exact h.elim
  | .clo f as, b, v, h, hr => by
    unfold eqvP at h
    split at h
    · rename_i g bs
      cases hb : Nat.beq f g with
      | true =>
        rw [hb] at h
        have q1 := Nat.eq_of_beq_eq_true hb
        subst q1
        obtain ⟨vs, h1, h2⟩ := hr
        exact ⟨vs, h1, eqvPs_okT as _ vs h h2⟩
      | false => rw [hb] at h; exact h.elim
    · trivial
    · exact h.elim
  | .mp i, b, v, h, hr => by
    unfold eqvP at h
    split at h
    · rename_i j
      cases hb : Nat.beq i j with
      | true => have q1 := Nat.eq_of_beq_eq_true hb; subst q1; exact hr
      | false => rw [hb] at h; exact h.elim
    · trivial
    · exact h.elim
  | .tp q ws i, b, v, h, hr => by
    unfold eqvP at h
    split at h
    · split at h
      · rename_i hx
        obtain ⟨rfl, rfl⟩ := h
        cases TK.cast_ok hx
        exact hr
      · exact h.elim
    · trivial
    · exact h.elim
  | .any, b, v, h, hr => by unfold eqvP at h; split at h <;> first | trivial | exact h.elim
theorem eqvPs_ok : ∀ (as bs : List AV) (vs : List Value), eqvPs as bs → RelAs B ok w as vs → RelAs B ok w bs vs
  | [], [], vs, _, hr => hr
  | a :: as, b :: bs, vs, h, hr => by
    obtain ⟨v, vs', h1, h2, h3, h4⟩ := hr
    exact ⟨v, vs', h1, h2, eqvP_ok a b v h.1 h3, eqvPs_ok as bs vs' h.2 h4⟩
  | [], _ :: _, vs, h, _ => h.elim
  | _ :: _, [], vs, h, _ => h.elim
theorem eqvPs_okT : ∀ (as bs : List AV) (vs : List Value), eqvPs as bs → RelTs B ok w as vs → RelTs B ok w bs vs
  | [], [], vs, _, hr => hr
  | a :: as, b :: bs, vs, h, hr => by
    obtain ⟨v, vs', h1, h3, h4⟩ := hr
    exact ⟨v, vs', h1, eqvP_ok a b v h.1 h3, eqvPs_okT as bs vs' h.2 h4⟩
  | [], _ :: _, vs, h, _ => h.elim
  | _ :: _, [], vs, h, _ => h.elim
end

end

/-! ### Heads of loops -/
/-- What is kept at the head of a loop: temporaries and blocks of cells; 'none': as it was, a kind: data that may turn. -/
structure LD where
  env : List (Nat × Option Kd)
  cel : List (Nat × List (Option Kd))
  rw : List (Nat × Nat × TK)
def gatE (env : List (Nat × AV)) : List (Nat × Option Kd) → Option (List AV)
  | [] => some []
  | (t, some _) :: r => match lk env t, gatE env r with
    | some a, some l => some (a :: l)
    | _, _ => none
  | (t, none) :: r => gatE env r
def selO : List (Option Kd) → List AV → Option (List AV)
  | [], [] => some []
  | some _ :: r, a :: as => match selO r as with
    | some l => some (a :: l)
    | none => none
  | none :: r, _ :: as => selO r as
  | _, _ => none
def gatC (h : List (Nat × HE)) : List (Nat × List (Option Kd)) → Option (List AV)
  | [] => some []
  | (i, ps) :: r => match lk h i with
    | some (.cells _ cs) => match selO ps cs, gatC h r with
      | some l, some m => some (l ++ m)
      | _, _ => none
    | _ => none
def resC (env : List (Nat × AV)) : List (Nat × List (Option Kd)) → Option (List (Nat × List (Option Kd)))
  | [] => some []
  | (t, ps) :: r => match lk env t, resC env r with
    | some (.ptr id _), some l => some ((id, ps) :: l)
    | _, _ => none
def holeO : List (Option Kd) → List Kd
  | [] => []
  | some k :: r => k :: holeO r
  | none :: r => holeO r
def holeE : List (Nat × Option Kd) → List Kd
  | [] => []
  | (_, some k) :: r => k :: holeE r
  | (_, none) :: r => holeE r
def holeC : List (Nat × List (Option Kd)) → List Kd
  | [] => []
  | (_, ps) :: r => holeO ps ++ holeC r
def LD.ks (d : LD) : List Kd := holeE d.env ++ holeC d.cel
/-! The ids that stay. -/
mutual
def AV.ids : AV → List Nat
  | .ptr i _ => [i]
  | .row i _ => [i]
  | .rowv i _ _ _ => [i]
  | .wp i _ _ _ => [i]
  | .mp i => [i]
  | .agg cs => AV.idss cs
  | .tup cs => AV.idss cs
  | .clo _ cs => AV.idss cs
  | _ => []
def AV.idss : List AV → List Nat
  | [] => []
  | a :: r => AV.ids a ++ AV.idss r
end
def fixO : List (Option Kd) → List AV → List AV
  | none :: r, a :: as => a :: fixO r as
  | some _ :: r, _ :: as => fixO r as
  | _, _ => []
def fixE (env : List (Nat × AV)) : List (Nat × Option Kd) → List AV
  | [] => []
  | (t, none) :: r => match lk env t with
    | some a => a :: fixE env r
    | none => fixE env r
  | (_, some _) :: r => fixE env r
def addN (n : Nat) (l : List Nat) : List Nat := bif memB n l then l else n :: l
/-- All ids that fixed values lead to. -/
def keepIds (h : List (Nat × HE)) (cel : List (Nat × List (Option Kd))) : Nat → List Nat → List Nat → List Nat
  | 0, _, acc => acc
  | n + 1, [], acc => acc
  | n + 1, i :: r, acc => bif memB i acc then keepIds h cel n r acc else
      match lk h i with
      | some (.cells _ cs) => match lk cel i with
        | some ps => keepIds h cel n (AV.idss (fixO ps cs) ++ r) (i :: acc)
        | none => keepIds h cel n (AV.idss cs ++ r) (i :: acc)
      | some _ => keepIds h cel n r (i :: acc)
      | none => keepIds h cel n r acc
/-! The head's state. -/
def bldE (env : List (Nat × AV)) : List (Nat × Option Kd) → List AV → List (Nat × AV)
  | [], _ => []
  | (t, some _) :: r, as => match as with
    | a :: as' => (t, a) :: bldE env r as'
    | [] => []
  | (t, none) :: r, as => match lk env t with
    | some a => (t, a) :: bldE env r as
    | none => bldE env r as
def skipE : List (Nat × Option Kd) → List AV → List AV
  | [], as => as
  | (_, some _) :: r, as => match as with
    | _ :: as' => skipE r as'
    | [] => []
  | (_, none) :: r, as => skipE r as
def fillO : List (Option Kd) → List AV → List AV → List AV
  | none :: r, c :: cs, as => c :: fillO r cs as
  | some _ :: r, _ :: cs, as => match as with
    | a :: as' => a :: fillO r cs as'
    | [] => []
  | _, _, _ => []
def skipO : List (Option Kd) → List AV → List AV
  | [], as => as
  | some _ :: r, as => match as with
    | _ :: as' => skipO r as'
    | [] => []
  | none :: r, as => skipO r as
def bldC (h : List (Nat × HE)) : List (Nat × List (Option Kd)) → List AV → List (Nat × HE)
  | [], _ => []
  | (i, ps) :: r, as => match lk h i with
    | some (.cells ty cs) => (i, .cells ty (fillO ps cs as)) :: bldC h r (skipO ps as)
    | _ => []
def bldF (h : List (Nat × HE)) (cel : List (Nat × List (Option Kd))) : List Nat → List (Nat × HE)
  | [] => []
  | i :: r => match lk cel i with
    | some _ => bldF h cel r
    | none => match lk h i with
      | some x => (i, x) :: bldF h cel r
      | none => bldF h cel r
def LD.kp (d : LD) (cel : List (Nat × List (Option Kd))) (σ0 : S) : List Nat := keepIds σ0.heap cel 200 (AV.idss (fixE σ0.env d.env)) []
def headL (d : LD) (σ0 : S) (x : Kd.tys d.ks) : S := match resC σ0.env d.cel with
  | none => σ0
  | some cel => match mks d.ks x σ0.next with
    | (as, news, nx) => ⟨bldE σ0.env d.env as, (bldC σ0.heap cel (skipE d.env as) ++ bldF σ0.heap cel (d.kp cel σ0)) ++ news, nx⟩
/-! A state against the head's. -/
def eqvR : HE → HE → Prop
  | .cells ty cs, b => match b with
    | .cells ty' cs' => bif Nat.beq ty ty' then eqvPs cs cs' else False
    | _ => False
  | .trow q e v ws, b => match b with
    | .trow q' e' v' ws' => bif Nat.beq e e' && Nat.beq v v' then match TK.cast q q' ws' with
      | some xs => ws = xs
      | none => False
      else False
    | _ => False
  | .row e sz v xs, b => match b with
    | .row e' sz' v' xs' => bif Nat.beq e e' && (Nat.beq sz sz' && Nat.beq v v') then xs = xs' else False
    | _ => False
  | .imap q es, b => match b with
    | .imap q' es' => match TK.castM q q' es' with
      | some x => es = x
      | none => False
    | _ => False
def eqvO : List (Option Kd) → List AV → List AV → Prop
  | none :: r, a :: as, b :: bs => eqvP a b ∧ eqvO r as bs
  | some _ :: r, _ :: as, _ :: bs => eqvO r as bs
  | [], [], [] => True
  | _, _, _ => False
def andT (p q : Prop) : Prop := p ∧ q
def eqvE (env env0 : List (Nat × AV)) : List (Nat × Option Kd) → Prop
  | [] => True
  | (t, none) :: r => match lk env0 t with
    | some b => match lk env t with
      | some a => eqvP a b ∧ eqvE env env0 r
      | none => False
    | none => eqvE env env0 r
  | (_, some _) :: r => eqvE env env0 r
def eqvC2 (h h0 : List (Nat × HE)) : List (Nat × List (Option Kd)) → Prop
  | [] => True
  | (i, ps) :: r => match lk h i with
    | some (.cells ty cs) => match lk h0 i with
      | some (.cells ty0 cs0) => bif Nat.beq ty ty0 then eqvO ps cs cs0 ∧ eqvC2 h h0 r else False
      | _ => False
    | _ => False
def eqvF (h h0 : List (Nat × HE)) (cel : List (Nat × List (Option Kd))) : List Nat → Prop
  | [] => True
  | i :: r => match lk cel i with
    | some _ => eqvF h h0 cel r
    | none => match lk h0 i with
      | some y => match lk h i with
        | some x => eqvR x y ∧ eqvF h h0 cel r
        | none => False
      | none => eqvF h h0 cel r
def ltE (n : Nat) (env0 : List (Nat × AV)) : List (Nat × Option Kd) → Bool
  | [] => true
  | (t, none) :: r => (match lk env0 t with
    | some b => AV.ltb n b
    | none => true) && ltE n env0 r
  | (_, some _) :: r => ltE n env0 r
def ltO (n : Nat) : List (Option Kd) → List AV → Bool
  | none :: r, a :: as => AV.ltb n a && ltO n r as
  | some _ :: r, _ :: as => ltO n r as
  | _, _ => true
def ltC (n : Nat) (h0 : List (Nat × HE)) : List (Nat × List (Option Kd)) → Bool
  | [] => true
  | (i, ps) :: r => (match lk h0 i with
    | some (.cells _ cs) => ltO n ps cs
    | _ => true) && ltC n h0 r
def ltF (n : Nat) (h0 : List (Nat × HE)) : List Nat → Bool
  | [] => true
  | i :: r => (match lk h0 i with
    | some x => HE.ltb n x
    | none => true) && (Nat.blt i n && ltF n h0 r)
def inB : List (Nat × List (Option Kd)) → List Nat → Bool
  | [], _ => true
  | (i, _) :: r, l => memB i l && inB r l
def ndB : List (Nat × List (Option Kd)) → Bool
  | [] => true
  | (i, _) :: r => (match lk r i with
    | some _ => false
    | none => true) && ndB r
noncomputable def matchL (k0 : Nat) (d : LD) (σ0 σ : S) : Option (Kd.tys d.ks × Prop) := match resC σ0.env d.cel with
  | none => none
  | some cel => match gatE σ.env d.env, gatC σ.heap cel with
    | some aE, some aC => match xts σ.heap d.ks (aE ++ aC) with
      | some (x, ss, fz) => match d.kp cel σ0 with
        | kp => bif distB (Src.ids ss) && (disjB (Src.ids ss) fz && (disjB (Src.ids ss) kp && (disjB fz kp && (distB kp && (ndB cel && (inB cel kp && (Nat.ble k0 σ0.next && (ltE σ0.next σ0.env d.env && (ltC σ0.next σ0.heap cel && ltF σ0.next σ0.heap kp))))))))) then
          some (x, eqvE σ.env σ0.env d.env ∧ (eqvC2 σ.heap σ0.heap cel ∧ eqvF σ.heap σ0.heap cel kp)) else none
      | none => none
    | _, _ => none

section
variable {Γ : Ctx} {B B' : Nat → Option Bd} {ok ok' : Nat → Prop} {w : World} {n0 : Nat}

theorem RelA.low (hl : ∀ i, i < n0 → B' i = B i) (hk : ∀ b, ok b → ok' b) {a : AV} {v : Value} (hlt : AV.ltb n0 a = true) (h : RelA B ok w a v) : RelA B' ok' w a v := by
  refine RelA.mono (B := Sx.cutB n0 B) (fun i bd e => ?_) hk (fun _ _ => rfl) a v (RelA.cutB a v (AV.ltb_spec a hlt) h)
  unfold Sx.cutB at e
  split at e
  · rename_i hi; exact ⟨bd, by rw [hl i hi]; exact e, BdLe.refl _⟩
  · cases e
theorem SatE.low (hl : ∀ i, i < n0 → B' i = B i) (hk : ∀ b, ok b → ok' b) {he : HE} {bd : Bd} (hlt : HE.ltb n0 he = true) (h : SatE B ok w bd he) : SatE B' ok' w bd he := by
  refine SatE.mono (B := Sx.cutB n0 B) (fun i bd e => ?_) hk (fun _ _ => rfl) (fun _ _ => rfl) (SatE.cutB (HE.ltb_spec hlt) h)
  unfold Sx.cutB at e
  split at e
  · rename_i hi; exact ⟨bd, by rw [hl i hi]; exact e, BdLe.refl _⟩
  · cases e
theorem eqvR_ok {x y : HE} {bd : Bd} (h : eqvR x y) (hs : SatE B ok w bd x) : SatE B ok w bd y ∧ y.occ bd = x.occ bd := by
  cases x <;> cases y <;> simp only [eqvR] at h
  case cells.cells ty cs ty' cs' =>
    cases hb : Nat.beq ty ty' with
    | false => rw [hb] at h; exact h.elim
    | true =>
      rw [hb] at h
      have := Nat.eq_of_beq_eq_true hb
      subst this
      obtain ⟨h0, vs, h1, h2⟩ := hs
      exact ⟨⟨h0, vs, h1, eqvPs_ok _ _ _ h h2⟩, rfl⟩
  case row.row e sz v xs e' sz' v' xs' =>
    cases hb : (Nat.beq e e' && (Nat.beq sz sz' && Nat.beq v v')) with
    | false => rw [hb] at h; exact h.elim
    | true =>
      rw [hb] at h
      simp only [Bool.and_eq_true] at hb
      have q1 := Nat.eq_of_beq_eq_true hb.1
      have q2 := Nat.eq_of_beq_eq_true hb.2.1
      have q3 := Nat.eq_of_beq_eq_true hb.2.2
      have q4 : xs = xs' := h
      subst q1; subst q2; subst q3; subst q4
      exact ⟨hs, rfl⟩
  case trow.trow q e v xs q' e' v' xs' =>
    cases hb : (Nat.beq e e' && Nat.beq v v') with
    | false => rw [hb] at h; exact h.elim
    | true =>
      rw [hb] at h
      simp only [Bool.and_eq_true] at hb
      have q1 := Nat.eq_of_beq_eq_true hb.1
      have q2 := Nat.eq_of_beq_eq_true hb.2
      simp only [cond_true] at h
      split at h
      · rename_i hx
        subst q1; subst q2; subst h
        cases TK.cast_ok hx
        exact ⟨hs, rfl⟩
      · exact h.elim
  case imap.imap q es q' es' =>
    split at h
    · rename_i hx
      subst h
      cases TK.castM_ok hx
      exact ⟨hs, rfl⟩
    · exact h.elim

theorem RelTs.uncons {B : Nat → Option Bd} {ok : Nat → Prop} {w : World} {as : List AV} {v : Value} {us : List Value} (h : RelTs B ok w as (v :: us)) : ∃ a as2, as = a :: as2 ∧ RelA B ok w a v ∧ RelTs B ok w as2 us := by
  cases as with
  | nil => cases h
  | cons a as2 =>
    obtain ⟨v', vs', e, h1, h2⟩ := h
    cases e
    exact ⟨a, as2, rfl, h1, h2⟩
/-- The values in the slots that may turn. -/
def valE (f : Nat → Value) : List (Nat × Option Kd) → List Value
  | [] => []
  | (t, some _) :: r => f t :: valE f r
  | (_, none) :: r => valE f r
theorem gatE_rel {env : List (Nat × AV)} {f : Nat → Value} (he : ∀ t av, lk env t = some av → RelA B ok w av (f t)) : ∀ {l : List (Nat × Option Kd)} {as : List AV}, gatE env l = some as → RelTs B ok w as (valE f l)
  | [], as, h => by cases h; rfl
  | (t, some k) :: r, as, h => by
    unfold gatE at h
    split at h
    · rename_i a l h1 h2
      cases h
      exact ⟨_, _, rfl, he _ _ h1, gatE_rel he h2⟩
    · cases h
  | (t, none) :: r, as, h => gatE_rel he (l := r) h
theorem bldE_rel {env env0 : List (Nat × AV)} {f : Nat → Value} (hl : ∀ i, i < n0 → B' i = B i) (hk : ∀ b, ok b → ok' b) (he : ∀ t av, lk env t = some av → RelA B ok w av (f t)) :
    ∀ {l : List (Nat × Option Kd)} {as as' : List AV} {us : List Value}, gatE env l = some as → eqvE env env0 l → ltE n0 env0 l = true → RelTs B' ok' w as' (valE f l ++ us) →
      (∀ t av, lk (bldE env0 l as') t = some av → RelA B' ok' w av (f t) ∧ ∃ a, lk env t = some a) ∧ RelTs B' ok' w (skipE l as') us
  | [], as, as', us, _, _, _, hr => ⟨(fun t av h => by cases h), hr⟩
  | (t, some k) :: r, as, as', us, h0, h1, h2, hr => by
    unfold gatE at h0
    split at h0
    · rename_i a0 l0 q1 q2
      obtain ⟨a, as2, rfl, h3, h4⟩ := RelTs.uncons (v := f t) (us := valE f r ++ us) hr
      obtain ⟨g1, g2⟩ := bldE_rel hl hk he (l := r) q2 h1 h2 h4
      refine ⟨fun t' av h => ?_, g2⟩
      simp only [bldE, lk] at h
      cases hb : Nat.beq t t' with
      | true =>
        rw [hb] at h
        have := Nat.eq_of_beq_eq_true hb
        subst this
        cases h
        exact ⟨h3, _, q1⟩
      | false =>
        rw [hb] at h
        exact g1 t' av h
    · cases h0
  | (t, none) :: r, as, as', us, h0, h1, h2, hr => by
    simp only [ltE, Bool.and_eq_true] at h2
    unfold eqvE at h1
    cases hb0 : lk env0 t with
    | none =>
      rw [hb0] at h1
      obtain ⟨g1, g2⟩ := bldE_rel hl hk he (l := r) h0 h1 h2.2 hr
      refine ⟨fun t' av h => ?_, g2⟩
      simp only [bldE, hb0] at h
      exact g1 t' av h
    | some b =>
      rw [hb0] at h1 h2
      simp only at h1
      split at h1
      · rename_i a ha
        obtain ⟨g1, g2⟩ := bldE_rel hl hk he (l := r) h0 h1.2 h2.2 hr
        refine ⟨fun t' av h => ?_, g2⟩
        simp only [bldE, hb0, lk] at h
        cases hb : Nat.beq t t' with
        | true =>
          rw [hb] at h
          have := Nat.eq_of_beq_eq_true hb
          subst this
          cases h
          exact ⟨RelA.low hl hk h2.1 (eqvP_ok _ _ _ h1.1 (he _ _ ha)), _, ha⟩
        | false =>
          rw [hb] at h
          exact g1 t' av h
      · exact h1.elim
/-- One block of cells. -/
theorem fillO_rel : ∀ {ps : List (Option Kd)} {cs cs0 : List AV} {vs : List Value}, RelAs B ok w cs vs → eqvO ps cs cs0 → ltO n0 ps cs0 = true → ∀ {l : List AV}, selO ps cs = some l →
    ∃ us : List Value, RelTs B ok w l us ∧ ∀ (B' : Nat → Option Bd) (ok' : Nat → Prop), (∀ i, i < n0 → B' i = B i) → (∀ b, ok b → ok' b) → ∀ {as' : List AV} {ws : List Value}, RelTs B' ok' w as' (us ++ ws) → RelAs B' ok' w (fillO ps cs0 as') vs ∧ RelTs B' ok' w (skipO ps as') ws
  | [], [], [], vs, hr, _, _, l, e => by cases e; cases hr; exact ⟨[], rfl, fun _ _ _ _ _ _ h => ⟨rfl, h⟩⟩
  | [], [], _ :: _, vs, hr, h, _, l, e => h.elim
  | [], _ :: _, [], vs, hr, h, _, l, e => h.elim
  | [], _ :: _, _ :: _, vs, hr, h, _, l, e => h.elim
  | some k :: ps, [], cs0, vs, hr, h, h2, l, e => by cases e
  | some k :: ps, c :: cs, [], vs, hr, h, h2, l, e => h.elim
  | some k :: ps, c :: cs, c0 :: cs0, vs, hr, h, h2, l, e => by
    unfold selO at e
    split at e
    · rename_i l' h3
      cases e
      obtain ⟨v, vs', rfl, h4, h5, h6⟩ := hr
      obtain ⟨us, g1, g2⟩ := fillO_rel h6 h h2 h3
      refine ⟨v :: us, ⟨_, _, rfl, h5, g1⟩, fun B' ok' hl hk as' ws hr' => ?_⟩
      obtain ⟨a, as2, rfl, q1, q2⟩ := RelTs.uncons (us := us ++ ws) hr'
      obtain ⟨r1, r2⟩ := g2 B' ok' hl hk q2
      exact ⟨⟨v, vs', rfl, h4, q1, r1⟩, r2⟩
    · cases e
  | none :: ps, [], cs0, vs, hr, h, h2, l, e => by cases e
  | none :: ps, c :: cs, [], vs, hr, h, h2, l, e => h.elim
  | none :: ps, c :: cs, c0 :: cs0, vs, hr, h, h2, l, e => by
    obtain ⟨v, vs', rfl, h4, h5, h6⟩ := hr
    simp only [ltO, Bool.and_eq_true] at h2
    obtain ⟨us, g1, g2⟩ := fillO_rel h6 h.2 h2.2 e
    refine ⟨us, g1, fun B' ok' hl hk as' ws hr' => ?_⟩
    obtain ⟨r1, r2⟩ := g2 B' ok' hl hk hr'
    exact ⟨⟨v, vs', rfl, h4, RelA.low hl hk h2.1 (eqvP_ok _ _ _ h.1 h5), r1⟩, r2⟩
theorem bldC_rel {h h0 : List (Nat × HE)} (hs : ∀ i x, (i, x) ∈ h → ∃ bd, B i = some bd ∧ SatE B ok w bd x) :
    ∀ {cel : List (Nat × List (Option Kd))} {as : List AV}, gatC h cel = some as → eqvC2 h h0 cel → ltC n0 h0 cel = true → ∃ us : List Value, RelTs B ok w as us ∧ ∀ (B' : Nat → Option Bd) (ok' : Nat → Prop), (∀ i, i < n0 → B' i = B i) → (∀ b, ok b → ok' b) → ∀ {as' : List AV}, RelTs B' ok' w as' us →
      ∀ i x, (i, x) ∈ bldC h0 cel as' → (∃ ps, (i, ps) ∈ cel) ∧ ∃ he bd, (i, he) ∈ h ∧ B i = some bd ∧ x.occ bd = he.occ bd ∧ SatE B' ok' w bd x
  | [], as, e, _, _ => by cases e; exact ⟨[], rfl, fun _ _ _ _ _ _ i x hm => by cases hm⟩
  | (i, ps) :: r, as, e, h1, h2 => by
    unfold gatC at e
    unfold eqvC2 at h1
    split at e
    · rename_i ty cs hh
      rw [hh] at h1
      simp only at h1
      split at e
      · rename_i l m e1 e2
        cases e
        split at h1
        · rename_i ty0 cs0 hh0
          cases hb : Nat.beq ty ty0 with
          | false => rw [hb] at h1; exact h1.elim
          | true =>
            rw [hb] at h1
            have := Nat.eq_of_beq_eq_true hb
            subst this
            simp only [ltC, hh0, Bool.and_eq_true] at h2
            obtain ⟨bd, g1, g2, vs, g3, g4⟩ := hs _ _ (lk_mem hh)
            obtain ⟨us, k1, k2⟩ := fillO_rel g4 h1.1 h2.1 e1
            obtain ⟨us', k3, k4⟩ := bldC_rel hs e2 h1.2 h2.2
            refine ⟨us ++ us', k1.append k3, fun B' ok' hl hk as' hr j x hm => ?_⟩
            obtain ⟨r1, r2⟩ := k2 B' ok' hl hk hr
            simp only [bldC, hh0] at hm
            rcases List.mem_cons.1 hm with hm | hm
            · cases hm
              exact ⟨⟨ps, List.mem_cons_self⟩, _, bd, lk_mem hh, g1, rfl, g2, vs, g3, r1⟩
            · obtain ⟨⟨ps', q1⟩, q2⟩ := k4 B' ok' hl hk r2 j x hm
              exact ⟨⟨ps', List.mem_cons_of_mem _ q1⟩, q2⟩
        · exact h1.elim
      · cases e
    · cases e
theorem bldF_rel {h h0 : List (Nat × HE)} (hs : ∀ i x, (i, x) ∈ h → ∃ bd, B i = some bd ∧ SatE B ok w bd x) (hl : ∀ i, i < n0 → B' i = B i) (hk : ∀ b, ok b → ok' b) {cel : List (Nat × List (Option Kd))} :
    ∀ {kp : List Nat}, eqvF h h0 cel kp → ltF n0 h0 kp = true → ∀ i x, (i, x) ∈ bldF h0 cel kp → i ∈ kp ∧ lk cel i = none ∧ lk h0 i = some x ∧ ∃ he bd, (i, he) ∈ h ∧ B i = some bd ∧ x.occ bd = he.occ bd ∧ SatE B' ok' w bd x
  | [], _, _, i, x, hm => by cases hm
  | k :: r, h1, h2, i, x, hm => by
    unfold eqvF at h1
    simp only [ltF, Bool.and_eq_true] at h2
    unfold bldF at hm
    have rec' : eqvF h h0 cel r → (i, x) ∈ bldF h0 cel r → i ∈ k :: r ∧ lk cel i = none ∧ lk h0 i = some x ∧ ∃ he bd, (i, he) ∈ h ∧ B i = some bd ∧ x.occ bd = he.occ bd ∧ SatE B' ok' w bd x := fun q1 q2 => by
      obtain ⟨q3, q4⟩ := bldF_rel hs hl hk q1 h2.2.2 i x q2
      exact ⟨List.mem_cons_of_mem _ q3, q4⟩
    cases hc : lk cel k with
    | some ps => rw [hc] at h1 hm; exact rec' h1 hm
    | none =>
      rw [hc] at h1 hm
      simp only at h1 hm
      cases h0k : lk h0 k with
      | none => rw [h0k] at h1 hm; exact rec' h1 hm
      | some y =>
        rw [h0k] at h1 hm h2
        simp only at h1 hm
        split at h1
        · rename_i z hz
          rcases List.mem_cons.1 hm with hm | hm
          · cases hm
            obtain ⟨bd, g1, g2⟩ := hs _ _ (lk_mem hz)
            obtain ⟨g3, g4⟩ := eqvR_ok h1.1 g2
            exact ⟨List.mem_cons_self, hc, h0k, z, bd, lk_mem hz, g1, g4, SatE.low hl hk h2.1 g3⟩
          · exact rec' h1.2 hm
        · exact h1.elim
end

theorem ltF_lt {n : Nat} {h0 : List (Nat × HE)} : ∀ {l : List Nat}, ltF n h0 l = true → ∀ i, i ∈ l → i < n
  | [], _, i, hi => by cases hi
  | k :: r, h, i, hi => by
    simp only [ltF, Bool.and_eq_true] at h
    rcases List.mem_cons.1 hi with rfl | hi
    · exact Nat.le_of_ble_eq_true h.2.1
    · exact ltF_lt h.2.2 i hi
theorem inB_ok {l : List Nat} : ∀ {cel : List (Nat × List (Option Kd))}, inB cel l = true → ∀ i ps, (i, ps) ∈ cel → i ∈ l
  | [], _, i, ps, h => by cases h
  | (k, q) :: r, h, i, ps, hm => by
    simp only [inB, Bool.and_eq_true] at h
    rcases List.mem_cons.1 hm with e | hm
    · cases e; exact memB_iff.1 h.1
    · exact inB_ok h.2 i ps hm
theorem lk_some_of_mem {α : Type} {i : Nat} {x : α} : ∀ {l : List (Nat × α)}, (i, x) ∈ l → ∃ y, lk l i = some y
  | [], h => by cases h
  | (k, y) :: r, h => by
    unfold lk
    cases hb : Nat.beq k i with
    | true => exact ⟨y, rfl⟩
    | false =>
      rcases List.mem_cons.1 h with e | h
      · cases e; rw [Nat.beq_refl] at hb; cases hb
      · exact lk_some_of_mem h
theorem bldC_uniq {h0 : List (Nat × HE)} : ∀ {cel : List (Nat × List (Option Kd))} {as : List AV}, ndB cel = true → (∀ i x, (i, x) ∈ bldC h0 cel as → ∃ ps, (i, ps) ∈ cel) ∧ ∀ i x y, (i, x) ∈ bldC h0 cel as → (i, y) ∈ bldC h0 cel as → x = y
  | [], as, _ => ⟨(fun i x h => by cases h), fun i x y h => by cases h⟩
  | (k, ps) :: r, as, h => by
    simp only [ndB, Bool.and_eq_true] at h
    unfold bldC
    split
    · rename_i ty cs hh
      obtain ⟨g1, g2⟩ := bldC_uniq (h0 := h0) (cel := r) (as := skipO ps as) h.2
      have hn : ∀ x, (k, x) ∉ bldC h0 r (skipO ps as) := fun x hm => by
        obtain ⟨ps', q⟩ := g1 _ _ hm
        obtain ⟨z, hz⟩ := lk_some_of_mem q
        rw [hz] at h
        simp at h
      refine ⟨fun i x hm => ?_, fun i x y hx hy => ?_⟩
      · rcases List.mem_cons.1 hm with hm | hm
        · cases hm; exact ⟨ps, List.mem_cons_self⟩
        · obtain ⟨ps', q⟩ := g1 _ _ hm; exact ⟨ps', List.mem_cons_of_mem _ q⟩
      · rcases List.mem_cons.1 hx with hx | hx <;> rcases List.mem_cons.1 hy with hy | hy
        · cases hx; cases hy; rfl
        · cases hx; exact absurd hy (hn _)
        · cases hy; exact absurd hx (hn _)
        · exact g2 i x y hx hy
    · exact ⟨(fun i x h => by cases h), fun i x y h => by cases h⟩

theorem matchL_ok {Γ : Ctx} {k0 : Nat} (hk : Γ.from k0) {d : LD} {σ0 σ : S} {x : Kd.tys d.ks} {E : Prop} (hm : matchL k0 d σ0 σ = some (x, E)) (hE : E) : Sub Γ σ (headL d σ0 x) := by
  rintro a w ⟨B, ok, hs⟩
  unfold matchL at hm
  unfold headL
  split at hm
  · cases hm
  · rename_i cel hcel
    split at hm
    · rename_i aE aC h1 h2
      split at hm
      · rename_i x' ss fz h3
        simp only at hm
        cases hb : (distB (Src.ids ss) && (disjB (Src.ids ss) fz && (disjB (Src.ids ss) (d.kp cel σ0) && (disjB fz (d.kp cel σ0) && (distB (d.kp cel σ0) && (ndB cel && (inB cel (d.kp cel σ0) && (Nat.ble k0 σ0.next && (ltE σ0.next σ0.env d.env && (ltC σ0.next σ0.heap cel && ltF σ0.next σ0.heap (d.kp cel σ0))))))))))) with
        | false => rw [hb] at hm; cases hm
        | true =>
          rw [hb] at hm
          simp only [cond_true, Option.some.injEq, Prod.mk.injEq] at hm
          obtain ⟨rfl, rfl⟩ := hm
          simp only [Bool.and_eq_true] at hb
          obtain ⟨c1, c2, c3, c4, c5, c6, c7, c8, c9, c10, c11⟩ := hb
          obtain ⟨e1, e2, e3⟩ := hE
          have c8' : k0 ≤ σ0.next := Nat.le_of_ble_eq_true c8
          have hrE := gatE_rel (f := fun t => a.tmps.getD t undef) (fun t av hl => (hs.env t av hl).2) h1
          -- the values of the cells that turn do not hang on the new binding
          obtain ⟨usC, hrC, g3⟩ := bldC_rel (n0 := σ0.next) hs.heap.sat h2 e2 c10
          obtain ⟨B', ok', O, r1, r2⟩ := takeover hs.heap (xts_okT hs.heap.sat _ _ _ _ _ _ h3 (hrE.append hrC)) (d.kp cel σ0) true σ0.next c1 c2 c3 c4
          have hlow : ∀ i, i < σ0.next → B' i = B i := fun i hi => O.low i hi (.inl rfl)
          obtain ⟨g1, g2⟩ := bldE_rel hlow O.ok1 (fun t av hl => (hs.env t av hl).2) h1 e1 c9 r1
          have g3' := g3 B' ok' hlow O.ok1 g2
          have g4 := bldF_rel (cel := cel) hs.heap.sat hlow O.ok1 e3 c11
          obtain ⟨u1, u2⟩ := bldC_uniq (h0 := σ0.heap) (cel := cel) (as := skipE d.env (mks d.ks x' σ0.next).1) c6
          obtain ⟨S1, S2⟩ := O.sat (bldC σ0.heap cel (skipE d.env (mks d.ks x' σ0.next).1) ++ bldF σ0.heap cel (d.kp cel σ0)) (fun i z hz => by
            rcases List.mem_append.1 hz with hz | hz
            · obtain ⟨⟨ps, q1⟩, q2⟩ := g3' i z hz
              have := inB_ok c7 i ps q1
              exact ⟨this, ltF_lt c11 i this, q2⟩
            · obtain ⟨q1, q2, q3, q4⟩ := g4 i z hz
              exact ⟨q1, ltF_lt c11 i q1, q4⟩) (fun i z y hz hy => by
            rcases List.mem_append.1 hz with hz | hz <;> rcases List.mem_append.1 hy with hy | hy
            · exact u2 i z y hz hy
            · obtain ⟨ps, q1⟩ := u1 i z hz
              obtain ⟨q2, q3, _⟩ := g4 i y hy
              obtain ⟨p, hp⟩ := lk_some_of_mem q1
              rw [hp] at q3; cases q3
            · obtain ⟨ps, q1⟩ := u1 i y hy
              obtain ⟨q2, q3, _⟩ := g4 i z hz
              obtain ⟨p, hp⟩ := lk_some_of_mem q1
              rw [hp] at q3; cases q3
            · obtain ⟨_, _, q3, _⟩ := g4 i z hz
              obtain ⟨_, _, q4, _⟩ := g4 i y hy
              rw [q3] at q4
              simpa using q4)
          have hown : ∀ i b, occI B σ.heap i b → Γ.S0 b ∨ Γ.w0.heap.size ≤ b := fun i b ⟨z, bd, p1, p2, p3⟩ => hs.own i z p1 bd p2 b p3
          refine ⟨B', ok', hs.defers, hs.size, S1, fun t av hl => ?_, hs.keeps, fun b hb => O.ok1 b (hs.ok1 b hb), fun b hb => ?_, fun i z hz bd hbd b hob => ?_, fun id bd hbd => ?_, fun id hid => O.high id ?_⟩
          · obtain ⟨q1, a0, q2⟩ := g1 t av hl
            exact ⟨(hs.env t a0 q2).1, q1⟩
          · rcases O.ok2 b hb with hb | ⟨k, _, hb⟩
            · exact hs.ok2 b hb
            · exact (hown k b hb).imp .inr id
          · rcases S2 i b ⟨z, bd, hz, hbd, hob⟩ with ⟨_, q, _⟩ | ⟨_, _, k, _, _, _, q⟩
            · exact hown i b q
            · exact hown k b q
          · have hid : id < k0 := Nat.lt_of_not_le fun hge => by rw [hk id hge] at hbd; cases hbd
            obtain ⟨bd', p1, p2⟩ := hs.ble id bd hbd
            exact ⟨bd', by rw [hlow id (by omega)]; exact p1, p2⟩
          · have hid' : (mks d.ks x' σ0.next).2.2 ≤ id := hid
            omega
      · cases hm
    · cases hm

/-! ### Rows that stay where they lie while what they hold turns -/
def RT : List (Nat × Nat × TK) → Type → Type
  | [], T => T
  | (_, _, q) :: r, T => List q.ty × RT r T
def LD.ty (d : LD) : Type := RT d.rw (Kd.tys d.ks)
def rowId (σ : S) (t k : Nat) : Option Nat := match lk σ.env t with
  | some (.row id _) => some id
  | some (.agg cs) => match cs[k]? with
    | some (.row id _) => some id
    | _ => none
  | some (.ptr i _) => match lk σ.heap i with
    | some (.cells _ cs) => match cs[k]? with
      | some (.row id _) => some id
      | _ => none
    | _ => none
  | _ => none
def setR (σ0 : S) {T : Type} : (l : List (Nat × Nat × TK)) → RT l T → List (Nat × HE) × T
  | [], x => (σ0.heap, x)
  | (t, k, q) :: r, x => match setR σ0 r x.2 with
    | (h, y) => match rowId σ0 t k with
      | some id => match lk σ0.heap id with
        | some (.trow _ e v _) => (setL h id (.trow q e v x.1), y)
        | _ => (h, y)
      | none => (h, y)
def getR (σ0 : S) (h : List (Nat × HE)) (T : Type) : (l : List (Nat × Nat × TK)) → Option ((T → RT l T) × List (Nat × HE))
  | [] => some (fun x => x, σ0.heap)
  | (t, k, q) :: r => match getR σ0 h T r with
    | some (f, h0) => match rowId σ0 t k with
      | some id => match lk σ0.heap id, lk h id with
        | some (.trow _ e v _), some (.trow q' _ _ ws) => match TK.cast q q' ws with
          | some xs => some (fun x => (xs, f x), setL h0 id (.trow q e v xs))
          | none => none
        | some (.trow _ _ _ _), _ => none
        | _, _ => some (fun x => ([], f x), h0)
      | none => some (fun x => ([], f x), h0)
    | none => none
theorem getR_set {σ0 : S} {h : List (Nat × HE)} {T : Type} : ∀ {l : List (Nat × Nat × TK)} {f : T → RT l T} {h0 : List (Nat × HE)}, getR σ0 h T l = some (f, h0) → ∀ x, setR σ0 l (f x) = (h0, x)
  | [], f, h0, e, x => by cases e; rfl
  | (t, k, q) :: r, f, h0, e, x => by
    unfold getR at e
    split at e
    · rename_i f1 h1 e1
      split at e
      · rename_i id hid
        split at e
        · rename_i e2 e3
          split at e
          · cases e
            simp only [setR, getR_set e1 x, hid, e2]
          · cases e
        · cases e
        · rename_i e2 e3
          cases e
          simp only [setR, getR_set e1 x, hid]
      · rename_i hid
        cases e
        simp only [setR, getR_set e1 x, hid]
    · cases e
def headR (d : LD) (σ0 : S) (x : d.ty) : S := match setR σ0 d.rw x with
  | (h, y) => headL d ⟨σ0.env, h, σ0.next⟩ y
noncomputable def matchR (k0 : Nat) (d : LD) (σ0 σ : S) : Option (d.ty × Prop) := match getR σ0 σ.heap (Kd.tys d.ks) d.rw with
  | some (f, h) => match matchL k0 d ⟨σ0.env, h, σ0.next⟩ σ with
    | some (x, E) => some (f x, E)
    | none => none
  | none => none
theorem matchR_ok {Γ : Ctx} {k0 : Nat} (hk : Γ.from k0) {d : LD} {σ0 σ : S} {x : d.ty} {E : Prop} (hm : matchR k0 d σ0 σ = some (x, E)) (hE : E) : Sub Γ σ (headR d σ0 x) := by
  unfold matchR at hm
  split at hm
  · rename_i f h h1
    split at hm
    · rename_i y E' h2
      cases hm
      unfold headR
      rw [getR_set h1 y]
      exact matchL_ok hk h2 hE
    · cases hm
  · cases hm
end Go.Proofs.YthjmmofafpahhaaGreat.Sx
