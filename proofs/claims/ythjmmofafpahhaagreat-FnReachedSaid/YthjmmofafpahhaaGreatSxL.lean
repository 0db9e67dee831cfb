/- The symbolic layer: contracts by kinds; the end of a body; calls. Program-independent. -/
import Derived.Test.YthjmmofafpahhaaGreatSxK
namespace Go.Proofs.YthjmmofafpahhaaGreat.Sx
open Go Go.RowKit
set_option linter.unusedVariables false
set_option linter.unusedSimpArgs false

/-! ### Renaming -/
mutual
def AV.ren (ρ : Nat → Nat) : AV → AV
  | .d x => .d x
  | .ptr id off => .ptr (ρ id) off
  | .rp sz xs i j => .rp sz xs i j
  | .row id ver => .row (ρ id) ver
  | .rowv id ver off len => .rowv (ρ id) ver off len
  | .wp id ver i j => .wp (ρ id) ver i j
  | .agg cs => .agg (AV.rens ρ cs)
  | .tup cs => .tup (AV.rens ρ cs)
  | .clo f caps => .clo f (AV.rens ρ caps)
  | .mp id => .mp (ρ id)
  | .bl b => .bl b
  | .pr p => .pr p
  | .tp q ws i => .tp q ws i
  | .any => .any
def AV.rens (ρ : Nat → Nat) : List AV → List AV
  | [] => []
  | a :: as => AV.ren ρ a :: AV.rens ρ as
end
def HE.ren (ρ : Nat → Nat) : HE → HE
  | .cells ty cs => .cells ty (AV.rens ρ cs)
  | .row e sz ver xs => .row e sz ver xs
  | .trow q e ver ws => .trow q e ver ws
  | .imap q es => .imap q es

section
variable {B : Nat → Option Bd} {ok : Nat → Prop} {w : World} {ρ : Nat → Nat}
mutual
theorem RelA.ren : ∀ (a : AV) (v : Value), RelA (fun i => B (ρ i)) ok w a v ↔ RelA B ok w (a.ren ρ) v
  | .d x, v => Iff.rfl
  | .ptr id off, v => Iff.rfl
  | .rp sz xs i j, v => Iff.rfl
  | .row id ver, v => Iff.rfl
  | .rowv id ver off len, v => Iff.rfl
  | .wp id ver i j, v => Iff.rfl
  | .agg cs, v => exists_congr fun vs => and_congr Iff.rfl (RelAs.ren cs vs)
  | .tup cs, v => exists_congr fun vs => and_congr Iff.rfl (RelTs.ren cs vs)
  | .clo f caps, v => exists_congr fun vs => and_congr Iff.rfl (RelTs.ren caps vs)
  | .mp id, v => Iff.rfl
  | .bl _, v => Iff.rfl
  | .pr _, v => Iff.rfl
  | .tp _ _ _, v => Iff.rfl
  | .any, v => Iff.rfl
theorem RelAs.ren : ∀ (as : List AV) (vs : List Value), RelAs (fun i => B (ρ i)) ok w as vs ↔ RelAs B ok w (AV.rens ρ as) vs
  | [], vs => Iff.rfl
  | a :: as, vs => exists_congr fun v => exists_congr fun vs' => and_congr Iff.rfl (and_congr Iff.rfl (and_congr (RelA.ren a v) (RelAs.ren as vs')))
theorem RelTs.ren : ∀ (as : List AV) (vs : List Value), RelTs (fun i => B (ρ i)) ok w as vs ↔ RelTs B ok w (AV.rens ρ as) vs
  | [], vs => Iff.rfl
  | a :: as, vs => exists_congr fun v => exists_congr fun vs' => and_congr Iff.rfl (and_congr (RelA.ren a v) (RelTs.ren as vs'))
end
theorem SatE.ren {bd : Bd} {he : HE} : SatE (fun i => B (ρ i)) ok w bd he ↔ SatE B ok w bd (he.ren ρ) := by
  cases he with
  | cells ty cs => exact and_congr Iff.rfl (exists_congr fun vs => and_congr Iff.rfl (RelAs.ren cs vs))
  | row e sz ver xs => exact Iff.rfl
  | trow q e ver ws => exact Iff.rfl
  | imap q es => exact Iff.rfl
end
theorem HE.occ_ren {ρ : Nat → Nat} {bd : Bd} {he : HE} : (he.ren ρ).occ bd = he.occ bd := by cases he <;> rfl

mutual
def AV.na : AV → Prop
  | .d (.c _) => True
  | .d (.arr _ _) => False
  | .d (.tv _ _) => False
  | .tp _ _ _ => False
  | .bl _ => True
  | .pr _ => True
  | .rp _ _ _ _ => False
  | .agg cs => AV.nas cs
  | .tup cs => AV.nas cs
  | .clo _ caps => AV.nas caps
  | .ptr _ _ => True
  | .row _ _ => True
  | .rowv _ _ _ _ => True
  | .wp _ _ _ _ => True
  | .mp _ => True
  | .any => True
def AV.nas : List AV → Prop
  | [] => True
  | a :: as => AV.na a ∧ AV.nas as
end
def D.isC : D → Prop
  | .c _ => True
  | .arr _ _ => False
  | .tv _ _ => False
def HE.na : HE → Prop
  | .cells _ cs => AV.nas cs
  | .row _ _ _ xs => ∀ l ∈ xs, ∀ d ∈ l, D.isC d
  | .trow q _ _ _ => q.flat = true
  | .imap _ _ => True

section
variable {B : Nat → Option Bd} {ok ok' : Nat → Prop} {w : World}
theorem RelD.na {d : D} {v : Value} (hd : D.isC d) (h : RelD ok w d v) : RelD ok' w d v := by
  cases h with
  | c v h1 => exact .c v h1
  | arr => exact hd.elim
  | tv => exact hd.elim
mutual
theorem RelA.na : ∀ (a : AV) (v : Value), AV.na a → RelA B ok w a v → RelA B ok' w a v
  | .d (.c u), v, _, h => RelD.na (ok := ok) trivial h
  | .d (.arr _ _), v, hn, h => hn.elim
  | .d (.tv _ _), v, hn, h => hn.elim
  | .tp _ _ _, v, hn, h => hn.elim
  | .bl _, v, _, h => h
  | .pr _, v, _, h => h
  | .rp _ _ _ _, v, hn, h => hn.elim
  | .agg cs, v, hn, h => by obtain ⟨vs, h1, h2⟩ := h; exact ⟨vs, h1, RelAs.na cs vs hn h2⟩
  | .tup cs, v, hn, h => by obtain ⟨vs, h1, h2⟩ := h; exact ⟨vs, h1, RelTs.na cs vs hn h2⟩
  | .clo f caps, v, hn, h => by obtain ⟨vs, h1, h2⟩ := h; exact ⟨vs, h1, RelTs.na caps vs hn h2⟩
  | .ptr _ _, v, _, h => h
  | .row _ _, v, _, h => h
  | .rowv _ _ _ _, v, _, h => h
  | .wp _ _ _ _, v, _, h => h
  | .mp _, v, _, h => h
  | .any, v, _, h => trivial
theorem RelAs.na : ∀ (as : List AV) (vs : List Value), AV.nas as → RelAs B ok w as vs → RelAs B ok' w as vs
  | [], vs, _, h => h
  | a :: as, vs, hn, h => by obtain ⟨v, vs', h1, h2, h3, h4⟩ := h; exact ⟨v, vs', h1, h2, RelA.na a v hn.1 h3, RelAs.na as vs' hn.2 h4⟩
theorem RelTs.na : ∀ (as : List AV) (vs : List Value), AV.nas as → RelTs B ok w as vs → RelTs B ok' w as vs
  | [], vs, _, h => h
  | a :: as, vs, hn, h => by obtain ⟨v, vs', h1, h3, h4⟩ := h; exact ⟨v, vs', h1, RelA.na a v hn.1 h3, RelTs.na as vs' hn.2 h4⟩
end
theorem SatR.na {bd : Bd} {e sz ver : Nat} {xs : List (List D)} (hn : ∀ l ∈ xs, ∀ d ∈ l, D.isC d) (h : SatR ok w bd e sz ver xs) : SatR ok' w bd e sz ver xs := by
  obtain ⟨h1, h2, h3, h4, h5⟩ := h
  refine ⟨h1, h2, h3, h4, ?_⟩
  split at h5
  · rename_i hl
    rw [if_pos hl]
    obtain ⟨arr, g1, g2, g3, g4, g5⟩ := h5
    refine ⟨arr, g1, g2, g3, g4, fun i j l d hi hj => ?_⟩
    obtain ⟨v, k1, k2, k3⟩ := g5 i j l d hi hj
    exact ⟨v, k1, k2, k3.na (hn l (List.mem_of_getElem? hi) d (List.mem_of_getElem? hj))⟩
  · rename_i hl
    rw [if_neg hl]
    exact h5
theorem rowsOf_isC {q : TK} (hq : q.flat = true) (ws : List q.ty) : ∀ l ∈ rowsOf q ws, ∀ d ∈ l, D.isC d := by
  intro l hl d hd
  obtain ⟨n, _, rfl⟩ := List.mem_map.1 hl
  simp only [List.mem_singleton] at hd
  subst hd
  cases q <;> first | trivial | cases hq
theorem SatE.na {bd : Bd} {he : HE} (hn : HE.na he) (h : SatE B ok w bd he) : SatE B ok' w bd he := by
  cases he with
  | cells ty cs => obtain ⟨h0, vs, h1, h2⟩ := h; exact ⟨h0, vs, h1, RelAs.na _ _ hn h2⟩
  | row e sz ver xs => exact SatR.na hn h
  | trow q e ver ws => exact SatR.na (rowsOf_isC hn ws) h
  | imap q es => exact h
end

section
variable {P : Program} {Γ : Ctx} {σ : S} {o : Oper} {K : S → Prop}
/-! Guards whose answer is known. -/
theorem sops_gy {ops : Array Oper} {rest : List Oper} {Q : SE → S → Prop} {j : Nat} {want : Bool} {t : Tmp} (hg : o.guard = some (j, want)) (hj : (ops[j]?).bind (·.dst) = some t) (ht : lk σ.env t = some (.bl want)) (h1 : Sop P Γ o (Sops P Γ ops rest Q) σ) : Sops P Γ ops (o :: rest) Q σ := by
  rintro a w ⟨B, ok, hs⟩
  obtain ⟨v, rfl, hy⟩ := hs.guard hj ht
  refine wpList_step fun K hK => ?_
  rw [if_pos (by simp [Region.wanted, hg, hy])]
  exact h1 a w ⟨B, ok, hs⟩ K _ fun σ' a' w' k hs' => hK _ _ (k a' w' hs')
theorem sops_gn {ops : Array Oper} {rest : List Oper} {Q : SE → S → Prop} {j : Nat} {want : Bool} {t : Tmp} (hg : o.guard = some (j, want)) (hj : (ops[j]?).bind (·.dst) = some t) (ht : lk σ.env t = some (.bl (!want))) {d : Option Tmp} (he : o.dst = d) (hd : dstOk Γ.nt d = true) (h2 : Sops P Γ ops rest Q (σ.put d (.tup []))) : Sops P Γ ops (o :: rest) Q σ := by
  subst he
  rintro a w ⟨B, ok, hs⟩
  obtain ⟨v, rfl, hy⟩ := hs.guard hj ht
  refine wpList_step fun K hK => ?_
  rw [if_neg (by simp [Region.wanted, hg, hy])]
  exact hK _ _ (h2 _ _ ⟨B, ok, hs.put hd ⟨[], rfl, rfl⟩⟩)
theorem qops_gy {ops : Array Oper} {rest : List Oper} {Q : S → Prop} {j : Nat} {want : Bool} {t : Tmp} (hg : o.guard = some (j, want)) (hj : (ops[j]?).bind (·.dst) = some t) (ht : lk σ.env t = some (.bl want)) (h1 : Qop P Γ o (Qops P Γ ops rest Q) σ) : Qops P Γ ops (o :: rest) Q σ := by
  intro B ok a w hs
  obtain ⟨v, rfl, hy⟩ := hs.guard hj ht
  unfold wpQuiet
  rw [if_pos (by simp [Region.wanted, hg, hy])]
  obtain ⟨v, g1, σ', g2, g3⟩ := h1 B ok a w hs
  exact ⟨v, g1, g2 B ok _ w g3⟩
theorem qops_gn {ops : Array Oper} {rest : List Oper} {Q : S → Prop} {j : Nat} {want : Bool} {t : Tmp} (hg : o.guard = some (j, want)) (hj : (ops[j]?).bind (·.dst) = some t) (ht : lk σ.env t = some (.bl (!want))) {d : Option Tmp} (he : o.dst = d) (hd : dstOk Γ.nt d = true) (h2 : Qops P Γ ops rest Q (σ.put d (.tup []))) : Qops P Γ ops (o :: rest) Q σ := by
  intro B ok a w hs
  obtain ⟨v, rfl, hy⟩ := hs.guard hj ht
  subst he
  unfold wpQuiet
  rw [if_neg (by simp [Region.wanted, hg, hy])]
  exact h2 B ok _ w (hs.put hd ⟨[], rfl, rfl⟩)
theorem run_cond_t {Q : SE → S → Prop} {c : Operand} {x y : Code} (hc : σ.get c = some (.bl true)) (h : Run P Γ x Q σ) : Run P Γ (.cond c x y) Q σ := run_cond_b hc (fun _ => h) (fun e => by cases e)
theorem run_cond_f {Q : SE → S → Prop} {c : Operand} {x y : Code} (hc : σ.get c = some (.bl false)) (h : Run P Γ y Q σ) : Run P Γ (.cond c x y) Q σ := run_cond_b hc (fun e => by cases e) (fun _ => h)

end
/-- A result variable. -/
inductive ResOk (P : Program) (σ : S) : ResultVar → AV → Prop
  | tmp {t : Tmp} {av : AV} (h : lk σ.env t = some av) : ResOk P σ (.tmp t) av
  | agg {t : Tmp} {ty n id off ty' : Nat} {cs cs' : List AV} (T : TAgg P ty n) (h : lk σ.env t = some (.ptr id off)) (hh : lk σ.heap id = some (.cells ty' cs)) (hc : (cs.drop off).take n = cs') (hn : cs'.length = n) : ResOk P σ (.cell t ty) (.agg cs')
  | one {t : Tmp} {ty id off ty' : Nat} {cs : List AV} {av : AV} (T : TOne P ty) (h : lk σ.env t = some (.ptr id off)) (hh : lk σ.heap id = some (.cells ty' cs)) (hc : cs[off]? = some av) : ResOk P σ (.cell t ty) av

def resOne (tmps : Array Value) : ResultVar → Sem Value
  | .tmp t => pure (tmps.getD t undef)
  | .cell t ty => do loadVar ty (← asAddr (tmps.getD t undef))
theorem results_eq (fn : Func) (tmps : Array Value) : results fn tmps = (do
    let vs ← fn.results.mapM (resOne tmps)
    pure (if h : vs.size = 1 then vs[0] else .tuple vs)) := by
  unfold results
  congr 1

theorem StB.res {P : Program} {Γ : Ctx} {σ : S} {B : Nat → Option Bd} {ok : Nat → Prop} {a : Act} {w : World} (h : StB Γ B ok σ a w) {rv : ResultVar} {av : AV} (hr : ResOk P σ rv av) :
    ∃ v, RelA B ok w av v ∧ (resOne a.tmps rv).run P w = .ok v w := by
  cases hr with
  | tmp hh => exact ⟨_, (h.env _ _ hh).2, rfl⟩
  | @agg t ty n id off ty' cs cs' T h1 hh hc hn =>
    obtain ⟨bd, vs, g1, g2, g3, g4⟩ := h.ptr (x := .tmp t) h1 hh
    have h5 := (g4.drop off).take n
    rw [hc] at h5
    have hl : ((vs.drop off).take n).length = n := by rw [h5.length]; exact hn
    have hrun := run_loadVar_agg (P := P) (t := ty) (w := w) (b := bd.blk) (o := off) hl (fun j v hv => by
      rw [cell_row g3]
      rw [List.getElem?_take] at hv
      split at hv
      · simpa using hv
      · cases hv)
    refine ⟨_, ⟨_, rfl, h5⟩, ?_⟩
    have g2' : a.tmps.getD t undef = .pointer (some ⟨bd.blk, off, none⟩) := g2
    simp only [resOne, g2', asAddr, Sem.run_bind, Sem.run_pure, Result.andThen_ok, hrun]
  | @one t ty id off ty' cs av T h1 hh hc =>
    obtain ⟨bd, vs, g1, g2, g3, g4⟩ := h.ptr (x := .tmp t) h1 hh
    obtain ⟨v, k1, k2, k3⟩ := g4.get hc
    refine ⟨v, k3, ?_⟩
    have g2' : a.tmps.getD t undef = .pointer (some ⟨bd.blk, off, none⟩) := g2
    have hc' : w.cell? ⟨bd.blk, off, none⟩ = some v := by rw [cell_row g3]; simpa using k1
    simp only [resOne, g2', asAddr, Sem.run_bind, Sem.run_pure, Result.andThen_ok, run_loadVar_one hc']

inductive ResAll (P : Program) (σ : S) : List ResultVar → List AV → Prop
  | nil : ResAll P σ [] []
  | cons {rv : ResultVar} {av : AV} {rs : List ResultVar} {as : List AV} (h : ResOk P σ rv av) (t : ResAll P σ rs as) : ResAll P σ (rv :: rs) (av :: as)

def retAV : List AV → AV
  | [a] => a
  | as => .tup as

theorem StB.resAll {P : Program} {Γ : Ctx} {σ : S} {B : Nat → Option Bd} {ok : Nat → Prop} {a : Act} {w : World} (h : StB Γ B ok σ a w) {fn : Func} {as : List AV} (hr : ResAll P σ fn.results.toList as) : ∃ v, (results fn a.tmps).run P w = .ok v w ∧ RelA B ok w (retAV as) v := by
  have key : ∀ (rs : List ResultVar) (as : List AV), ResAll P σ rs as → ∃ vs : List Value, RelTs B ok w as vs ∧ (rs.mapM (resOne a.tmps)).run P w = .ok vs w := by
    intro rs as hr
    induction hr with
    | nil => exact ⟨[], rfl, rfl⟩
    | @cons rv av rs as h0 t ih =>
      obtain ⟨vs, h1, h2⟩ := ih
      obtain ⟨v, h3, h4⟩ := h.res h0
      refine ⟨v :: vs, ⟨v, vs, rfl, h3, h1⟩, ?_⟩
      rw [List.mapM_cons]
      simp only [Sem.run_bind]
      rw [h4]
      simp only [Result.andThen_ok, h2, Sem.run_pure]
  obtain ⟨vs, h1, h2⟩ := key _ _ hr
  have h3 : (results fn a.tmps).run P w = .ok (if h : vs.toArray.size = 1 then vs.toArray[0] else .tuple vs.toArray) w := by
    rw [results_eq, Array.mapM_eq_mapM_toList]
    simp only [Sem.run_bind, Sem.run_map]
    rw [h2]
    rfl
  refine ⟨_, h3, ?_⟩
  cases as with
  | nil => cases h1; exact ⟨[], rfl, rfl⟩
  | cons b bs =>
    obtain ⟨v, vs', rfl, h4, h5⟩ := h1
    cases bs with
    | nil => cases h5; exact h4
    | cons c cs =>
      obtain ⟨v2, vs2, rfl, h6, h7⟩ := h5
      exact ⟨v :: v2 :: vs2, by simp, ⟨v, _, rfl, h4, v2, vs2, rfl, h6, h7⟩⟩

/-- The first frame: the arguments. -/
def argEnv : Nat → List AV → List (Nat × AV)
  | _, [] => []
  | k, a :: as => (k, a) :: argEnv (k + 1) as

theorem argEnv_get {B : Nat → Option Bd} {ok : Nat → Prop} {w : World} : ∀ (as : List AV) (vs : List Value) (k : Nat), RelTs B ok w as vs → ∀ t av, lk (argEnv k as) t = some av → ∃ i v, t = k + i ∧ vs[i]? = some v ∧ RelA B ok w av v
  | [], vs, k, h, t, av, hl => by cases hl
  | a :: as, vs, k, h, t, av, hl => by
    obtain ⟨v, vs', rfl, h2, h3⟩ := h
    unfold argEnv lk at hl
    cases hb : Nat.beq k t with
    | true =>
      obtain rfl := Nat.eq_of_beq_eq_true hb
      rw [hb] at hl
      simp only [cond_true, Option.some.injEq] at hl
      subst hl
      exact ⟨0, v, rfl, rfl, h2⟩
    | false =>
      rw [hb] at hl
      obtain ⟨i, v', h4, h5, h6⟩ := argEnv_get as vs' (k + 1) h3 t av hl
      exact ⟨i + 1, v', by omega, h5, h6⟩

theorem RelTs.length {B : Nat → Option Bd} {ok : Nat → Prop} {w : World} : ∀ {as : List AV} {vs : List Value}, RelTs B ok w as vs → vs.length = as.length
  | [], vs, h => by cases h; rfl
  | a :: as, vs, h => by obtain ⟨v, vs', rfl, _, h4⟩ := h; simp [RelTs.length h4]

theorem RelTs.append {B : Nat → Option Bd} {ok : Nat → Prop} {w : World} : ∀ {as bs : List AV} {vs us : List Value}, RelTs B ok w as vs → RelTs B ok w bs us → RelTs B ok w (as ++ bs) (vs ++ us)
  | [], bs, vs, us, h, k => by cases h; exact k
  | a :: as, bs, vs, us, h, k => by
    obtain ⟨v, vs', rfl, h3, h4⟩ := h
    exact ⟨v, vs' ++ us, rfl, h3, RelTs.append h4 k⟩


/-! ### Kinds -/
mutual
def Kd.cnt : Kd → Nat
  | .own _ _ => 1
  | .ownr _ _ => 1
  | .map _ => 1
  | .agg ks => Kd.cnts ks
  | .clo _ ks => Kd.cnts ks
  | .cell _ ks => Kd.cnts ks + 1
  | _ => 0
def Kd.cnts : List Kd → Nat
  | [] => 0
  | k :: ks => Kd.cnt k + Kd.cnts ks
end
mutual
/-- Whether it may hold frozen data. -/
def Kd.fro : Kd → Bool
  | .tv _ => true
  | .arr _ => true
  | .ownr _ _ => true
  | .own q _ => !q.flat
  | .agg ks => Kd.fros ks
  | .clo _ ks => Kd.fros ks
  | .cell _ ks => Kd.fros ks
  | _ => false
def Kd.fros : List Kd → Bool
  | [] => false
  | k :: ks => Kd.fro k || Kd.fros ks
end
mutual
/-- The blocks of cells among new entries from n on. -/
def Kd.cel (n : Nat) : Kd → List (Nat × TypeId × List Kd)
  | .agg ks => Kd.cels n ks
  | .clo _ ks => Kd.cels n ks
  | .cell ty ks => (n, ty, ks) :: Kd.cels (n + 1) ks
  | _ => []
def Kd.cels (n : Nat) : List Kd → List (Nat × TypeId × List Kd)
  | [] => []
  | k :: ks => Kd.cel n k ++ Kd.cels (n + Kd.cnt k) ks
end
mutual
theorem mk_next : ∀ (k : Kd) (x : k.ty) (n : Nat), (mk k x n).2.2 = n + k.cnt
  | .int _, x, n => rfl
  | .bool, x, n => rfl
  | .str, x, n => rfl
  | .tv _, x, n => rfl
  | .arr _, x, n => rfl
  | .own _ _, x, n => rfl
  | .ownr _ _, x, n => rfl
  | .val _, x, n => rfl
  | .agg ks, x, n => mks_next ks x n
  | .cell ty ks, x, n => (mks_next ks x (n + 1)).trans (by simp only [Kd.cnt]; omega)
  | .map _, x, n => rfl
  | .clo _ ks, x, n => mks_next ks x n
theorem mks_next : ∀ (ks : List Kd) (x : Kd.tys ks) (n : Nat), (mks ks x n).2.2 = n + Kd.cnts ks
  | [], x, n => rfl
  | k :: ks, x, n => (mks_next ks x.2 _).trans (by rw [mk_next k x.1 n]; simp only [Kd.cnts]; omega)
end
def renP (ρ : Nat → Nat) (p : Nat × HE) : Nat × HE := (ρ p.1, p.2.ren ρ)
mutual
theorem mk_ren {ρ : Nat → Nat} : ∀ (k : Kd) (x : k.ty) (n m : Nat), (∀ j, ρ (n + j) = m + j) → (mk k x m).1 = (mk k x n).1.ren ρ ∧ (mk k x m).2.1 = (mk k x n).2.1.map (renP ρ)
  | .int _, x, n, m, h => ⟨rfl, rfl⟩
  | .bool, x, n, m, h => ⟨rfl, rfl⟩
  | .str, x, n, m, h => ⟨rfl, rfl⟩
  | .tv _, x, n, m, h => ⟨rfl, rfl⟩
  | .arr _, x, n, m, h => ⟨rfl, rfl⟩
  | .own _ _, x, n, m, h => by have := h 0; simp only [Nat.add_zero] at this; simp [mk, AV.ren, renP, HE.ren, this]
  | .ownr _ _, x, n, m, h => by have := h 0; simp only [Nat.add_zero] at this; simp [mk, AV.ren, renP, HE.ren, this]
  | .val _, x, n, m, h => ⟨rfl, rfl⟩
  | .agg ks, x, n, m, h => by
    obtain ⟨h1, h2⟩ := mks_ren ks x n m h
    exact ⟨congrArg AV.agg h1, h2⟩
  | .cell ty ks, x, n, m, h => by
    obtain ⟨h1, h2⟩ := mks_ren (ρ := ρ) ks x (n + 1) (m + 1) (fun j => by have := h (1 + j); rw [← Nat.add_assoc] at this; omega)
    have h0 := h 0
    simp only [Nat.add_zero] at h0
    refine ⟨?_, ?_⟩
    · show AV.ptr m 0 = AV.ptr (ρ n) 0
      rw [h0]
    · show (m, HE.cells ty (mks ks x (m + 1)).1) :: (mks ks x (m + 1)).2.1 = (ρ n, HE.cells ty (AV.rens ρ (mks ks x (n + 1)).1)) :: ((mks ks x (n + 1)).2.1.map (renP ρ))
      rw [h1, h2, h0]
  | .map _, x, n, m, h => by have := h 0; simp only [Nat.add_zero] at this; simp [mk, AV.ren, renP, HE.ren, this]
  | .clo f ks, x, n, m, h => by
    obtain ⟨h1, h2⟩ := mks_ren ks x n m h
    exact ⟨congrArg (AV.clo f) h1, h2⟩
theorem mks_ren {ρ : Nat → Nat} : ∀ (ks : List Kd) (x : Kd.tys ks) (n m : Nat), (∀ j, ρ (n + j) = m + j) → (mks ks x m).1 = AV.rens ρ (mks ks x n).1 ∧ (mks ks x m).2.1 = (mks ks x n).2.1.map (renP ρ)
  | [], x, n, m, h => ⟨rfl, rfl⟩
  | k :: ks, x, n, m, h => by
    obtain ⟨h1, h2⟩ := mk_ren k x.1 n m h
    have e1 := mk_next k x.1 n
    have e2 := mk_next k x.1 m
    obtain ⟨h3, h4⟩ := mks_ren (ρ := ρ) ks x.2 (n + k.cnt) (m + k.cnt) (fun j => by have := h (k.cnt + j); rw [← Nat.add_assoc] at this; omega)
    refine ⟨?_, ?_⟩
    · show (mk k x.1 m).1 :: (mks ks x.2 (mk k x.1 m).2.2).1 = _ :: _
      rw [e2, h1, h3, ← e1]
    · show (mk k x.1 m).2.1 ++ (mks ks x.2 (mk k x.1 m).2.2).2.1 = ((mk k x.1 n).2.1 ++ (mks ks x.2 (mk k x.1 n).2.2).2.1).map (renP ρ)
      rw [e2, h2, h4, ← e1, List.map_append]
end
mutual
theorem mk_na : ∀ (k : Kd) (x : k.ty) (n : Nat), k.fro = false → AV.na (mk k x n).1 ∧ ∀ p ∈ (mk k x n).2.1, HE.na p.2
  | .int _, x, n, h => ⟨trivial, by intro p hp; cases hp⟩
  | .bool, x, n, h => ⟨trivial, by intro p hp; cases hp⟩
  | .str, x, n, h => ⟨trivial, by intro p hp; cases hp⟩
  | .tv _, x, n, h => by cases h
  | .arr _, x, n, h => by cases h
  | .own q _, x, n, h => ⟨trivial, by intro p hp; obtain rfl := List.mem_singleton.1 hp; cases q <;> first | rfl | cases h⟩
  | .ownr _ _, x, n, h => by cases h
  | .val _, x, n, h => ⟨trivial, by intro p hp; cases hp⟩
  | .agg ks, x, n, h => mks_na ks x n h
  | .cell ty ks, x, n, h => by
    obtain ⟨h1, h2⟩ := mks_na ks x (n + 1) h
    refine ⟨trivial, fun p hp => ?_⟩
    rcases List.mem_cons.1 hp with rfl | hp
    · exact h1
    · exact h2 p hp
  | .map _, x, n, h => ⟨trivial, by intro p hp; obtain rfl := List.mem_singleton.1 hp; trivial⟩
  | .clo _ ks, x, n, h => mks_na ks x n h
theorem mks_na : ∀ (ks : List Kd) (x : Kd.tys ks) (n : Nat), Kd.fros ks = false → AV.nas (mks ks x n).1 ∧ ∀ p ∈ (mks ks x n).2.1, HE.na p.2
  | [], x, n, h => ⟨trivial, by intro p hp; cases hp⟩
  | k :: ks, x, n, h => by
    simp only [Kd.fros, Bool.or_eq_false_iff] at h
    obtain ⟨h1, h2⟩ := mk_na k x.1 n h.1
    obtain ⟨h3, h4⟩ := mks_na ks x.2 (mk k x.1 n).2.2 h.2
    refine ⟨⟨h1, h3⟩, fun p hp => ?_⟩
    rcases List.mem_append.1 hp with hp | hp
    · exact h2 p hp
    · exact h4 p hp
end

/-! ### Taking over -/
def memB (n : Nat) : List Nat → Bool
  | [] => false
  | k :: r => bif Nat.beq k n then true else memB n r
theorem memB_iff {n : Nat} : ∀ {l : List Nat}, memB n l = true ↔ n ∈ l
  | [] => by simp [memB]
  | k :: r => by
    unfold memB
    cases hb : Nat.beq k n with
    | true => simp [Nat.eq_of_beq_eq_true hb]
    | false =>
      have : ¬ n = k := fun e => by subst e; rw [Nat.beq_refl] at hb; cases hb
      simp [memB_iff, this]
def distB : List Nat → Bool
  | [] => true
  | k :: r => !(memB k r) && distB r
theorem distB_ok : ∀ {l : List Nat}, distB l = true → l.Nodup
  | [], _ => List.nodup_nil
  | k :: r, h => by
    simp only [distB, Bool.and_eq_true, Bool.not_eq_true'] at h
    refine List.nodup_cons.2 ⟨fun hm => ?_, distB_ok h.2⟩
    rw [memB_iff.2 hm] at h
    cases h.1
def disjB (a b : List Nat) : Bool := match a with
  | [] => true
  | k :: r => !(memB k b) && disjB r b
theorem disjB_ok {b : List Nat} : ∀ {a : List Nat}, disjB a b = true → ∀ i, i ∈ a → i ∉ b
  | [], _, i, h => by cases h
  | k :: r, h, i, hi => by
    simp only [disjB, Bool.and_eq_true, Bool.not_eq_true'] at h
    rcases List.mem_cons.1 hi with rfl | hi
    · intro hm; rw [memB_iff.2 hm] at h; cases h.1
    · exact disjB_ok h.2 i hi

theorem Src.uniq : ∀ {ss : List Src}, (Src.ids ss).Nodup → ∀ {j k : Nat} {s u : Src} {i : Nat}, ss[j]? = some s → ss[k]? = some u → s.names i → u.names i → j = k
  | [], _, j, k, s, u, i, h1, h2, h3, h4 => by simp at h1
  | a :: r, hn, 0, 0, s, u, i, h1, h2, h3, h4 => rfl
  | a :: r, hn, j + 1, k + 1, s, u, i, h1, h2, h3, h4 => by
    have : (Src.ids r).Nodup := by
      cases a with
      | id x => exact (List.nodup_cons.1 hn).2
      | nil e => exact hn
    exact congrArg (· + 1) (Src.uniq this h1 h2 h3 h4)
  | a :: r, hn, 0, k + 1, s, u, i, h1, h2, h3, h4 => by
    simp only [List.getElem?_cons_zero, Option.some.injEq] at h1
    subst h1
    simp only [List.getElem?_cons_succ] at h2
    cases a with
    | id x => cases h3; exact absurd (Src.names_mem h4 h2) (List.nodup_cons.1 hn).1
    | nil e => exact h3.elim
  | a :: r, hn, j + 1, 0, s, u, i, h1, h2, h3, h4 => by
    simp only [List.getElem?_cons_zero, Option.some.injEq] at h2
    subst h2
    simp only [List.getElem?_cons_succ] at h1
    cases a with
    | id x => cases h4; exact absurd (Src.names_mem h3 h1) (List.nodup_cons.1 hn).1
    | nil e => exact h4.elim

/-- What is behind a taking over: the binding, what may be read. -/
structure Over (B : Nat → Option Bd) (ok : Nat → Prop) (w : World) (h : List (Nat × HE)) (ss : List Src) (fz : List Nat) (kp : List Nat) (all : Bool) (n0 : Nat) (news : List (Nat × HE)) (B' : Nat → Option Bd) (ok' : Nat → Prop) : Prop where
  low : ∀ i, i < n0 → (all = true ∨ i ∈ kp) → B' i = B i
  cut : ∀ i, i < n0 → all = false → i ∉ kp → B' i = none
  high : ∀ i, n0 + ss.length ≤ i → B' i = none
  ok1 : ∀ b, ok b → ok' b
  ok2 : ∀ b, ok' b → ok b ∨ lent B h fz b
  new : ∀ i x, (i, x) ∈ news → ∃ j s bd, i = n0 + j ∧ ss[j]? = some s ∧ B' i = some bd ∧ SatE B' ok' w bd x ∧ (∀ b, x.occ bd = some b → ∃ i, s.names i ∧ occI B h i b) ∧ ∀ i, s.names i → ∃ b0, B i = some b0 ∧ bd = b0.v0 ∧ ∀ ty cs, x = .cells ty cs → b0.ver = 0
  src : ∀ (n j : Nat), ss[n]? = some (Src.id j) → ∃ b0, B j = some b0 ∧ B' (n0 + n) = some b0.v0
  sat : ∀ kh : List (Nat × HE), (∀ i x, (i, x) ∈ kh → i ∈ kp ∧ i < n0 ∧ ∃ he bd, (i, he) ∈ h ∧ B i = some bd ∧ x.occ bd = he.occ bd ∧ SatE B' ok' w bd x) → (∀ i x y, (i, x) ∈ kh → (i, y) ∈ kh → x = y) →
    SatH B' ok' w (kh ++ news) ∧ ∀ i b, occI B' (kh ++ news) i b → (i < n0 ∧ occI B h i b ∧ i ∈ kp) ∨ (∃ j s k, i = n0 + j ∧ ss[j]? = some s ∧ s.names k ∧ occI B h k b)

theorem takeover {B : Nat → Option Bd} {ok : Nat → Prop} {w : World} {h : List (Nat × HE)} (H : SatH B ok w h) {ss : List Src} {fz : List Nat} {m : Nat → List AV × List (Nat × HE) × Nat} {R : (Nat → Option Bd) → (Nat → Prop) → List AV → Prop}
    (tk : Tooks B ok w h ss fz m R) (kp : List Nat) (all : Bool) (n0 : Nat) (hd : distB (Src.ids ss) = true) (h1 : disjB (Src.ids ss) fz = true) (h2 : disjB (Src.ids ss) kp = true) (h3 : disjB fz kp = true) :
    ∃ B' ok', Over B ok w h ss fz kp all n0 (m n0).2.1 B' ok' ∧ R B' ok' (m n0).1 ∧ (m n0).2.2 = n0 + ss.length := by
  obtain ⟨bs, hbs, tk⟩ := tk
  let B' : Nat → Option Bd := fun i => if i < n0 then (if all = true ∨ i ∈ kp then B i else none) else bs[i - n0]?
  let ok' : Nat → Prop := fun b => ok b ∨ lent B h fz b
  have hB' : ∀ j bd, bs[j]? = some bd → B' (n0 + j) = some bd := fun j bd hj => by
    show (if n0 + j < n0 then _ else bs[n0 + j - n0]?) = _
    rw [if_neg (by omega), Nat.add_sub_cancel_left]
    exact hj
  obtain ⟨r1, r2, r3⟩ := tk n0 B' ok' hB' (fun b hb => .inl hb) (fun b hb => .inr hb)
  have hlow : ∀ i, i < n0 → (all = true ∨ i ∈ kp) → B' i = B i := fun i hi hc => by
    show (if i < n0 then _ else _) = _
    rw [if_pos hi, if_pos hc]
  have hnd := distB_ok hd
  have hsf := disjB_ok h1
  have hsk := disjB_ok h2
  have hfk := disjB_ok h3
  have hnew : ∀ i x, (i, x) ∈ (m n0).2.1 → ∃ j s bd, i = n0 + j ∧ ss[j]? = some s ∧ B' i = some bd ∧ SatE B' ok' w bd x ∧ (∀ b, x.occ bd = some b → ∃ i, s.names i ∧ occI B h i b) ∧ ∀ i, s.names i → ∃ b0, B i = some b0 ∧ bd = b0.v0 ∧ ∀ ty cs, x = .cells ty cs → b0.ver = 0 := fun i x hm => by
    obtain ⟨j, s, bd, e1, e2, e3, e4, e5, e6, e7⟩ := r2.get hm
    exact ⟨j, s, bd, e1, e2, by rw [e1]; exact hB' j bd e3, e5, e6, e7⟩
  have hap : ∀ i j b, occI B h i b → occI B h j b → i = j := fun i j b ⟨x, bx, a1, a2, a3⟩ ⟨y, by', c1, c2, c3⟩ => by
    apply Classical.byContradiction
    intro hne
    exact H.apart _ _ _ _ a1 c1 hne _ _ a2 c2 b a3 c3
  refine ⟨B', ok', ⟨hlow, fun i hi ha hk => ?_, fun i hi => ?_, fun b hb => .inl hb, fun b hb => hb, hnew, (fun n j hn => by obtain ⟨b0, g1, g2⟩ := r2.src n j hn; exact ⟨b0, g1, hB' n _ g2⟩), fun kh hkh hu => ?_⟩, r1, r3⟩
  · show (if i < n0 then _ else _) = _
    rw [if_pos hi, if_neg]
    rintro (hc | hc)
    · rw [ha] at hc; cases hc
    · exact hk hc
  · show (if i < n0 then _ else _) = _
    rw [if_neg (by omega)]
    exact List.getElem?_eq_none (by omega)
  have hin : ∀ i x, (i, x) ∈ kh ++ (m n0).2.1 → ∃ bd, B' i = some bd ∧ SatE B' ok' w bd x ∧ ∀ b, x.occ bd = some b → (i < n0 ∧ occI B h i b ∧ i ∈ kp) ∨ (∃ j s k, i = n0 + j ∧ ss[j]? = some s ∧ s.names k ∧ occI B h k b) := fun i x hm => by
    rcases List.mem_append.1 hm with hm | hm
    · obtain ⟨g1, g2, he, bd, g3, g4, g5, g6⟩ := hkh i x hm
      exact ⟨bd, by rw [hlow i g2 (.inr g1)]; exact g4, g6, fun b hb => .inl ⟨g2, ⟨he, bd, g3, g4, by rw [← g5]; exact hb⟩, g1⟩⟩
    · obtain ⟨j, s, bd, e1, e2, e3, e4, e5, e6⟩ := hnew i x hm
      exact ⟨bd, e3, e4, fun b hb => .inr (by obtain ⟨k, g1, g2⟩ := e5 b hb; exact ⟨j, s, k, e1, e2, g1, g2⟩)⟩
  refine ⟨⟨fun i x hm => ?_, fun i x j y hx hy hij bi bj hbi hbj b hob hob' => ?_, fun i x hm bd hbd b hob hk => ?_, fun b hb => ?_, fun i x y hx hy => ?_⟩, fun i b ⟨x, bd, e1, e2, e3⟩ => ?_⟩
  · obtain ⟨bd, g1, g2, _⟩ := hin i x hm
    exact ⟨bd, g1, g2⟩
  · obtain ⟨b1, g1, _, g2⟩ := hin i x hx
    obtain ⟨b2, k1, _, k2⟩ := hin j y hy
    rw [g1] at hbi; cases hbi
    rw [k1] at hbj; cases hbj
    rcases g2 b hob with ⟨a1, a2, a3⟩ | ⟨ji, si, ki, a1, a2, a3, a4⟩ <;> rcases k2 b hob' with ⟨c1, c2, c3⟩ | ⟨jj, sj, kj, c1, c2, c3, c4⟩
    · exact hij (hap _ _ _ a2 c2)
    · have := hap _ _ _ a2 c4
      subst this
      exact hsk _ (Src.names_mem c3 c2) a3
    · have := hap _ _ _ a4 c2
      subst this
      exact hsk _ (Src.names_mem a3 a2) c3
    · have := hap _ _ _ a4 c4
      subst this
      have := Src.uniq hnd a2 c2 a3 c3
      omega
  · obtain ⟨b1, g1, _, g2⟩ := hin i x hm
    rw [g1] at hbd; cases hbd
    have hsrc : ∃ k, occI B h k b ∧ (k ∈ kp ∨ k ∈ Src.ids ss) := by
      rcases g2 b hob with ⟨a1, a2, a3⟩ | ⟨ji, si, ki, a1, a2, a3, a4⟩
      · exact ⟨i, a2, .inl a3⟩
      · exact ⟨ki, a4, .inr (Src.names_mem a3 a2)⟩
    obtain ⟨k, hk1, hk2⟩ := hsrc
    rcases hk with hk | ⟨k', hk3, hk4⟩
    · obtain ⟨y, by', c1, c2, c3⟩ := hk1
      exact H.avoid _ _ c1 _ c2 b c3 hk
    · have := hap _ _ _ hk1 hk4
      subst this
      rcases hk2 with hk2 | hk2
      · exact hfk _ hk3 hk2
      · exact hsf _ hk2 hk3
  · rcases hb with hb | ⟨k, hk1, x, bd, c1, c2, c3⟩
    · exact H.okb b hb
    · obtain ⟨bd', g1, g2⟩ := H.sat _ _ c1
      rw [c2] at g1; cases g1
      exact g2.lt c3
  · rcases List.mem_append.1 hx with hx | hx <;> rcases List.mem_append.1 hy with hy | hy
    · exact hu i x y hx hy
    · obtain ⟨g1, g2, _⟩ := hkh i x hx
      obtain ⟨j, s, bd, e1, _⟩ := hnew i y hy
      omega
    · obtain ⟨g1, g2, _⟩ := hkh i y hy
      obtain ⟨j, s, bd, e1, _⟩ := hnew i x hx
      omega
    · obtain ⟨j, s, bd, e1, e2, e3, e4, _⟩ := r2.get hx
      obtain ⟨j', s', bd', f1, f2, f3, f4, _⟩ := r2.get hy
      have : j = j' := by omega
      subst this
      rw [e4] at f4
      simpa using f4
  · obtain ⟨b1, g1, _, g2⟩ := hin i x e1
    rw [g1] at e2; cases e2
    exact g2 b e3
end Go.Proofs.YthjmmofafpahhaaGreat.Sx
