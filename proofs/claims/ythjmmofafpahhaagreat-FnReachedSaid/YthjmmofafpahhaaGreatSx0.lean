/- The symbolic layer: abstract values, owned blocks, and what they say of the machine's memory. Program-independent. -/
import Derived.Below
import Derived.Deep.Quiet
import Derived.Laws.AppendOwn
import Derived.Laws.IdiomCopy
import Derived.Laws.Build
import Derived.Laws.Entries
import Derived.WalkKit
namespace Go.Proofs.YthjmmofafpahhaaGreat.Sx
open Go Go.RowKit
set_option linter.unusedVariables false
set_option linter.unusedSimpArgs false

/-- Types of cells that rows are made of. -/
inductive TK where
  | i64
  | u8
  | str
  | ints
  | strs
  | bool
@[reducible] def TK.ty : TK → Type
  | .i64 => Int
  | .u8 => Int
  | .str => ByteArray
  | .ints => List Int
  | .strs => List ByteArray
  | .bool => Bool
def TK.dflt : (q : TK) → q.ty
  | .i64 => (0 : Int)
  | .u8 => (0 : Int)
  | .str => ByteArray.empty
  | .ints => []
  | .strs => []
  | .bool => false
/-- Whether a cell holds no reference. -/
def TK.flat : TK → Bool
  | .ints => false
  | .strs => false
  | _ => true
/-- Pure data: a scalar, or a slice whose elements are rows of cells. -/
inductive D where
  | c (v : Value)
  | arr (sz : Nat) (xs : List (List D))
  | tv (q : TK) (ws : List q.ty)
def emb : (q : TK) → q.ty → D
  | .i64, n => .c (.int .i64 n)
  | .u8, n => .c (.int .u8 n)
  | .str, s => .c (.string s)
  | .ints, ws => .tv .i64 ws
  | .strs, ws => .tv .str ws
  | .bool, b => .c (.bool b)
/-- A cell without a reference as a value. -/
def embV : (q : TK) → q.ty → Value
  | .i64, n => .int .i64 n
  | .u8, n => .int .u8 n
  | .str, s => .string s
  | .bool, b => .bool b
  | .ints, _ => undef
  | .strs, _ => undef
theorem emb_flat {q : TK} (h : q.flat = true) (x : q.ty) : emb q x = .c (embV q x) := by cases q <;> first | rfl | cases h
theorem embV_one {q : TK} (h : q.flat = true) (x : q.ty) : (embV q x).oneCell' = true := by cases q <;> first | rfl | cases h

/-- Cells of one type as rows of one cell. -/
def rowsOf (q : TK) (ws : List q.ty) : List (List D) := ws.map fun x => [emb q x]

/-- Abstract values. -/
inductive AV where
  | d (x : D)
  | ptr (id off : Nat)
  | rp (sz : Nat) (xs : List (List D)) (i j : Nat)
  | row (id ver : Nat)
  | rowv (id ver off len : Nat)
  | wp (id ver i j : Nat)
  | agg (cs : List AV)
  | tup (cs : List AV)
  | clo (f : FuncId) (caps : List AV)
  | mp (id : Nat)
  | bl (b : Bool)
  | pr (p : Prop)
  | tp (q : TK) (ws : List q.ty) (i : Nat)
  | any

/-- What an owned block holds. -/
inductive HE where
  | cells (ty : TypeId) (cs : List AV)
  | row (e : TypeId) (sz ver : Nat) (xs : List (List D))
  | trow (q : TK) (e : TypeId) (ver : Nat) (ws : List q.ty)
  | imap (q : TK) (es : List (Int × q.ty))

/-- Where an owned block lies. -/
structure Bd where
  blk : Nat
  off : Nat
  cap : Nat
  len : Nat
  sz : Nat
  ver : Nat
  live : Bool

def Bd.hdr (b : Bd) : Value := if b.live then .slice (some ⟨b.blk, b.off, none⟩) b.len b.cap else .slice none 0 0

inductive RelD (ok : Nat → Prop) (w : World) : D → Value → Prop
  | c (v : Value) (h1 : v.oneCell' = true) : RelD ok w (.c v) v
  | arr (sz : Nat) (xs : List (List D)) (A : Option Addr) (n cap : Nat) (cv : Nat → Nat → Value)
      (hn : xs.length = n) (hcap : n ≤ cap) (hnil : A = none → xs = [] ∧ cap = 0) (hl : ∀ l ∈ xs, l.length = sz)
      (hA : ∀ a, A = some a → a.spot = none)
      (hok : ∀ a, A = some a → xs ≠ [] → ok a.block)
      (hc : ∀ a, A = some a → ∀ i j, i < xs.length → j < sz → w.cell? ⟨a.block, a.off + (i * sz + j), none⟩ = some (cv i j))
      (hr : ∀ i j l d, xs[i]? = some l → l[j]? = some d → RelD ok w d (cv i j)) : RelD ok w (.arr sz xs) (.slice A n cap)
  | tv (q : TK) (ws : List q.ty) (v : Value) (h : RelD ok w (.arr 1 (rowsOf q ws)) v) : RelD ok w (.tv q ws) v

section
variable (B : Nat → Option Bd) (ok : Nat → Prop) (w : World)
mutual
def RelA : AV → Value → Prop
  | .d x, v => RelD ok w x v
  | .ptr id off, v => v.oneCell' = true ∧ ∃ bd, B id = some bd ∧ (bd.ver = 0 → v = .pointer (some ⟨bd.blk, off, none⟩))
  | .rp sz xs i j, v => i < xs.length ∧ ∃ a n cap, RelD ok w (.arr sz xs) (.slice (some a) n cap) ∧ v = .pointer (some ⟨a.block, a.off + (i * sz + j), none⟩)
  | .row id ver, v => v.oneCell' = true ∧ ∃ bd, B id = some bd ∧ ver ≤ bd.ver ∧ (ver = bd.ver → v = bd.hdr)
  | .rowv id ver off len, v => v.oneCell' = true ∧ ∃ bd, B id = some bd ∧ ver ≤ bd.ver ∧ (ver = bd.ver → off + len ≤ bd.len ∧ ∃ A c, v = .slice A len c ∧ len ≤ c ∧ c + off ≤ bd.cap ∧ (bd.live = false → c = 0 ∧ A = none) ∧ (bd.live = true → ∃ o, A = some ⟨bd.blk, o, none⟩ ∧ (0 < c → o = bd.off + off * bd.sz)))
  | .wp id ver i j, v => v.oneCell' = true ∧ ∃ bd, B id = some bd ∧ ver ≤ bd.ver ∧ (ver = bd.ver → bd.live = true ∧ i < bd.len ∧ v = .pointer (some ⟨bd.blk, bd.off + (i * bd.sz + j), none⟩))
  | .agg cs, v => ∃ vs : List Value, v = .agg vs.toArray ∧ RelAs cs vs
  | .tup cs, v => ∃ vs : List Value, v = .tuple vs.toArray ∧ RelTs cs vs
  | .clo f caps, v => ∃ vs : List Value, v = .func (.func f) #[] vs.toArray ∧ RelTs caps vs
  | .mp id, v => v.oneCell' = true ∧ ∃ bd, B id = some bd ∧ (bd.ver = 0 → v = .map (some bd.blk))
  | .bl b, v => v = .bool b
  | .pr p, v => ∃ b, v = .bool b ∧ (b = true ↔ p)
  | .tp q ws i, v => i < ws.length ∧ ∃ a n cap, RelD ok w (.arr 1 (rowsOf q ws)) (.slice (some a) n cap) ∧ v = .pointer (some ⟨a.block, a.off + i, none⟩)
  | .any, _ => True
def RelAs : List AV → List Value → Prop
  | [], vs => vs = []
  | a :: as, vs => ∃ v vs', vs = v :: vs' ∧ v.oneCell' = true ∧ RelA a v ∧ RelAs as vs'
def RelTs : List AV → List Value → Prop
  | [], vs => vs = []
  | a :: as, vs => ∃ v vs', vs = v :: vs' ∧ RelA a v ∧ RelTs as vs'
end

def HE.occ (bd : Bd) : HE → Option Nat
  | .cells _ _ => some bd.blk
  | .row _ _ _ _ => if bd.live then some bd.blk else none
  | .trow _ _ _ _ => if bd.live then some bd.blk else none
  | .imap _ _ => some bd.blk

/-- What a row says of the block it lies in. -/
def SatR (bd : Bd) (e sz ver : Nat) (xs : List (List D)) : Prop :=
  bd.ver = ver ∧ bd.sz = sz ∧ bd.len = xs.length ∧ (∀ l ∈ xs, l.length = sz) ∧
      if bd.live then ∃ arr : Array Value, w.heap[bd.blk]? = some (.cells arr e (0, 0)) ∧ bd.off + bd.cap * sz ≤ arr.size ∧ bd.len ≤ bd.cap ∧ bd.cap ≤ maxLen ∧
        ∀ i j l d, xs[i]? = some l → l[j]? = some d → ∃ v, arr[bd.off + (i * sz + j)]? = some v ∧ v.oneCell' = true ∧ RelD ok w d v
      else xs = [] ∧ bd.cap = 0
/-- What an entry says of the block it stands for. -/
def SatE (bd : Bd) : HE → Prop
  | .cells ty cs => bd.ver = 0 ∧ ∃ vs : List Value, w.heap[bd.blk]? = some (.cells vs.toArray ty (0, 0)) ∧ RelAs B ok w cs vs
  | .row e sz ver xs => SatR ok w bd e sz ver xs
  | .trow q e ver ws => SatR ok w bd e 1 ver (rowsOf q ws)
  | .imap q es => bd.ver = 0 ∧ q.flat = true ∧ ∃ (ent : Array MapEntry) (clock : Nat), w.heap[bd.blk]? = some (.map ent clock) ∧
      ent.toList.map (fun e => (e.key, e.val)) = es.map (fun p => (Value.int .i64 p.1, embV q p.2))
end

/-- A heap of owned blocks. -/
structure SatH (B : Nat → Option Bd) (ok : Nat → Prop) (w : World) (H : List (Nat × HE)) : Prop where
  sat : ∀ id he, (id, he) ∈ H → ∃ bd, B id = some bd ∧ SatE B ok w bd he
  apart : ∀ i x j y, (i, x) ∈ H → (j, y) ∈ H → i ≠ j → ∀ bi bj, B i = some bi → B j = some bj → ∀ b, x.occ bi = some b → y.occ bj ≠ some b
  avoid : ∀ i x, (i, x) ∈ H → ∀ bd, B i = some bd → ∀ b, x.occ bd = some b → ¬ ok b
  okb : ∀ b, ok b → b < w.heap.size
  uniq : ∀ i x y, (i, x) ∈ H → (i, y) ∈ H → x = y

/-- Below: every block but those of S reads as it did. -/
structure Keeps (S : Nat → Prop) (w w' : World) : Prop where
  os : w'.os = w.os
  tape : w'.tape = w.tape
  output : w'.output = w.output
  size : w.heap.size ≤ w'.heap.size
  block : ∀ k, k < w.heap.size → ¬ S k → w'.heap[k]? = w.heap[k]?

def BdLe (b b' : Bd) : Prop := b.ver ≤ b'.ver ∧ (b.ver = b'.ver → b' = b)
def BLe (B B' : Nat → Option Bd) : Prop := ∀ id bd, B id = some bd → ∃ bd', B' id = some bd' ∧ BdLe bd bd'

theorem Keeps.refl (S : Nat → Prop) (w : World) : Keeps S w w := ⟨rfl, rfl, rfl, Nat.le_refl _, fun _ _ _ => rfl⟩
theorem Keeps.trans {S : Nat → Prop} {a b c : World} (h : Keeps S a b) (k : Keeps S b c) : Keeps S a c :=
  ⟨k.os.trans h.os, k.tape.trans h.tape, k.output.trans h.output, Nat.le_trans h.size k.size,
    fun i hi hn => (k.block i (Nat.lt_of_lt_of_le hi h.size) hn).trans (h.block i hi hn)⟩
theorem Keeps.trans2 {S S' : Nat → Prop} {a b c : World} (h : Keeps S a b) (k : Keeps S' b c) (hs : ∀ k, k < a.heap.size → S' k → S k) : Keeps S a c :=
  ⟨k.os.trans h.os, k.tape.trans h.tape, k.output.trans h.output, Nat.le_trans h.size k.size,
    fun i hi hn => (k.block i (Nat.lt_of_lt_of_le hi h.size) (fun x => hn (hs i hi x))).trans (h.block i hi hn)⟩
theorem Keeps.mono {S S' : Nat → Prop} {a b : World} (h : Keeps S a b) (hs : ∀ k, k < a.heap.size → S k → S' k) : Keeps S' a b :=
  ⟨h.os, h.tape, h.output, h.size, fun i hi hn => h.block i hi (fun x => hn (hs i hi x))⟩
theorem BdLe.refl (b : Bd) : BdLe b b := ⟨Nat.le_refl _, fun _ => rfl⟩
theorem BdLe.trans {a b c : Bd} (h : BdLe a b) (k : BdLe b c) : BdLe a c :=
  ⟨Nat.le_trans h.1 k.1, fun e => by
    have h1 : a.ver = b.ver := Nat.le_antisymm h.1 (e ▸ k.1)
    have h2 := h.2 h1
    subst h2
    exact k.2 e⟩
theorem BLe.refl (B : Nat → Option Bd) : BLe B B := fun _ bd h => ⟨bd, h, BdLe.refl _⟩
theorem BLe.trans {A B C : Nat → Option Bd} (h : BLe A B) (k : BLe B C) : BLe A C := fun id bd hb =>
  let ⟨b1, h1, l1⟩ := h id bd hb
  let ⟨b2, h2, l2⟩ := k id b1 h1
  ⟨b2, h2, l1.trans l2⟩

/-! ### The readings are kept -/
theorem RelD.mono {ok ok' : Nat → Prop} {w w' : World} {d : D} {v : Value} (h : RelD ok w d v) (hk : ∀ b, ok b → ok' b) (hw : ∀ b, ok b → w'.heap[b]? = w.heap[b]?) : RelD ok' w' d v := by
  induction h with
  | c v h1 => exact .c v h1
  | arr sz xs A n cap cv hn hcap hnil hl hA hok hc hr ih =>
    refine .arr sz xs A n cap cv hn hcap hnil hl hA (fun a ha hx => hk _ (hok a ha hx)) (fun a ha i j hi hj => ?_) ih
    have hx : xs ≠ [] := by intro e; subst e; simp at hi
    exact (World.cell?_of_block (w := w) (w' := w') (a := ⟨a.block, a.off + (i * sz + j), none⟩) (hw _ (hok a ha hx))).trans (hc a ha i j hi hj)
  | tv q ws v h ih => exact .tv q ws v ih

theorem RelD.oneCell {ok : Nat → Prop} {w : World} {d : D} {v : Value} (h : RelD ok w d v) : v.oneCell' = true := by
  cases h with
  | c v h1 => exact h1
  | arr => rfl
  | tv q ws v h => cases h; rfl

section
variable {B B' : Nat → Option Bd} {ok ok' : Nat → Prop} {w w' : World}
mutual
theorem RelA.mono (hB : BLe B B') (hk : ∀ b, ok b → ok' b) (hw : ∀ b, ok b → w'.heap[b]? = w.heap[b]?) : ∀ (a : AV) (v : Value), RelA B ok w a v → RelA B' ok' w' a v
  | .d x, v, h => RelD.mono h hk hw
  | .ptr id off, v, h => by
    obtain ⟨hc, bd, h1, h2⟩ := h
    obtain ⟨bd', h3, h4, h5⟩ := hB _ _ h1
    refine ⟨hc, bd', h3, fun e => ?_⟩
    have h0 : bd.ver = 0 := by omega
    have := h5 (by omega)
    subst this
    exact h2 h0
  | .rp sz xs i j, v, h => by
    obtain ⟨h0, a, n, cap, h1, h2⟩ := h
    exact ⟨h0, a, n, cap, RelD.mono h1 hk hw, h2⟩
  | .row id ver, v, h => by
    obtain ⟨hc, bd, h1, h2, h3⟩ := h
    obtain ⟨bd', h4, h5, h6⟩ := hB _ _ h1
    refine ⟨hc, bd', h4, by omega, fun e => ?_⟩
    have := h6 (by omega)
    subst this
    exact h3 e
  | .rowv id ver off len, v, h => by
    obtain ⟨hc, bd, h1, h2, h3⟩ := h
    obtain ⟨bd', h4, h5, h6⟩ := hB _ _ h1
    refine ⟨hc, bd', h4, by omega, fun e => ?_⟩
    have := h6 (by omega)
    subst this
    exact h3 e
  | .wp id ver i j, v, h => by
    obtain ⟨hc, bd, h1, h2, h3⟩ := h
    obtain ⟨bd', h4, h5, h6⟩ := hB _ _ h1
    refine ⟨hc, bd', h4, by omega, fun e => ?_⟩
    have := h6 (by omega)
    subst this
    exact h3 e
  | .agg cs, v, h => by
    obtain ⟨vs, h1, h2⟩ := h
    exact ⟨vs, h1, RelAs.mono hB hk hw cs vs h2⟩
  | .tup cs, v, h => by
    obtain ⟨vs, h1, h2⟩ := h
    exact ⟨vs, h1, RelTs.mono hB hk hw cs vs h2⟩
  | .clo f caps, v, h => by
    obtain ⟨vs, h1, h2⟩ := h
    exact ⟨vs, h1, RelTs.mono hB hk hw caps vs h2⟩
  | .mp id, v, h => by
    obtain ⟨hc, bd, h1, h2⟩ := h
    obtain ⟨bd', h3, h4, h5⟩ := hB _ _ h1
    refine ⟨hc, bd', h3, fun e => ?_⟩
    have h0 : bd.ver = 0 := by omega
    have := h5 (by omega)
    subst this
    exact h2 h0
  | .bl _, _, h => h
  | .pr _, _, h => h
  | .tp q ws i, v, h => by
    obtain ⟨h0, a, n, cap, h1, h2⟩ := h
    exact ⟨h0, a, n, cap, RelD.mono h1 hk hw, h2⟩
  | .any, _, _ => trivial
theorem RelAs.mono (hB : BLe B B') (hk : ∀ b, ok b → ok' b) (hw : ∀ b, ok b → w'.heap[b]? = w.heap[b]?) : ∀ (as : List AV) (vs : List Value), RelAs B ok w as vs → RelAs B' ok' w' as vs
  | [], vs, h => h
  | a :: as, vs, h => by
    obtain ⟨v, vs', h1, h2, h3, h4⟩ := h
    exact ⟨v, vs', h1, h2, RelA.mono hB hk hw a v h3, RelAs.mono hB hk hw as vs' h4⟩
theorem RelTs.mono (hB : BLe B B') (hk : ∀ b, ok b → ok' b) (hw : ∀ b, ok b → w'.heap[b]? = w.heap[b]?) : ∀ (as : List AV) (vs : List Value), RelTs B ok w as vs → RelTs B' ok' w' as vs
  | [], vs, h => h
  | a :: as, vs, h => by
    obtain ⟨v, vs', h1, h3, h4⟩ := h
    exact ⟨v, vs', h1, RelA.mono hB hk hw a v h3, RelTs.mono hB hk hw as vs' h4⟩
end

theorem SatR.mono (hk : ∀ b, ok b → ok' b) (hw : ∀ b, ok b → w'.heap[b]? = w.heap[b]?) {bd : Bd} {e sz ver : Nat} {xs : List (List D)} (hown : bd.live = true → w'.heap[bd.blk]? = w.heap[bd.blk]?) (h : SatR ok w bd e sz ver xs) : SatR ok' w' bd e sz ver xs := by
  obtain ⟨h1, h2, h3, h4, h5⟩ := h
  refine ⟨h1, h2, h3, h4, ?_⟩
  split at h5
  · rename_i hl
    rw [if_pos hl]
    obtain ⟨arr, g1, g2, g3, g4, g5⟩ := h5
    refine ⟨arr, (hown hl).trans g1, g2, g3, g4, fun i j l d hi hj => ?_⟩
    obtain ⟨v, k1, k2, k3⟩ := g5 i j l d hi hj
    exact ⟨v, k1, k2, RelD.mono k3 hk hw⟩
  · rename_i hl
    rw [if_neg hl]
    exact h5
/-- An entry whose own block, and all that is read, are as they were, at the very same place. -/
theorem SatE.mono (hB : BLe B B') (hk : ∀ b, ok b → ok' b) (hw : ∀ b, ok b → w'.heap[b]? = w.heap[b]?) {bd : Bd} {he : HE} (hown : ∀ b, he.occ bd = some b → w'.heap[b]? = w.heap[b]?) (h : SatE B ok w bd he) : SatE B' ok' w' bd he := by
  cases he with
  | cells ty cs =>
    obtain ⟨h0, vs, h1, h2⟩ := h
    exact ⟨h0, vs, (hown _ rfl).trans h1, RelAs.mono hB hk hw _ _ h2⟩
  | row e sz ver xs => exact SatR.mono hk hw (fun hl => hown _ (by simp [HE.occ, hl])) h
  | trow q e ver ws => exact SatR.mono hk hw (fun hl => hown _ (by simp [HE.occ, hl])) h
  | imap q es =>
    obtain ⟨h0, hf, ent, clock, h1, h2⟩ := h
    exact ⟨h0, hf, ent, clock, (hown _ rfl).trans h1, h2⟩

theorem SatR.lt {bd : Bd} {e sz ver : Nat} {xs : List (List D)} (h : SatR ok w bd e sz ver xs) (hl : bd.live = true) : bd.blk < w.heap.size := by
  obtain ⟨h1, h2, h3, h4, h5⟩ := h
  rw [if_pos hl] at h5
  obtain ⟨arr, g1, _⟩ := h5
  exact (Array.getElem?_eq_some_iff.1 g1).1
theorem SatE.lt {bd : Bd} {he : HE} (h : SatE B ok w bd he) {b : Nat} (hb : he.occ bd = some b) : b < w.heap.size := by
  have row : (if bd.live then some bd.blk else none) = some b → bd.live = true ∧ bd.blk = b := fun e => by
    split at e
    · rename_i hl; exact ⟨hl, by simpa using e⟩
    · cases e
  cases he with
  | cells ty cs =>
    obtain ⟨h0, vs, h1, h2⟩ := h
    simp only [HE.occ, Option.some.injEq] at hb
    subst hb
    exact (Array.getElem?_eq_some_iff.1 h1).1
  | row e sz ver xs =>
    obtain ⟨h1, rfl⟩ := row hb
    exact SatR.lt h h1
  | trow q e ver ws =>
    obtain ⟨h1, rfl⟩ := row hb
    exact SatR.lt h h1
  | imap q es =>
    obtain ⟨h0, hf, ent, clock, h1, h2⟩ := h
    simp only [HE.occ, Option.some.injEq] at hb
    subst hb
    exact (Array.getElem?_eq_some_iff.1 h1).1
end
def AV.isCell : AV → Bool
  | .agg _ => false
  | .tup _ => false
  | .any => false
  | _ => true
theorem RelA.oneCell {B : Nat → Option Bd} {ok : Nat → Prop} {w : World} {a : AV} {v : Value} (hc : a.isCell = true) (h : RelA B ok w a v) : v.oneCell' = true := by
  cases a with
  | d x => exact RelD.oneCell h
  | ptr => exact h.1
  | rp => obtain ⟨_, _, _, _, _, rfl⟩ := h; rfl
  | row => exact h.1
  | rowv => exact h.1
  | wp => exact h.1
  | clo => obtain ⟨_, rfl, _⟩ := h; rfl
  | mp => exact h.1
  | bl => cases h; rfl
  | pr => obtain ⟨_, rfl, _⟩ := h; rfl
  | tp => obtain ⟨_, _, _, _, _, rfl⟩ := h; rfl
  | _ => cases hc

/-! ### The symbolic state -/
def lk {α : Type} : List (Nat × α) → Nat → Option α
  | [], _ => none
  | (k, v) :: t, n => bif Nat.beq k n then some v else lk t n

theorem lk_mem {α : Type} {l : List (Nat × α)} {n : Nat} {v : α} (h : lk l n = some v) : (n, v) ∈ l := by
  induction l with
  | nil => cases h
  | cons p t ih =>
    obtain ⟨k, x⟩ := p
    unfold lk at h
    cases hb : Nat.beq k n with
    | true =>
      rw [hb] at h
      obtain rfl := Nat.eq_of_beq_eq_true hb
      simp only [cond_true, Option.some.injEq] at h
      subst h
      exact List.mem_cons_self
    | false =>
      rw [hb] at h
      exact List.mem_cons_of_mem _ (ih h)

/-- A constant. -/
def cv : Value → AV
  | .bool b => .bl b
  | .agg cs => if cs.toList.all (·.oneCell') then .agg (cs.toList.map fun v => .d (.c v)) else .any
  | .tuple vs => .tup (vs.toList.map fun v => if v.oneCell' then .d (.c v) else .any)
  | v => .d (.c v)

theorem RelAs.consts {B : Nat → Option Bd} {ok : Nat → Prop} {w : World} : ∀ (vs : List Value), vs.all (·.oneCell') = true → RelAs B ok w (vs.map fun v => .d (.c v)) vs
  | [], _ => rfl
  | v :: vs, h => by
    simp only [List.all_cons, Bool.and_eq_true] at h
    exact ⟨v, vs, rfl, h.1, .c v h.1, RelAs.consts vs h.2⟩
theorem RelTs.consts {B : Nat → Option Bd} {ok : Nat → Prop} {w : World} : ∀ (vs : List Value), RelTs B ok w (vs.map fun v => if v.oneCell' then .d (.c v) else .any) vs
  | [] => rfl
  | v :: vs => by
    refine ⟨v, vs, rfl, ?_, RelTs.consts vs⟩
    by_cases h : v.oneCell' = true
    · simp only [h, if_true]; exact .c v h
    · simp only [h]; trivial
theorem RelA.cv {B : Nat → Option Bd} {ok : Nat → Prop} {w : World} (v : Value) : RelA B ok w (cv v) v := by
  cases v with
  | agg cs =>
    by_cases h : cs.toList.all (·.oneCell') = true
    · simp only [Sx.cv, h, if_true]; exact ⟨cs.toList, by simp, RelAs.consts _ h⟩
    · simp only [Sx.cv, h]; trivial
  | tuple vs => exact ⟨vs.toList, by simp, RelTs.consts _⟩
  | bool b => rfl
  | _ => exact .c _ rfl

structure S where
  env : List (Nat × AV)
  heap : List (Nat × HE)
  next : Nat

def S.get (σ : S) : Operand → Option AV
  | .tmp t => lk σ.env t
  | .const v => some (cv v)
  | .func f => some (.clo f [])
  | .global _ => none

def S.put (σ : S) : Option Tmp → AV → S
  | some t, av => { σ with env := (t, av) :: σ.env }
  | none, _ => σ

/-- The frame in which a body runs: the world at the start, what may be read, the blocks handed in. -/
structure Ctx where
  w0 : World
  ok0 : Nat → Prop
  B0 : Nat → Option Bd
  own0 : Nat → Nat → Prop
  nt : Nat

def Ctx.S0 (Γ : Ctx) (b : Nat) : Prop := ∃ i, Γ.own0 i b

structure StB (Γ : Ctx) (B : Nat → Option Bd) (ok : Nat → Prop) (σ : S) (a : Act) (w : World) : Prop where
  defers : a.defers = []
  size : a.tmps.size = Γ.nt
  heap : SatH B ok w σ.heap
  env : ∀ t av, lk σ.env t = some av → t < Γ.nt ∧ RelA B ok w av (a.tmps.getD t undef)
  keeps : Keeps Γ.S0 Γ.w0 w
  ok1 : ∀ b, Γ.ok0 b → ok b
  ok2 : ∀ b, ok b → (Γ.ok0 b ∨ Γ.S0 b) ∨ Γ.w0.heap.size ≤ b
  own : ∀ i x, (i, x) ∈ σ.heap → ∀ bd, B i = some bd → ∀ b, x.occ bd = some b → Γ.S0 b ∨ Γ.w0.heap.size ≤ b
  ble : BLe Γ.B0 B
  free : ∀ id, σ.next ≤ id → B id = none

def St (Γ : Ctx) (σ : S) (a : Act) (w : World) : Prop := ∃ B ok, StB Γ B ok σ a w

inductive SE where
  | normal
  | exit (id : Nat)
  | goto (l : Nat)
  | ret

def Post (Γ : Ctx) (Q : SE → S → Prop) : Exit → Act → World → Prop
  | .normal, a, w => ∃ σ, Q .normal σ ∧ St Γ σ a w
  | .exit id, a, w => ∃ σ, Q (.exit id) σ ∧ St Γ σ a w
  | .goto l, a, w => ∃ σ, Q (.goto l) σ ∧ St Γ σ a w
  | .ret, a, w => ∃ σ, Q .ret σ ∧ St Γ σ a w
  | _, _, _ => False

/-- The symbolic run of code. -/
def Run (P : Program) (Γ : Ctx) (c : Code) (Q : SE → S → Prop) (σ : S) : Prop := ∀ a w, St Γ σ a w → c.wp P (Post Γ Q) a w

end Go.Proofs.YthjmmofafpahhaaGreat.Sx
