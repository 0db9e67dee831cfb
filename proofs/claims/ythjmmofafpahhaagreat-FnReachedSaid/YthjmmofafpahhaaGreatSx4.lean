/- The symbolic layer: slices that are made, appended to, copied. Program-independent. -/
import Derived.Test.YthjmmofafpahhaaGreatSx3
namespace Go.Proofs.YthjmmofafpahhaaGreat.Sx
open Go Go.RowKit
set_option linter.unusedVariables false
set_option linter.unusedSimpArgs false

class TEl (P : Program) (e : Nat) (sz bytes : outParam Nat) : Prop where
  info : ∃ i z, P.info? e = some i ∧ i.size = sz ∧ i.bytes = bytes ∧ i.zero = some z ∧ z.cells.size = sz ∧ 0 < sz
class TNoInt (P : Program) (t : Nat) : Prop where
  und : (∃ e, P.underlying t = some (.slice e)) ∨ P.underlying t = some .string

/-- What a slice operand reads as. -/
inductive SrcOk (σ : S) (x : Operand) (sz : Nat) : List (List D) → Prop
  | arr {ys : List (List D)} (h : σ.get x = some (.d (.arr sz ys))) : SrcOk σ x sz ys
  | row {ys : List (List D)} {id ver e : Nat} (h : σ.get x = some (.row id ver)) (hh : lk σ.heap id = some (.row e sz ver ys)) : SrcOk σ x sz ys
  | nil (h : σ.get x = some (.d (.c (.slice none 0 0)))) : SrcOk σ x sz []
  | ints {q : TK} {ws : List q.ty} (hz : sz = 1) (h : σ.get x = some (.d (.tv q ws))) : SrcOk σ x sz (rowsOf q ws)
  | irow {q : TK} {ws : List q.ty} {id ver e : Nat} (hz : sz = 1) (h : σ.get x = some (.row id ver)) (hh : lk σ.heap id = some (.trow q e ver ws)) : SrcOk σ x sz (rowsOf q ws)

/-- The cells of a list of rows, as they lie in memory. -/
structure Lies (ok : Nat → Prop) (w : World) (sz : Nat) (ys : List (List D)) (A : Option Addr) (news : List Value) : Prop where
  len : news.length = ys.length * sz
  lens : ∀ l ∈ ys, l.length = sz
  cell : ∀ a, A = some a → a.spot = none ∧ ∀ j v, news[j]? = some v → w.cell? ⟨a.block, a.off + j, none⟩ = some v
  none : A = none → ys = []
  one : ∀ v ∈ news, v.oneCell' = true
  rel : ∀ i j l d, ys[i]? = some l → l[j]? = some d → ∃ v, news[i * sz + j]? = some v ∧ RelD ok w d v

theorem lies_of {ok : Nat → Prop} {w : World} {sz : Nat} {ys : List (List D)} {a : Addr} (hsp : a.spot = none) (hl : ∀ l ∈ ys, l.length = sz)
    (h : ∀ i j l d, ys[i]? = some l → l[j]? = some d → ∃ v, w.cell? ⟨a.block, a.off + (i * sz + j), none⟩ = some v ∧ RelD ok w d v) : ∃ news, Lies ok w sz ys (some a) news := by
  let f : Nat → Value := fun p => (w.cell? ⟨a.block, a.off + p, none⟩).getD undef
  have hp : ∀ p, p < ys.length * sz → w.cell? ⟨a.block, a.off + p, none⟩ = some (f p) ∧ (f p).oneCell' = true := fun p hp => by
    have hsz : 0 < sz := by
      rcases Nat.eq_zero_or_pos sz with h0 | h0
      · subst h0; simp at hp
      · exact h0
    have hi : p / sz < ys.length := (Nat.div_lt_iff_lt_mul hsz).2 hp
    have h1 := List.getElem?_eq_getElem hi
    have hlen := hl _ (List.getElem_mem hi)
    have hj : p % sz < (ys[p / sz]).length := by rw [hlen]; exact Nat.mod_lt _ hsz
    obtain ⟨v, h2, h3⟩ := h (p / sz) (p % sz) _ _ h1 (List.getElem?_eq_getElem hj)
    have e : p / sz * sz + p % sz = p := by rw [Nat.mul_comm]; exact Nat.div_add_mod p sz
    rw [e] at h2
    have : f p = v := by simp [f, h2]
    rw [this]
    exact ⟨h2, h3.oneCell⟩
  refine ⟨(List.range (ys.length * sz)).map f, by simp, hl, fun b hb => ?_, (fun e => by cases e), fun v hv => ?_, fun i j l d hi hj => ?_⟩
  · cases hb
    refine ⟨hsp, fun j v hv => ?_⟩
    have hlt : j < ys.length * sz := by
      have := (List.getElem?_eq_some_iff.1 hv).1
      simpa using this
    rw [List.getElem?_map, List.getElem?_range hlt] at hv
    simp only [Option.map_some, Option.some.injEq] at hv
    rw [← hv]
    exact (hp j hlt).1
  · obtain ⟨p, hp1, rfl⟩ := List.mem_map.1 hv
    exact (hp p (List.mem_range.1 hp1)).2
  · obtain ⟨v, h2, h3⟩ := h i j l d hi hj
    have hi' := (List.getElem?_eq_some_iff.1 hi).1
    have hj' := (List.getElem?_eq_some_iff.1 hj).1
    have hlen := hl l (List.mem_of_getElem? hi)
    have hlt : i * sz + j < ys.length * sz := by
      have : (i + 1) * sz ≤ ys.length * sz := Nat.mul_le_mul_right _ hi'
      rw [Nat.add_mul] at this
      omega
    refine ⟨v, ?_, h3⟩
    rw [List.getElem?_map, List.getElem?_range hlt]
    simp [f, h2]

section
variable {P : Program} {Γ : Ctx} {σ : S} {o : Oper} {K : S → Prop}

theorem StB.src {B : Nat → Option Bd} {ok : Nat → Prop} {a : Act} {w : World} (h : StB Γ B ok σ a w) {x : Operand} {sz : Nat} {ys : List (List D)} (hx : SrcOk σ x sz ys) :
    ∃ A cap news, a.eval x = .slice A ys.length cap ∧ ys.length ≤ cap ∧ Lies ok w sz ys A news := by
  have arr : ∀ {sz : Nat} {ys : List (List D)}, RelD ok w (.arr sz ys) (a.eval x) → ∃ A cap news, a.eval x = .slice A ys.length cap ∧ ys.length ≤ cap ∧ Lies ok w sz ys A news := fun hr => by
    obtain ⟨A, cap, g1, g2, g3, g4, g5⟩ := RelD.inv hr
    cases A with
    | none =>
      obtain ⟨g3, _⟩ := g3 rfl
      subst g3
      exact ⟨none, cap, [], g1, g2, by simp, by simp, (fun a e => by cases e), fun _ => rfl, by simp, by simp⟩
    | some ad =>
      obtain ⟨k1, k2⟩ := g5 ad rfl
      obtain ⟨news, hn⟩ := lies_of k1 g4 fun i j l d hi hj => (k2 i j l d hi hj).2
      exact ⟨_, _, news, g1, g2, hn⟩
  have row : ∀ {sz ver e : Nat} {ys : List (List D)}, (∃ bd, a.eval x = bd.hdr ∧ SatE B ok w bd (.row e sz ver ys)) → ∃ A cap news, a.eval x = .slice A ys.length cap ∧ ys.length ≤ cap ∧ Lies ok w sz ys A news := fun {sz ver e ys} hr => by
    obtain ⟨bd, h2, h3, h4, h5, h6, h7⟩ := hr
    split at h7
    · rename_i hl
      obtain ⟨arr, g1, g2, g3, g4, g5⟩ := h7
      have hh : bd.hdr = .slice (some ⟨bd.blk, bd.off, none⟩) bd.len bd.cap := by simp [Bd.hdr, hl]
      obtain ⟨news, hn⟩ := lies_of (a := ⟨bd.blk, bd.off, none⟩) rfl h6 fun i j l d hi hj => by
        obtain ⟨v, k1, k2, k3⟩ := g5 i j l d hi hj
        exact ⟨v, by rw [cell_row g1]; exact k1, k3⟩
      exact ⟨_, _, news, by rw [h2, hh, h5], by rw [← h5]; exact g3, hn⟩
    · rename_i hl
      obtain ⟨h7, h8⟩ := h7
      subst h7
      exact ⟨none, 0, [], by rw [h2]; simp [Bd.hdr, hl], Nat.le_refl _, by simp, by simp, (fun a e => by cases e), fun _ => rfl, by simp, by simp⟩
  cases hx with
  | arr hx => exact arr (h.eval hx)
  | row hx hh => obtain ⟨bd, h1, h2, h3⟩ := h.row hx hh; exact row ⟨bd, h2, h3⟩
  | ints hz hx =>
    subst hz
    have := h.eval hx
    cases this with
    | tv _ _ _ hr => exact arr hr
  | irow hz hx hh => subst hz; obtain ⟨bd, h1, h2, h3⟩ := h.irow hx hh; exact row ⟨bd, h2, h3⟩
  | nil hx =>
    exact ⟨none, 0, [], h.evalc hx, Nat.le_refl _, by simp, by simp, (fun a e => by cases e), fun _ => rfl, by simp, by simp⟩

theorem Lies.first {ok : Nat → Prop} {w : World} {sz : Nat} {ys : List (List D)} {A : Option Addr} {news : List Value} {n c : Nat} (h : Lies ok w sz ys A news) (w' : World) (hw : w'.heap = w.heap) (m : Nat) (hm : m ≤ ys.length) :
    (Builtin.firstCells sz m (.slice A n c)).run P w' = .ok (news.take (m * sz)).toArray w' := by
  cases A with
  | none =>
    have := h.none rfl
    subst this
    have hl := h.len
    simp at hl
    subst hl
    simp [Builtin.firstCells]
  | some ad =>
    have hl : (news.take (m * sz)).length = m * sz := by
      rw [List.length_take, h.len]
      exact Nat.min_eq_left (Nat.mul_le_mul_right _ hm)
    have := run_loadCells_list (P := P) w' ad (news.take (m * sz)) (fun j v hv => by
      obtain ⟨hsp, hc⟩ := h.cell ad rfl
      obtain ⟨bk, of, sp⟩ := ad
      simp only at hsp
      subst hsp
      rw [Addr.add_none, World.cell?_of_block (w := w) (a := ⟨bk, of + j, Option.none⟩) (by rw [hw])]
      rw [List.getElem?_take] at hv
      split at hv
      · exact hc j v hv
      · cases hv)
    rw [hl] at this
    simpa [Builtin.firstCells] using this

/-- The builtin append, where there is room. -/
theorem run_append_in {t tx ty e sz by' : Nat} [T : TSl P t e sz] [X : TNoInt P tx] {w : World} {g of n cap m : Nat} {x : Value} {cur : Array Value} {news : List Value} (hg : w.heap[g]? = some (.cells cur e (0, 0)))
    (hlen : (Builtin.lenOf x).run P w = .ok m w) (hf : (Builtin.firstCells sz m x).run P w = .ok news.toArray w) (hroom : n + m ≤ cap) (hfit : of + n * sz + news.length ≤ cur.size) (h1 : ∀ v ∈ news, v.oneCell' = true) :
    (Builtin.append_ #[t, tx] ty #[.slice (some ⟨g, of, none⟩) n cap, x]).run P w = .ok (.slice (some ⟨g, of, none⟩) (n + m) cap) (w.setRow g (cur.toList.take (of + n * sz) ++ news ++ cur.toList.drop (of + n * sz + news.length)).toArray) := by
  have hst := run_storeCells_at P g (of + n * sz) e news 0 cur w hg (by simpa using hfit) h1
  simp only [Nat.add_zero] at hst
  rcases X.und with ⟨e', hd⟩ | hd <;> simp [Builtin.append_, run_underlying T.und, run_underlying hd, T.size, hlen, hroom, hf, Addr.add_none, hst]

theorem run_append_out {t tx ty e sz by' : Nat} [T : TSl P t e sz] [E : TEl P e sz by'] [X : TNoInt P tx] {w : World} {A : Option Addr} {n cap m : Nat} {x : Value} {olds news : List Value}
    (hlen : (Builtin.lenOf x).run P w = .ok m w) (hf : (Builtin.firstCells sz m x).run P w.drew = .ok news.toArray w.drew) (ho : (Builtin.firstCells sz n (.slice A n cap)).run P w.drew = .ok olds.toArray w.drew) (hroom : cap < n + m)
    (h63 : n + m ≤ 9223372036854775807) (hbytes : (n + m) * by' ≤ 140737488355328) :
    ∃ zs : List Value, (Builtin.append_ #[t, tx] ty #[.slice A n cap, x]).run P w = .ok (.slice (some ⟨w.heap.size, 0, none⟩) (n + m) (grownCap w (n + m) cap e)) (w.drew.alloc (.cells (olds ++ news ++ zs).toArray e)) ∧ zs.length = (grownCap w (n + m) cap e - (n + m)) * sz := by
  obtain ⟨i, z, hi, hs, hby, hz, hzs, hpos⟩ := E.info
  refine ⟨(Builtin.zeroCells z.cells (grownCap w (n + m) cap e - (n + m))).toList, ?_, by simp [size_zeroCells, hzs]⟩
  have hn : ¬ (n + m ≤ cap) := by omega
  have h63' : ¬ (9223372036854775807 < ((n : Int) + (m : Int))) := by omega
  have h48 := growslice_fits (need := n + m) (old := cap) (bytes := by') hroom hbytes
  have h48' : ¬ (281474976710656 < Builtin.nextslicecap (n + m) cap * i.bytes) := by rw [hby]; omega
  rcases X.und with ⟨e', hd⟩ | hd <;>
    simp [Builtin.append_, run_underlying T.und, run_underlying hd, T.size, typeInfo, zeroValue, hi, hz, hlen, hn, h63', h48', Question.forced, hf, ho, newRow, grownCap]
  all_goals
    congr 2
    apply Array.ext'
    simp

theorem grow_at {ok : Nat → Prop} {sz p q : Nat} {xs ys : List (List D)} {R : Nat → Nat → D → Prop} (hx : ∀ i j l d, xs[i]? = some l → l[j]? = some d → R i j d) (hy : ∀ i j l d, ys[i]? = some l → l[j]? = some d → R (xs.length + i) j d) :
    ∀ i j l d, (xs ++ ys)[i]? = some l → l[j]? = some d → R i j d := by
  intro i j l d hi hj
  by_cases hlt : i < xs.length
  · rw [List.getElem?_append_left hlt] at hi
    exact hx i j l d hi hj
  · rw [List.getElem?_append_right (by omega)] at hi
    have := hy (i - xs.length) j l d hi hj
    rwa [show xs.length + (i - xs.length) = i by omega] at this

theorem setL_other {h : List (Nat × HE)} {i : Nat} {he : HE} (hn : ∀ k x, (k, x) ∈ h → k ≠ i) : setL h i he = h := by
  induction h with
  | nil => rfl
  | cons p t ih =>
    obtain ⟨k, v⟩ := p
    have hk := hn k v List.mem_cons_self
    have hb : Nat.beq k i = false := by
      cases hbb : Nat.beq k i with
      | true => exact absurd (Nat.eq_of_beq_eq_true hbb) hk
      | false => rfl
    simp only [setL, hb, cond_false]
    rw [ih fun k x hm => hn k x (List.mem_cons_of_mem _ hm)]

theorem StB.rowv {B : Nat → Option Bd} {ok : Nat → Prop} {a : Act} {w : World} (h : StB Γ B ok σ a w) {s : Value} {id ver : Nat} {e sz : Nat} {xs : List (List D)} (hx : RelA B ok w (.row id ver) s) (hh : (id, .row e sz ver xs) ∈ σ.heap) :
    ∃ bd, B id = some bd ∧ s = bd.hdr ∧ SatE B ok w bd (.row e sz ver xs) := by
  obtain ⟨_, bd, h1, h2, h3⟩ := hx
  obtain ⟨bd', h4, h5⟩ := h.heap.sat id _ hh
  rw [h1] at h4
  cases h4
  exact ⟨bd, h1, h3 h5.1.symm, h5⟩

/-- An append to an owned row, seen from memory: in place or in a new block. -/
theorem StB.append' {B : Nat → Option Bd} {ok : Nat → Prop} {a : Act} {w : World} {t tx ty e sz by' : Nat} [T : TSl P t e sz] [E : TEl P e sz by'] [X : TNoInt P tx] (h : StB Γ B ok σ a w) {s : Value} {id ver : Nat} {xs ys : List (List D)} {x : Value} {news : List Value}
    (hs : RelA B ok w (.row id ver) s) (hh : lk σ.heap id = some (.row e sz ver xs)) (hlen : ∀ w', w'.heap = w.heap → (Builtin.lenOf x).run P w' = .ok ys.length w') (hf : ∀ w', w'.heap = w.heap → (Builtin.firstCells sz ys.length x).run P w' = .ok news.toArray w')
    (hly : ∀ l ∈ ys, l.length = sz) (hnl : news.length = ys.length * sz) (h1 : ∀ v ∈ news, v.oneCell' = true) (hrel : ∀ i j l d, ys[i]? = some l → l[j]? = some d → ∃ v, news[i * sz + j]? = some v ∧ RelD ok w d v)
    (h63 : xs.length + ys.length ≤ maxLen) (hbytes : (xs.length + ys.length) * by' ≤ 140737488355328) :
    ∃ v w' B', (Builtin.append_ #[t, tx] ty #[s, x]).run P w = .ok v w' ∧ StB Γ B' ok (σ.setH id (.row e sz (ver + 1) (xs ++ ys))) a w' ∧ RelA B' ok w' (.row id (ver + 1)) v := by
  obtain ⟨bd, hB, hev, hsat⟩ := h.rowv hs (lk_mem hh)
  have hsat0 := hsat
  obtain ⟨g1, g2, g3, g4, g5⟩ := hsat
  have hok : ∀ {w' : World}, Keeps (fun b => (HE.row e sz ver xs).occ bd = some b) w w' → ∀ b, ok b → w'.heap[b]? = w.heap[b]? := fun hk b hb => hk.block b (h.heap.okb b hb) (fun e' => h.heap.avoid id _ (lk_mem hh) bd hB b e' hb)
  have hl2 : ∀ l ∈ xs ++ ys, l.length = sz := fun l hl => by
    rcases List.mem_append.1 hl with hl | hl
    · exact g4 l hl
    · exact hly l hl
  -- a new block
  have out : ∀ (A : Option Addr) (cap : Nat) (olds : List Value), s = .slice A xs.length cap → cap < xs.length + ys.length → Lies ok w sz xs A olds →
      ∃ v w' B', (Builtin.append_ #[t, tx] ty #[s, x]).run P w = .ok v w' ∧ StB Γ B' ok (σ.setH id (.row e sz (ver + 1) (xs ++ ys))) a w' ∧ RelA B' ok w' (.row id (ver + 1)) v := fun A cap olds hA hcap ho => by
    have hfo := ho.first (P := P) (n := xs.length) (c := cap) w.drew rfl xs.length (Nat.le_refl _)
    rw [List.take_of_length_le (by rw [ho.len]; exact Nat.le_refl _)] at hfo
    obtain ⟨zs, hrun, hzs⟩ := run_append_out (P := P) (t := t) (tx := tx) (ty := ty) (A := A) (n := xs.length) (cap := cap) (m := ys.length) (x := x) (hlen w rfl) (hf w.drew rfl) hfo hcap (by simp only [maxLen] at h63; omega) hbytes
    have hge := grownCap_ge w (xs.length + ys.length) cap e
    have hle := grownCap_le_maxLen w (xs.length + ys.length) cap e h63
    let bd' : Bd := ⟨w.heap.size, 0, grownCap w (xs.length + ys.length) cap e, xs.length + ys.length, sz, ver + 1, true⟩
    have hkeep : Keeps (fun b => (HE.row e sz ver xs).occ bd = some b) w (w.drew.alloc (.cells (olds ++ news ++ zs).toArray e)) :=
      ⟨rfl, rfl, rfl, by simp, fun k hk _ => Below.heap_alloc w.drew _ k hk⟩
    have hble : BdLe bd bd' := ⟨by show bd.ver ≤ ver + 1; omega, fun e' => by have : bd.ver = ver + 1 := e'; omega⟩
    have hsat' : SatE (updB B id bd') ok (w.drew.alloc (.cells (olds ++ news ++ zs).toArray e)) bd' (.row e sz (ver + 1) (xs ++ ys)) := by
      refine ⟨rfl, rfl, by simp [bd'], hl2, ?_⟩
      rw [if_pos rfl]
      refine ⟨_, heap_alloc_at w.drew _, ?_, hge, hle, ?_⟩
      · simp only [List.size_toArray, List.length_append, ho.len, hnl, hzs, bd', Nat.zero_add]
        rw [← Nat.add_mul, ← Nat.add_mul]
        exact Nat.mul_le_mul_right _ (by omega)
      · refine grow_at (ok := ok) (sz := sz) (p := 0) (q := 0) (R := fun i j d => ∃ v, ((olds ++ news ++ zs).toArray)[bd'.off + (i * sz + j)]? = some v ∧ v.oneCell' = true ∧ RelD ok (w.drew.alloc (.cells (olds ++ news ++ zs).toArray e)) d v) (fun i j l d hi hj => ?_) (fun i j l d hi hj => ?_)
        · obtain ⟨v, k1, k2⟩ := ho.rel i j l d hi hj
          refine ⟨v, ?_, k2.oneCell, k2.mono (fun _ x => x) (hok hkeep)⟩
          have hlt := (List.getElem?_eq_some_iff.1 k1).1
          simp only [bd', Nat.zero_add, List.getElem?_toArray, List.append_assoc]
          rw [List.getElem?_append_left hlt]
          exact k1
        · obtain ⟨v, k1, k2⟩ := hrel i j l d hi hj
          refine ⟨v, ?_, k2.oneCell, k2.mono (fun _ x => x) (hok hkeep)⟩
          have hlt := (List.getElem?_eq_some_iff.1 k1).1
          simp only [bd', Nat.zero_add, List.getElem?_toArray, List.append_assoc]
          rw [List.getElem?_append_right (by rw [ho.len, Nat.add_mul]; omega), List.getElem?_append_left (by rw [ho.len, Nat.add_mul]; omega)]
          rw [← k1]
          congr 1
          rw [ho.len, Nat.add_mul]
          omega
    have hst := h.rebind hh hB hble hkeep hsat' (fun b e' => by
      simp only [HE.occ, bd', if_true, Option.some.injEq] at e'
      exact .inr (Nat.le_of_eq e'))
    refine ⟨_, _, _, by rw [hA]; exact hrun, hst, rfl, bd', updB_same _ _ _, Nat.le_refl _, fun _ => ?_⟩
    simp [Bd.hdr, bd']
  split at g5
  · rename_i hlive
    obtain ⟨arr, k1, k2, k3, k4, k5⟩ := g5
    have hhdr : s = .slice (some ⟨bd.blk, bd.off, none⟩) xs.length bd.cap := by rw [hev, Bd.hdr, if_pos hlive, g3]
    by_cases hroom : xs.length + ys.length ≤ bd.cap
    · have hfit : bd.off + xs.length * sz + news.length ≤ arr.size := by
        have : (xs.length + ys.length) * sz ≤ bd.cap * sz := Nat.mul_le_mul_right _ hroom
        rw [Nat.add_mul] at this
        omega
      have hrun := run_append_in (P := P) (t := t) (tx := tx) (ty := ty) (e := e) (sz := sz) (by' := 0) (of := bd.off) (n := xs.length) (cap := bd.cap) k1 (hlen w rfl) (hf w rfl) hroom hfit h1
      let bd' : Bd := { bd with len := xs.length + ys.length, ver := ver + 1 }
      have hkeep : Keeps (fun b => (HE.row e sz ver xs).occ bd = some b) w (w.setRow bd.blk (arr.toList.take (bd.off + xs.length * sz) ++ news ++ arr.toList.drop (bd.off + xs.length * sz + news.length)).toArray) := by
        have := Keeps.setRow w bd.blk (arr.toList.take (bd.off + xs.length * sz) ++ news ++ arr.toList.drop (bd.off + xs.length * sz + news.length)).toArray
        simp only [HE.occ, hlive, if_true]
        exact this
      have hble : BdLe bd bd' := ⟨by show bd.ver ≤ ver + 1; omega, fun e' => by have : bd.ver = ver + 1 := e'; omega⟩
      have hsat' : SatE (updB B id bd') ok (w.setRow bd.blk (arr.toList.take (bd.off + xs.length * sz) ++ news ++ arr.toList.drop (bd.off + xs.length * sz + news.length)).toArray) bd' (.row e sz (ver + 1) (xs ++ ys)) := by
        refine ⟨rfl, g2, by simp [bd'], hl2, ?_⟩
        rw [if_pos (by exact hlive)]
        refine ⟨_, setRow_heap w _ _ _ e _ k1, ?_, hroom, k4, ?_⟩
        · have e1 : bd'.off = bd.off := rfl
          have e2 : bd'.cap = bd.cap := rfl
          rw [e1, e2]
          simp only [List.size_toArray, List.length_append, List.length_take, List.length_drop, Array.length_toList]
          omega
        · refine grow_at (ok := ok) (sz := sz) (p := 0) (q := 0) (R := fun i j d => ∃ v, ((arr.toList.take (bd.off + xs.length * sz) ++ news ++ arr.toList.drop (bd.off + xs.length * sz + news.length)).toArray)[bd'.off + (i * sz + j)]? = some v ∧ v.oneCell' = true ∧ RelD ok (w.setRow bd.blk (arr.toList.take (bd.off + xs.length * sz) ++ news ++ arr.toList.drop (bd.off + xs.length * sz + news.length)).toArray) d v) (fun i j l d hi hj => ?_) (fun i j l d hi hj => ?_)
          · obtain ⟨v, q1, q2, q3⟩ := k5 i j l d hi hj
            refine ⟨v, ?_, q2, q3.mono (fun _ x => x) (hok hkeep)⟩
            have hi' := (List.getElem?_eq_some_iff.1 hi).1
            have hj' := (List.getElem?_eq_some_iff.1 hj).1
            have := g4 l (List.mem_of_getElem? hi)
            have h2 : (i + 1) * sz ≤ xs.length * sz := Nat.mul_le_mul_right _ hi'
            rw [Nat.add_mul] at h2
            simp only [bd', List.getElem?_toArray, List.append_assoc]
            rw [List.getElem?_append_left (by simp; omega), List.getElem?_take_of_lt (by omega)]
            simpa using q1
          · obtain ⟨v, q1, q2⟩ := hrel i j l d hi hj
            refine ⟨v, ?_, q2.oneCell, q2.mono (fun _ x => x) (hok hkeep)⟩
            have hlt := (List.getElem?_eq_some_iff.1 q1).1
            simp only [bd', List.getElem?_toArray, List.append_assoc]
            rw [List.getElem?_append_right (by simp; rw [Nat.add_mul]; omega), List.getElem?_append_left (by simp; rw [Nat.add_mul]; omega)]
            rw [← q1]
            congr 1
            simp
            rw [Nat.add_mul]
            omega
      have hst := h.rebind hh hB hble hkeep hsat' (fun b e' => by
        simp only [HE.occ, bd', hlive, if_true] at e'
        exact .inl (by simp only [HE.occ, hlive, if_true]; exact e'))
      refine ⟨_, _, _, by rw [hhdr]; exact hrun, hst, rfl, bd', updB_same _ _ _, Nat.le_refl _, fun _ => ?_⟩
      simp [Bd.hdr, bd', hlive]
    · obtain ⟨olds, e2⟩ := lies_of (ok := ok) (a := ⟨bd.blk, bd.off, none⟩) rfl g4 fun i j l d hi hj => by
        obtain ⟨v, q1, q2, q3⟩ := k5 i j l d hi hj
        exact ⟨v, by rw [cell_row k1]; exact q1, q3⟩
      exact out _ _ olds hhdr (by omega) e2
  · rename_i hlive
    obtain ⟨g5, g6⟩ := g5
    have hhdr : s = .slice none 0 0 := by rw [hev, Bd.hdr, if_neg hlive]
    subst g5
    by_cases hm : ys.length = 0
    · have hy0 : ys = [] := List.eq_nil_of_length_eq_zero hm
      subst hy0
      have hn0 : news = [] := List.eq_nil_of_length_eq_zero (by simpa using hnl)
      subst hn0
      let bd' : Bd := { bd with ver := ver + 1 }
      have hble : BdLe bd bd' := ⟨by show bd.ver ≤ ver + 1; omega, fun e' => by have : bd.ver = ver + 1 := e'; omega⟩
      have hsat' : SatE (updB B id bd') ok w bd' (.row e sz (ver + 1) ([] ++ [])) := by
        refine ⟨rfl, g2, g3, by simp, ?_⟩
        rw [if_neg (by exact hlive)]
        exact ⟨rfl, g6⟩
      have hst := h.rebind hh hB hble (Keeps.refl _ _) hsat' (fun b e' => by simp [HE.occ, bd', hlive] at e')
      refine ⟨.slice none 0 0, w, _, ?_, hst, rfl, bd', updB_same _ _ _, Nat.le_refl _, fun _ => by simp [Bd.hdr, bd', hlive]⟩
      have hl0 := hlen w rfl
      have hf0 := hf w rfl
      rw [hhdr]
      rcases X.und with ⟨e', hd⟩ | hd <;> simp [Builtin.append_, run_underlying T.und, run_underlying hd, T.size, hl0]
      all_goals simp at hf0; simp [hf0]
    · exact out none 0 [] hhdr (by simp; omega) ⟨by simp, by simp, (fun a e' => by cases e'), fun _ => rfl, by simp, by simp⟩

theorem Src.maxed {B : Nat → Option Bd} {ok : Nat → Prop} {a : Act} {w : World} (h : StB Γ B ok σ a w) {x : Operand} {sz : Nat} {ys : List (List D)} (hx : SrcOk σ x sz ys) :
    ∃ news : List Value, (∀ w', w'.heap = w.heap → (Builtin.lenOf (a.eval x)).run P w' = .ok ys.length w') ∧ (∀ w', w'.heap = w.heap → (Builtin.firstCells sz ys.length (a.eval x)).run P w' = .ok news.toArray w') ∧ (∀ l ∈ ys, l.length = sz) ∧ news.length = ys.length * sz ∧ (∀ v ∈ news, v.oneCell' = true) ∧
      ∀ i j l d, ys[i]? = some l → l[j]? = some d → ∃ v, news[i * sz + j]? = some v ∧ RelD ok w d v := by
  obtain ⟨A, cap, news, h1, h2, h3⟩ := h.src hx
  refine ⟨news, fun w' _ => ?_, fun w' hw => ?_, h3.lens, h3.len, h3.one, h3.rel⟩
  · rw [h1]; rfl
  · rw [h1]
    have := h3.first (P := P) (n := ys.length) (c := cap) w' hw ys.length (Nat.le_refl _)
    rwa [List.take_of_length_le (by rw [h3.len]; exact Nat.le_refl _)] at this

/-- append(s, x...): s an owned row. -/
theorem sop_append {t tx e sz by' : Nat} {s x : Operand} {id ver : Nat} {xs ys : List (List D)} [T : TSl P t e sz] [E : TEl P e sz by'] [X : TNoInt P tx] (hop : o.op = .call { callee := .builtin .append, args := #[s, x], argTypes := #[t, tx] })
    (hs : σ.get s = some (.row id ver)) (hh : lk σ.heap id = some (.row e sz ver xs)) (hx : SrcOk σ x sz ys) (hlen : xs.length + ys.length ≤ 1000000000000) (hby : Nat.ble by' 100 = true) {d : Option Tmp} (he : o.dst = d) (hd : dstOk Γ.nt d = true)
    (hK : K ((σ.setH id (.row e sz (ver + 1) (xs ++ ys))).put d (.row id (ver + 1)))) : Sop P Γ o K σ :=
  sop_eff he hd hK fun B ok a w h => by
    obtain ⟨news, k1, k2, k3, k4, k5, k6⟩ := Src.maxed (P := P) h hx
    have hb : (xs.length + ys.length) * by' ≤ 1000000000000 * 100 := Nat.mul_le_mul hlen (Nat.le_of_ble_eq_true hby)
    obtain ⟨v, w', B', g1, g2, g3⟩ := h.append' (P := P) (t := t) (tx := tx) (ty := o.type) (h.eval hs) hh k1 k2 k3 k4 k5 k6 (by simp only [maxLen]; omega) (by omega)
    refine ⟨v, w', B', ?_, g2, g3⟩
    simp [execOp, hop, resolve, invoke, builtin, g1]

/-- A nil slice in hand is an owned row of nothing. -/
theorem StB.nilrow {B : Nat → Option Bd} {ok : Nat → Prop} {a : Act} {w : World} (h : StB Γ B ok σ a w) {t e sz : Nat} (v : Value) (hv : v = .slice none 0 0) :
    let bd : Bd := ⟨0, 0, 0, 0, sz, 0, false⟩
    StB Γ (updB B σ.next bd) ok (σ.new (.row e sz 0 [])) a w ∧ RelA (updB B σ.next bd) ok w (.row σ.next 0) v := by
  intro bd
  refine ⟨h.new (Below.refl _ _) ⟨rfl, rfl, rfl, by simp, ?_⟩ (fun b e' => by simp [HE.occ, bd] at e'), by subst hv; rfl, bd, updB_same _ _ _, Nat.le_refl _, fun _ => by simp [Bd.hdr, bd, hv]⟩
  rw [if_neg (by simp [bd])]
  exact ⟨rfl, rfl⟩

/-- append(nil, x...): a new row. -/
theorem sop_append_nil {t tx e sz by' : Nat} {s x : Operand} {ys : List (List D)} [T : TSl P t e sz] [E : TEl P e sz by'] [X : TNoInt P tx] (hop : o.op = .call { callee := .builtin .append, args := #[s, x], argTypes := #[t, tx] })
    (hs : σ.get s = some (.d (.c (.slice none 0 0)))) (hx : SrcOk σ x sz ys) (hlen : ys.length ≤ 1000000000000) (hby : Nat.ble by' 100 = true) {d : Option Tmp} (he : o.dst = d) (hd : dstOk Γ.nt d = true)
    (hK : K ((σ.new (.row e sz 1 ys)).put d (.row σ.next 1))) : Sop P Γ o K σ :=
  sop_eff he hd hK fun B ok a w h => by
    obtain ⟨news, k1, k2, k3, k4, k5, k6⟩ := Src.maxed (P := P) h hx
    have hb : ys.length * by' ≤ 1000000000000 * 100 := Nat.mul_le_mul hlen (Nat.le_of_ble_eq_true hby)
    have hev := h.evalc hs
    obtain ⟨n1, n2⟩ := h.nilrow (t := t) (e := e) (sz := sz) (a.eval s) hev
    -- the nil slice under a name: the constant operand itself
    have hget : (S.get (σ.new (.row e sz 0 [])) (.const (.slice none 0 0))) = some (.d (.c (.slice none 0 0))) := rfl
    let bd : Bd := ⟨0, 0, 0, 0, sz, 0, false⟩
    have key : ∃ v w' B', (Builtin.append_ #[t, tx] o.type #[a.eval s, a.eval x]).run P w = .ok v w' ∧ StB Γ B' ok ((σ.new (.row e sz 0 [])).setH σ.next (.row e sz 1 ([] ++ ys))) a w' ∧ RelA B' ok w' (.row σ.next 1) v := by
      exact n1.append' (P := P) (t := t) (tx := tx) (ty := o.type) n2 (by simp [S.new, lk]) k1 k2 k3 k4 k5 k6 (by simp only [maxLen, List.length_nil]; omega) (by simp only [List.length_nil, Nat.zero_add]; omega)
    obtain ⟨v, w', B', g1, g2, g3⟩ := key
    refine ⟨v, w', B', ?_, ?_, g3⟩
    · simp [execOp, hop, resolve, invoke, builtin, g1]
    · have e1 : (σ.new (.row e sz 0 [])).setH σ.next (.row e sz 1 ([] ++ ys)) = { σ with heap := (σ.next, .row e sz 1 ys) :: setL σ.heap σ.next (.row e sz 1 ys), next := σ.next + 1 } := by
        simp [S.setH, S.new, setL]
      rw [e1] at g2
      have e2 : setL σ.heap σ.next (.row e sz 1 ys) = σ.heap := setL_other fun i x hm => Nat.ne_of_lt (h.idlt hm)
      rw [e2] at g2
      exact g2
end
end Go.Proofs.YthjmmofafpahhaaGreat.Sx
