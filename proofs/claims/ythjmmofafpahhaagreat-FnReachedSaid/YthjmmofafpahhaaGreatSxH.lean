/- The symbolic layer: the library's sort and insert, out of the shelf. Program-independent. -/
import Derived.Test.YthjmmofafpahhaaGreatSxI
import Derived.Shelf.Sort.Plain
import Derived.Shelf.Slices.In.SortNone
import Derived.Shelf.Spec.SlicesInsertGrow
namespace Go.Proofs.YthjmmofafpahhaaGreat.Sx
open Go Go.RowKit Go.Shelf Go.Proofs
set_option linter.unusedVariables false
set_option linter.unusedSimpArgs false

section
variable {P : Program} {ρ : Ren}

theorem mapBlock_heap {w : World} {b : Nat} {f : Array Value → Array Value} {arr : Array Value} {e : TypeId} {fr : Nat × Nat} (h : w.heap[b]? = some (.cells arr e fr)) : (Sort.mapBlock w b f).heap[b]? = some (.cells (f arr) e fr) := by
  simp [Sort.mapBlock, Array.getElem?_modify, h, Sort.onCells]
theorem mapBlock_other {w : World} {b k : Nat} {f : Array Value → Array Value} (h : k ≠ b) : (Sort.mapBlock w b f).heap[k]? = w.heap[k]? := by
  simp [Sort.mapBlock, Array.getElem?_modify, Ne.symm h]

theorem tsort_of (L : Lays.n189 P ρ) : TSort P (ρ.f 189) where
  empty := fun p cap w => Any.slices_Sort_int_none L p cap w
  full := fun b off cap zs w arr e hb hz hlen => by
    have hlt : b < w.heap.size := (Array.getElem?_eq_some_iff.1 hb).1
    have hH : Sort.Holds (Value.int .i64) w b off zs.toArray := fun j hj => by
      have hj' : j < zs.length := by simpa using hj
      refine ⟨?_, ?_⟩
      · rw [cell_row hb, hz j zs[j] (List.getElem?_eq_getElem hj')]
        simp [hj']
      · simp [World.frozen?, hb]
    refine (Any.slices_Sort_int L b off cap zs w hH hlt hlen).mono ?_
    rintro r w' ⟨rfl, n, os, rfl⟩
    refine ⟨rfl, Sort.putCells (Value.int .i64) off (sortI zs).toArray arr, ⟨rfl, rfl, rfl, by simp [Sort.grow, Sort.putRow, Sort.mapBlock, Sort.ahead], fun k hk hn => ?_⟩, ?_, by simp [Sort.putCells], fun j x hj => ?_⟩
    · show (_ ++ os)[k]? = _
      rw [Array.getElem?_append_left (by simpa [Sort.putRow, Sort.mapBlock, Sort.ahead] using hk)]
      exact mapBlock_other (w := Sort.ahead w n) hn
    · show (_ ++ os)[b]? = _
      rw [Array.getElem?_append_left (by simpa [Sort.putRow, Sort.mapBlock, Sort.ahead] using hlt)]
      exact mapBlock_heap (w := Sort.ahead w n) hb
    · have hj1 : j < (sortI zs).length := (List.getElem?_eq_some_iff.1 hj).1
      have hj2 : j < zs.length := by simpa [sortI] using hj1
      have h0 := hz j zs[j] (List.getElem?_eq_getElem hj2)
      have hsz : off + j < arr.size := (Array.getElem?_eq_some_iff.1 h0).1
      simp only [Sort.putCells, Array.getElem?_mapIdx, h0, Option.map_some, List.size_toArray]
      rw [if_pos (by omega)]
      have : off + j - off = j := by omega
      rw [this]
      have h3 := (List.getElem?_eq_some_iff.1 hj).2
      simp [hj1, h3]

theorem setCells_heap {b : Nat} : ∀ (vs : List Value) (o : Nat) {w : World} {arr : Array Value} {e : TypeId} {fr : Nat × Nat}, w.heap[b]? = some (.cells arr e fr) → ∃ arr', (w.setCells b o vs).heap[b]? = some (.cells arr' e fr) ∧ arr'.size = arr.size
  | [], o, w, arr, e, fr, h => ⟨arr, h, rfl⟩
  | v :: r, o, w, arr, e, fr, h => by
    have h1 : (w.setCell ⟨b, o, none⟩ v).heap[b]? = some (.cells (arr.setIfInBounds o v) e fr) := by
      simp [World.setCell, Array.getElem?_modify, h]
    obtain ⟨arr', g1, g2⟩ := setCells_heap r (o + 1) h1
    exact ⟨arr', g1, by rw [g2]; simp⟩
theorem setCells_keeps {b : Nat} : ∀ (vs : List Value) (o : Nat) (w : World), Keeps (fun k => k = b) w (w.setCells b o vs)
  | [], o, w => Keeps.refl _ _
  | v :: r, o, w => by
    have h1 : Keeps (fun k => k = b) w (w.setCell ⟨b, o, none⟩ v) := ⟨rfl, rfl, rfl, by simp [World.setCell], fun k hk hn => by simp [World.setCell, Array.getElem?_modify, Ne.symm hn]⟩
    exact h1.trans (setCells_keeps r (o + 1) _)
theorem keeps_drew {S : Nat → Prop} {w : World} : Keeps S w w.drew := ⟨rfl, rfl, rfl, Nat.le_refl _, fun _ _ _ => rfl⟩
theorem keeps_alloc {S : Nat → Prop} {w : World} {o : Obj} : Keeps S w (w.alloc o) :=
  ⟨rfl, rfl, rfl, by simp, fun k hk _ => Below.heap_alloc w _ k hk⟩

theorem tins_of (L : Lays2.n21 P ρ) : TIns P (ρ.f 21) (ρ.t 3) where
  call := fun A n c i vb voff vc cs x w varr ve hv hx hcl hin hn hnc hcm hnil hA => by
    subst hcl
    have hvs : ∀ (j : Nat) (v : Value), [Value.int .i64 x][j]? = some v → w.cell? ⟨vb, voff + j, none⟩ = some v := fun j v hj => by
      cases j with
      | zero =>
        simp only [List.getElem?_cons_zero, Option.some.injEq] at hj
        subst hj
        rw [cell_row hv]; exact hx
      | succ j => simp at hj
    have h1v : ∀ v ∈ [Value.int .i64 x], v.oneCell' = true := fun v hv => by rw [List.mem_singleton.1 hv]; rfl
    have h1c : ∀ v ∈ cs.map (Value.int .i64), v.oneCell' = true := fun v hv => by obtain ⟨y, _, rfl⟩ := List.mem_map.1 hv; rfl
    have hml : (cs.map (Value.int .i64)).length = cs.length := by simp
    have hml1 : cs.length ≤ maxLen := Nat.le_trans hnc hcm
    have hgrow : ∀ c0, c0 < cs.length + 1 → cs.length + 1 ≤ grownCap w (cs.length + 1) c0 (ρ.t 3) ∧ grownCap w (cs.length + 1) c0 (ρ.t 3) ≤ maxLen := fun c0 h0 =>
      ⟨grownCap_ge w _ _ _, grownCap_le_maxLen w _ _ _ (by simp only [maxLen]; omega)⟩
    cases A with
    | none =>
      obtain ⟨h0, rfl⟩ := hnil rfl
      have hc0 : cs = [] := List.eq_nil_of_length_eq_zero h0
      subst hc0
      simp only [List.length_nil, Nat.le_zero] at hin
      subst hin
      have := Any2.slices_Insert_int_end_grow L none 0 0 vb voff 1 vc [] [Value.int .i64 x] w (by omega) (by omega) (by omega) (by omega) rfl rfl (fun _ => rfl) (fun a e => by cases e) hvs h1v
      refine this.mono ?_
      rintro r w' ⟨rfl, rfl⟩
      have hg := hgrow 0 (by omega)
      refine ⟨_, _, _, _, rfl, keeps_drew.trans keeps_alloc, heap_alloc_at w.drew _, ?_, hg.1, hg.2, .inr (Nat.le_refl _), fun j y hj => ?_⟩
      · have := hg.1
        simp [Builtin.zeroCells, Value.cells]
        simp only [List.length_nil] at this
        omega
      · cases j with
        | zero =>
          simp at hj
          subst hj
          rw [Array.getElem?_append_left (by simp)]
          rfl
        | succ j => simp at hj
    | some a =>
      obtain ⟨b, off, arr, rfl, hbv, hb, hfit, hcs⟩ := hA a rfl
      have hlt : b < w.heap.size := (Array.getElem?_eq_some_iff.1 hb).1
      have hcells : ∀ (j : Nat) (v : Value), (cs.map (Value.int .i64))[j]? = some v → w.cell? ⟨b, off + j, none⟩ = some v := fun j v hj => by
        simp only [List.getElem?_map, Option.map_eq_some_iff] at hj
        obtain ⟨y, hy, rfl⟩ := hj
        rw [cell_row hb]; exact hcs j y hy
      have hsome : ∀ j, j < c → (w.cell? ⟨b, off + j, none⟩).isSome = true := fun j hj => by
        rw [cell_row hb, Array.getElem?_eq_getElem (by omega)]; rfl
      have hfz : ∀ o, w.frozen? ⟨b, o, none⟩ = false := fun o => by simp [World.frozen?, hb]
      have hfv : ∀ o, w.frozen? ⟨vb, o, none⟩ = false := fun o => by simp [World.frozen?, hv]
      have hmk : ∀ {w' : World} {b' off' : Nat} {arr' : Array Value} {e' : TypeId}, w'.heap[b']? = some (.cells arr' e' (0, 0)) → (∀ j y, (cs.take i ++ x :: cs.drop i)[j]? = some y → w'.cell? ⟨b', off' + j, none⟩ = some (.int .i64 y)) → ∀ j y, (cs.take i ++ x :: cs.drop i)[j]? = some y → arr'[off' + j]? = some (.int .i64 y) := fun h1 h2 j y hj => by
        have := h2 j y hj
        rwa [cell_row h1] at this
      -- where a value comes from
      have hpick : ∀ j y, (cs.take i ++ x :: cs.drop i)[j]? = some y → (j < i ∧ cs[j]? = some y) ∨ (j = i ∧ y = x) ∨ (i < j ∧ cs[j - 1]? = some y) := fun j y hj => by
        rcases Nat.lt_trichotomy j i with h | h | h
        · rw [List.getElem?_append_left (by simp; omega), List.getElem?_take_of_lt h] at hj
          exact .inl ⟨h, hj⟩
        · subst h
          rw [List.getElem?_append_right (by simp; omega), List.length_take, Nat.min_eq_left hin, Nat.sub_self] at hj
          simp at hj
          exact .inr (.inl ⟨rfl, hj.symm⟩)
        · rw [List.getElem?_append_right (by simp; omega), List.length_take, Nat.min_eq_left hin] at hj
          obtain ⟨d, rfl⟩ : ∃ d, j = i + 1 + d := ⟨j - i - 1, by omega⟩
          rw [show i + 1 + d - i = d + 1 by omega, List.getElem?_cons_succ, List.getElem?_drop] at hj
          exact .inr (.inr ⟨h, by rw [show i + 1 + d - 1 = i + d by omega]; exact hj⟩)
      by_cases hroom : cs.length + 1 ≤ c
      · by_cases hi : i < cs.length
        · have := Any2.slices_Insert_int_shift L b off cs.length c i vb voff 1 vc (cs.map (Value.int .i64)) [Value.int .i64 x] w hi (by omega) hroom (by simpa [maxLen] using hcm) (Ne.symm hbv) hml rfl hcells
            (fun j hj => hsome j (by omega)) (fun j _ => hfz _) hvs h1c h1v ve (ρ.t 3) varr.size arr.size (by simp [World.shape?, hv]) (by simp [World.shape?, hb]) (by omega) (hfv _) (hfv _)
          refine this.mono ?_
          rintro r w' ⟨rfl, rfl⟩
          obtain ⟨a1, g1, g2⟩ := setCells_heap ((cs.map (Value.int .i64)).drop i) (off + (i + 1)) (w := w.drew) (b := b) hb
          obtain ⟨a2, g3, g4⟩ := setCells_heap [Value.int .i64 x] (off + i) g1
          refine ⟨b, off, c, a2, rfl, ?_, g3, by omega, hroom, hcm, .inl ⟨_, rfl, rfl⟩, hmk g3 fun j y hj => ?_⟩
          · exact ((keeps_drew.trans (setCells_keeps _ _ _)).trans (setCells_keeps _ _ _)).mono fun k _ e' => ⟨_, rfl, e'⟩
          · rcases hpick j y hj with ⟨h, hy⟩ | ⟨rfl, rfl⟩ | ⟨h, hy⟩
            · rw [World.cell?_setCells_out _ _ _ _ _ (fun _ _ => .inl (by show off + j < off + i; omega)), World.cell?_setCells_out _ _ _ _ _ (fun _ _ => .inl (by show off + j < off + (i + 1); omega))]
              exact hcells j _ (by simp [hy])
            · have := World.cell?_setCells_in b [Value.int .i64 y] (off + j) (w.drew.setCells b (off + (j + 1)) ((cs.map (Value.int .i64)).drop j)) (fun q hq => by
                have : q = 0 := by simpa using hq
                subst this
                rw [Nat.add_zero, cell_row g1, Array.getElem?_eq_getElem (by omega)]
                rfl) 0 (by simp)
              simpa using this
            · rw [World.cell?_setCells_out _ _ _ _ _ (fun _ _ => .inr (by show off + i + 1 ≤ off + j; omega))]
              have hjl := (List.getElem?_eq_some_iff.1 hy).1
              have := World.cell?_setCells_in b ((cs.map (Value.int .i64)).drop i) (off + (i + 1)) w.drew (fun q hq => by
                rw [List.length_drop, hml] at hq
                have := hsome (i + 1 + q) (by omega)
                rw [show off + (i + 1) + q = off + (i + 1 + q) by omega]
                exact this) (j - (i + 1)) (by rw [List.length_drop, hml]; omega)
              rw [show off + (i + 1) + (j - (i + 1)) = off + j by omega] at this
              rw [this]
              congr 1
              rw [List.getElem_drop, List.getElem_map]
              congr 1
              have h4 := (List.getElem?_eq_some_iff.1 hy).2
              rw [← h4]
              congr 1
              omega
        · have hi' : i = cs.length := by omega
          subst hi'
          have := Any2.slices_Insert_int_end_room L b off cs.length c vb voff 1 vc [Value.int .i64 x] w (by omega) hroom (by simpa [maxLen] using hcm) rfl
            (fun j hj => by have := hsome (cs.length + j) (by omega); rwa [show off + cs.length + j = off + (cs.length + j) by omega]) (fun j _ => hfz _) hvs h1v
          refine this.mono ?_
          rintro r w' ⟨rfl, rfl⟩
          obtain ⟨a1, g1, g2⟩ := setCells_heap [Value.int .i64 x] (off + cs.length) hb
          refine ⟨b, off, c, a1, rfl, (setCells_keeps _ _ _).mono fun k _ e' => ⟨_, rfl, e'⟩, g1, by omega, hroom, hcm, .inl ⟨_, rfl, rfl⟩, hmk g1 fun j y hj => ?_⟩
          rcases hpick j y hj with ⟨h, hy⟩ | ⟨rfl, rfl⟩ | ⟨h, hy⟩
          · rw [World.cell?_setCells_out _ _ _ _ _ (fun _ _ => .inl (by show off + j < off + cs.length; omega))]
            exact hcells j _ (by simp [hy])
          · have := World.cell?_setCells_in b [Value.int .i64 y] (off + cs.length) w (fun q hq => by
              have : q = 0 := by simpa using hq
              subst this
              have := hsome cs.length (by omega)
              simpa using this) 0 (by simp)
            simpa using this
          · have := (List.getElem?_eq_some_iff.1 hy).1
            omega
      · by_cases hi : i < cs.length
        · have := Any2.slices_Insert_int_grow L b off cs.length c i vb voff 1 vc (cs.map (Value.int .i64)) [Value.int .i64 x] w hi (by omega) hnc (by omega) (by omega) hml rfl hcells hvs h1c h1v
          refine this.mono ?_
          rintro r w' ⟨rfl, rfl⟩
          have hg := hgrow c (by omega)
          generalize hG : grownCap w (cs.length + 1) c (ρ.t 3) = G at *
          generalize hR : ((cs.map (Value.int .i64)).take i).toArray ++ Builtin.zeroCells (Value.int .i64 0).cells (cs.length + 1 - i) ++ Builtin.zeroCells (Value.int .i64 0).cells (G - (cs.length + 1)) = R
          have hRs : R.size = G := by
            rw [← hR]
            simp [Builtin.zeroCells, Value.cells]
            omega
          have hRt : ∀ j y, j < i → cs[j]? = some y → R[j]? = some (.int .i64 y) := fun j y hj hy => by
            rw [← hR, Array.append_assoc, Array.getElem?_append_left (by simp; omega)]
            simp only [List.getElem?_toArray]
            rw [List.getElem?_take_of_lt hj, List.getElem?_map, hy]
            rfl
          have h0 : (w.alloc (.cells R (ρ.t 3))).drew.heap[w.heap.size]? = some (.cells R (ρ.t 3) (0, 0)) := heap_alloc_at w _
          obtain ⟨a1, g1, g2⟩ := setCells_heap [Value.int .i64 x] i h0
          obtain ⟨a2, g3, g4⟩ := setCells_heap ((cs.map (Value.int .i64)).drop i) (i + 1) (w := ((w.alloc (.cells R (ρ.t 3))).drew.setCells w.heap.size i [Value.int .i64 x]).drew) g1
          refine ⟨w.heap.size, 0, G, a2, rfl, ?_, g3, by omega, hg.1, hg.2, .inr (Nat.le_refl _), hmk (off' := 0) g3 fun j y hj => ?_⟩
          · have q1 : Keeps (fun k => k = w.heap.size) w ((((w.alloc (.cells R (ρ.t 3))).drew.setCells w.heap.size i [Value.int .i64 x]).drew).setCells w.heap.size (i + 1) ((cs.map (Value.int .i64)).drop i)) :=
              (((keeps_alloc.trans keeps_drew).trans (setCells_keeps _ _ _)).trans keeps_drew).trans (setCells_keeps _ _ _)
            exact q1.mono fun k hk e' => by omega
          · rw [Nat.zero_add]
            rcases hpick j y hj with ⟨h, hy⟩ | ⟨rfl, rfl⟩ | ⟨h, hy⟩
            · rw [World.cell?_setCells_out _ _ _ _ _ (fun _ _ => .inl (by show j < i + 1; omega))]
              show (((w.alloc (.cells R (ρ.t 3))).drew.setCells w.heap.size i [Value.int .i64 x])).cell? _ = _
              rw [World.cell?_setCells_out _ _ _ _ _ (fun _ _ => .inl (by show j < i; omega)), cell_row h0]
              exact hRt j y h hy
            · rw [World.cell?_setCells_out _ _ _ _ _ (fun _ _ => .inl (by show j < j + 1; omega))]
              show (((w.alloc (.cells R (ρ.t 3))).drew.setCells w.heap.size j [Value.int .i64 y])).cell? _ = _
              have := World.cell?_setCells_in w.heap.size [Value.int .i64 y] j (w.alloc (.cells R (ρ.t 3))).drew (fun q hq => by
                have : q = 0 := by simpa using hq
                subst this
                rw [cell_row h0, Array.getElem?_eq_getElem (by omega)]; rfl) 0 (by simp)
              simpa using this
            · have hjl := (List.getElem?_eq_some_iff.1 hy).1
              have := World.cell?_setCells_in w.heap.size ((cs.map (Value.int .i64)).drop i) (i + 1) (((w.alloc (.cells R (ρ.t 3))).drew.setCells w.heap.size i [Value.int .i64 x]).drew) (fun q hq => by
                rw [List.length_drop, hml] at hq
                show ((((w.alloc (.cells R (ρ.t 3))).drew.setCells w.heap.size i [Value.int .i64 x])).cell? _).isSome = true
                rw [cell_row g1, Array.getElem?_eq_getElem (by omega)]
                rfl) (j - (i + 1)) (by rw [List.length_drop, hml]; omega)
              rw [show i + 1 + (j - (i + 1)) = j by omega] at this
              rw [this]
              congr 1
              rw [List.getElem_drop, List.getElem_map]
              congr 1
              have h4 := (List.getElem?_eq_some_iff.1 hy).2
              rw [← h4]
              congr 1
              omega
        · have hi' : i = cs.length := by omega
          subst hi'
          have := Any2.slices_Insert_int_end_grow L (some ⟨b, off, none⟩) cs.length c vb voff 1 vc (cs.map (Value.int .i64)) [Value.int .i64 x] w (by omega) hnc (by omega) (by omega) hml rfl (fun e' => by cases e') (fun a e' j v hj => by cases e'; rw [Addr.add_lit]; exact hcells j v hj) hvs h1v
          refine this.mono ?_
          rintro r w' ⟨rfl, rfl⟩
          have hg := hgrow c (by omega)
          refine ⟨_, _, _, _, rfl, keeps_drew.trans keeps_alloc, heap_alloc_at w.drew _, ?_, hg.1, hg.2, .inr (Nat.le_refl _), fun j y hj => ?_⟩
          · have := hg.1
            simp [Builtin.zeroCells, Value.cells]
            omega
          · rw [Nat.zero_add, Array.getElem?_append_left (by have := (List.getElem?_eq_some_iff.1 hj).1; simp at this ⊢; omega)]
            simp only [List.getElem?_toArray]
            rcases hpick j y hj with ⟨h, hy⟩ | ⟨rfl, rfl⟩ | ⟨h, hy⟩
            · rw [List.getElem?_append_left (by simp; omega)]
              simp [hy]
            · rw [List.getElem?_append_right (by simp)]
              simp
            · have := (List.getElem?_eq_some_iff.1 hy).1
              omega
end
end Go.Proofs.YthjmmofafpahhaaGreat.Sx
