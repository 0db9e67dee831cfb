/- Plain laws: what a heap is built with (that it is safe, and how long the rows are). -/
import Derived.Test.YthjmmofafpahhaaGreatPuO
namespace Go.Proofs.YthjmmofafpahhaaGreat.Sx
open Go
set_option linter.unusedVariables false
set_option linter.unusedSimpArgs false

section
variable {ws : List Int}
theorem p_s_Wrap {a : Int} {K : Int → Prop} (h : ∀ r, -2147483648 ≤ r → r ≤ 2147483647 → K r) : m_s_Wrap a K := by
  refine ⟨?_⟩
  unfold b_s_Wrap
  exact ⟨fun e => ⟨i64ok_of (by omega) (by omega), h _ (by omega) (by omega)⟩, fun e => h _ (by omega) (by omega)⟩
theorem p_s_IntOf {a : Int} {K : Int → Prop} (h : ∀ r, K r) : m_s_IntOf a K := by
  refine ⟨?_⟩
  unfold b_s_IntOf
  exact p_s_Wrap fun r h1 h2 => ⟨i64ok_of (by omega) (by omega), i64ok_of (by omega) (by omega), h _⟩
theorem p_s_BoolOf {a : Bool} {K : Int → Prop} (h : ∀ r, K r) : m_s_BoolOf a K := by
  refine ⟨?_⟩
  unfold b_s_BoolOf
  exact ⟨fun _ => h _, fun _ => h _⟩

/-! ### A text -/
theorem p_s_l4Bytes (hh : Hok ws) {p : Int} (hp : p ∈ bl ws) (hk : gw ws p % 8 = 1) {K : ByteArray → Prop} (h : ∀ r, K r) : m_s_l4Bytes ws p K := by
  obtain ⟨⟨t1, t2⟩, _⟩ := (hh.2 p hp).1 hk
  obtain ⟨hw, b0, b1, hb⟩ := bl_mem hp
  have hb1 := hb.2.1
  have hb2 := hb.2.2.1
  have hl := hw.1
  refine ⟨?_⟩
  unfold b_s_l4Bytes
  simp only [gwE]
  refine loopP_intro (fun x => 0 ≤ x.2.1 ∧ x.2.1 ≤ gw ws (p + 1) ∧ (x.1.length : Int) = x.2.1) (fun x => (gw ws (p + 1) - x.2.1).toNat) ⟨Int.le_refl _, t1, rfl⟩ ?_
  rintro ⟨acc, i, _⟩ ⟨g0, g1, g2⟩
  dsimp only at *
  refine ⟨i64ok_of (by omega) (by omega), ⟨by omega, by omega⟩, fun e => ⟨i64ok_of (by omega) (by omega), i64ok_of (by omega) (by omega), ⟨by omega, by omega⟩, by simp only [List.length_cons, List.length_nil]; omega, i64ok_of (by omega) (by omega), ⟨by omega, by omega, by simp only [List.length_append, List.length_cons, List.length_nil]; omega⟩, by omega⟩, fun e => h _⟩
theorem p_s_l4Find (hh : Hok ws) {t : ByteArray} {K : Int → Bool → Prop} (h : ∀ r b, K r b) : m_s_l4Find ws t K := by
  have hw := hh.1
  have hl := hw.1
  have hS := bl_seg hw
  refine ⟨?_⟩
  unfold b_s_l4Find
  simp only [gwE]
  refine loopP_intro (fun x => 0 ≤ x.1 ∧ x.1 ≤ ws.length ∧ ∃ M, Seg ws 0 x.1 M) (fun x => (ws.length - x.1).toNat) ⟨Int.le_refl _, by simp, _, .nil _⟩ ?_
  rintro ⟨x, _⟩ ⟨g0, g1, M, g4⟩
  dsimp only at *
  refine ⟨fun e1 => ?_, fun _ => h _ _⟩
  obtain ⟨M', e, kk⟩ := g4.det hS g1
  obtain ⟨M2, e2, hb, k2⟩ := kk.head e1
  have hx : x ∈ bl ws := by rw [e, e2]; simp
  have z1 := hb.2.1
  have z2 := hb.2.2.1
  have nx : i64ok (x + gw ws x / 8) ∧ (0 ≤ x + gw ws x / 8 ∧ x + gw ws x / 8 ≤ ws.length ∧ ∃ M, Seg ws 0 (x + gw ws x / 8) M) ∧ (ws.length - (x + gw ws x / 8)).toNat < (ws.length - x).toNat := ⟨i64ok_of (by omega) (by omega), ⟨by omega, z2, _, g4.snoc hb⟩, by omega⟩
  exact ⟨⟨g0, e1⟩, p_s_l2Kind ⟨fun e3 => p_s_l4Bytes hh hx e3 fun r => ⟨fun _ => p_s_RefOf (fun _ => h _ _) fun _ _ _ _ => h _ _, fun _ => ⟨⟨g0, e1⟩, p_s_l2Size nx⟩⟩, fun _ => ⟨⟨g0, e1⟩, p_s_l2Size nx⟩⟩⟩
theorem ref_any {k a : Int} {K : Int → Prop} (h : ∀ r, K r) : m_s_RefOf k a K := p_s_RefOf (fun _ => h _) fun _ _ _ _ => h _
/-- A taking, as far as its lengths go. -/
theorem take_any (hw : Slb ws) {k n : Int} (hn : 2 ≤ n) (hn2 : n ≤ 1000000) (hk : 1 ≤ k ∧ k ≤ 5) {K : List Int → Int → Bool → Prop} (h : ∀ ws' at' b, ws'.length = ws.length → (b = true → 0 ≤ at' ∧ at' + n ≤ ws.length ∧ at' ∈ bl ws') → Slb ws' → K ws' at' b) : m_s_l2Take ws k n K := by
  refine p_s_l2Take hw hn hn2 ⟨by omega, by omega⟩ (fun _ => h _ _ _ rfl (fun e => absurd e (by simp)) hw) fun ws' at' ht => ?_
  obtain ⟨_, h0, _, hb⟩ := bl_mem ht.blk
  have h1 := ht.fits
  have h2 := hb.2.2.1
  have h3 := ht.bl hn hk
  exact h _ _ _ ht.len (fun _ => ⟨h0, by omega, h3.2.1⟩) h3.1
theorem byte_lt (b : Option UInt8) : 0 ≤ Int.ofNat (UInt8.toNat (Option.getD b 0)) ∧ Int.ofNat (UInt8.toNat (Option.getD b 0)) < 256 := by
  have := UInt8.toNat_lt (Option.getD b 0)
  exact ⟨Int.natCast_nonneg _, by show ((UInt8.toNat (Option.getD b 0) : Nat) : Int) < 256; omega⟩
theorem p_s_l4Put (hh : Hok ws) {t : ByteArray} {K : List Int → Int → Bool → Prop} (h : ∀ ws' r b, ws'.length = ws.length → K ws' r b) : m_s_l4Put ws t K := by
  have hl := hh.1.1
  refine ⟨?_⟩
  unfold b_s_l4Put
  refine p_s_l4Find hh fun r b => ⟨fun _ => h _ _ _ rfl, fun _ => ⟨fun _ => h _ _ _ rfl, fun e => ⟨i64ok_of (by omega) (by omega), take_any hh.1 (by omega) (by omega) ⟨by omega, by omega⟩ fun ws' at' b e1 e2 _ => ⟨fun _ => h _ _ _ e1, fun e3 => ?_⟩⟩⟩⟩
  obtain ⟨f1, f2, _⟩ := e2 (Classical.not_not.1 e3)
  refine ⟨i64ok_of (by omega) (by omega), ⟨by omega, by omega⟩, ?_⟩
  refine loopP_intro (fun x => 0 ≤ x.2.2.1 ∧ x.2.1.length = ws.length) (fun x => (t.size - x.2.2.1).toNat) ⟨Int.le_refl _, by simp [e1]⟩ ?_
  rintro ⟨d, c, i, _⟩ ⟨g0, g1⟩
  dsimp only at *
  exact ⟨fun e4 => ⟨i64ok_of (by omega) (by omega), i64ok_of (by omega) (by omega), ⟨g0, e4⟩, byte_lt _, ⟨by omega, by omega⟩, i64ok_of (by omega) (by omega), ⟨by omega, by simp [g1]⟩, by omega⟩, fun _ => ref_any fun r => h _ _ _ g1⟩
theorem p_s_TextPut (hl : ws.length ≤ 1000000) {t : ByteArray} {K : List Int → Int → Bool → Prop} (h : ∀ ws' r b, ws'.length ≤ 2000 → K ws' r b) : m_s_TextPut ws t K := by
  refine ⟨?_⟩
  unfold b_s_TextPut
  refine p_s_HeapOk hl ?_
  rw [nn_eq, tf_eq]
  refine ⟨fun _ => h _ _ _ (by simp), fun hh => p_s_l2Copy hl (p_s_l4Put hh fun ws' r b e => h _ _ _ ?_)⟩
  have := hh.1.1
  omega

/-! ### Objects -/
theorem p_s_l5Zero (hl : ws.length ≤ 1000000) {K : List Int → Prop} (h : ∀ ws', ws'.length ≤ 2000 → K ws') : m_s_l5Zero ws K := by
  refine ⟨?_⟩
  unfold b_s_l5Zero
  refine p_s_HeapOk hl ?_
  rw [nn_eq, tf_eq]
  exact ⟨fun _ => h _ (by simp), fun hh => p_s_l2Copy hl (h _ hh.1.1)⟩
theorem p_s_l5ProtoOk {a : Int} {K : Bool → Prop} (h : ∀ b, K b) : m_s_l5ProtoOk a K := by
  refine ⟨?_⟩
  unfold b_s_l5ProtoOk
  exact ⟨fun _ => p_s_Kind (h _), fun _ => h _⟩
theorem p_s_l5New (hw : Slb ws) {a : Int} {K : List Int → Int → Bool → Prop} (h : ∀ ws' r b, ws'.length = ws.length → K ws' r b) : m_s_l5New ws a K := by
  have hl := hw.1
  refine ⟨?_⟩
  unfold b_s_l5New
  refine take_any hw (by omega) (by omega) ⟨by omega, by omega⟩ fun ws' at' b e1 e2 _ => ⟨fun _ => h _ _ _ e1, fun e3 => ?_⟩
  obtain ⟨f1, f2, _⟩ := e2 (Classical.not_not.1 e3)
  exact ⟨i64ok_of (by omega) (by omega), ⟨by omega, by omega⟩, ref_any fun r => h _ _ _ (by simp [e1])⟩
theorem p_s_ObjNew (hl : ws.length ≤ 1000000) {a : Int} {K : List Int → Int → Bool → Prop} (h : ∀ ws' r b, ws'.length ≤ 2000 → K ws' r b) : m_s_ObjNew ws a K := by
  refine ⟨?_⟩
  unfold b_s_ObjNew
  refine p_s_l5ProtoOk fun b => ⟨fun _ => p_s_RootsOk hl (by simp) ?_, fun _ => p_s_l5Zero hl fun ws' e => h _ _ _ e⟩
  rw [nn_eq, tf_eq]
  refine ⟨fun _ => p_s_l5Zero hl fun ws' e => h _ _ _ e, fun hr => p_s_l2Copy hl (p_s_l5New hr.1.1 fun ws' r b e => h _ _ _ ?_)⟩
  have := hr.1.1.1
  omega
theorem p_s_l6New (hw : Slb ws) {a n : Int} (hn : 0 ≤ n ∧ n ≤ 12) {K : List Int → Int → Bool → Prop} (h : ∀ ws' r b, ws'.length = ws.length → K ws' r b) : m_s_l6New ws a n K := by
  have hl := hw.1
  refine ⟨?_⟩
  unfold b_s_l6New
  refine ⟨i64ok_of (by omega) (by omega), take_any hw (by omega) (by omega) ⟨by omega, by omega⟩ fun ws' at' b e1 e2 _ => ⟨fun _ => h _ _ _ e1, fun e3 => ?_⟩⟩
  obtain ⟨f1, f2, _⟩ := e2 (Classical.not_not.1 e3)
  exact ⟨i64ok_of (by omega) (by omega), ⟨by omega, by omega⟩, ref_any fun r => h _ _ _ (by simp [e1])⟩
theorem p_s_ScopeNew (hl : ws.length ≤ 1000000) {a n : Int} {K : List Int → Int → Bool → Prop} (h : ∀ ws' r b, ws'.length ≤ 2000 → K ws' r b) : m_s_ScopeNew ws a n K := by
  have zero : m_s_l5Zero ws fun r => K r 0 false := p_s_l5Zero hl fun ws' e => h _ _ _ e
  have main : m_s_RootsOk ws [a] fun r => (¬¬r = true → m_s_l1In n 0 12 fun r5 => (¬r5 = true → m_s_l5Zero ws fun r7 => K r7 0 false) ∧ (¬¬r5 = true → m_s_l2Copy ws fun r7 => m_s_l6New r7 a n fun r8 r1 r2 => K r8 r1 r2)) ∧ (¬r = true → m_s_l5Zero ws fun r5 => K r5 0 false) := by
    refine p_s_RootsOk hl (by simp) ?_
    rw [nn_eq, tf_eq]
    refine ⟨fun hr => p_s_l1In ?_, fun _ => zero⟩
    rw [nn_eq, tf_eq]
    refine ⟨fun _ => zero, fun hn => p_s_l2Copy hl (p_s_l6New hr.1.1 hn fun ws' r b e => h _ _ _ ?_)⟩
    have := hr.1.1.1
    omega
  refine ⟨?_⟩
  unfold b_s_ScopeNew
  exact ⟨fun _ => p_s_Kind ⟨fun _ => main, fun _ => zero⟩, fun _ => main⟩
theorem p_s_l5Is (hl : ws.length ≤ 1000000) {v : Int} {l : List Int} (hll : l.length < 1000) {k : Int} {K : Bool → Prop} (h1 : K false) (h2 : v % 8 = k → Rok ws (v :: l) → K true) : m_s_l5Is ws (v :: l) k K := by
  refine ⟨?_⟩
  unfold b_s_l5Is
  refine ⟨⟨by omega, by simp only [List.length_cons]; omega⟩, p_s_Kind ⟨fun e => p_s_RootsOk hl (by simp only [List.length_cons]; omega) ?_, fun _ => h1⟩⟩
  by_cases hr : Rok ws (v :: l)
  · rw [tf_of hr]; exact h2 e hr
  · rw [tf_not hr]; exact h1
theorem p_s_l6Fun (hw : Slb ws) {a n : Int} {K : List Int → Int → Bool → Prop} (h : ∀ ws' r b, ws'.length = ws.length → K ws' r b) : m_s_l6Fun ws a n K := by
  have hl := hw.1
  refine ⟨?_⟩
  unfold b_s_l6Fun
  refine take_any hw (by omega) (by omega) ⟨by omega, by omega⟩ fun ws' at' b e1 e2 _ => ⟨fun _ => h _ _ _ e1, fun e3 => ?_⟩
  obtain ⟨f1, f2, _⟩ := e2 (Classical.not_not.1 e3)
  exact ⟨i64ok_of (by omega) (by omega), ⟨by omega, by omega⟩, i64ok_of (by omega) (by omega), ⟨by omega, by simp only [List.length_set]; omega⟩, ref_any fun r => h _ _ _ (by simp [e1])⟩
theorem p_s_FunNew (hl : ws.length ≤ 1000000) {a v : Int} {K : List Int → Int → Bool → Prop} (h : ∀ ws' r b, ws'.length ≤ 2000 → K ws' r b) : m_s_FunNew ws a v K := by
  have zero : m_s_l5Zero ws fun r => K r 0 false := p_s_l5Zero hl fun ws' e => h _ _ _ e
  refine ⟨?_⟩
  unfold b_s_FunNew
  refine p_s_l1In ⟨fun _ => p_s_l5Is hl (by simp) ⟨fun _ => zero, fun e => absurd (by simp) e⟩ fun _ hr => ⟨fun e => absurd rfl e, fun _ => p_s_l2Copy hl (p_s_l6Fun hr.1.1 fun ws' r b e => h _ _ _ ?_)⟩, fun _ => zero⟩
  have := hr.1.1.1
  omega

/-! ### Cells -/
theorem rfr_blk {k b v : Int} (h : Rfr ws k b v) : v / 8 ∈ bl ws ∧ gw ws (v / 8) % 8 = b := h.2
theorem cell_room (hh : Hok ws) {p : Int} (hp : p ∈ bl ws) (hk : gw ws p % 8 = 3) : 0 ≤ p ∧ p + 4 ≤ ws.length ∧ Nxt ws 3 (gw ws (p + 3)) := by
  obtain ⟨⟨s1, _⟩, _, _, s4, _⟩ := (hh.2 p hp).2.2.1 hk
  obtain ⟨_, h0, _, hb⟩ := bl_mem hp
  have := hb.2.2.1
  exact ⟨h0, by omega, s4⟩
theorem obj_room (hh : Hok ws) {v : Int} (hv : v % 8 = 5) (hL : Lead ws v 5) : 0 ≤ v / 8 ∧ v / 8 + 3 ≤ ws.length ∧ Nxt ws 3 (gw ws (v / 8 + 2)) := by
  obtain ⟨hp, hk⟩ := hL.2.2.1 hv
  obtain ⟨⟨s1, _⟩, _, s4, _⟩ := (hh.2 _ hp).2.1 hk
  obtain ⟨_, h0, _, hb⟩ := bl_mem hp
  have := hb.2.2.1
  exact ⟨h0, by omega, s4⟩
theorem p_s_l5Cell (hh : Hok ws) {v k : Int} (hv : v % 8 = 5) (hL : Lead ws v 5) {K : Int → Int → Prop} (h : ∀ r l : Int, (0 ≤ r → r + 4 ≤ ws.length) → (l < 0 ∨ (0 ≤ l ∧ l + 4 ≤ ws.length)) → K r l) : m_s_l5Cell ws v k K := by
  obtain ⟨o1, o2, o3⟩ := obj_room hh hv hL
  have hl := hh.1.1
  refine ⟨?_⟩
  unfold b_s_l5Cell
  simp only [gwE]
  refine p_s_Num ⟨i64ok_of (by omega) (by omega), ⟨by omega, by omega⟩, ?_⟩
  refine loopP_intro (fun x => (x.1 < 0 ∨ (0 ≤ x.1 ∧ x.1 + 4 ≤ ws.length)) ∧ Nxt ws 3 x.2.1 ∧ 0 ≤ x.2.2.1) (fun x => (ws.length - x.2.2.1).toNat) ⟨.inl (show (-1 : Int) < 0 by omega), o3, Int.le_refl _⟩ ?_
  rintro ⟨l, c, i, _⟩ ⟨g0, g1, g2⟩
  dsimp only at *
  refine ⟨fun e1 => ⟨fun e2 => p_s_Num ?_, fun _ => h _ _ (by omega) g0⟩, fun _ => h _ _ (by omega) g0⟩
  obtain ⟨hp, hk⟩ := rfr_blk (g1.resolve_left e1)
  obtain ⟨c0, c1, c2⟩ := cell_room hh hp hk
  exact ⟨i64ok_of (by omega) (by omega), ⟨by omega, by omega⟩, fun _ => h _ _ (fun _ => c1) g0, fun _ => ⟨i64ok_of (by omega) (by omega), ⟨by omega, by omega⟩, i64ok_of (by omega) (by omega), ⟨.inr ⟨c0, c1⟩, c2, by omega⟩, by omega⟩⟩
theorem p_s_l5Round (hh : Hok ws) {v : Int} (hv : v % 8 = 5) (hL : Lead ws v 5) {K : Bool → Prop} (h : ∀ b, K b) : m_s_l5Round ws v K := by
  obtain ⟨o1, o2, o3⟩ := obj_room hh hv hL
  have hl := hh.1.1
  refine ⟨?_⟩
  unfold b_s_l5Round
  simp only [gwE]
  refine p_s_Num ⟨i64ok_of (by omega) (by omega), ⟨by omega, by omega⟩, ?_⟩
  refine loopP_intro (fun x => Nxt ws 3 x.1 ∧ 0 ≤ x.2.1) (fun x => (ws.length - x.2.1).toNat) ⟨o3, Int.le_refl _⟩ ?_
  rintro ⟨c, i, _⟩ ⟨g1, g2⟩
  dsimp only at *
  refine ⟨fun e1 => ⟨fun e2 => p_s_Num ?_, fun _ => h _⟩, fun _ => h _⟩
  obtain ⟨hp, hk⟩ := rfr_blk (g1.resolve_left e1)
  obtain ⟨c0, c1, c2⟩ := cell_room hh hp hk
  exact ⟨i64ok_of (by omega) (by omega), ⟨by omega, by omega⟩, i64ok_of (by omega) (by omega), ⟨c2, by omega⟩, by omega⟩
theorem p_s_l5Set (hh : Hok ws) {v k w : Int} (hv : v % 8 = 5) (hL : Lead ws v 5) {K : List Int → Int → Bool → Prop} (h : ∀ ws' r b, ws'.length = ws.length → K ws' r b) : m_s_l5Set ws v k w K := by
  obtain ⟨o1, o2, o3⟩ := obj_room hh hv hL
  have hl := hh.1.1
  refine ⟨?_⟩
  unfold b_s_l5Set
  refine p_s_l5Cell hh hv hL fun r l h1 h2 => ⟨fun e1 => ?_, fun e1 => take_any hh.1 (by omega) (by omega) ⟨by omega, by omega⟩ fun ws' at' b e1 e2 _ => ⟨fun _ => h _ _ _ e1, fun e3 => ?_⟩⟩
  · have := h1 e1
    exact ⟨i64ok_of (by omega) (by omega), ⟨by omega, by omega⟩, h _ _ _ (by simp)⟩
  · obtain ⟨f1, f2, _⟩ := e2 (Classical.not_not.1 e3)
    exact ⟨i64ok_of (by omega) (by omega), ⟨by omega, by omega⟩, i64ok_of (by omega) (by omega), ⟨by omega, by simp only [List.length_set]; omega⟩, fun _ => p_s_Num ⟨i64ok_of (by omega) (by omega), ref_any fun r => ⟨⟨by omega, by simp only [List.length_set]; omega⟩, h _ _ _ (by simp [e1])⟩⟩, fun _ => ⟨i64ok_of (by omega) (by omega), ref_any fun r => ⟨⟨by omega, by simp only [List.length_set]; omega⟩, h _ _ _ (by simp [e1])⟩⟩⟩
theorem p_s_PropSet (hl : ws.length ≤ 1000000) {v k w : Int} {K : List Int → Bool → Prop} (h : ∀ ws' b, ws'.length ≤ 2000 → K ws' b) : m_s_PropSet ws v k w K := by
  have zero : m_s_l5Zero ws fun r => K r false := p_s_l5Zero hl fun ws' e => h _ _ e
  refine ⟨?_⟩
  unfold b_s_PropSet
  refine p_s_Kind ⟨fun _ => p_s_Kind ⟨fun _ => p_s_l5Is hl (by simp) ⟨fun e => absurd (by simp) e, fun _ => zero⟩ fun hv hr => ⟨fun _ => ?_, fun e => absurd rfl e⟩, fun _ => zero⟩, fun _ => zero⟩
  have hL := hr.2 v (by simp)
  refine p_s_l5Round hr.1 hv hL fun b => ⟨fun _ => zero, fun _ => p_s_l2Copy hl (p_s_l5Set hr.1 hv hL fun ws' r b e => h _ _ ?_)⟩
  have := hr.1.1.1
  omega
/-! ### Scopes -/
theorem scope_room (hh : Hok ws) {p : Int} (hp : p ∈ bl ws) (hk : gw ws p % 8 = 5) : 0 ≤ p ∧ p + 2 ≤ ws.length ∧ Nxt ws 5 (gw ws (p + 1)) := by
  obtain ⟨s1, _⟩ := (hh.2 p hp).2.2.2.2 hk
  obtain ⟨_, h0, _, hb⟩ := bl_mem hp
  have := hb.2.2.1
  have := hb.2.1
  exact ⟨h0, by omega, s1⟩
theorem p_s_l6At (hh : Hok ws) {v n : Int} (hn : n ≤ 2000) (hv : Rfr ws 7 5 v) {K : Int → Bool → Prop} (h1 : K 0 false) (h2 : ∀ v, Rfr ws 7 5 v → K v true) : m_s_l6At ws v n K := by
  have hl := hh.1.1
  refine ⟨?_⟩
  unfold b_s_l6At
  simp only [gwE]
  refine loopP_intro (fun x => Rfr ws 7 5 x.1 ∧ 0 ≤ x.2.1) (fun x => (n - x.2.1).toNat) ⟨hv, Int.le_refl _⟩ ?_
  rintro ⟨c, i, _⟩ ⟨g1, g2⟩
  dsimp only at *
  refine ⟨fun e1 => p_s_Num ?_, fun _ => h2 _ g1⟩
  obtain ⟨hp, hk⟩ := rfr_blk g1
  obtain ⟨c0, c1, c2⟩ := scope_room hh hp hk
  exact ⟨i64ok_of (by omega) (by omega), ⟨by omega, by omega⟩, fun _ => h1, fun e => ⟨i64ok_of (by omega) (by omega), ⟨c2.resolve_left e, by omega⟩, by omega⟩⟩
theorem p_s_l6Place (hh : Hok ws) {v n i : Int} (hn : n ≤ 2000) (hv : Rfr ws 7 5 v) {K : Int → Prop} (h : ∀ r : Int, r < ws.length → K r) : m_s_l6Place ws v n i K := by
  have hl := hh.1.1
  refine ⟨?_⟩
  unfold b_s_l6Place
  simp only [gwE]
  refine p_s_l6At hh hn hv ⟨fun e => absurd (by simp) e, fun _ => h _ (by omega)⟩ fun v hv => ⟨fun _ => p_s_Num ?_, fun e => absurd rfl e⟩
  obtain ⟨hp, hk⟩ := rfr_blk hv
  obtain ⟨_, h0, h1, hb⟩ := bl_mem hp
  have h2 := hb.2.2.1
  have h3 := hb.2.1
  refine ⟨⟨h0, h1⟩, p_s_l2Size ⟨i64ok_of (by omega) (by omega), p_s_l1In ?_⟩⟩
  rw [nn_eq, tf_eq]
  exact ⟨fun _ => h _ (by omega), fun e => p_s_Num ⟨i64ok_of (by omega) (by omega), i64ok_of (by omega) (by omega), h _ (by omega)⟩⟩
theorem p_s_VarSet (hl : ws.length ≤ 1000000) {v n i w : Int} {K : List Int → Bool → Prop} (h : ∀ ws' b, ws'.length ≤ 2000 → K ws' b) : m_s_VarSet ws v n i w K := by
  have zero : m_s_l5Zero ws fun r => K r false := p_s_l5Zero hl fun ws' e => h _ _ e
  refine ⟨?_⟩
  unfold b_s_VarSet
  refine p_s_l1In ?_
  rw [nn_eq, tf_eq]
  refine ⟨fun hn => p_s_Kind ⟨fun _ => p_s_l5Is hl (by simp) ⟨fun _ => zero, fun e => absurd (by simp) e⟩ fun hv hr => ⟨fun e => absurd rfl e, fun _ => p_s_l2Copy hl ?_⟩, fun _ => zero⟩, fun _ => zero⟩
  have hL := hr.2 v (by simp)
  have h2 := hr.1.1.1
  exact p_s_l6Place hr.1 hn.2 ⟨hv, hL.2.2.2.2 hv⟩ fun r hr => ⟨fun _ => h _ _ h2, fun e => ⟨⟨by omega, hr⟩, h _ _ (by simp only [List.length_set]; exact h2)⟩⟩
end
end Go.Proofs.YthjmmofafpahhaaGreat.Sx
