/- Contracts: AmY17, AmY18, AmY19, AmY20, AmY21, AmY22, AmY23, AmY24, AmY25, AmY26, AmY27. -/
import Derived.Test.YtikhbjdcomgemaaAmK6
/-! AmY17 -/
set_option linter.unusedVariables false
set_option linter.unusedSimpArgs false
set_option maxHeartbeats 4000000
set_option maxRecDepth 4000
namespace Am
open Go

/-- A list of rows that is being made. -/
structure KB (h0 h : Heap) (v : Value) (L : List Row) : Prop where
  b : Buf h0 h v 4 (rowsC L)
  el : ∀ r ∈ L, EntO h r
  nd : (L.map rowB).flatten.Nodup
  rg : ∀ r ∈ L, ∀ c ∈ rowB r, h0.length ≤ c
theorem KB.nil {h0 h : Heap} : KB h0 h (sl 0 0 0 4) [] := ⟨by simpa [rowsC] using Buf.nil, by simp, by simp, by simp⟩
theorem KB.ko {h0 h : Heap} {v : Value} {L : List Row} (k : KB h0 h v L) (hm : L.length ≤ maxLen) : ∃ b, v = sl b 0 L.length 4 ∧ KO h h0.length h.length b 4 L := by
  have hl := rowsC_len L
  rcases k.b with ⟨e1, e2⟩ | ⟨b, n, e1, e2, e3, e4⟩
  · have : L = [] := by
      rw [e1] at hl; simp at hl; exact List.length_eq_zero_iff.1 (by omega)
    subst this
    exact ⟨0, e2, .inl rfl, hm, k.el, .inl rfl, k.nd, by simp⟩
  · rw [hl] at e2
    have : n = L.length := by omega
    subst this
    exact ⟨b, e1, .inl rfl, hm, k.el, .inr ⟨e4, e3, at_lt e4⟩, k.nd, fun r hr c hc => ⟨k.rg r hr c hc, (k.el r hr).lt c hc⟩⟩
theorem KB.vo {h0 h : Heap} {v : Value} {L : List Row} (k : KB h0 h v L) (hm : L.length ≤ maxLen) : Vo h h0.length h.length shKepts v (L.map (·.1)) := by
  obtain ⟨b, rfl, ko⟩ := k.ko hm
  exact KO.vo ko
theorem KB.len {h0 h : Heap} {v : Value} {L : List Row} (k : KB h0 h v L) : ∃ b, v = sl b 0 L.length 4 := by
  have hl := rowsC_len L
  rcases k.b with ⟨e1, e2⟩ | ⟨b, n, e1, e2, e3, e4⟩
  · have : L = [] := by
      rw [e1] at hl; simp at hl; exact List.length_eq_zero_iff.1 (by omega)
    subst this
    exact ⟨0, e2⟩
  · rw [hl] at e2
    have : n = L.length := by omega
    subst this
    exact ⟨b, e1⟩
theorem kb_snoc {h0 h h1 : Heap} {v s : Value} {L : List Row} {n : List UInt8} {W H : Int} {br : List Int} {K : Value → Heap → Prop} (hp : 0 < h0.length) (kb : KB h0 h v L) (g0 : Grows h0 h) (g1 : Grows h h1) (o : Vo h1 h.length h1.length shPanel (.agg #[I W, I H, s]) ((W, H, br) : Pan)) (hn : n.length ≤ maxLen) (hl : L.length ≤ 1048576)
    (hK : ∀ v' h2 r, Grows h0 h2 → KB h0 h2 v' (L ++ [r]) → r.1 = (n, W, H, br) → K v' h2) :
    bindW (aBuildSlice 4 1 h1 [(0, .agg #[S [], I 0, I 0, sl 0 0 0 0]), (4, .agg #[S n, I W, I H, s])]) fun y h' => bindW (aAppend 4 h' y v) K := by
  have e : aBuildSlice 4 1 h1 [(0, .agg #[S [], I 0, I 0, sl 0 0 0 0]), (4, .agg #[S n, I W, I H, s])] = some (sl h1.length 0 1 4, h1 ++ [⟨[S n, I W, I H, s], true⟩]) := by simp [aBuildSlice]
  rw [e]
  simp only [bindW_some]
  obtain ⟨s', es, w1, w2, o⟩ := o.panel
  simp at es
  subst es
  obtain ⟨b, z, rfl, hz, hm, hx, hb⟩ := o.ints
  obtain ⟨r, hr⟩ : ∃ r : Row, r = ((n, W, H, br), b, z) := ⟨_, rfl⟩
  have hC : rowC r = [S n, I W, I H, sl b 0 br.length z] := by rw [hr]; rfl
  have g1' := g1.push ⟨[S n, I W, I H, sl b 0 br.length z], true⟩
  have nb : ∀ q ∈ L, ∀ c ∈ rowB q, ∀ m, v ≠ sl c 0 m 4 := by
    intro q hq c hc m ev
    obtain ⟨b2, e2⟩ := kb.len
    have hb2 : L = [] ∨ h[b2]? = some ⟨rowsC L, true⟩ := by
      rcases kb.b with ⟨q1, q2⟩ | ⟨b3, n3, q1, q2, q3, q4⟩
      · left
        have hl := rowsC_len L
        rw [q1] at hl; simp at hl; exact List.length_eq_zero_iff.1 (by omega)
      · right
        rw [e2] at q1
        simp only [sl, Value.slice.injEq, Option.some.injEq, Addr.mk.injEq] at q1
        rw [q1.1.1]; exact q4
    rw [e2] at ev
    simp only [sl, Value.slice.injEq, Option.some.injEq, Addr.mk.injEq] at ev
    exact rows_nb kb.el hb2 q hq (ev.1.1 ▸ hc)
  refine append_buf hp (g0.trans g1') (kb.b.grow g1') (new := rowC r) ?_ (by omega) (by simp [rowC]) (by simp [rowC]) (by rw [rowsC_len]; simp [rowC, maxSize]; omega) ?_
  · rw [hC]
    simp [newCells]
    rw [cellsAt_of (k := ⟨[S n, I W, I H, sl b 0 br.length z], true⟩) (by simp) (by simp)]
    simp
  · intro v' h2 g2 b2 k2
    refine hK v' h2 r g2 ⟨?_, fun q hq => ?_, ?_, fun q hq c hc => ?_⟩ (by rw [hr])
    · rw [rowsC_append]; simpa [rowsC] using b2
    · rcases List.mem_append.1 hq with hq | hq
      · refine (kb.el q hq).frame fun c hc => ?_
        have hlt := (kb.el q hq).lt c hc
        have hg := g1'.look hlt
        have hs : h[c]? = some h[c] := List.getElem?_eq_getElem hlt
        rw [hs] at hg ⊢
        exact k2 c _ hg (nb q hq c hc)
      · simp at hq; subst hq
        rw [hr]
        refine ⟨hz, hm, hx, ?_, w1, w2, hn⟩
        rcases hb with q | ⟨q1, q2, q3⟩
        · exact .inl q
        · right
          refine k2 b _ (push_at q1) fun m ev => ?_
          obtain ⟨b5, e5⟩ := kb.len
          rw [e5] at ev
          simp only [sl, Value.slice.injEq, Option.some.injEq, Addr.mk.injEq] at ev
          have hb5 : b5 < h.length ∨ b5 = 0 := by
            rcases kb.b with ⟨q1, q2⟩ | ⟨b3, n3, q1, q2, q3, q4⟩
            · right
              rw [e5] at q2
              simp only [sl, Value.slice.injEq, Option.some.injEq, Addr.mk.injEq] at q2
              exact q2.1.1
            · left
              rw [e5] at q1
              simp only [sl, Value.slice.injEq, Option.some.injEq, Addr.mk.injEq] at q1
              rw [q1.1.1]; exact at_lt q4
          have := g0.le
          omega
    · rw [List.map_append, List.flatten_append, List.nodup_append]
      refine ⟨kb.nd, ?_, ?_⟩
      · simp [rowB]; split <;> simp
      · intro c hc c' hc'
        obtain ⟨t, ht, hct⟩ := List.mem_flatten.1 hc
        obtain ⟨q, hq, rfl⟩ := List.mem_map.1 ht
        have hlt := (kb.el q hq).lt c hct
        simp at hc'
        rw [hr] at hc'
        unfold rowB at hc'
        split at hc'
        · simp at hc'
        · rename_i h0
          simp at hc'
          have := (hb.resolve_left h0).2.1
          omega
    · rcases List.mem_append.1 hq with hq | hq
      · exact kb.rg q hq c hc
      · simp at hq; subst hq
        rw [hr] at hc
        unfold rowB at hc
        split at hc
        · simp at hc
        · rename_i h0
          simp at hc
          have := (hb.resolve_left h0).2.1
          have := g0.le
          omega
end Am
/-! AmY18 -/
set_option linter.unusedVariables false
set_option linter.unusedSimpArgs false
set_option maxHeartbeats 4000000
set_option maxRecDepth 4000
namespace Am
open Go

/-! ### parts of a list put together -/
def KCs (h : Heap) (X : Lib) (cs : List Value) : Prop := cs.length = X.length * 4 ∧ ∀ i (hi : i < X.length), ∃ s, (cs.drop (i * 4)).take 4 = [S X[i].1, I X[i].2.1, I X[i].2.2.1, s] ∧ Vr h shInts s X[i].2.2.2 ∧ I64 X[i].2.1 ∧ I64 X[i].2.2.1 ∧ X[i].1.length ≤ 9223372036854775807
theorem KCs.nil {h : Heap} : KCs h [] [] := ⟨rfl, fun i hi => by simp at hi⟩
theorem KCs.append {h : Heap} {X Y : Lib} {a b : List Value} (x : KCs h X a) (y : KCs h Y b) : KCs h (X ++ Y) (a ++ b) := by
  refine ⟨by rw [List.length_append, List.length_append, x.1, y.1]; omega, fun i hi => ?_⟩
  rw [List.length_append] at hi
  by_cases e : i < X.length
  · obtain ⟨s, c, r⟩ := x.2 i e
    rw [List.getElem_append_left e]
    refine ⟨s, ?_, r⟩
    rw [List.drop_append_of_le_length (by rw [x.1]; omega), List.take_append_of_le_length (by rw [List.length_drop, x.1]; omega), c]
  · obtain ⟨s, c, r⟩ := y.2 (i - X.length) (by omega)
    rw [List.getElem_append_right (by omega)]
    refine ⟨s, ?_, r⟩
    rw [List.drop_append, List.drop_eq_nil_of_le (by rw [x.1]; omega), List.nil_append, x.1, show i * 4 - X.length * 4 = (i - X.length) * 4 by omega, c]
theorem KAt.part {h : Heap} {b o z : Nat} {X : Lib} (x : KAt h b o z X) (hz : z = 4 ∨ X = []) {i j : Nat} (hij : i ≤ j) (hj : j ≤ X.length) : ∃ cs, newCells 4 h (sl b (o + i * z) (j - i) z) = some cs ∧ KCs h ((X.take j).drop i) cs := by
  by_cases e : j - i = 0
  · have : i = j := by omega
    subst this
    refine ⟨[], by simp [newCells], ?_⟩
    rw [List.drop_eq_nil_of_le (by rw [List.length_take]; omega)]
    exact KCs.nil
  · have hz4 : z = 4 := by
      rcases hz with q | q
      · exact q
      · subst q; simp at hj; omega
    subst hz4
    obtain ⟨s, c, _⟩ := x.2 (j - 1) (by omega)
    obtain ⟨k, hk⟩ : ∃ k, h[b]? = some k := by
      unfold cellsAt at c
      cases q : h[b]? with
      | none => simp [q] at c
      | some k => exact ⟨k, rfl⟩
    have hlen : o + (j - 1) * 4 + 4 ≤ k.cells.length := by
      unfold cellsAt at c
      simp only [hk] at c
      split at c
      · assumption
      · cases c
    refine ⟨(k.cells.drop (o + i * 4)).take ((j - i) * 4), ?_, ?_, fun m hm => ?_⟩
    · simp only [newCells, sl]
      rw [if_neg e, cellsAt_of hk (by omega)]
    · rw [List.length_take, List.length_drop, List.length_drop, List.length_take]; omega
    · rw [List.length_drop, List.length_take] at hm
      obtain ⟨s, c, r⟩ := x.2 (i + m) (by omega)
      rw [List.getElem_drop, List.getElem_take]
      refine ⟨s, ?_, r⟩
      have : o + (i + m) * 4 + 4 ≤ k.cells.length := by omega
      rw [cellsAt_of hk (by omega)] at c
      injection c with c
      rw [List.drop_take, List.take_take, List.drop_drop, ← c, show o + i * 4 + m * 4 = o + (i + m) * 4 by omega]
      congr 1; omega
theorem KCs.kat {h h' : Heap} {v : Value} {X : Lib} {cs : List Value} (k : KCs h X cs) (hv : Buf h h' v 4 cs) (g : Grows h h') (hm : X.length ≤ maxLen) : ∃ b, v = sl b 0 X.length 4 ∧ KAt h' b 0 4 X := by
  rcases hv with ⟨e1, e2⟩ | ⟨b, n, e1, e2, e3, e4⟩
  · have hl := k.1
    rw [e1] at hl; simp at hl
    have : X = [] := List.length_eq_zero_iff.1 (by omega)
    subst this
    exact ⟨0, e2, ⟨by simp, .inl rfl⟩, fun i hi => by simp at hi⟩
  · rw [k.1] at e2
    have : n = X.length := by omega
    subst this
    refine ⟨b, e1, ⟨hm, .inl rfl⟩, fun i hi => ?_⟩
    obtain ⟨s, c, r, w⟩ := k.2 i hi
    refine ⟨s, ?_, r.grow g, w⟩
    rw [Nat.zero_add, cellsAt_of e4 (by simp only; rw [k.1]; omega), c]
theorem KeptOk.small {X : Lib} (ok : KeptOk X) : ∀ y ∈ X, y.1.length ≤ 12 ∧ y.2.2.2.length ≤ 128 := by
  intro y hy
  obtain ⟨j, hj, rfl⟩ := List.getElem_of_mem hy
  obtain ⟨okp, hn⟩ := ok.getOk hj
  exact ⟨hn, okp.siz⟩
end Am
/-! AmY19 -/
set_option linter.unusedVariables false
set_option linter.unusedSimpArgs false
set_option maxHeartbeats 4000000
set_option maxRecDepth 4000
namespace Am
open Go

/-! ### the program: sought by halves, inserted -/
def cmpT (a b : List UInt8) : Int := if lexLt a b = true then -1 else if lexLt b a = true then 1 else 0
end Am
/-! AmY20 -/
set_option linter.unusedVariables false
set_option linter.unusedSimpArgs false
set_option maxHeartbeats 4000000
set_option maxRecDepth 4000
namespace Am
open Go

theorem KB.grow {h0 h h' : Heap} {v : Value} {L : List Row} (k : KB h0 h v L) (g : Grows h h') : KB h0 h' v L :=
  ⟨k.b.grow g, fun r hr => (k.el r hr).frame fun c hc => g.look ((k.el r hr).lt c hc), k.nd, k.rg⟩
theorem KB.kat {h0 h : Heap} {v : Value} {L : List Row} (k : KB h0 h v L) (hl : L.length ≤ 1048576) : ∃ b, v = sl b 0 L.length 4 ∧ KAt h b 0 4 (L.map (·.1)) := by
  have vo := k.vo (by rw [maxLen_eq]; omega)
  obtain ⟨b, e⟩ := k.len
  subst e
  obtain ⟨b', o', z', e, hX⟩ := vo.vr.kat
  simp at e
  obtain ⟨⟨rfl, rfl⟩, rfl⟩ := e
  exact ⟨b, rfl, hX⟩
/-- All that was there stays, but for a list's own block. -/
def FrameOut (h h' : Heap) (v w : Value) : Prop := h.length ≤ h'.length ∧ (∃ b2 n2, w = sl b2 0 n2 4 ∧ h.length ≤ b2) ∧ ∀ c, c < h.length → (∀ m, v ≠ sl c 0 m 4) → h'[c]? = h[c]?
/-- Rows that are of a list, or are one row. -/
def OneMore (L' : List Row) (r : Row) (L : List Row) : Prop := ∀ q ∈ L', q = r ∨ q ∈ L
theorem small_siz {X : Lib} {n : Nat} (hl : X.length ≤ n) (hs : ∀ y ∈ X, y.1.length ≤ 12 ∧ y.2.2.2.length ≤ 128) : siz shKepts X ≤ 200 * n := by
  have key : ∀ Y : Lib, (∀ y ∈ Y, y.1.length ≤ 12 ∧ y.2.2.2.length ≤ 128) → Y.length + sizL Y ≤ 200 * Y.length := by
    intro Y
    induction Y with
    | nil => intro _; simp [sizL]
    | cons y Y ih =>
      intro hy
      have h1 := ih fun z hz => hy z (by simp [hz])
      obtain ⟨a, b⟩ := hy y (by simp)
      have h3 : siz shKept y = y.1.length + y.2.2.2.length := siz_kept _ _ _ _
      have h4 : sizL (y :: Y) = siz shKept y + sizL Y := by simp [sizL]
      rw [h4, h3]
      simp only [List.length_cons]; omega
  have := key X hs
  rw [siz_kepts]; omega
end Am
/-! AmY21 -/
set_option linter.unusedVariables false
set_option linter.unusedSimpArgs false
set_option maxHeartbeats 4000000
set_option maxRecDepth 4000
namespace Am
open Go

/-- Short names, no more breaks than panels have. -/
def SmallK (X : Lib) : Prop := ∀ y ∈ X, y.1.length ≤ 12 ∧ y.2.2.2.length ≤ 128
end Am
/-! AmY22 -/
set_option linter.unusedVariables false
set_option linter.unusedSimpArgs false
set_option maxHeartbeats 4000000
set_option maxRecDepth 4000
namespace Am
open Go

theorem EntO.vr {h : Heap} {r : Row} (e : EntO h r) : Vr h shPanel (.agg #[I r.1.2.1, I r.1.2.2.1, rowS r]) r.1.2 := by
  obtain ⟨lo, hi, vo, _⟩ := e.vo
  exact Vr.of_panel e.w e.h vo.vr
/-- Rows that are of a list, or of the first of another. -/
def FromTwo (L L0 LB : List Row) (k : Nat) : Prop := ∀ q ∈ L, q ∈ L0 ∨ ∃ j, j < k ∧ ∃ hj : j < LB.length, q = LB[j]
/-- The rows that are put in are there. -/
def RowsThere (h : Heap) (bw : Nat) (LB : List Row) : Prop := (LB = [] ∨ h[bw]? = some ⟨rowsC LB, true⟩) ∧ ∀ r ∈ LB, EntO h r
theorem RowsThere.grow {h h' : Heap} {bw : Nat} {LB : List Row} (x : RowsThere h bw LB) (g : Grows h h') : RowsThere h' bw LB :=
  ⟨x.1.imp id fun q => g.at q, fun r hr => (x.2 r hr).frame fun c hc => g.look ((x.2 r hr).lt c hc)⟩
/-- A list's own block lies outside a range. -/
def Outside (v : Value) (lo hi : Nat) : Prop := ∀ c m, v = sl c 0 m 4 → c = 0 ∨ c < lo ∨ hi ≤ c
end Am
/-! AmY23 -/
set_option linter.unusedVariables false
set_option linter.unusedSimpArgs false
set_option maxHeartbeats 4000000
set_option maxRecDepth 4000
namespace Am
open Go

end Am
/-! AmY24 -/
set_option linter.unusedVariables false
set_option linter.unusedSimpArgs false
set_option maxHeartbeats 4000000
set_option maxRecDepth 4000
namespace Am
open Go

theorem append_num {h : Heap} {lo hi : Nat} {v : Value} {l : List Int} {a : Int} {K : Value → Heap → Prop} (hp : 0 < lo) (hl : l.length ≤ 1048576) (hv : Bf h lo hi v 1 (ints l))
    (hK : ∀ v' h'', Mod lo hi h h'' → Bf h'' h.length h''.length v' 1 (ints (l ++ [a])) → K v' h'') :
    bindW (aBuildSlice 1 1 h [(0, .agg #[I 0]), (1, I a)]) fun y h'' => bindW (aAppend 1 h'' y v) K := by
  have e : aBuildSlice 1 1 h [(0, .agg #[I 0]), (1, I a)] = some (sl h.length 0 1 1, h ++ [⟨[I a], true⟩]) := by simp [aBuildSlice]
  rw [e]
  simp only [bindW_some]
  refine append_bf hp (hv.grow ⟨_, rfl⟩) (new := [I a]) ?_ (by omega) (by simp) (by simp) (by simp [ints, maxSize]; omega) ?_
  · simp [newCells]
    rw [cellsAt_of (k := ⟨[I a], true⟩) (by simp) (by simp)]
    simp
  · intro v' h'' m1 b1
    refine hK v' h'' ((Mod.push _).trans m1) ?_
    rw [ints_append]
    exact b1.wide (by simp) (Nat.le_refl _)
theorem kinds_64 (l : List UInt8) : ∀ x ∈ l.map kindB, I64 x := by
  intro x hx
  obtain ⟨c, _, rfl⟩ := List.mem_map.1 hx
  exact kindB_64 c
theorem kinds_take {l : List UInt8} {k : Nat} (hk : k < l.length) : (l.map kindB).take (k + 1) = (l.map kindB).take k ++ [kindB l[k]] := by
  rw [List.take_succ_eq_append_getElem (by simpa using hk)]; simp
theorem nth_of {l : List (List UInt8)} {i : Nat} (h : i < l.length) : nth l i = l[i] := by simp [nth, h]
def spRes (s : List UInt8) : Pan × Bool := if (spW s).length = 2 ∧ (spV s).length = 2 then (spP s, spOk s) else ((0, 0, []), false)
theorem c468 (h : Heap) (hp : 0 < h.length) (s : List UInt8) (hs : s.length ≤ 1048576) : ACall Gam 468 [S s] h fun r h' => Grows h h' ∧ ∃ r0, r = .tuple #[r0, B (spRes s).2] ∧ Vo h' h.length h'.length shPanel r0 (spRes s).1 := by
  refine ACall_intro g468 rfl ?_
  unfold fn468
  rw [awp_seq, awp_reg]
  generalize hK : seqQ Gam _ _ 0 = K
  simp (disch := omega)
  subst hK
  simp only [seqQ_zero]
  rw [awp_seq, awp_reg]
  generalize hK : seqQ Gam _ _ 0 = K
  simp (disch := omega)
  refine callW_of (split_ok (.inr rfl) s 58 hs h hp) ?_
  rintro wv h1 ⟨g1, bw⟩
  have hW : splitS 58 s = spW s := rfl
  rw [hW] at bw
  obtain ⟨wb, wo, wn, rfl, hwn, hwc⟩ := bw.reads
  have hwn' : wn = (spW s).length := by simpa [texts] using hwn
  subst hwn'
  have l1 := g1.le
  subst hK
  simp only [seqQ_zero]
  by_cases e2 : (spW s).length = 2
  rotate_left
  · have er : spRes s = ((0, 0, []), false) := by simp [spRes, e2]
    rw [er]
    have e2' : ¬ ((spW s).length : Int) = 2 := by omega
    simp (disch := omega) [e2, e2', resOf, resAll, resOne, aField]
    exact ⟨g1, Vo.zero_panel⟩
  have e2' : ((spW s).length : Int) = 2 := by omega
  have c0 := texts_cell hwc hwn (k := 0) (by omega)
  have c1 := texts_cell hwc hwn (k := 1) (by omega)
  rw [← nth_of (i := 0) (by omega), Nat.add_zero] at c0
  rw [← nth_of (i := 1) (by omega)] at c1
  have wl : ∀ w ∈ spW s, w.length ≤ s.length := by
    intro w hw
    have := splitG_sum 58 s [] w hw
    simpa using this
  have n0 : (nth (spW s) 0).length ≤ s.length := by rw [nth_of (by omega)]; exact wl _ (List.getElem_mem _)
  have n1 : (nth (spW s) 1).length ≤ s.length := by rw [nth_of (by omega)]; exact wl _ (List.getElem_mem _)
  rw [awp_seq]
  generalize hK : seqQ Gam _ (retQ _ _) = K
  simp (disch := omega) [e2, e2']
  subst hK
  simp only [seqQ_zero]
  rw [awp_seq, awp_reg]
  generalize hK : seqQ Gam _ _ 0 = K
  simp (disch := omega) [e2, c0]
  refine callW_of (split_ok (.inr rfl) (nth (spW s) 0) 120 (by omega) h1 (by omega)) ?_
  rintro vv h2 ⟨g2, bv⟩
  have hV : splitS 120 (nth (spW s) 0) = spV s := rfl
  rw [hV] at bv
  obtain ⟨vb, vo, vn, rfl, hvn, hvc⟩ := bv.reads
  have hvn' : vn = (spV s).length := by simpa [texts] using hvn
  subst hvn'
  have g12 := g1.trans g2
  have l2 := g12.le
  subst hK
  simp only [seqQ_zero]
  by_cases e3 : (spV s).length = 2
  rotate_left
  · have er : spRes s = ((0, 0, []), false) := by simp [spRes, e3]
    rw [er]
    have e3' : ¬ ((spV s).length : Int) = 2 := by omega
    simp (disch := omega) [e3, e3', resOf, resAll, resOne, aField]
    exact ⟨g12, Vo.zero_panel⟩
  have e3' : ((spV s).length : Int) = 2 := by omega
  have er : spRes s = (spP s, spOk s) := by simp [spRes, e2, e3]
  rw [er]
  have d0 := texts_cell hvc hvn (k := 0) (by omega)
  have d1 := texts_cell hvc hvn (k := 1) (by omega)
  rw [← nth_of (i := 0) (by omega), Nat.add_zero] at d0
  rw [← nth_of (i := 1) (by omega)] at d1
  have vl : ∀ w ∈ spV s, w.length ≤ s.length := by
    intro w hw
    have := splitG_sum 120 (nth (spW s) 0) [] w hw
    have h' : w.length ≤ (nth (spW s) 0).length := by simpa using this
    omega
  have m0 : (nth (spV s) 0).length ≤ s.length := by rw [nth_of (by omega)]; exact vl _ (List.getElem_mem _)
  have m1 : (nth (spV s) 1).length ≤ s.length := by rw [nth_of (by omega)]; exact vl _ (List.getElem_mem _)
  have c1 := g2.cell c1
  rw [awp_seq]
  generalize hK : seqQ Gam _ (retQ _ _) = K
  simp (disch := omega) [e3, e3']
  subst hK
  simp only [seqQ_zero]
  rw [awp_seq, awp_reg]
  generalize hK : seqQ Gam _ _ 0 = K
  simp (disch := omega) [e3, d0]
  refine callW_of (c439 (nth (spV s) 0) (by omega) h2 (by omega)) ?_
  rintro _ h3 ⟨g3, rfl⟩
  simp (disch := omega)
  subst hK
  simp only [seqQ_zero]
  rw [awp_seq, awp_reg]
  generalize hK : seqQ Gam _ _ 0 = K
  have d1 := g3.cell d1
  have l3 := g3.le
  simp (disch := omega) [e3, d1]
  refine callW_of (c439 (nth (spV s) 1) (by omega) h3 (by omega)) ?_
  rintro _ h4 ⟨g4, rfl⟩
  simp (disch := omega)
  subst hK
  simp only [seqQ_zero]
  have g14 := g12.trans (g3.trans g4)
  have l4 := g14.le
  have c1 := (g3.trans g4).cell c1
  have i1 := rdDec_64 (nth (spV s) 0)
  have i2 := rdDec_64 (nth (spV s) 1)
  rw [awp_seq, awp_reg]
  generalize hK : seqQ Gam _ _ 0 = K
  simp (disch := omega)
  subst hK
  simp only [seqQ_zero]
  rw [awp_seq]
  generalize hK : seqQ Gam _ (retQ _ _) = K
  simp (disch := omega)
  refine awp_loop (fun (k : Nat) σ h' => k ≤ (nth (spW s) 1).length ∧ Grows h4 h' ∧ σ 2 = .agg #[I 0, I 0, sl 0 0 0 0] ∧ σ 4 = sl wb wo 2 1 ∧ σ 7 = B (rdDec (nth (spV s) 0)).2 ∧ σ 9 = B (rdDec (nth (spV s) 1)).2 ∧ σ 11 = I k ∧ ∃ q, σ 10 = .agg #[I (rdDec (nth (spV s) 0)).1, I (rdDec (nth (spV s) 1)).1, q] ∧ Bf h' h4.length h'.length q 1 (ints (((nth (spW s) 1).map kindB).take k))) (fun k => (nth (spW s) 1).length - k) 0 ?_ ?_
  · refine ⟨by omega, Grows.refl _, by simp, by simp [e2], by simp, by simp, by simp, sl 0 0 0 0, by simp, ?_⟩
    simp [ints]; exact Bf.nil
  · rintro k σ h' ⟨hk, g, q2, q4, q7, q9, q11, q, q10, bf⟩
    have c1' := g.cell c1
    have lg := g.le
    simp (disch := omega) [q4, q11, c1']
    refine fork_dec (fun hlt => ?_) (fun hge => ?_)
    · have k1 : k < (nth (spW s) 1).length := by omega
      have hat := at8_of k1
      have hea := at8_eq k1
      have hkt := kinds_take k1
      simp (disch := omega) [q4, q10, q11, c1', k1, hat, hea]
      refine callW_of (c467 _ h') ?_
      rintro _ h' ⟨rfl, rfl⟩
      try refine ⟨fun e => (by cases e), ?_⟩
      try simp (disch := omega)
      refine append_num (by omega) (by simp; omega) bf fun v2 h5 m5 b5 => ?_
      have g5 := m5.grows g (Nat.le_refl _)
      have l5 := m5.1
      obtain ⟨vb5, vn5, vz5, ev⟩ := b5.sl
      subst ev
      simp (disch := omega) [q2, q4, q7, q9, q10, q11, wrap64]
      refine ⟨k + 1, ⟨by omega, g5, by omega, ?_⟩, by omega⟩
      rw [hkt, hea]
      exact b5.wide (by omega) (Nat.le_refl _)
    · have ek : k = (nth (spW s) 1).length := by omega
      rw [ek, List.take_of_length_le (by simp)] at bf
      have vo := bf.ints (by rw [List.length_map, maxLen_eq]; omega) (kinds_64 _)
      have vp : Vo h' h4.length h'.length shPanel (.agg #[I (rdDec (nth (spV s) 0)).1, I (rdDec (nth (spV s) 1)).1, q]) (spP s) := Vo.of_panel i1 i2 vo
      obtain ⟨vb5, vn5, vz5, ev⟩ := bf.sl
      subst ev
      subst hK
      have vw := vp.wide l4 (Nat.le_refl _)
      have gg := g14.trans g
      cases r1 : (rdDec (nth (spV s) 0)).2
      · simp (disch := omega) [q2, q7, q9, q10, r1, resOf, resAll, resOne, aField]
        exact ⟨gg, _, ⟨rfl, by simp [spOk, r1]⟩, vw⟩
      · cases r2 : (rdDec (nth (spV s) 1)).2
        · simp (disch := omega) [q2, q7, q9, q10, r1, r2, resOf, resAll, resOne, aField]
          exact ⟨gg, _, ⟨rfl, by simp [spOk, r1, r2]⟩, vw⟩
        · simp (disch := omega) [q2, q7, q9, q10, r1, r2, resOf, resAll, resOne, aField]
          exact ⟨gg, _, ⟨rfl, by simp [spOk, r1, r2]⟩, vw⟩
end Am
/-! AmY25 -/
set_option linter.unusedVariables false
set_option linter.unusedSimpArgs false
set_option maxHeartbeats 4000000
set_option maxRecDepth 4000
namespace Am
open Go

theorem read_sp (s : List UInt8) : readAns s = if (spRes s).2 && okP (spRes s).1 then ((spRes s).1, true) else ((0, 0, []), false) := by
  by_cases e2 : (spW s).length = 2
  · by_cases e3 : (spV s).length = 2
    · have er : spRes s = (spP s, spOk s) := by simp [spRes, e2, e3]
      rw [er]
      cases h1 : spOk s
      · rw [sp_no (.inl h1)]; rfl
      · cases h2 : okP (spP s)
        · rw [sp_no (.inr h2)]; simp only [h2]; rfl
        · rw [sp_yes e2 e3 h1 h2]; simp only [h2]; rfl
    · have er : spRes s = ((0, 0, []), false) := by simp [spRes, e3]
      rw [er, sp_v e3]; rfl
  · have er : spRes s = ((0, 0, []), false) := by simp [spRes, e2]
    rw [er, sp_w e2]; rfl
theorem c413 (h : Heap) (hp : 0 < h.length) (s : List UInt8) (hs : s.length ≤ 1048576) : ACall Gam 413 [S s] h fun r h' => Grows h h' ∧ ∃ r0, r = .tuple #[r0, B (readAns s).2] ∧ Vo h' h.length h'.length shPanel r0 (readAns s).1 := by
  refine ACall_intro g413 rfl ?_
  unfold fn413
  simp (disch := omega)
  refine callW_of (c468 h hp s hs) ?_
  rintro _ h1 ⟨g1, r0, rfl, o1⟩
  obtain ⟨a, b, c, rfl⟩ := o1.vr.panel3
  have st1 := store_box (h := h1) (cs := [I 0, I 0, sl 0 0 0 0]) (xs := [a, b, c]) rfl
  try refine ⟨fun e => (by cases e), ?_⟩
  simp (disch := omega) [st1]
  obtain ⟨h2, e2⟩ : ∃ h2, h2 = h1 ++ [⟨[a, b, c], true⟩] := ⟨_, rfl⟩
  have g2 : Grows h1 h2 := ⟨_, e2⟩
  have kb : h2[h1.length]? = some ⟨[a, b, c], true⟩ := by rw [e2]; simp
  try rw [← e2]
  have gg := g1.trans g2
  have rs := read_sp s
  cases q1 : (spRes s).2
  · rw [q1] at rs
    have rs' : readAns s = ((0, 0, []), false) := rs
    rw [rs']
    simp (disch := omega) [resOf, resAll, resOne, aField]
    exact ⟨gg, Vo.zero_panel⟩
  rw [q1] at rs
  obtain ⟨P, hP⟩ : ∃ P, P = (spRes s).1 := ⟨_, rfl⟩
  rw [← hP] at o1 rs
  obtain ⟨W, H, br⟩ := P
  have o1' := o1
  obtain ⟨s', es, w1, w2, o3⟩ := o1.panel
  simp at es
  obtain ⟨rfl, rfl, rfl⟩ := es
  simp (disch := omega)
  refine callW_of (c452 _ (W, H, br) h2 (PtP.at kb (o3.vr.grow g2) w1 w2)) ?_
  rintro _ h2 ⟨rfl, rfl⟩
  try refine ⟨fun e => (by cases e), ?_⟩
  cases q2 : okP (W, H, br)
  · rw [q2] at rs
    have rs' : readAns s = ((0, 0, []), false) := rs
    rw [rs']
    simp (disch := omega) [resOf, resAll, resOne, aField]
    exact ⟨gg, Vo.zero_panel⟩
  · rw [q2] at rs
    have rs' : readAns s = ((W, H, br), true) := rs
    rw [rs']
    have cl : cellsAt h2 h1.length 0 3 = some [I W, I H, c] := cellsAt_all kb rfl
    simp (disch := omega) [cl, resOf, resAll, resOne, aField]
    exact ⟨gg, (o1'.grow g2).wide (Nat.le_refl _) g2.le⟩
end Am
/-! AmY26 -/
set_option linter.unusedVariables false
set_option linter.unusedSimpArgs false
set_option maxHeartbeats 4000000
set_option maxRecDepth 4000
namespace Am
open Go

/-- Rows in own memory, one behind the other. -/
structure KR (h0 h : Heap) (L : List Row) : Prop where
  el : ∀ r ∈ L, EntO h r
  nd : (L.map rowB).flatten.Nodup
  rg : ∀ r ∈ L, ∀ c ∈ rowB r, h0.length ≤ c
theorem KR.nil {h0 h : Heap} : KR h0 h [] := ⟨by simp, by simp, by simp⟩
theorem KR.grow {h0 h h' : Heap} {L : List Row} (k : KR h0 h L) (g : Grows h h') : KR h0 h' L :=
  ⟨fun r hr => (k.el r hr).frame fun c hc => g.look ((k.el r hr).lt c hc), k.nd, k.rg⟩
theorem KR.snoc {h0 h h1 : Heap} {L : List Row} {n : List UInt8} {Y : Pan} {v : Value} (k : KR h0 h L) (g : Grows h0 h) (g1 : Grows h h1) (o : Vo h1 h.length h1.length shPanel v Y) (hn : n.length ≤ 12) : ∃ r a b c, v = .agg #[a, b, c] ∧ KR h0 h1 (L ++ [r]) ∧ rowC r = [S n, a, b, c] ∧ r.1 = (n, Y) := by
  obtain ⟨W, H, br⟩ := Y
  obtain ⟨s, rfl, w1, w2, o⟩ := o.panel
  obtain ⟨b, z, rfl, hz, hm, hx, hb⟩ := o.ints
  refine ⟨((n, W, H, br), b, z), _, _, _, rfl, ⟨fun q hq => ?_, ?_, fun q hq c hc => ?_⟩, rfl, rfl⟩
  · rcases List.mem_append.1 hq with hq | hq
    · exact (k.grow g1).el q hq
    · simp at hq; subst hq
      exact ⟨hz, hm, hx, hb.imp id fun q => q.1, w1, w2, by rw [maxLen_eq]; show n.length ≤ _; omega⟩
  · rw [List.map_append, List.flatten_append, List.nodup_append]
    refine ⟨k.nd, by simp [rowB]; split <;> simp, ?_⟩
    intro c hc c' hc'
    obtain ⟨t, ht, hct⟩ := List.mem_flatten.1 hc
    obtain ⟨q, hq, rfl⟩ := List.mem_map.1 ht
    have hlt := (k.el q hq).lt c hct
    simp at hc'
    unfold rowB at hc'
    split at hc'
    · simp at hc'
    · rename_i h0
      simp at hc'
      have := (hb.resolve_left h0).2.1
      omega
  · rcases List.mem_append.1 hq with hq | hq
    · exact k.rg q hq c hc
    · simp at hq; subst hq
      unfold rowB at hc
      split at hc
      · simp at hc
      · rename_i h0
        simp at hc
        have := (hb.resolve_left h0).2.1
        have := g.le
        omega
theorem c543 (h : Heap) (hp : 0 < h.length) (s : List UInt8) (hs : s.length ≤ 100) (X : Pan) (ok : okP X = true) (hX : pTxt X = s) : ACall Gam 543 [S s] h fun r h' => Grows h h' ∧ Vo h' h.length h'.length shPanel r (canonP X) := by
  have ok' := okP_iff.1 ok
  have ra : readAns s = (X, true) := by rw [← hX]; exact readAns_some ok'
  refine ACall_intro g543 rfl ?_
  unfold fn543
  simp (disch := omega)
  refine callW_of (c413 h hp s (by omega)) ?_
  rintro _ h1 ⟨g1, r0, rfl, o1⟩
  rw [ra] at o1 ⊢
  obtain ⟨W, H, br⟩ := X
  obtain ⟨s', rfl, w1, w2, o3⟩ := o1.panel
  have st1 := store_box (h := h1) (cs := [I 0, I 0, sl 0 0 0 0]) (xs := [I W, I H, s']) rfl
  try refine ⟨fun e => (by cases e), ?_⟩
  simp (disch := omega) [st1]
  obtain ⟨h2, e2⟩ : ∃ h2, h2 = h1 ++ [⟨[I W, I H, s'], true⟩] := ⟨_, rfl⟩
  have g2 : Grows h1 h2 := ⟨_, e2⟩
  have kb : h2[h1.length]? = some ⟨[I W, I H, s'], true⟩ := by rw [e2]; simp
  rw [← e2]
  have l2 := (g1.trans g2).le
  refine callW_of (c476 h2 (by omega) _ (W, H, br) (PtP.at kb (o3.vr.grow g2) w1 w2) ok') ?_
  rintro v3 h3 ⟨g3, o4⟩
  try refine ⟨fun e => (by cases e), ?_⟩
  obtain ⟨a, b, c, rfl⟩ := o4.vr.panel3
  simp (disch := omega)
  exact ⟨g1.trans (g2.trans g3), o4.wide l2 (Nat.le_refl _)⟩
def stdX : List (List UInt8 × Pan) := [([98, 114, 105, 99, 107], (2, 1, [0])), ([99, 97, 114, 112, 101, 116], (3, 3, [0, 0, 0, 0, 0, 0, 0, 0, 0, 0, 0, 0])), ([99, 104, 97, 105, 110], (4, 1, [0, 0, 0])), ([100, 105, 97, 109, 111, 110, 100], (1, 1, [])), ([114, 105, 110, 103, 115], (2, 2, [0, 0, 0, 0])), ([116, 119, 111], (2, 1, [1]))]
noncomputable def stdK : Lib := stdX.map fun k => (k.1, canonP k.2)
theorem std_t1 : okP ((2, 1, [0]) : Pan) = true ∧ pTxt ((2, 1, [0]) : Pan) = [50, 120, 49, 58, 43] := by
  have ok : okP ((2, 1, [0]) : Pan) = true := by decide
  exact ⟨ok, by rw [pTxt_ok (okP_iff.1 ok)]; decide⟩
theorem std_t2 : okP ((3, 3, [0, 0, 0, 0, 0, 0, 0, 0, 0, 0, 0, 0]) : Pan) = true ∧ pTxt ((3, 3, [0, 0, 0, 0, 0, 0, 0, 0, 0, 0, 0, 0]) : Pan) = [51, 120, 51, 58, 43, 43, 43, 43, 43, 43, 43, 43, 43, 43, 43, 43] := by
  have ok : okP ((3, 3, [0, 0, 0, 0, 0, 0, 0, 0, 0, 0, 0, 0]) : Pan) = true := by decide
  exact ⟨ok, by rw [pTxt_ok (okP_iff.1 ok)]; decide⟩
theorem std_t3 : okP ((4, 1, [0, 0, 0]) : Pan) = true ∧ pTxt ((4, 1, [0, 0, 0]) : Pan) = [52, 120, 49, 58, 43, 43, 43] := by
  have ok : okP ((4, 1, [0, 0, 0]) : Pan) = true := by decide
  exact ⟨ok, by rw [pTxt_ok (okP_iff.1 ok)]; decide⟩
theorem std_t4 : okP ((1, 1, []) : Pan) = true ∧ pTxt ((1, 1, []) : Pan) = [49, 120, 49, 58] := by
  have ok : okP ((1, 1, []) : Pan) = true := by decide
  exact ⟨ok, by rw [pTxt_ok (okP_iff.1 ok)]; decide⟩
theorem std_t5 : okP ((2, 2, [0, 0, 0, 0]) : Pan) = true ∧ pTxt ((2, 2, [0, 0, 0, 0]) : Pan) = [50, 120, 50, 58, 43, 43, 43, 43] := by
  have ok : okP ((2, 2, [0, 0, 0, 0]) : Pan) = true := by decide
  exact ⟨ok, by rw [pTxt_ok (okP_iff.1 ok)]; decide⟩
theorem std_t6 : okP ((2, 1, [1]) : Pan) = true ∧ pTxt ((2, 1, [1]) : Pan) = [50, 120, 49, 58, 124] := by
  have ok : okP ((2, 1, [1]) : Pan) = true := by decide
  exact ⟨ok, by rw [pTxt_ok (okP_iff.1 ok)]; decide⟩
theorem std_siz : siz shKepts stdK ≤ 16777216 := by
  have := small_siz (X := stdK) (n := 6) (by simp [stdK, stdX]) (by
    intro y hy
    obtain ⟨k, hk, rfl⟩ := List.mem_map.1 hy
    have key : ∀ k ∈ stdX, k.1.length ≤ 12 ∧ okP k.2 = true := by decide
    obtain ⟨h1, h2⟩ := key k hk
    exact ⟨h1, (canonP_ok (okP_iff.1 h2)).siz⟩)
  omega
theorem c422 (h : Heap) (hp : 0 < h.length) : ACall Gam 422 [] h fun r h' => Grows h h' ∧ Vo h' h.length h'.length shKepts r stdK ∧ siz shKepts stdK ≤ 16777216 := by
  refine ACall_intro g422 rfl ?_
  unfold fn422
  have k0 : KR h h [] := KR.nil
  have G0 : Grows h h := Grows.refl h
  simp (disch := omega)
  refine callW_of (c543 h (by have := G0.le; omega) _ (by simp) (2, 1, [0]) std_t1.1 std_t1.2) ?_
  rintro v1 h1 ⟨g1, o1⟩
  try refine ⟨fun e => (by cases e), ?_⟩
  obtain ⟨r1, a1, b1, c1, rfl, k1, e1, n1⟩ := k0.snoc (n := [98, 114, 105, 99, 107]) G0 g1 o1 (by simp)
  have G1 := G0.trans g1
  try simp (disch := omega)
  refine callW_of (c543 h1 (by have := G1.le; omega) _ (by simp) (3, 3, [0, 0, 0, 0, 0, 0, 0, 0, 0, 0, 0, 0]) std_t2.1 std_t2.2) ?_
  rintro v2 h2 ⟨g2, o2⟩
  try refine ⟨fun e => (by cases e), ?_⟩
  obtain ⟨r2, a2, b2, c2, rfl, k2, e2, n2⟩ := k1.snoc (n := [99, 97, 114, 112, 101, 116]) G1 g2 o2 (by simp)
  have G2 := G1.trans g2
  try simp (disch := omega)
  refine callW_of (c543 h2 (by have := G2.le; omega) _ (by simp) (4, 1, [0, 0, 0]) std_t3.1 std_t3.2) ?_
  rintro v3 h3 ⟨g3, o3⟩
  try refine ⟨fun e => (by cases e), ?_⟩
  obtain ⟨r3, a3, b3, c3, rfl, k3, e3, n3⟩ := k2.snoc (n := [99, 104, 97, 105, 110]) G2 g3 o3 (by simp)
  have G3 := G2.trans g3
  try simp (disch := omega)
  refine callW_of (c543 h3 (by have := G3.le; omega) _ (by simp) (1, 1, []) std_t4.1 std_t4.2) ?_
  rintro v4 h4 ⟨g4, o4⟩
  try refine ⟨fun e => (by cases e), ?_⟩
  obtain ⟨r4, a4, b4, c4, rfl, k4, e4, n4⟩ := k3.snoc (n := [100, 105, 97, 109, 111, 110, 100]) G3 g4 o4 (by simp)
  have G4 := G3.trans g4
  try simp (disch := omega)
  refine callW_of (c543 h4 (by have := G4.le; omega) _ (by simp) (2, 2, [0, 0, 0, 0]) std_t5.1 std_t5.2) ?_
  rintro v5 h5 ⟨g5, o5⟩
  try refine ⟨fun e => (by cases e), ?_⟩
  obtain ⟨r5, a5, b5, c5, rfl, k5, e5, n5⟩ := k4.snoc (n := [114, 105, 110, 103, 115]) G4 g5 o5 (by simp)
  have G5 := G4.trans g5
  try simp (disch := omega)
  refine callW_of (c543 h5 (by have := G5.le; omega) _ (by simp) (2, 1, [1]) std_t6.1 std_t6.2) ?_
  rintro v6 h6 ⟨g6, o6⟩
  try refine ⟨fun e => (by cases e), ?_⟩
  obtain ⟨r6, a6, b6, c6, rfl, k6, e6, n6⟩ := k5.snoc (n := [116, 119, 111]) G5 g6 o6 (by simp)
  have G6 := G5.trans g6
  have eb : aBuildSlice 4 6 h6 [(0, .agg #[S [], I 0, I 0, sl 0 0 0 0, S [], I 0, I 0, sl 0 0 0 0, S [], I 0, I 0, sl 0 0 0 0, S [], I 0, I 0, sl 0 0 0 0, S [], I 0, I 0, sl 0 0 0 0, S [], I 0, I 0, sl 0 0 0 0]), (4, .agg #[S [98, 114, 105, 99, 107], a1, b1, c1]), (4004, .agg #[S [99, 97, 114, 112, 101, 116], a2, b2, c2]), (8004, .agg #[S [99, 104, 97, 105, 110], a3, b3, c3]), (12004, .agg #[S [100, 105, 97, 109, 111, 110, 100], a4, b4, c4]), (16004, .agg #[S [114, 105, 110, 103, 115], a5, b5, c5]), (20004, .agg #[S [116, 119, 111], a6, b6, c6])] = some (sl h6.length 0 6 4, h6 ++ [⟨rowsC [r1, r2, r3, r4, r5, r6], true⟩]) := by
    simp [aBuildSlice, rowsC, e1, e2, e3, e4, e5, e6]
  simp (disch := omega) [eb]
  have gl : Grows h6 (h6 ++ [⟨rowsC [r1, r2, r3, r4, r5, r6], true⟩]) := ⟨_, rfl⟩
  have kk := k6.grow gl
  simp only [List.nil_append, List.cons_append] at kk
  have kb : KB h (h6 ++ [⟨rowsC [r1, r2, r3, r4, r5, r6], true⟩]) (sl h6.length 0 6 4) [r1, r2, r3, r4, r5, r6] := ⟨.inr ⟨h6.length, 6, rfl, by rw [rowsC_len]; rfl, G6.le, by simp⟩, kk.el, kk.nd, kk.rg⟩
  have vo := kb.vo (by rw [maxLen_eq]; simp)
  have em : [r1, r2, r3, r4, r5, r6].map (·.1) = stdK := by simp [stdK, stdX, n1, n2, n3, n4, n5, n6]
  rw [em] at vo
  have lg : (h6 ++ [(⟨rowsC [r1, r2, r3, r4, r5, r6], true⟩ : Blk)]).length = h6.length + 1 := by simp
  rw [lg] at vo
  exact ⟨G6.trans gl, vo, std_siz⟩
end Am
/-! AmY27 -/
set_option linter.unusedVariables false
set_option linter.unusedSimpArgs false
set_option maxHeartbeats 4000000
set_option maxRecDepth 4000
namespace Am
open Go

theorem std_get : ∀ k, (hk : k < stdX.length) → stdX[k].1.length ≤ 12 ∧ okP stdX[k].2 = true := by
  intro k hk
  have key : ∀ k ∈ stdX, k.1.length ≤ 12 ∧ okP k.2 = true := by decide
  exact key _ (List.getElem_mem hk)
theorem c132 (h : Heap) (hp : 0 < h.length) : ACall Gam 132 [] h fun r h' => Grows h h' ∧ Vo h' h.length h'.length shKepts r stdK ∧ siz shKepts stdK ≤ 16777216 := by
  refine ACall_intro g132 rfl ?_
  unfold fn132
  rw [awp_seq, awp_reg]
  generalize hK : seqQ Gam _ _ 0 = K
  simp (disch := omega)
  subst hK
  simp only [seqQ_zero]
  rw [awp_seq, awp_reg]
  generalize hK : seqQ Gam _ _ 0 = K
  simp (disch := omega)
  refine callW_of (c177 h 2 1 (by omega) (by omega) hp) ?_
  rintro v0 h0 ⟨g0, o0⟩
  have eP : newP 2 1 = (2, 1, [0]) := rfl
  rw [eP] at o0
  try refine ⟨fun e => (by cases e), ?_⟩
  obtain ⟨s0, rfl, _, _, i0⟩ := o0.panel
  obtain ⟨b0, z0, rfl, hz0, _, _, hb0⟩ := i0.ints
  obtain ⟨kb0, lo0, hi0⟩ := hb0.resolve_left (by simp)
  have st0 := store_one (v := I 1) (o := 0) kb0 (by simp [ints])
  obtain ⟨h00, e00⟩ : ∃ h00, h00 = h0.set b0 ⟨(ints [0]).set 0 (I 1), true⟩ := ⟨_, rfl⟩
  rw [← e00] at st0
  have G00 : Grows h h00 := by rw [e00]; exact g0.put lo0 _
  have l00 : h00.length = h0.length := by rw [e00]; simp
  have kb00 : h00[b0]? = some ⟨ints [1], true⟩ := by rw [e00]; simp [hi0, ints]
  have o00 : Vo h00 h.length h00.length shPanel (.agg #[I 2, I 1, sl b0 0 1 z0]) ((2, 1, [1]) : Pan) := Vo.of_panel (by unfold I64; omega) (by unfold I64; omega) (Vo.of_ints (X := [1]) (hz0.imp id fun q => absurd q.2 (by simp)) (by simp [maxLen_eq]) (by intro x hx; simp at hx; subst hx; unfold I64; omega) (.inr ⟨kb00, lo0, by omega⟩))
  have hz01 : z0 = 1 := by
    rcases hz0 with q | q
    · exact q
    · exact absurd q.2 (by simp)
  subst hz01
  simp (disch := omega)
  subst hK
  simp only [seqQ_zero]
  rw [awp_seq, awp_reg]
  generalize hK : seqQ Gam _ _ 0 = K
  simp (disch := omega) [st0]
  subst hK
  simp only [seqQ_zero]
  rw [awp_seq, awp_reg]
  generalize hK : seqQ Gam _ _ 0 = K
  simp (disch := omega)
  subst hK
  simp only [seqQ_zero]
  rw [awp_seq]
  generalize hK : seqQ Gam _ (retQ _ _) = K
  rw [awp_seq, awp_reg]
  generalize hK2 : seqQ Gam _ _ 0 = K2
  obtain ⟨Z, hZ⟩ : ∃ Z, Z = (Value.agg #[S [], I 0, I 0, sl 0 0 0 0, S [], I 0, I 0, sl 0 0 0 0, S [], I 0, I 0, sl 0 0 0 0, S [], I 0, I 0, sl 0 0 0 0, S [], I 0, I 0, sl 0 0 0 0, S [], I 0, I 0, sl 0 0 0 0]) := ⟨_, rfl⟩
  rw [← hZ]
  simp (disch := omega)
  have G0 : Grows h00 h00 := Grows.refl _
  have l0 := G00.le
  refine callW_of (c177 h00 2 1 (by omega) (by omega) (by have := G0.le; omega)) ?_
  rintro v1 h1 ⟨g1, o1⟩
  have eP1 : newP 2 1 = (2, 1, [0]) := rfl
  rw [eP1] at o1
  try refine ⟨fun e => (by cases e), ?_⟩
  have G1 := G0.trans g1
  obtain ⟨s1, rfl, _, _, i1⟩ := o1.panel
  try simp (disch := omega)
  refine callW_of (c177 h1 3 3 (by omega) (by omega) (by have := G1.le; omega)) ?_
  rintro v2 h2 ⟨g2, o2⟩
  have eP2 : newP 3 3 = (3, 3, [0, 0, 0, 0, 0, 0, 0, 0, 0, 0, 0, 0]) := rfl
  rw [eP2] at o2
  try refine ⟨fun e => (by cases e), ?_⟩
  have G2 := G1.trans g2
  obtain ⟨s2, rfl, _, _, i2⟩ := o2.panel
  try simp (disch := omega)
  refine callW_of (c177 h2 4 1 (by omega) (by omega) (by have := G2.le; omega)) ?_
  rintro v3 h3 ⟨g3, o3⟩
  have eP3 : newP 4 1 = (4, 1, [0, 0, 0]) := rfl
  rw [eP3] at o3
  try refine ⟨fun e => (by cases e), ?_⟩
  have G3 := G2.trans g3
  obtain ⟨s3, rfl, _, _, i3⟩ := o3.panel
  try simp (disch := omega)
  refine callW_of (c177 h3 1 1 (by omega) (by omega) (by have := G3.le; omega)) ?_
  rintro v4 h4 ⟨g4, o4⟩
  have eP4 : newP 1 1 = (1, 1, []) := rfl
  rw [eP4] at o4
  try refine ⟨fun e => (by cases e), ?_⟩
  have G4 := G3.trans g4
  obtain ⟨s4, rfl, _, _, i4⟩ := o4.panel
  try simp (disch := omega)
  refine callW_of (c177 h4 2 2 (by omega) (by omega) (by have := G4.le; omega)) ?_
  rintro v5 h5 ⟨g5, o5⟩
  have eP5 : newP 2 2 = (2, 2, [0, 0, 0, 0]) := rfl
  rw [eP5] at o5
  try refine ⟨fun e => (by cases e), ?_⟩
  have G5 := G4.trans g5
  obtain ⟨s5, rfl, _, _, i5⟩ := o5.panel
  try simp (maxSteps := 10000000) (disch := omega)
  have vr1 := (o1.vr.grow (g2.trans (g3.trans (g4.trans g5))))
  have vr2 := (o2.vr.grow (g3.trans (g4.trans g5)))
  have vr3 := (o3.vr.grow (g4.trans g5))
  have vr4 := o4.vr.grow g5
  have vr5 := o5.vr
  have vr6 := o00.vr.grow G5
  subst hZ
  obtain ⟨C, hC⟩ : ∃ C : List Value, C = [S [98, 114, 105, 99, 107], I 2, I 1, s1, S [99, 97, 114, 112, 101, 116], I 3, I 3, s2, S [99, 104, 97, 105, 110], I 4, I 1, s3, S [100, 105, 97, 109, 111, 110, 100], I 1, I 1, s4, S [114, 105, 110, 103, 115], I 2, I 2, s5, S [116, 119, 111], I 2, I 1, sl b0 0 1 1] := ⟨_, rfl⟩
  have hr : ∀ k, (hk : k < stdX.length) → ∃ s, (C.drop (k * 4)).take 4 = [S stdX[k].1, I stdX[k].2.1, I stdX[k].2.2.1, s] ∧ Vr h5 shPanel (.agg #[I stdX[k].2.1, I stdX[k].2.2.1, s]) stdX[k].2 := by
    subst hC
    intro k hk
    match k, hk with
    | 0, _ => exact ⟨s1, rfl, vr1⟩
    | 1, _ => exact ⟨s2, rfl, vr2⟩
    | 2, _ => exact ⟨s3, rfl, vr3⟩
    | 3, _ => exact ⟨s4, rfl, vr4⟩
    | 4, _ => exact ⟨s5, rfl, vr5⟩
    | 5, _ => exact ⟨_, rfl, vr6⟩
    | k + 6, hk => exact absurd hk (by simp [stdX])
  have hCl : C.length = 24 := by rw [hC]; rfl
  refine (show bindW (some (.agg ([S [98, 114, 105, 99, 107], I 2, I 1, s1, S [99, 97, 114, 112, 101, 116], I 3, I 3, s2, S [99, 104, 97, 105, 110], I 4, I 1, s3, S [100, 105, 97, 109, 111, 110, 100], I 1, I 1, s4, S [114, 105, 110, 103, 115], I 2, I 2, s5, S [116, 119, 111], I 2, I 1, sl b0 0 1 1] : List Value).toArray, h5)) _ from ?_)
  rw [← hC]
  simp only [bindW]
  subst hK2
  simp only [seqQ_zero]
  clear hC
  rw [awp_block]
  have hX6 : stdX.length = 6 := rfl
  have G5' := G00.trans G5
  refine awp_loop (fun (k : Nat) σ h' => Grows h5 h' ∧ k ≤ 6 ∧ σ 22 = .agg C.toArray ∧ σ 23 = I k ∧ ∃ L, L.map (·.1) = stdK.take k ∧ KB h5 h' (σ 2) L) (fun (k : Nat) => 6 - k) 0 ?_ ?_
  · exact ⟨Grows.refl _, by omega, by simp, by simp, [], by simp, by simpa using KB.nil⟩
  · rintro k σ h' ⟨g, hk, q22, q23, L, hL, kb⟩
    have hLl : L.length = k := by have := congrArg List.length hL; simp [stdK, hX6] at this; omega
    simp (disch := omega) [q22, q23]
    refine fork_dec (fun hlt => ?_) (fun hge => ?_)
    · have k1 : k < stdX.length := by omega
      obtain ⟨s, ec, vp⟩ := hr k k1
      obtain ⟨hn, ok⟩ := std_get k k1
      have l1 := (G5'.trans g).le
      have le1 : (k + 1) * 4 ≤ C.length := by omega
      have i1 : (k : Int) < 6 := by omega
      have ei : aIndex 1006004 (.agg C.toArray) (I k) = some (.agg #[S stdX[k].1, I stdX[k].2.1, I stdX[k].2.2.1, s]) := by
        have c1 : (1000000 ≤ 1006004 ∧ (0 : Int) ≤ (k : Int) ∧ (k : Int) < (((1006004 - 1000000) / 1000 : Nat) : Int)) := ⟨by omega, by omega, by omega⟩
        show (if 1000000 ≤ 1006004 ∧ (0 : Int) ≤ (k : Int) ∧ (k : Int) < (((1006004 - 1000000) / 1000 : Nat) : Int) then (if 1006004 % 1000 = 0 then C.toArray[(k : Int).toNat]? else if ((k : Int).toNat + 1) * (1006004 % 1000) ≤ C.toArray.size then some (.agg ((C.toArray.toList.drop ((k : Int).toNat * (1006004 % 1000))).take (1006004 % 1000)).toArray) else none) else none) = _
        rw [if_pos c1, if_neg (by omega), if_pos (by simp; omega)]
        simp [ec]
      simp (disch := omega) [q22, q23, ei]
      refine callW_of (c147 h' (by omega) _ _ (vp.grow g) (okP_iff.1 ok)) ?_
      rintro v2 h2 ⟨g2, o2⟩
      try refine ⟨fun e => (by first | exact g2 | cases e), ?_⟩
      obtain ⟨s2, rfl, w1, w2, r2⟩ := o2.panel
      simp (disch := omega)
      refine kb_snoc (by have := G5'.le; omega) kb g g2 o2 (by rw [maxLen_eq]; omega) (by omega) fun v' h3 r g3 kb3 hr => ?_
      simp (disch := omega) [q22, q23, wrap64]
      refine ⟨k + 1, ⟨g3, by omega, by omega, L ++ [r], ?_, kb3⟩, by omega⟩
      have e1 : [r].map (·.1) = [stdK[k]'(by simp [stdK]; omega)] := by
        simp only [List.map_cons, List.map_nil, hr, stdK, List.getElem_map]
        rfl
      rw [List.map_append, hL, e1, ← List.take_succ_eq_append_getElem]
    · have : k = 6 := by omega
      subst this
      have e6 : stdK.take 6 = stdK := List.take_of_length_le (by simp [stdK, hX6])
      rw [e6] at hL
      have vo := kb.vo (by rw [maxLen_eq]; omega)
      rw [hL] at vo
      subst hK
      simp (disch := omega)
      exact ⟨(G5'.trans g), vo.wide G5'.le (Nat.le_refl _), std_siz⟩
end Am
