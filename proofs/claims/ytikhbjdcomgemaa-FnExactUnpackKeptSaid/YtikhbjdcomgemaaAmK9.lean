/- Contracts: AmY21, AmY22, AmY23, AmY24, AmY25, AmY26, AmY27, AmY28, AmY29. -/
import Derived.Test.YtikhbjdcomgemaaAmK8
import Derived.Test.YtikhbjdcomgemaaAmK5
import Derived.Test.YtikhbjdcomgemaaAmK4
set_option linter.unusedVariables false
set_option linter.unusedSimpArgs false
set_option maxHeartbeats 4000000
set_option maxRecDepth 4000
namespace Am
open Go

/-- Short names, no more breaks than panels have. -/
def SmallK (X : Lib) : Prop := ∀ y ∈ X, y.1.length ≤ 12 ∧ y.2.2.2.length ≤ 128
end Am
/-! AmY22 -/
set_option linter.unusedVariables false
set_option linter.unusedSimpArgs false
set_option maxHeartbeats 4000000
set_option maxRecDepth 4000
namespace Am
open Go

theorem EntO.vr {h : Heap} {r : Row} (e : EntO h r) : Vr h shPanel (.agg #[I r.1.2.1, I r.1.2.2.1, rowS r]) r.1.2 := by
  obtain ⟨lo, hi, vo, _⟩ := e.vo
  exact Vr.of_panel e.w e.h vo.vr
/-- Rows that are of a list, or of the first of another. -/
def FromTwo (L L0 LB : List Row) (k : Nat) : Prop := ∀ q ∈ L, q ∈ L0 ∨ ∃ j, j < k ∧ ∃ hj : j < LB.length, q = LB[j]
/-- The rows that are put in are there. -/
def RowsThere (h : Heap) (bw : Nat) (LB : List Row) : Prop := (LB = [] ∨ h[bw]? = some ⟨rowsC LB, true⟩) ∧ ∀ r ∈ LB, EntO h r
theorem RowsThere.grow {h h' : Heap} {bw : Nat} {LB : List Row} (x : RowsThere h bw LB) (g : Grows h h') : RowsThere h' bw LB :=
  ⟨x.1.imp id fun q => g.at q, fun r hr => (x.2 r hr).frame fun c hc => g.look ((x.2 r hr).lt c hc)⟩
/-- A list's own block lies outside a range. -/
def Outside (v : Value) (lo hi : Nat) : Prop := ∀ c m, v = sl c 0 m 4 → c = 0 ∨ c < lo ∨ hi ≤ c
end Am
/-! AmY23 -/
set_option linter.unusedVariables false
set_option linter.unusedSimpArgs false
set_option maxHeartbeats 4000000
set_option maxRecDepth 4000
namespace Am
open Go

theorem packP_len {X : Pan} (ok : OkP X) : 5 ≤ (packP X).length ∧ (packP X).length ≤ 40 := by
  have := ok.siz
  unfold packP packBody
  rw [ended_len, List.length_append, packB_len]
  simp only [List.length_cons, List.length_nil]
  omega
theorem packE_len {k : Kpt} (ok : OkP k.2) (hn : k.1.length ≤ 12) : (packE k).length ≤ 60 := by
  have := packP_len ok
  simp only [packE, List.length_cons, List.length_append]; omega
theorem packBodyK_len {X : Lib} (ok : KeptOk X) : ∀ k, k ≤ X.length → (packBodyK (X.take k)).length ≤ 60 * k
  | 0, _ => by simp [packBodyK]
  | k + 1, hk => by
    obtain ⟨h1, h2⟩ := ok.getOk (i := k) (by omega)
    have := packBodyK_len ok k (by omega)
    have := packE_len h1 h2
    rw [packBodyK_take (by omega), List.length_append]; omega
theorem c106 (h : Heap) (hp : 0 < h.length) (v : Value) (X : Lib) (hv : Vr h shKepts v X) (hs : siz shKepts X ≤ 1048576) : ACall Gam 106 [v] h fun r h' => Grows h h' ∧ r = .tuple #[S (packAnsK X).1, I (packAnsK X).2] := by
  obtain ⟨b, o, z, rfl, hX⟩ := hv.kat
  refine ACall_intro g106 rfl ?_
  unfold fn106
  simp (disch := omega)
  refine callW_of (c139 h hp b o z X hX fun k hk => KAt.short hs hk) ?_
  rintro _ h1 ⟨rfl, g1⟩
  have l1 := g1.le
  cases q : keptOk X
  · simp (disch := omega) [packAnsK, q, resOf, resAll, resOne, aField, g1]
  have ok := keptOk_iff.1 q
  have h40 := ok.len
  have w8 : IntKind.u8.wrap (X.length : Int) = X.length := wrap8 (by omega) (by omega)
  have ob := one_byte (h' := h1) (x := (X.length : Int)) ⟨by omega, by omega⟩
  have tb : aConv 21 (sl h1.length 0 1 1) (h1 ++ [⟨bytesV [byteI (X.length : Int)], true⟩]) = some (S [byteI (X.length : Int)], h1 ++ [⟨bytesV [byteI (X.length : Int)], true⟩]) := text_buf (h0 := h1) (.inr ⟨h1.length, 1, rfl, rfl, Nat.le_refl _, by simp⟩)
  simp (disch := omega) [w8, ob, tb]
  have pre : ∀ k, k ≤ X.length → ([76, byteI (X.length : Int)] ++ packBodyK (X.take k)).length ≤ 2 + 60 * k := by
    intro k hk
    have := packBodyK_len ok k hk
    simp; omega
  have gb : Grows h (h1 ++ [⟨bytesV [byteI (X.length : Int)], true⟩]) := g1.push _
  refine awp_loop (fun k σ h' => Grows h h' ∧ k ≤ X.length ∧ σ 4 = S ([76, byteI (X.length : Int)] ++ packBodyK (X.take k)) ∧ σ 16 = sl b o X.length z ∧ σ 17 = I X.length ∧ σ 18 = I k) (fun k => X.length - k) 0 ?_ ?_
  · exact ⟨gb, by omega, by simp [packBodyK], by simp, by simp, by simp⟩
  · rintro k σ h' ⟨g, hk, q4, q16, q17, q18⟩
    simp (disch := omega) [q17, q18]
    refine fork_dec (fun hlt => ?_) (fun hge => ?_)
    · have k1 : k < X.length := by omega
      obtain ⟨s, c, c1, vp, pp, _⟩ := (hX.grow g).cells k1
      obtain ⟨okp, hn⟩ := ok.getOk k1
      have hpl := packP_len okp
      have hl := g.le
      have hp4 := pre k hk
      have w8n : IntKind.u8.wrap (X[k].1.length : Int) = X[k].1.length := wrap8 (by omega) (by omega)
      have obn := one_byte (h' := h') (x := (X[k].1.length : Int)) ⟨by omega, by omega⟩
      have tbn : aConv 21 (sl h'.length 0 1 1) (h' ++ [⟨bytesV [byteI (X[k].1.length : Int)], true⟩]) = some (S [byteI (X[k].1.length : Int)], h' ++ [⟨bytesV [byteI (X[k].1.length : Int)], true⟩]) := text_buf (h0 := h') (.inr ⟨h'.length, 1, rfl, rfl, Nat.le_refl _, by simp⟩)
      have n1 : 1 + X[k].1.length ≤ 4611686018427387904 := by omega
      have n1' : X[k].1.length + 1 ≤ 4611686018427387904 := by omega
      have n1'' : X[k].1.length ≤ 4611686018427387903 := by omega
      obtain ⟨pr, hpr⟩ : ∃ pr, pr = [76, byteI (X.length : Int)] ++ packBodyK (X.take k) := ⟨_, rfl⟩
      rw [← hpr] at q4 hp4
      simp (disch := omega) [q4, q16, q18, k1, c, w8n, obn, tbn, n1, n1', n1'']
      refine callW_of (c180 _ X[k].2 _ (by simp) (vp.grow ⟨_, rfl⟩) okp) ?_
      rintro _ h3 ⟨rfl, g3⟩
      refine ⟨fun _ => g3, ?_⟩
      have n2 : X[k].1.length + 1 + (packP X[k].2).length ≤ 4611686018427387904 := by omega
      have n3 : pr.length + (packE X[k]).length ≤ 4611686018427387904 := by have := packE_len okp hn; omega
      have ee : byteI (X[k].1.length : Int) :: (X[k].1 ++ packP X[k].2) = packE X[k] := rfl
      simp (disch := omega) [n2, ee, n3, q17, wrap64]
      refine ⟨k + 1, ⟨g.trans (Grows.trans ⟨_, rfl⟩ g3), by omega, ?_, by omega⟩, by omega⟩
      rw [packBodyK_take k1, hpr]; simp
    · have : k = X.length := by omega
      subst this
      have hp4 := pre X.length (Nat.le_refl _)
      rw [List.take_length] at q4 hp4
      have hp5 : (76 :: byteI (X.length : Int) :: packBodyK X).length ≤ 2 + 60 * X.length := hp4
      simp (disch := omega) [q4]
      refine callW_of (c191 _ (by omega) h') ?_
      rintro _ h2 ⟨rfl, g2⟩
      simp (disch := omega) [packAnsK, q, packK, resOf, resAll, resOne, aField]
      exact g.trans g2
end Am
/-! AmY24 -/
set_option linter.unusedVariables false
set_option linter.unusedSimpArgs false
set_option maxHeartbeats 4000000
set_option maxRecDepth 4000
namespace Am
open Go

def spRes (s : List UInt8) : Pan × Bool := if (spW s).length = 2 ∧ (spV s).length = 2 then (spP s, spOk s) else ((0, 0, []), false)
end Am
/-! AmY25 -/
set_option linter.unusedVariables false
set_option linter.unusedSimpArgs false
set_option maxHeartbeats 4000000
set_option maxRecDepth 4000
namespace Am
open Go

end Am
/-! AmY26 -/
set_option linter.unusedVariables false
set_option linter.unusedSimpArgs false
set_option maxHeartbeats 4000000
set_option maxRecDepth 4000
namespace Am
open Go

/-- Rows in own memory, one behind the other. -/
structure KR (h0 h : Heap) (L : List Row) : Prop where
  el : ∀ r ∈ L, EntO h r
  nd : (L.map rowB).flatten.Nodup
  rg : ∀ r ∈ L, ∀ c ∈ rowB r, h0.length ≤ c
theorem KR.nil {h0 h : Heap} : KR h0 h [] := ⟨by simp, by simp, by simp⟩
theorem KR.grow {h0 h h' : Heap} {L : List Row} (k : KR h0 h L) (g : Grows h h') : KR h0 h' L :=
  ⟨fun r hr => (k.el r hr).frame fun c hc => g.look ((k.el r hr).lt c hc), k.nd, k.rg⟩
theorem KR.snoc {h0 h h1 : Heap} {L : List Row} {n : List UInt8} {Y : Pan} {v : Value} (k : KR h0 h L) (g : Grows h0 h) (g1 : Grows h h1) (o : Vo h1 h.length h1.length shPanel v Y) (hn : n.length ≤ 12) : ∃ r a b c, v = .agg #[a, b, c] ∧ KR h0 h1 (L ++ [r]) ∧ rowC r = [S n, a, b, c] ∧ r.1 = (n, Y) := by
  obtain ⟨W, H, br⟩ := Y
  obtain ⟨s, rfl, w1, w2, o⟩ := o.panel
  obtain ⟨b, z, rfl, hz, hm, hx, hb⟩ := o.ints
  refine ⟨((n, W, H, br), b, z), _, _, _, rfl, ⟨fun q hq => ?_, ?_, fun q hq c hc => ?_⟩, rfl, rfl⟩
  · rcases List.mem_append.1 hq with hq | hq
    · exact (k.grow g1).el q hq
    · simp at hq; subst hq
      exact ⟨hz, hm, hx, hb.imp id fun q => q.1, w1, w2, by rw [maxLen_eq]; show n.length ≤ _; omega⟩
  · rw [List.map_append, List.flatten_append, List.nodup_append]
    refine ⟨k.nd, by simp [rowB]; split <;> simp, ?_⟩
    intro c hc c' hc'
    obtain ⟨t, ht, hct⟩ := List.mem_flatten.1 hc
    obtain ⟨q, hq, rfl⟩ := List.mem_map.1 ht
    have hlt := (k.el q hq).lt c hct
    simp at hc'
    unfold rowB at hc'
    split at hc'
    · simp at hc'
    · rename_i h0
      simp at hc'
      have := (hb.resolve_left h0).2.1
      omega
  · rcases List.mem_append.1 hq with hq | hq
    · exact k.rg q hq c hc
    · simp at hq; subst hq
      unfold rowB at hc
      split at hc
      · simp at hc
      · rename_i h0
        simp at hc
        have := (hb.resolve_left h0).2.1
        have := g.le
        omega
def stdX : List (List UInt8 × Pan) := [([98, 114, 105, 99, 107], (2, 1, [0])), ([99, 97, 114, 112, 101, 116], (3, 3, [0, 0, 0, 0, 0, 0, 0, 0, 0, 0, 0, 0])), ([99, 104, 97, 105, 110], (4, 1, [0, 0, 0])), ([100, 105, 97, 109, 111, 110, 100], (1, 1, [])), ([114, 105, 110, 103, 115], (2, 2, [0, 0, 0, 0])), ([116, 119, 111], (2, 1, [1]))]
noncomputable def stdK : Lib := stdX.map fun k => (k.1, canonP k.2)
end Am
/-! AmY27 -/
set_option linter.unusedVariables false
set_option linter.unusedSimpArgs false
set_option maxHeartbeats 4000000
set_option maxRecDepth 4000
namespace Am
open Go

end Am
/-! AmY28 -/
set_option linter.unusedVariables false
set_option linter.unusedSimpArgs false
set_option maxHeartbeats 4000000
set_option maxRecDepth 4000
namespace Am
open Go

/-- A walker. -/
def wv (w : Wk) : Value := .agg #[I w.1, I w.2.1, I w.2.2.1, I w.2.2.2]
end Am
/-! AmY29 -/
set_option linter.unusedVariables false
set_option linter.unusedSimpArgs false
set_option maxHeartbeats 4000000
set_option maxRecDepth 4000
namespace Am
open Go

end Am
