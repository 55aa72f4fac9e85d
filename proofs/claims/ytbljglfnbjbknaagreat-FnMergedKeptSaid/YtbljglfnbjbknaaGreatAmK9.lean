/- Contracts: AmY22, AmY23, AmY24, AmY25, AmY26. -/
import Derived.Test.YtbljglfnbjbknaaGreatAmK8
set_option linter.unusedVariables false
set_option linter.unusedSimpArgs false
set_option maxHeartbeats 4000000
set_option maxRecDepth 40000
namespace Am
open Go
theorem EntO.vr {h : Heap} {r : Row} (e : EntO h r) : Vr h shPanel (.agg #[I r.1.2.1, I r.1.2.2.1, rowS r]) r.1.2 := by
 obtain ⟨lo, hi, vo, _⟩ := e.vo
 exact Vr.of_panel e.w e.h vo.vr
/-- Rows that are of a list, or of the first of another. -/
def FromTwo (L L0 LB : List Row) (k : Nat) : Prop := ∀ q ∈ L, q ∈ L0 ∨ ∃ j, j < k ∧ ∃ hj : j < LB.length, q = LB[j]
/-- The rows that are put in are there. -/
def RowsThere (h : Heap) (bw : Nat) (LB : List Row) : Prop := (LB = [] ∨ h[bw]? = some ⟨rowsC LB, true⟩) ∧ ∀ r ∈ LB, EntO h r
theorem RowsThere.grow {h h' : Heap} {bw : Nat} {LB : List Row} (x : RowsThere h bw LB) (g : Grows h h') : RowsThere h' bw LB :=
 ⟨x.1.imp id fun q => g.at q, fun r hr => (x.2 r hr).frame fun c hc => g.look ((x.2 r hr).lt c hc)⟩
/-- A list's own block lies outside a range. -/
def Outside (v : Value) (lo hi : Nat) : Prop := ∀ c m, v = sl c 0 m 4 → c = 0 ∨ c < lo ∨ hi ≤ c
theorem c97 (h : Heap) (hp : 0 < h.length) (v0 : Value) (A : Lib) (hv0 : Vr h shKepts v0 A) (hs0 : siz shKepts A ≤ 1048576) (v1 : Value) (B : Lib) (hv1 : Vr h shKepts v1 B) (hs1 : siz shKepts B ≤ 1048576) :
  ACall Gam 97 [v0, v1] h fun r h' => Grows h h' ∧ ∃ r0, r = .tuple #[r0, I (mergeAnsK A B).2] ∧ Vo h' h.length h'.length shKepts r0 (mergeAnsK A B).1 ∧ siz shKepts (mergeAnsK A B).1 ≤ 16777216 := by
 have hsz := mergeK_siz A B
 obtain ⟨b, o, z, rfl, hA⟩ := hv0.kat
 obtain ⟨b', o', z', rfl, hB⟩ := hv1.kat
 have hmA := hA.1.1
 rw [maxLen_eq] at hmA
 refine ACall_intro g97 rfl ?_
 unfold fn97
 simp (disch := omega)
 refine callW_of (c139 h hp b o z A hA fun k hk => KAt.short hs0 hk) ?_
 rintro _ h1 ⟨rfl, G1⟩
 have l1 := G1.le
 try refine ⟨fun e => (by cases e), ?_⟩
 cases e1 : keptOk A
 ·have e : mergeAnsK A B = ([], 1) := by simp [mergeAnsK, e1]
  rw [e] at hsz ⊢
  simp (disch := omega) [resOf, resAll, resOne, aField]
  exact ⟨G1, Vo.no_kepts, hsz⟩
 simp (disch := omega)
 refine callW_of (c139 h1 (by omega) b' o' z' B (hB.grow G1) fun k hk => KAt.short hs1 hk) ?_
 rintro _ h2 ⟨rfl, G2'⟩
 have G2 := G1.trans G2'
 have l2 := G2.le
 try refine ⟨fun e => (by cases e), ?_⟩
 cases e2 : keptOk B
 ·have e : mergeAnsK A B = ([], 1) := by simp [mergeAnsK, e1, e2]
  rw [e] at hsz ⊢
  simp (disch := omega) [resOf, resAll, resOne, aField]
  exact ⟨G2, Vo.no_kepts, hsz⟩
 have okA := keptOk_iff.1 e1
 have okB := keptOk_iff.1 e2
 have lA := okA.len
 have lB := okB.len
 have ans : mergeAnsK A B = mergeRes (mrg A A B) := by simp [mergeAnsK, e1, e2]
 rw [ans] at hsz ⊢
 simp (disch := omega)
 refine callW_of (c149 h2 (by omega) b o z A (hA.grow G2) (by omega) fun i hi => by have := okA.small _ (List.getElem_mem hi); omega) ?_
 rintro v3 h3 ⟨G3', L0, hL0, kb0⟩
 have G3 := G2.trans G3'
 have l3 := G3.le
 try refine ⟨fun e => (by cases e), ?_⟩
 try simp (disch := omega)
 refine callW_of (c149 h3 (by omega) b' o' z' B (hB.grow G3) (by omega) fun i hi => by have := okB.small _ (List.getElem_mem hi); omega) ?_
 rintro w h4 ⟨G4', LB, hLB, kbB⟩
 have G4 := G3.trans G4'
 have l4' := G4'.le
 try refine ⟨fun e => (by cases e), ?_⟩
 have nA : L0.length = A.length := by rw [← hL0]; simp
 have nB : LB.length = B.length := by rw [← hLB]; simp
 obtain ⟨bw, rfl, koB⟩ := kbB.ko (by rw [maxLen_eq]; omega)
 have rgB : ∀ r ∈ LB, ∀ c ∈ rowB r, h3.length ≤ c ∧ c < h4.length := koB.rg
 have there0 : RowsThere h4 bw LB := ⟨koB.blk.imp id fun q => q.1, kbB.el⟩
 have kbO := (kb0.grow G4').low G2
 have out0 : Outside v3 h3.length h4.length := by
  intro c m e
  rcases kb0.b with ⟨_, q⟩ | ⟨b5, n5, q, _, _, q4⟩
  ·rw [q] at e
   simp only [sl, Value.slice.injEq, Option.some.injEq, Addr.mk.injEq] at e
   omega
  ·rw [q] at e
   simp only [sl, Value.slice.injEq, Option.some.injEq, Addr.mk.injEq] at e
   have := at_lt q4
   omega
 rw [nB]
 simp (disch := omega)
 refine awp_loop (fun (k : Nat) σ h' => Grows h h' ∧ h4.length ≤ h'.length ∧ k ≤ B.length ∧ σ 0 = sl b o A.length z ∧ σ 22 = sl bw 0 B.length 4 ∧ σ 23 = I B.length ∧ σ 24 = I k ∧ RowsThere h' bw LB ∧ Outside (σ 6) h3.length h4.length ∧ ∃ L, KB h h' (σ 6) L ∧ FromTwo L L0 LB k ∧ SortK (L.map (·.1)) ∧ L.length ≤ 40 + k ∧ mrg A (L.map (·.1)) (B.drop k) = mrg A A B) (fun k => B.length - k) 0 ?_ ?_
 ·exact ⟨G4, Nat.le_refl _, by omega, by simp, by simp, by simp, by simp, there0, by simpa using out0, L0, by simpa using kbO, fun q hq => .inl hq, by rw [hL0]; exact okA.sorted, by omega, by rw [hL0]; simp⟩
 ·rintro k σ h' ⟨g, lh, hk, q0, q22, q23, q24, th, ou, L, kb, ft, srt, ll, hmr⟩
  have l' := g.le
  simp (disch := omega) [q23, q24]
  refine fork_dec (fun hlt => ?_) (fun hge => ?_)
  ·have k1 : k < B.length := by omega
   have k2 : k < LB.length := by omega
   have hne : LB ≠ [] := by intro e; rw [e] at k2; simp at k2
   have ek : LB[k].1 = B[k] := by
    have : (LB.map (·.1))[k]'(by rw [List.length_map]; exact k2) = B[k] := by simp [hLB]
    simpa using this
   obtain ⟨r, hr⟩ : ∃ r, r = LB[k] := ⟨_, rfl⟩
   have hrm : r ∈ LB := by rw [hr]; exact List.getElem_mem k2
   have er := th.2 r hrm
   have cl : cellsAt h' bw (k * 4) 4 = some [S r.1.1, I r.1.2.1, I r.1.2.2.1, rowS r] := by
    have hb := th.1.resolve_left hne
    rw [cellsAt_of hb (by simp only; rw [rowsC_len]; omega), rowsC_get k2, ← hr]; rfl
   rw [← hr] at ek
   have hw0 : B[k].1.length ≤ 12 := (okB.small _ (List.getElem_mem k1)).1
   rw [List.drop_eq_getElem_cons k1, mrg, ← ek] at hmr
   simp (disch := omega) [q0, q22, q24, k1, cl]
   refine callW_of (c159 h' b o z A (hA.grow g) r.1.1) ?_
   rintro _ h5 ⟨rfl, G5⟩
   try refine ⟨fun e => (by cases e), ?_⟩
   try simp (disch := omega) [q0]
   refine callW_of (c161 h5 b o z A (hA.grow (g.trans G5)) _ r.1.2 (er.vr.grow G5)) ?_
   rintro _ h6 ⟨rfl, G6'⟩
   have G6 := G5.trans G6'
   have l6 := G6.le
   have g6 := g.trans G6
   try refine ⟨fun e => (by cases e), ?_⟩
   have hle := nameN_le A r.1.1
   by_cases e3 : ixI (nameN A r.1.1) A.length = ixI (likeN A r.1.2) A.length
   ·rw [if_pos e3] at hmr
    by_cases e4 : nameN A r.1.1 < A.length
    ·rw [if_pos e4] at hmr
     have n0 : ¬ ixI (nameN A r.1.1) A.length < 0 := by rw [ix_lt e4]; omega
     simp (disch := omega) [e3.symm, n0, q0, q22, q23, q24, wrap64]
     exact ⟨k + 1, ⟨g6, by omega, by omega, by omega, th.grow G6, ou, L, kb.grow G6, fun q hq => (ft q hq).imp id fun ⟨j, a, b, c⟩ => ⟨j, by omega, b, c⟩, srt, by omega, hmr⟩, by omega⟩
    ·rw [if_neg e4] at hmr
     have n0 : ixI (nameN A r.1.1) A.length < 0 := by rw [ix_no e4]; omega
     have er6 := er.frame fun c hc => G6.look (er.lt c hc)
     have hdis : ∀ q ∈ L, ∀ c ∈ rowB q, c ∉ rowB r := by
      intro q hq c hc hc'
      rcases ft q hq with e | ⟨j, a, hj, e⟩
      ·have h1 := (kb0.el q e).lt c hc
       have h2 := rgB r hrm c hc'
       omega
      ·rw [e] at hc
       rw [hr] at hc'
       exact nodup_flat kbB.nd hj k2 (by omega) c hc hc'
     have hnm : ∀ y ∈ L.map (·.1), y.1 ≠ r.1.1 := by
      intro y hy e
      obtain ⟨q, hq, rfl⟩ := List.mem_map.1 hy
      rcases ft q hq with e5 | ⟨j, a, hj, e5⟩
      ·refine e4 (nameN_lt.2 ⟨q.1, ?_, e⟩)
       rw [← hL0]; exact List.mem_map.2 ⟨q, e5, rfl⟩
      ·have hjB : j < B.length := by omega
       have e6 : LB[j].1 = B[j] := by
        have : (LB.map (·.1))[j]'(by rw [List.length_map]; exact hj) = B[j] := by simp [hLB]
        simpa using this
       have := okB.lt k j a k1
       rw [kN_of hjB, kN_of k1, ← ek, ← e6, ← e5] at this
       exact lexLt_ne this e
     have hc := c200 h h6 hp g6 (σ 6) L (kb.grow G6) (by omega) srt r hnm er6 (fun c hc => by have := rgB r hrm c hc; omega) hdis (fun m => kb_ints_apart hp (kb.grow G6) er6 (fun c hc => by have := rgB r hrm c hc; omega) m)
     simp (disch := omega) [e3.symm, n0, q0, q22, q23, q24, wrap64]
     refine callW_of hc ?_
     rintro w7 h7 ⟨G7, fr, L7, kb7, hL7, om, ln7⟩
     try refine ⟨fun e => (by cases e), ?_⟩
     obtain ⟨f1, ⟨b8, n8, e8, f2⟩, f3⟩ := fr
     have keep : ∀ c, h3.length ≤ c → c < h4.length → h7[c]? = h6[c]? := fun c h1 h2 => f3 c (by omega) fun m e => by
      have := ou c m e
      omega
     have th6 := th.grow G6
     have th7 : RowsThere h7 bw LB := by
      refine ⟨th6.1.imp id fun q => ?_, fun q hq => (th6.2 q hq).frame fun c hc => keep c (rgB q hq c hc).1 (rgB q hq c hc).2⟩
      rw [keep bw (koB.blk.resolve_left hne).2.1 (koB.blk.resolve_left hne).2.2]; exact q
     have ou7 : Outside w7 h3.length h4.length := by
      intro c m e
      rw [e8] at e
      simp only [sl, Value.slice.injEq, Option.some.injEq, Addr.mk.injEq] at e
      omega
     have ft7 : FromTwo L7 L0 LB (k + 1) := by
      intro q hq
      rcases om q hq with e | e
      ·exact .inr ⟨k, by omega, k2, by rw [e, hr]⟩
      ·exact (ft q e).imp id fun ⟨j, a, b, c⟩ => ⟨j, by omega, b, c⟩
     have srt7 : SortK (L7.map (·.1)) := by rw [hL7]; exact insK_sorted srt hnm
     rw [← hL7] at hmr
     try simp (disch := omega) [q0, q22, q23, q24, wrap64]
     exact ⟨k + 1, ⟨G7, by omega, by omega, by omega, th7, ou7, L7, kb7, ft7, srt7, by omega, hmr⟩, by omega⟩
   ·rw [if_neg e3] at hmr
    rw [← hmr] at hsz ⊢
    have e3' : ¬ ixI (nameN A r.1.1) A.length = ixI (likeN A r.1.2) A.length := e3
    simp (disch := omega) [e3', resOf, resAll, resOne, aField, mergeRes]
    exact ⟨g6, Vo.no_kepts, by simpa [mergeRes] using hsz⟩
  ·have ek : k = B.length := by omega
   rw [ek, List.drop_length, mrg] at hmr
   rw [← hmr] at hsz ⊢
   have em : mergeRes (some (L.map (·.1))) = if 40 < (L.map (·.1)).length then ([], 5) else (L.map (·.1), 0) := rfl
   rw [em, List.length_map] at hsz ⊢
   have vo := kb.vo (by rw [maxLen_eq]; omega)
   obtain ⟨b6, e7⟩ := kb.len
   rw [e7] at vo
   by_cases e5 : 40 < L.length
   ·have e5' : (40 : Int) < L.length := by omega
    rw [if_pos e5] at hsz ⊢
    simp (disch := omega) [e7, e5, e5', resOf, resAll, resOne, aField]
    exact ⟨g, Vo.no_kepts, hsz⟩
   ·have e5' : ¬ (40 : Int) < L.length := by omega
    rw [if_neg e5] at hsz ⊢
    simp (disch := omega) [e7, e5, e5', resOf, resAll, resOne, aField]
    exact ⟨g, vo, hsz⟩
theorem packP_len {X : Pan} (ok : OkP X) : 5 ≤ (packP X).length ∧ (packP X).length ≤ 40 := by
 have := ok.siz
 unfold packP packBody
 rw [ended_len, List.length_append, packB_len]
 simp only [List.length_cons, List.length_nil]
 omega
theorem packE_len {k : Kpt} (ok : OkP k.2) (hn : k.1.length ≤ 12) : (packE k).length ≤ 60 := by
 have := packP_len ok
 simp only [packE, List.length_cons, List.length_append]; omega
theorem packBodyK_len {X : Lib} (ok : KeptOk X) : ∀ k, k ≤ X.length → (packBodyK (X.take k)).length ≤ 60 * k
 | 0, _ => by simp [packBodyK]
 | k + 1, hk => by
  obtain ⟨h1, h2⟩ := ok.getOk (i := k) (by omega)
  have := packBodyK_len ok k (by omega)
  have := packE_len h1 h2
  rw [packBodyK_take (by omega), List.length_append]; omega
theorem byte_val {n : Nat} (h : n < 256) : ((byteI (n : Int)).toNat : Int) = n := byteI_toNat ⟨by omega, by omega⟩
theorem c569 (h : Heap) (hp : 0 < h.length) (b o z : Nat) (X : Lib) (hX : KAt h b o z X) (ok : KeptOk X) : ACall Gam 569 [sl b o X.length z] h fun r h' => r = S (packK X) ∧ Grows h h' := by
 have h40 := ok.len
 refine ACall_intro g569 rfl ?_
 unfold fn569
 have e0 : aBuildSlice 1 2 h [(0, Value.agg #[U 0, U 0]), (1, U 76), (1001, U (IntKind.u8.wrap (X.length : Int)))] = some (sl h.length 0 2 1, h ++ [⟨bytesV [76, byteI X.length], true⟩]) := by
  rw [wrap8 (by omega) (by omega)]
  simp [aBuildSlice, bytesV, byte_val (show X.length < 256 by omega)]
 simp (disch := omega) [e0]
 have hb0 : Buf h (h ++ [⟨bytesV [76, byteI X.length], true⟩]) (sl h.length 0 2 1) 1 (bytesV ([76, byteI X.length] ++ packBodyK (X.take 0))) := .inr ⟨h.length, 2, rfl, by simp [bytesV, packBodyK], Nat.le_refl _, by simp [packBodyK]⟩
 refine awp_loop (fun k σ h' => Grows h h' ∧ k ≤ X.length ∧ Buf h h' (σ 3) 1 (bytesV ([76, byteI X.length] ++ packBodyK (X.take k))) ∧ σ 0 = sl b o X.length z ∧ σ 4 = I k) (fun k => X.length - k) 0 ?_ ?_
 ·exact ⟨⟨_, rfl⟩, by omega, by simpa using hb0, by simp, by simp⟩
 ·rintro k σ h' ⟨g, hk, B, q0, q4⟩
  simp (disch := omega) [q0, q4]
  refine fork_dec (fun hlt => ?_) (fun hge => ?_)
  ·have k1 : k < X.length := by omega
   obtain ⟨s, c, c1, vp, pp, _⟩ := (hX.grow g).cells k1
   obtain ⟨okp, hn⟩ := ok.getOk k1
   have hlen := packBodyK_len ok k hk
   have hpl := packP_len okp
   have hl := g.le
   have hlt2 : ([76, byteI X.length] ++ packBodyK (X.take k)).length ≤ 2 + 60 * k := by simp; omega
   have w8 : IntKind.u8.wrap (X[k].1.length : Int) = X[k].1.length := wrap8 (by omega) (by omega)
   simp (disch := omega) [q0, q4, k1, c1, w8]
   refine append_bytes hp (xs := [byteI (X[k].1.length : Int)]) (n := 1) (by simp only [List.length_cons, List.length_nil]; omega) g B (by simp) rfl (one_byte (by omega)) fun v2 h2 g2 b2 => ?_
   obtain ⟨s', c', c1', _, pp2, _⟩ := (hX.grow g2).cells k1
   simp (disch := omega) [q0, q4, k1, c1']
   have hne : X[k].1 ≠ [] := by
    have := (ok.name12 k1).2
    rw [kN_of k1] at this
    intro e; rw [e] at this; simp at this
   refine append_text hp (by simp only [List.length_append, List.length_cons, List.length_nil] at hlt2 ⊢; omega) g2 b2 hne fun v3 h3 g3 b3 => ?_
   obtain ⟨s3, c3, c13, _, pp3, _⟩ := (hX.grow g3).cells k1
   have l3 := g3.le
   try simp (disch := omega) [q0, q4, k1]
   refine callW_of (c571 _ X[k].2 h3 (by omega) pp3 okp) ?_
   rintro _ h4 ⟨rfl, g4⟩
   try refine ⟨fun e => (by cases e), ?_⟩
   have hne2 : packP X[k].2 ≠ [] := by intro e; rw [e] at hpl; simp at hpl
   try simp (disch := omega)
   refine append_text hp (by simp only [List.length_append, List.length_cons, List.length_nil] at hlt2 ⊢; omega) (g3.trans g4) (b3.grow g4) hne2 fun v5 h5 g5 b5 => ?_
   simp (disch := omega) [q0, q4, wrap64]
   refine ⟨k + 1, ⟨g5, by omega, ?_, by omega⟩, by omega⟩
   rw [packBodyK_take k1]
   simpa [packE] using b5
  ·have : k = X.length := by omega
   subst this
   have hlen := packBodyK_len ok X.length (Nat.le_refl _)
   rw [List.take_length] at B hlen
   simp (disch := omega)
   refine callW_of (c568 _ (by simp; omega) h h' hp _ g B) ?_
   rintro _ h2 ⟨rfl, g2⟩
   simp [packK]
   exact g2
theorem c106 (h : Heap) (hp : 0 < h.length) (v : Value) (X : Lib) (hv : Vr h shKepts v X) (hs : siz shKepts X ≤ 1048576) : ACall Gam 106 [v] h fun r h' => Grows h h' ∧ r = .tuple #[S (packAnsK X).1, I (packAnsK X).2] := by
 obtain ⟨b, o, z, rfl, hX⟩ := hv.kat
 refine ACall_intro g106 rfl ?_
 unfold fn106
 simp (disch := omega)
 refine callW_of (c139 h hp b o z X hX fun k hk => KAt.short hs hk) ?_
 rintro _ h1 ⟨rfl, g1⟩
 have l1 := g1.le
 cases q : keptOk X
 ·simp (disch := omega) [packAnsK, q, resOf, resAll, resOne, aField, g1]
 have ok := keptOk_iff.1 q
 have h40 := ok.len
 have w8 : IntKind.u8.wrap (X.length : Int) = X.length := wrap8 (by omega) (by omega)
 have ob := one_byte (h' := h1) (x := (X.length : Int)) ⟨by omega, by omega⟩
 have tb : aConv 21 (sl h1.length 0 1 1) (h1 ++ [⟨bytesV [byteI (X.length : Int)], true⟩]) = some (S [byteI (X.length : Int)], h1 ++ [⟨bytesV [byteI (X.length : Int)], true⟩]) := text_buf (h0 := h1) (.inr ⟨h1.length, 1, rfl, rfl, Nat.le_refl _, by simp⟩)
 simp (disch := omega) [w8, ob, tb]
 have pre : ∀ k, k ≤ X.length → ([76, byteI (X.length : Int)] ++ packBodyK (X.take k)).length ≤ 2 + 60 * k := by
  intro k hk
  have := packBodyK_len ok k hk
  simp; omega
 have gb : Grows h (h1 ++ [⟨bytesV [byteI (X.length : Int)], true⟩]) := g1.push _
 refine awp_loop (fun k σ h' => Grows h h' ∧ k ≤ X.length ∧ σ 4 = S ([76, byteI (X.length : Int)] ++ packBodyK (X.take k)) ∧ σ 16 = sl b o X.length z ∧ σ 17 = I X.length ∧ σ 18 = I k) (fun k => X.length - k) 0 ?_ ?_
 ·exact ⟨gb, by omega, by simp [packBodyK], by simp, by simp, by simp⟩
 ·rintro k σ h' ⟨g, hk, q4, q16, q17, q18⟩
  simp (disch := omega) [q17, q18]
  refine fork_dec (fun hlt => ?_) (fun hge => ?_)
  ·have k1 : k < X.length := by omega
   obtain ⟨s, c, c1, vp, pp, _⟩ := (hX.grow g).cells k1
   obtain ⟨okp, hn⟩ := ok.getOk k1
   have hpl := packP_len okp
   have hl := g.le
   have hp4 := pre k hk
   have w8n : IntKind.u8.wrap (X[k].1.length : Int) = X[k].1.length := wrap8 (by omega) (by omega)
   have obn := one_byte (h' := h') (x := (X[k].1.length : Int)) ⟨by omega, by omega⟩
   have tbn : aConv 21 (sl h'.length 0 1 1) (h' ++ [⟨bytesV [byteI (X[k].1.length : Int)], true⟩]) = some (S [byteI (X[k].1.length : Int)], h' ++ [⟨bytesV [byteI (X[k].1.length : Int)], true⟩]) := text_buf (h0 := h') (.inr ⟨h'.length, 1, rfl, rfl, Nat.le_refl _, by simp⟩)
   have n1 : 1 + X[k].1.length ≤ 4611686018427387904 := by omega
   have n1' : X[k].1.length + 1 ≤ 4611686018427387904 := by omega
   have n1'' : X[k].1.length ≤ 4611686018427387903 := by omega
   obtain ⟨pr, hpr⟩ : ∃ pr, pr = [76, byteI (X.length : Int)] ++ packBodyK (X.take k) := ⟨_, rfl⟩
   rw [← hpr] at q4 hp4
   simp (disch := omega) [q4, q16, q18, k1, c, w8n, obn, tbn, n1, n1', n1'']
   refine callW_of (c180 _ X[k].2 _ (by simp) (vp.grow ⟨_, rfl⟩) okp) ?_
   rintro _ h3 ⟨rfl, g3⟩
   refine ⟨fun _ => g3, ?_⟩
   have n2 : X[k].1.length + 1 + (packP X[k].2).length ≤ 4611686018427387904 := by omega
   have n3 : pr.length + (packE X[k]).length ≤ 4611686018427387904 := by have := packE_len okp hn; omega
   have ee : byteI (X[k].1.length : Int) :: (X[k].1 ++ packP X[k].2) = packE X[k] := rfl
   simp (disch := omega) [n2, ee, n3, q17, wrap64]
   refine ⟨k + 1, ⟨g.trans (Grows.trans ⟨_, rfl⟩ g3), by omega, ?_, by omega⟩, by omega⟩
   rw [packBodyK_take k1, hpr]; simp
  ·have : k = X.length := by omega
   subst this
   have hp4 := pre X.length (Nat.le_refl _)
   rw [List.take_length] at q4 hp4
   have hp5 : (76 :: byteI (X.length : Int) :: packBodyK X).length ≤ 2 + 60 * X.length := hp4
   simp (disch := omega) [q4]
   refine callW_of (c191 _ (by omega) h') ?_
   rintro _ h2 ⟨rfl, g2⟩
   simp (disch := omega) [packAnsK, q, packK, resOf, resAll, resOne, aField]
   exact g.trans g2
theorem c397 (h : Heap) (hp : 0 < h.length) (v : Value) (X : Lib) (hv : Vr h shKepts v X) (hs : siz shKepts X ≤ 1048576) : ACall Gam 397 [v] h fun r h' => Grows h h' ∧ r = .tuple #[S (packAnsK X).1, I (packAnsK X).2] := by
 obtain ⟨b, o, z, rfl, hX⟩ := hv.kat
 refine ACall_intro g397 rfl ?_
 unfold fn397
 simp (disch := omega)
 refine callW_of (c541 h hp b o z X hX fun k hk => KAt.short hs hk) ?_
 rintro _ h1 ⟨rfl, g1⟩
 have l1 := g1.le
 cases q : keptOk X
 ·simp (disch := omega) [packAnsK, q, resOf, resAll, resOne, aField, g1]
 simp (disch := omega)
 refine callW_of (c569 h1 (by omega) b o z X (hX.grow g1) (keptOk_iff.1 q)) ?_
 rintro _ h2 ⟨rfl, g2⟩
 simp (disch := omega) [packAnsK, q, resOf, resAll, resOne, aField]
 exact g1.trans g2
theorem append_num {h : Heap} {lo hi : Nat} {v : Value} {l : List Int} {a : Int} {K : Value → Heap → Prop} (hp : 0 < lo) (hl : l.length ≤ 1048576) (hv : Bf h lo hi v 1 (ints l))
  (hK : ∀ v' h'', Mod lo hi h h'' → Bf h'' h.length h''.length v' 1 (ints (l ++ [a])) → K v' h'') :
  bindW (aBuildSlice 1 1 h [(0, .agg #[I 0]), (1, I a)]) fun y h'' => bindW (aAppend 1 h'' y v) K := by
 have e : aBuildSlice 1 1 h [(0, .agg #[I 0]), (1, I a)] = some (sl h.length 0 1 1, h ++ [⟨[I a], true⟩]) := by simp [aBuildSlice]
 rw [e]
 simp only [bindW_some]
 refine append_bf hp (hv.grow ⟨_, rfl⟩) (new := [I a]) ?_ (by omega) (by simp) (by simp) (by simp [ints, maxSize]; omega) ?_
 ·simp [newCells]
  rw [cellsAt_of (k := ⟨[I a], true⟩) (by simp) (by simp)]
  simp
 ·intro v' h'' m1 b1
  refine hK v' h'' ((Mod.push _).trans m1) ?_
  rw [ints_append]
  exact b1.wide (by simp) (Nat.le_refl _)
theorem kinds_64 (l : List UInt8) : ∀ x ∈ l.map kindB, I64 x := by
 intro x hx
 obtain ⟨c, _, rfl⟩ := List.mem_map.1 hx
 exact kindB_64 c
theorem kinds_take {l : List UInt8} {k : Nat} (hk : k < l.length) : (l.map kindB).take (k + 1) = (l.map kindB).take k ++ [kindB l[k]] := by
 rw [List.take_succ_eq_append_getElem (by simpa using hk)]; simp
theorem nth_of {l : List (List UInt8)} {i : Nat} (h : i < l.length) : nth l i = l[i] := by simp [nth, h]
def spRes (s : List UInt8) : Pan × Bool := if (spW s).length = 2 ∧ (spV s).length = 2 then (spP s, spOk s) else ((0, 0, []), false)
theorem c468 (h : Heap) (hp : 0 < h.length) (s : List UInt8) (hs : s.length ≤ 1048576) : ACall Gam 468 [S s] h fun r h' => Grows h h' ∧ ∃ r0, r = .tuple #[r0, B (spRes s).2] ∧ Vo h' h.length h'.length shPanel r0 (spRes s).1 := by
 refine ACall_intro g468 rfl ?_
 unfold fn468
 rw [awp_seq, awp_reg]
 generalize hK : seqQ Gam _ _ 0 = K
 simp (disch := omega)
 subst hK
 simp only [seqQ_zero]
 rw [awp_seq, awp_reg]
 generalize hK : seqQ Gam _ _ 0 = K
 simp (disch := omega)
 refine callW_of (split_ok (.inr rfl) s 58 hs h hp) ?_
 rintro wv h1 ⟨g1, bw⟩
 have hW : splitS 58 s = spW s := rfl
 rw [hW] at bw
 obtain ⟨wb, wo, wn, rfl, hwn, hwc⟩ := bw.reads
 have hwn' : wn = (spW s).length := by simpa [texts] using hwn
 subst hwn'
 have l1 := g1.le
 subst hK
 simp only [seqQ_zero]
 by_cases e2 : (spW s).length = 2
 rotate_left
 ·have er : spRes s = ((0, 0, []), false) := by simp [spRes, e2]
  rw [er]
  have e2' : ¬ ((spW s).length : Int) = 2 := by omega
  simp (disch := omega) [e2, e2', resOf, resAll, resOne, aField]
  exact ⟨g1, Vo.zero_panel⟩
 have e2' : ((spW s).length : Int) = 2 := by omega
 have c0 := texts_cell hwc hwn (k := 0) (by omega)
 have c1 := texts_cell hwc hwn (k := 1) (by omega)
 rw [← nth_of (i := 0) (by omega), Nat.add_zero] at c0
 rw [← nth_of (i := 1) (by omega)] at c1
 have wl : ∀ w ∈ spW s, w.length ≤ s.length := by
  intro w hw
  have := splitG_sum 58 s [] w hw
  simpa using this
 have n0 : (nth (spW s) 0).length ≤ s.length := by rw [nth_of (by omega)]; exact wl _ (List.getElem_mem _)
 have n1 : (nth (spW s) 1).length ≤ s.length := by rw [nth_of (by omega)]; exact wl _ (List.getElem_mem _)
 rw [awp_seq]
 generalize hK : seqQ Gam _ (retQ _ _) = K
 simp (disch := omega) [e2, e2']
 subst hK
 simp only [seqQ_zero]
 rw [awp_seq, awp_reg]
 generalize hK : seqQ Gam _ _ 0 = K
 simp (disch := omega) [e2, c0]
 refine callW_of (split_ok (.inr rfl) (nth (spW s) 0) 120 (by omega) h1 (by omega)) ?_
 rintro vv h2 ⟨g2, bv⟩
 have hV : splitS 120 (nth (spW s) 0) = spV s := rfl
 rw [hV] at bv
 obtain ⟨vb, vo, vn, rfl, hvn, hvc⟩ := bv.reads
 have hvn' : vn = (spV s).length := by simpa [texts] using hvn
 subst hvn'
 have g12 := g1.trans g2
 have l2 := g12.le
 subst hK
 simp only [seqQ_zero]
 by_cases e3 : (spV s).length = 2
 rotate_left
 ·have er : spRes s = ((0, 0, []), false) := by simp [spRes, e3]
  rw [er]
  have e3' : ¬ ((spV s).length : Int) = 2 := by omega
  simp (disch := omega) [e3, e3', resOf, resAll, resOne, aField]
  exact ⟨g12, Vo.zero_panel⟩
 have e3' : ((spV s).length : Int) = 2 := by omega
 have er : spRes s = (spP s, spOk s) := by simp [spRes, e2, e3]
 rw [er]
 have d0 := texts_cell hvc hvn (k := 0) (by omega)
 have d1 := texts_cell hvc hvn (k := 1) (by omega)
 rw [← nth_of (i := 0) (by omega), Nat.add_zero] at d0
 rw [← nth_of (i := 1) (by omega)] at d1
 have vl : ∀ w ∈ spV s, w.length ≤ s.length := by
  intro w hw
  have := splitG_sum 120 (nth (spW s) 0) [] w hw
  have h' : w.length ≤ (nth (spW s) 0).length := by simpa using this
  omega
 have m0 : (nth (spV s) 0).length ≤ s.length := by rw [nth_of (by omega)]; exact vl _ (List.getElem_mem _)
 have m1 : (nth (spV s) 1).length ≤ s.length := by rw [nth_of (by omega)]; exact vl _ (List.getElem_mem _)
 have c1 := g2.cell c1
 rw [awp_seq]
 generalize hK : seqQ Gam _ (retQ _ _) = K
 simp (disch := omega) [e3, e3']
 subst hK
 simp only [seqQ_zero]
 rw [awp_seq, awp_reg]
 generalize hK : seqQ Gam _ _ 0 = K
 simp (disch := omega) [e3, d0]
 refine callW_of (c439 (nth (spV s) 0) (by omega) h2 (by omega)) ?_
 rintro _ h3 ⟨g3, rfl⟩
 simp (disch := omega)
 subst hK
 simp only [seqQ_zero]
 rw [awp_seq, awp_reg]
 generalize hK : seqQ Gam _ _ 0 = K
 have d1 := g3.cell d1
 have l3 := g3.le
 simp (disch := omega) [e3, d1]
 refine callW_of (c439 (nth (spV s) 1) (by omega) h3 (by omega)) ?_
 rintro _ h4 ⟨g4, rfl⟩
 simp (disch := omega)
 subst hK
 simp only [seqQ_zero]
 have g14 := g12.trans (g3.trans g4)
 have l4 := g14.le
 have c1 := (g3.trans g4).cell c1
 have i1 := rdDec_64 (nth (spV s) 0)
 have i2 := rdDec_64 (nth (spV s) 1)
 rw [awp_seq, awp_reg]
 generalize hK : seqQ Gam _ _ 0 = K
 simp (disch := omega)
 subst hK
 simp only [seqQ_zero]
 rw [awp_seq]
 generalize hK : seqQ Gam _ (retQ _ _) = K
 simp (disch := omega)
 refine awp_loop (fun (k : Nat) σ h' => k ≤ (nth (spW s) 1).length ∧ Grows h4 h' ∧ σ 2 = .agg #[I 0, I 0, sl 0 0 0 0] ∧ σ 4 = sl wb wo 2 1 ∧ σ 7 = B (rdDec (nth (spV s) 0)).2 ∧ σ 9 = B (rdDec (nth (spV s) 1)).2 ∧ σ 11 = I k ∧ ∃ q, σ 10 = .agg #[I (rdDec (nth (spV s) 0)).1, I (rdDec (nth (spV s) 1)).1, q] ∧ Bf h' h4.length h'.length q 1 (ints (((nth (spW s) 1).map kindB).take k))) (fun k => (nth (spW s) 1).length - k) 0 ?_ ?_
 ·refine ⟨by omega, Grows.refl _, by simp, by simp [e2], by simp, by simp, by simp, sl 0 0 0 0, by simp, ?_⟩
  simp [ints]; exact Bf.nil
 ·rintro k σ h' ⟨hk, g, q2, q4, q7, q9, q11, q, q10, bf⟩
  have c1' := g.cell c1
  have lg := g.le
  simp (disch := omega) [q4, q11, c1']
  refine fork_dec (fun hlt => ?_) (fun hge => ?_)
  ·have k1 : k < (nth (spW s) 1).length := by omega
   have hat := at8_of k1
   have hea := at8_eq k1
   have hkt := kinds_take k1
   simp (disch := omega) [q4, q10, q11, c1', k1, hat, hea]
   refine callW_of (c467 _ h') ?_
   rintro _ h' ⟨rfl, rfl⟩
   try refine ⟨fun e => (by cases e), ?_⟩
   try simp (disch := omega)
   refine append_num (by omega) (by simp; omega) bf fun v2 h5 m5 b5 => ?_
   have g5 := m5.grows g (Nat.le_refl _)
   have l5 := m5.1
   obtain ⟨vb5, vn5, vz5, ev⟩ := b5.sl
   subst ev
   simp (disch := omega) [q2, q4, q7, q9, q10, q11, wrap64]
   refine ⟨k + 1, ⟨by omega, g5, by omega, ?_⟩, by omega⟩
   rw [hkt, hea]
   exact b5.wide (by omega) (Nat.le_refl _)
  ·have ek : k = (nth (spW s) 1).length := by omega
   rw [ek, List.take_of_length_le (by simp)] at bf
   have vo := bf.ints (by rw [List.length_map, maxLen_eq]; omega) (kinds_64 _)
   have vp : Vo h' h4.length h'.length shPanel (.agg #[I (rdDec (nth (spV s) 0)).1, I (rdDec (nth (spV s) 1)).1, q]) (spP s) := Vo.of_panel i1 i2 vo
   obtain ⟨vb5, vn5, vz5, ev⟩ := bf.sl
   subst ev
   subst hK
   have vw := vp.wide l4 (Nat.le_refl _)
   have gg := g14.trans g
   cases r1 : (rdDec (nth (spV s) 0)).2
   ·simp (disch := omega) [q2, q7, q9, q10, r1, resOf, resAll, resOne, aField]
    exact ⟨gg, _, ⟨rfl, by simp [spOk, r1]⟩, vw⟩
   ·cases r2 : (rdDec (nth (spV s) 1)).2
    ·simp (disch := omega) [q2, q7, q9, q10, r1, r2, resOf, resAll, resOne, aField]
     exact ⟨gg, _, ⟨rfl, by simp [spOk, r1, r2]⟩, vw⟩
    ·simp (disch := omega) [q2, q7, q9, q10, r1, r2, resOf, resAll, resOne, aField]
     exact ⟨gg, _, ⟨rfl, by simp [spOk, r1, r2]⟩, vw⟩
theorem read_sp (s : List UInt8) : readAns s = if (spRes s).2 && okP (spRes s).1 then ((spRes s).1, true) else ((0, 0, []), false) := by
 by_cases e2 : (spW s).length = 2
 ·by_cases e3 : (spV s).length = 2
  ·have er : spRes s = (spP s, spOk s) := by simp [spRes, e2, e3]
   rw [er]
   cases h1 : spOk s
   ·rw [sp_no (.inl h1)]; rfl
   ·cases h2 : okP (spP s)
    ·rw [sp_no (.inr h2)]; simp only [h2]; rfl
    ·rw [sp_yes e2 e3 h1 h2]; simp only [h2]; rfl
  ·have er : spRes s = ((0, 0, []), false) := by simp [spRes, e3]
   rw [er, sp_v e3]; rfl
 ·have er : spRes s = ((0, 0, []), false) := by simp [spRes, e2]
  rw [er, sp_w e2]; rfl
theorem c413 (h : Heap) (hp : 0 < h.length) (s : List UInt8) (hs : s.length ≤ 1048576) : ACall Gam 413 [S s] h fun r h' => Grows h h' ∧ ∃ r0, r = .tuple #[r0, B (readAns s).2] ∧ Vo h' h.length h'.length shPanel r0 (readAns s).1 := by
 refine ACall_intro g413 rfl ?_
 unfold fn413
 simp (disch := omega)
 refine callW_of (c468 h hp s hs) ?_
 rintro _ h1 ⟨g1, r0, rfl, o1⟩
 obtain ⟨a, b, c, rfl⟩ := o1.vr.panel3
 have st1 := store_box (h := h1) (cs := [I 0, I 0, sl 0 0 0 0]) (xs := [a, b, c]) rfl
 try refine ⟨fun e => (by cases e), ?_⟩
 simp (disch := omega) [st1]
 obtain ⟨h2, e2⟩ : ∃ h2, h2 = h1 ++ [⟨[a, b, c], true⟩] := ⟨_, rfl⟩
 have g2 : Grows h1 h2 := ⟨_, e2⟩
 have kb : h2[h1.length]? = some ⟨[a, b, c], true⟩ := by rw [e2]; simp
 try rw [← e2]
 have gg := g1.trans g2
 have rs := read_sp s
 cases q1 : (spRes s).2
 ·rw [q1] at rs
  have rs' : readAns s = ((0, 0, []), false) := rs
  rw [rs']
  simp (disch := omega) [resOf, resAll, resOne, aField]
  exact ⟨gg, Vo.zero_panel⟩
 rw [q1] at rs
 obtain ⟨P, hP⟩ : ∃ P, P = (spRes s).1 := ⟨_, rfl⟩
 rw [← hP] at o1 rs
 obtain ⟨W, H, br⟩ := P
 have o1' := o1
 obtain ⟨s', es, w1, w2, o3⟩ := o1.panel
 simp at es
 obtain ⟨rfl, rfl, rfl⟩ := es
 simp (disch := omega)
 refine callW_of (c452 _ (W, H, br) h2 (PtP.at kb (o3.vr.grow g2) w1 w2)) ?_
 rintro _ h2 ⟨rfl, rfl⟩
 try refine ⟨fun e => (by cases e), ?_⟩
 cases q2 : okP (W, H, br)
 ·rw [q2] at rs
  have rs' : readAns s = ((0, 0, []), false) := rs
  rw [rs']
  simp (disch := omega) [resOf, resAll, resOne, aField]
  exact ⟨gg, Vo.zero_panel⟩
 ·rw [q2] at rs
  have rs' : readAns s = ((W, H, br), true) := rs
  rw [rs']
  have cl : cellsAt h2 h1.length 0 3 = some [I W, I H, c] := cellsAt_all kb rfl
  simp (disch := omega) [cl, resOf, resAll, resOne, aField]
  exact ⟨gg, (o1'.grow g2).wide (Nat.le_refl _) g2.le⟩
theorem idx_rng : ∀ (s : List UInt8) (c : UInt8) (i : Nat), -1 ≤ idx s c i ∧ idx s c i < i + s.length ∧ (idx s c i = -1 ∨ (i : Int) ≤ idx s c i)
 | [], c, i => by simp [idx]; omega
 | x :: r, c, i => by
  simp only [idx]
  split
  ·simp only [List.length_cons]; omega
  ·have := idx_rng r c (i + 1)
   simp only [List.length_cons]; omega
theorem idx_at : ∀ (s : List UInt8) (c : UInt8) (i n : Nat), idx s c i = ((i + n : Nat) : Int) → s[n]? = some c
 | [], c, i, n, h => by simp only [idx] at h; omega
 | x :: r, c, i, n, h => by
  simp only [idx] at h
  split at h
  ·rename_i e
   have : n = 0 := by omega
   subst this; simp [e]
  ·have h1 := idx_rng r c (i + 1)
   obtain ⟨m, rfl⟩ : ∃ m, n = m + 1 := ⟨n - 1, by omega⟩
   have := idx_at r c (i + 1) m (by rw [h]; congr 1; omega)
   simpa using this
theorem c122 (h : Heap) (hp : 0 < h.length) (s : List UInt8) (hs : s.length ≤ 1048576) : ACall Gam 122 [S s] h fun r h' => Grows h h' ∧ ∃ r0, r = .tuple #[r0, B (readAns s).2] ∧ Vo h' h.length h'.length shPanel r0 (readAns s).1 := by
 obtain ⟨i1, i2, i3⟩ := idx_rng s 120 0
 obtain ⟨j1, j2, j3⟩ := idx_rng s 58 0
 refine ACall_intro g122 rfl ?_
 unfold fn122
 simp (disch := omega)
 refine callW_of (c183 s hs 120 h) ?_
 rintro _ h ⟨rfl, rfl⟩
 try refine ⟨fun e => (by cases e), ?_⟩
 simp (disch := omega)
 refine callW_of (c183 s hs 58 h) ?_
 rintro _ h ⟨rfl, rfl⟩
 try refine ⟨fun e => (by cases e), ?_⟩
 obtain ⟨x, hx⟩ : ∃ x, x = idx s 120 0 := ⟨_, rfl⟩
 obtain ⟨c, hc⟩ : ∃ c, c = idx s 58 0 := ⟨_, rfl⟩
 rw [← hx] at i1 i2 i3 ⊢
 rw [← hc] at j1 j2 j3 ⊢
 have bad : x < 0 ∨ c < x ∨ (129 : Int) < s.length - c → readAns s = ((0, 0, []), false) := fun q => rp_bad (by unfold rpBad; rw [← hx, ← hc]; exact q)
 by_cases b1 : x < 0
 ·have rs' := bad (.inl b1)
  rw [rs']
  simp (disch := omega) [b1, resOf, resAll, resOne, aField]
  exact ⟨Grows.refl _, Vo.zero_panel⟩
 by_cases b2 : c < x
 ·have rs' := bad (.inr (.inl b2))
  rw [rs']
  simp (disch := omega) [b1, b2, resOf, resAll, resOne, aField]
  exact ⟨Grows.refl _, Vo.zero_panel⟩
 by_cases b3 : (129 : Int) < s.length - c
 ·have rs' := bad (.inr (.inr b3))
  rw [rs']
  simp (disch := omega) [b1, b2, b3, wrap64, resOf, resAll, resOne, aField]
  exact ⟨Grows.refl _, Vo.zero_panel⟩
 obtain ⟨xn, rfl⟩ := Int.eq_ofNat_of_zero_le (show 0 ≤ x by omega)
 obtain ⟨cn, rfl⟩ := Int.eq_ofNat_of_zero_le (show 0 ≤ c by omega)
 have ex : rpX s = xn := by unfold rpX; rw [← hx]; rfl
 have ec : rpC s = cn := by unfold rpC; rw [← hc]; rfl
 have hxc : xn + 1 ≤ cn := by
  have : xn ≠ cn := by
   rintro rfl
   have a1 := idx_at s 120 0 xn (by rw [← hx]; simp)
   have a2 := idx_at s 58 0 xn (by rw [← hc]; simp)
   rw [a1] at a2
   simp at a2
  omega
 have hcl : cn ≤ s.length := by omega
 have hP : rpP s = ((rdDec (s.take xn)).1, (rdDec ((s.take cn).drop (xn + 1))).1, (s.drop (cn + 1)).map kindB) := by unfold rpP; rw [ex, ec]
 have hOk : rpOk s = ((rdDec (s.take xn)).2 && ((rdDec ((s.take cn).drop (xn + 1))).2 && (okP (rpP s) && decide (pTxt (rpP s) = s)))) := by unfold rpOk; rw [ex, ec]
 have b1' : ¬ ((xn : Nat) : Int) < 0 := by omega
 have s1 := slice_to (h := h) (s := s) (b := xn) (by omega)
 simp (disch := omega) [b1', b2, b3, wrap64, s1]
 refine callW_of (c118 (s.take xn) (by simp; omega) h hp) ?_
 rintro _ h1 ⟨g1, rfl⟩
 try refine ⟨fun e => (by cases e), ?_⟩
 have l1 := g1.le
 obtain ⟨x1, hx1⟩ : ∃ x1, x1 = xn + 1 := ⟨_, rfl⟩
 rw [← hx1] at hP hOk hxc
 have s2 := slice_text (h := h1) (s := s) (a := x1) (b := cn) (by omega) (by omega)
 have e1 : (xn : Int) + 1 = (x1 : Int) := by omega
 simp (disch := omega) [wrap64, e1, s2]
 refine callW_of (c118 ((s.take cn).drop x1) (by simp; omega) h1 (by omega)) ?_
 rintro _ h2 ⟨g2, rfl⟩
 try refine ⟨fun e => (by cases e), ?_⟩
 have g12 := g1.trans g2
 have l2 := g12.le
 have i64a := rdDec_64 (s.take xn)
 have i64b := rdDec_64 ((s.take cn).drop x1)
 obtain ⟨c1, hc1⟩ : ∃ c1, c1 = cn + 1 := ⟨_, rfl⟩
 have e2 : (cn : Int) + 1 = (c1 : Int) := by omega
 rw [← hc1] at hP
 simp (disch := omega) [wrap64, e2]
 refine awp_loop (fun (k : Nat) σ h' => c1 + k ≤ s.length ∧ Grows h2 h' ∧ σ 0 = S s ∧ σ 2 = .agg #[I 0, I 0, sl 0 0 0 0] ∧ σ 7 = B (rdDec (s.take xn)).2 ∧ σ 9 = B (rdDec ((s.take cn).drop x1)).2 ∧ σ 11 = I ((c1 : Int) + k) ∧ ∃ q, σ 10 = .agg #[I (rdDec (s.take xn)).1, I (rdDec ((s.take cn).drop x1)).1, q] ∧ Bf h' h2.length h'.length q 1 (ints (((s.drop c1).map kindB).take k))) (fun k => s.length - k) 0 ?_ ?_
 ·refine ⟨by omega, Grows.refl _, by simp, by simp, by simp, by simp, by simp, sl 0 0 0 0, by simp, ?_⟩
  simp [ints]; exact Bf.nil
 ·rintro k σ h' ⟨hk, g, q0, q2, q7, q9, q11, q, q10, bf⟩
  have lg := g.le
  simp (disch := omega) [q0, q11]
  refine fork_dec (fun hlt => ?_) (fun hge => ?_)
  ·have k1 : c1 + k < s.length := by omega
   have kl : k < (s.drop c1).length := by rw [List.length_drop]; omega
   have hat := at8_of k1
   have hea := at8_eq k1
   have hkt := kinds_take kl
   have hd : (s.drop c1)[k] = at8 s (c1 + k) := by rw [List.getElem_drop]; exact hea
   rw [hd] at hkt
   have t1 : ((c1 : Int) + k).toNat = c1 + k := by omega
   have t2 : (0 : Int) ≤ (c1 : Int) + k := by omega
   have t3 : (c1 : Int) + k < s.length := by omega
   simp (disch := omega) [q0, q10, q11, k1, hat, hea, t1, t2, t3]
   refine callW_of (c174 _ h') ?_
   rintro _ h' ⟨rfl, rfl⟩
   try refine ⟨fun e => (by cases e), ?_⟩
   try simp (disch := omega)
   refine append_num (by omega) (by simp; omega) bf fun v2 h5 m5 b5 => ?_
   have g5 := m5.grows g (Nat.le_refl _)
   have l5 := m5.1
   obtain ⟨vb5, vn5, vz5, ev⟩ := b5.sl
   subst ev
   simp (disch := omega) [q0, q2, q7, q9, q10, q11, wrap64]
   refine ⟨k + 1, ⟨by omega, g5, by omega, ?_⟩, by omega⟩
   rw [← List.map_drop, hkt]
   exact b5.wide (by omega) (Nat.le_refl _)
  ·have ek : (s.drop c1).length ≤ k := by rw [List.length_drop]; omega
   rw [List.take_of_length_le (by rw [List.length_map]; exact ek)] at bf
   have vo := bf.ints (by rw [List.length_map, List.length_drop, maxLen_eq]; omega) (kinds_64 _)
   have vp : Vo h' h2.length h'.length shPanel (.agg #[I (rdDec (s.take xn)).1, I (rdDec ((s.take cn).drop x1)).1, q]) (rpP s) := by
    rw [hP]; exact Vo.of_panel i64a i64b vo
   have vw := vp.wide l2 (Nat.le_refl _)
   have gg := g12.trans g
   have lh := gg.le
   obtain ⟨vb5, vn5, vz5, ev⟩ := bf.sl
   subst ev
   simp (disch := omega)
   cases r1 : (rdDec (s.take xn)).2
   ·have rs' : readAns s = ((0, 0, []), false) := rp_no (by rw [hOk, r1]; rfl)
    rw [rs']
    simp (disch := omega) [q2, q7, q9, q10, r1, resOf, resAll, resOne, aField]
    exact ⟨gg, Vo.zero_panel⟩
   cases r2 : (rdDec ((s.take cn).drop x1)).2
   ·have rs' : readAns s = ((0, 0, []), false) := rp_no (by rw [hOk, r1, r2]; rfl)
    rw [rs']
    simp (disch := omega) [q2, q7, q9, q10, r1, r2, resOf, resAll, resOne, aField]
    exact ⟨gg, Vo.zero_panel⟩
   simp (disch := omega) [q2, q7, q9, q10, r1, r2]
   refine callW_of (c140 _ (rpP s) h' vp.vr) ?_
   rintro _ h' ⟨rfl, rfl⟩
   try refine ⟨fun e => (by cases e), ?_⟩
   cases r3 : okP (rpP s)
   ·have rs' : readAns s = ((0, 0, []), false) := rp_no (by rw [hOk, r1, r2, r3]; rfl)
    rw [rs']
    simp (disch := omega) [q2, q7, q9, q10, r1, r2, resOf, resAll, resOne, aField]
    exact ⟨gg, Vo.zero_panel⟩
   simp (disch := omega) [q0, q2, q7, q9, q10, r1, r2]
   refine callW_of (c182 _ (rpP s) h' (by omega) vp.vr (okP_iff.1 r3)) ?_
   rintro _ h6 ⟨rfl, g6⟩
   try refine ⟨fun e => (by cases e), ?_⟩
   by_cases r4 : pTxt (rpP s) = s
   ·have rs' : readAns s = (rpP s, true) := rp_yes (by rw [hOk, r1, r2, r3]; simp [r4])
    rw [rs']
    simp (disch := omega) [q0, q2, q7, q9, q10, r4, resOf, resAll, resOne, aField]
    exact ⟨gg.trans g6, (vw.grow g6).wide (Nat.le_refl _) g6.le⟩
   ·have rs' : readAns s = ((0, 0, []), false) := rp_no (by rw [hOk, r1, r2, r3]; simp [r4])
    rw [rs']
    simp (disch := omega) [q0, q2, q7, q9, q10, r4, resOf, resAll, resOne, aField]
    exact ⟨gg.trans g6, Vo.zero_panel⟩
/-- Rows in own memory, one behind the other. -/
structure KR (h0 h : Heap) (L : List Row) : Prop where
 el : ∀ r ∈ L, EntO h r
 nd : (L.map rowB).flatten.Nodup
 rg : ∀ r ∈ L, ∀ c ∈ rowB r, h0.length ≤ c
theorem KR.nil {h0 h : Heap} : KR h0 h [] := ⟨by simp, by simp, by simp⟩
theorem KR.grow {h0 h h' : Heap} {L : List Row} (k : KR h0 h L) (g : Grows h h') : KR h0 h' L :=
 ⟨fun r hr => (k.el r hr).frame fun c hc => g.look ((k.el r hr).lt c hc), k.nd, k.rg⟩
theorem KR.snoc {h0 h h1 : Heap} {L : List Row} {n : List UInt8} {Y : Pan} {v : Value} (k : KR h0 h L) (g : Grows h0 h) (g1 : Grows h h1) (o : Vo h1 h.length h1.length shPanel v Y) (hn : n.length ≤ 12) : ∃ r a b c, v = .agg #[a, b, c] ∧ KR h0 h1 (L ++ [r]) ∧ rowC r = [S n, a, b, c] ∧ r.1 = (n, Y) := by
 obtain ⟨W, H, br⟩ := Y
 obtain ⟨s, rfl, w1, w2, o⟩ := o.panel
 obtain ⟨b, z, rfl, hz, hm, hx, hb⟩ := o.ints
 refine ⟨((n, W, H, br), b, z), _, _, _, rfl, ⟨fun q hq => ?_, ?_, fun q hq c hc => ?_⟩, rfl, rfl⟩
 ·rcases List.mem_append.1 hq with hq | hq
  ·exact (k.grow g1).el q hq
  ·simp at hq; subst hq
   exact ⟨hz, hm, hx, hb.imp id fun q => q.1, w1, w2, by rw [maxLen_eq]; show n.length ≤ _; omega⟩
 ·rw [List.map_append, List.flatten_append, List.nodup_append]
  refine ⟨k.nd, by simp [rowB]; split <;> simp, ?_⟩
  intro c hc c' hc'
  obtain ⟨t, ht, hct⟩ := List.mem_flatten.1 hc
  obtain ⟨q, hq, rfl⟩ := List.mem_map.1 ht
  have hlt := (k.el q hq).lt c hct
  simp at hc'
  unfold rowB at hc'
  split at hc'
  ·simp at hc'
  ·rename_i h0
   simp at hc'
   have := (hb.resolve_left h0).2.1
   omega
 ·rcases List.mem_append.1 hq with hq | hq
  ·exact k.rg q hq c hc
  ·simp at hq; subst hq
   unfold rowB at hc
   split at hc
   ·simp at hc
   ·rename_i h0
    simp at hc
    have := (hb.resolve_left h0).2.1
    have := g.le
    omega
theorem c543 (h : Heap) (hp : 0 < h.length) (s : List UInt8) (hs : s.length ≤ 100) (X : Pan) (ok : okP X = true) (hX : pTxt X = s) : ACall Gam 543 [S s] h fun r h' => Grows h h' ∧ Vo h' h.length h'.length shPanel r (canonP X) := by
 have ok' := okP_iff.1 ok
 have ra : readAns s = (X, true) := by rw [← hX]; exact readAns_some ok'
 refine ACall_intro g543 rfl ?_
 unfold fn543
 simp (disch := omega)
 refine callW_of (c413 h hp s (by omega)) ?_
 rintro _ h1 ⟨g1, r0, rfl, o1⟩
 rw [ra] at o1 ⊢
 obtain ⟨W, H, br⟩ := X
 obtain ⟨s', rfl, w1, w2, o3⟩ := o1.panel
 have st1 := store_box (h := h1) (cs := [I 0, I 0, sl 0 0 0 0]) (xs := [I W, I H, s']) rfl
 try refine ⟨fun e => (by cases e), ?_⟩
 simp (disch := omega) [st1]
 obtain ⟨h2, e2⟩ : ∃ h2, h2 = h1 ++ [⟨[I W, I H, s'], true⟩] := ⟨_, rfl⟩
 have g2 : Grows h1 h2 := ⟨_, e2⟩
 have kb : h2[h1.length]? = some ⟨[I W, I H, s'], true⟩ := by rw [e2]; simp
 rw [← e2]
 have l2 := (g1.trans g2).le
 refine callW_of (c476 h2 (by omega) _ (W, H, br) (PtP.at kb (o3.vr.grow g2) w1 w2) ok') ?_
 rintro v3 h3 ⟨g3, o4⟩
 try refine ⟨fun e => (by cases e), ?_⟩
 obtain ⟨a, b, c, rfl⟩ := o4.vr.panel3
 simp (disch := omega)
 exact ⟨g1.trans (g2.trans g3), o4.wide l2 (Nat.le_refl _)⟩
def stdX : List (List UInt8 × Pan) := [([98, 114, 105, 99, 107], (2, 1, [0])), ([99, 97, 114, 112, 101, 116], (3, 3, [0, 0, 0, 0, 0, 0, 0, 0, 0, 0, 0, 0])), ([99, 104, 97, 105, 110], (4, 1, [0, 0, 0])), ([100, 105, 97, 109, 111, 110, 100], (1, 1, [])), ([114, 105, 110, 103, 115], (2, 2, [0, 0, 0, 0])), ([116, 119, 111], (2, 1, [1]))]
noncomputable def stdK : Lib := stdX.map fun k => (k.1, canonP k.2)
theorem std_t1 : okP ((2, 1, [0]) : Pan) = true ∧ pTxt ((2, 1, [0]) : Pan) = [50, 120, 49, 58, 43] := by
 have ok : okP ((2, 1, [0]) : Pan) = true := by decide
 exact ⟨ok, by rw [pTxt_ok (okP_iff.1 ok)]; decide⟩
theorem std_t2 : okP ((3, 3, [0, 0, 0, 0, 0, 0, 0, 0, 0, 0, 0, 0]) : Pan) = true ∧ pTxt ((3, 3, [0, 0, 0, 0, 0, 0, 0, 0, 0, 0, 0, 0]) : Pan) = [51, 120, 51, 58, 43, 43, 43, 43, 43, 43, 43, 43, 43, 43, 43, 43] := by
 have ok : okP ((3, 3, [0, 0, 0, 0, 0, 0, 0, 0, 0, 0, 0, 0]) : Pan) = true := by decide
 exact ⟨ok, by rw [pTxt_ok (okP_iff.1 ok)]; decide⟩
theorem std_t3 : okP ((4, 1, [0, 0, 0]) : Pan) = true ∧ pTxt ((4, 1, [0, 0, 0]) : Pan) = [52, 120, 49, 58, 43, 43, 43] := by
 have ok : okP ((4, 1, [0, 0, 0]) : Pan) = true := by decide
 exact ⟨ok, by rw [pTxt_ok (okP_iff.1 ok)]; decide⟩
theorem std_t4 : okP ((1, 1, []) : Pan) = true ∧ pTxt ((1, 1, []) : Pan) = [49, 120, 49, 58] := by
 have ok : okP ((1, 1, []) : Pan) = true := by decide
 exact ⟨ok, by rw [pTxt_ok (okP_iff.1 ok)]; decide⟩
theorem std_t5 : okP ((2, 2, [0, 0, 0, 0]) : Pan) = true ∧ pTxt ((2, 2, [0, 0, 0, 0]) : Pan) = [50, 120, 50, 58, 43, 43, 43, 43] := by
 have ok : okP ((2, 2, [0, 0, 0, 0]) : Pan) = true := by decide
 exact ⟨ok, by rw [pTxt_ok (okP_iff.1 ok)]; decide⟩
theorem std_t6 : okP ((2, 1, [1]) : Pan) = true ∧ pTxt ((2, 1, [1]) : Pan) = [50, 120, 49, 58, 124] := by
 have ok : okP ((2, 1, [1]) : Pan) = true := by decide
 exact ⟨ok, by rw [pTxt_ok (okP_iff.1 ok)]; decide⟩
theorem std_siz : siz shKepts stdK ≤ 16777216 := by
 have := small_siz (X := stdK) (n := 6) (by simp [stdK, stdX]) (by
  intro y hy
  obtain ⟨k, hk, rfl⟩ := List.mem_map.1 hy
  have key : ∀ k ∈ stdX, k.1.length ≤ 12 ∧ okP k.2 = true := by decide
  obtain ⟨h1, h2⟩ := key k hk
  exact ⟨h1, (canonP_ok (okP_iff.1 h2)).siz⟩)
 omega
theorem c422 (h : Heap) (hp : 0 < h.length) : ACall Gam 422 [] h fun r h' => Grows h h' ∧ Vo h' h.length h'.length shKepts r stdK ∧ siz shKepts stdK ≤ 16777216 := by
 refine ACall_intro g422 rfl ?_
 unfold fn422
 have k0 : KR h h [] := KR.nil
 have G0 : Grows h h := Grows.refl h
 simp (disch := omega)
 refine callW_of (c543 h (by have := G0.le; omega) _ (by simp) (2, 1, [0]) std_t1.1 std_t1.2) ?_
 rintro v1 h1 ⟨g1, o1⟩
 try refine ⟨fun e => (by cases e), ?_⟩
 obtain ⟨r1, a1, b1, c1, rfl, k1, e1, n1⟩ := k0.snoc (n := [98, 114, 105, 99, 107]) G0 g1 o1 (by simp)
 have G1 := G0.trans g1
 try simp (disch := omega)
 refine callW_of (c543 h1 (by have := G1.le; omega) _ (by simp) (3, 3, [0, 0, 0, 0, 0, 0, 0, 0, 0, 0, 0, 0]) std_t2.1 std_t2.2) ?_
 rintro v2 h2 ⟨g2, o2⟩
 try refine ⟨fun e => (by cases e), ?_⟩
 obtain ⟨r2, a2, b2, c2, rfl, k2, e2, n2⟩ := k1.snoc (n := [99, 97, 114, 112, 101, 116]) G1 g2 o2 (by simp)
 have G2 := G1.trans g2
 try simp (disch := omega)
 refine callW_of (c543 h2 (by have := G2.le; omega) _ (by simp) (4, 1, [0, 0, 0]) std_t3.1 std_t3.2) ?_
 rintro v3 h3 ⟨g3, o3⟩
 try refine ⟨fun e => (by cases e), ?_⟩
 obtain ⟨r3, a3, b3, c3, rfl, k3, e3, n3⟩ := k2.snoc (n := [99, 104, 97, 105, 110]) G2 g3 o3 (by simp)
 have G3 := G2.trans g3
 try simp (disch := omega)
 refine callW_of (c543 h3 (by have := G3.le; omega) _ (by simp) (1, 1, []) std_t4.1 std_t4.2) ?_
 rintro v4 h4 ⟨g4, o4⟩
 try refine ⟨fun e => (by cases e), ?_⟩
 obtain ⟨r4, a4, b4, c4, rfl, k4, e4, n4⟩ := k3.snoc (n := [100, 105, 97, 109, 111, 110, 100]) G3 g4 o4 (by simp)
 have G4 := G3.trans g4
 try simp (disch := omega)
 refine callW_of (c543 h4 (by have := G4.le; omega) _ (by simp) (2, 2, [0, 0, 0, 0]) std_t5.1 std_t5.2) ?_
 rintro v5 h5 ⟨g5, o5⟩
 try refine ⟨fun e => (by cases e), ?_⟩
 obtain ⟨r5, a5, b5, c5, rfl, k5, e5, n5⟩ := k4.snoc (n := [114, 105, 110, 103, 115]) G4 g5 o5 (by simp)
 have G5 := G4.trans g5
 try simp (disch := omega)
 refine callW_of (c543 h5 (by have := G5.le; omega) _ (by simp) (2, 1, [1]) std_t6.1 std_t6.2) ?_
 rintro v6 h6 ⟨g6, o6⟩
 try refine ⟨fun e => (by cases e), ?_⟩
 obtain ⟨r6, a6, b6, c6, rfl, k6, e6, n6⟩ := k5.snoc (n := [116, 119, 111]) G5 g6 o6 (by simp)
 have G6 := G5.trans g6
 have eb : aBuildSlice 4 6 h6 [(0, .agg #[S [], I 0, I 0, sl 0 0 0 0, S [], I 0, I 0, sl 0 0 0 0, S [], I 0, I 0, sl 0 0 0 0, S [], I 0, I 0, sl 0 0 0 0, S [], I 0, I 0, sl 0 0 0 0, S [], I 0, I 0, sl 0 0 0 0]), (4, .agg #[S [98, 114, 105, 99, 107], a1, b1, c1]), (4004, .agg #[S [99, 97, 114, 112, 101, 116], a2, b2, c2]), (8004, .agg #[S [99, 104, 97, 105, 110], a3, b3, c3]), (12004, .agg #[S [100, 105, 97, 109, 111, 110, 100], a4, b4, c4]), (16004, .agg #[S [114, 105, 110, 103, 115], a5, b5, c5]), (20004, .agg #[S [116, 119, 111], a6, b6, c6])] = some (sl h6.length 0 6 4, h6 ++ [⟨rowsC [r1, r2, r3, r4, r5, r6], true⟩]) := by
  simp [aBuildSlice, rowsC, e1, e2, e3, e4, e5, e6]
 simp (disch := omega) [eb]
 have gl : Grows h6 (h6 ++ [⟨rowsC [r1, r2, r3, r4, r5, r6], true⟩]) := ⟨_, rfl⟩
 have kk := k6.grow gl
 simp only [List.nil_append, List.cons_append] at kk
 have kb : KB h (h6 ++ [⟨rowsC [r1, r2, r3, r4, r5, r6], true⟩]) (sl h6.length 0 6 4) [r1, r2, r3, r4, r5, r6] := ⟨.inr ⟨h6.length, 6, rfl, by rw [rowsC_len]; rfl, G6.le, by simp⟩, kk.el, kk.nd, kk.rg⟩
 have vo := kb.vo (by rw [maxLen_eq]; simp)
 have em : [r1, r2, r3, r4, r5, r6].map (·.1) = stdK := by simp [stdK, stdX, n1, n2, n3, n4, n5, n6]
 rw [em] at vo
 have lg : (h6 ++ [(⟨rowsC [r1, r2, r3, r4, r5, r6], true⟩ : Blk)]).length = h6.length + 1 := by simp
 rw [lg] at vo
 exact ⟨G6.trans gl, vo, std_siz⟩
end Am
