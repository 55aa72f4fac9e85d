/- Contracts: AmY21, AmY22, AmY23, AmY24, AmY25, AmY26, AmY28, AmY29, AmY30. -/
import Derived.Test.YtbljglfnbjbknaaGreatAmK7
import Derived.Test.YtbljglfnbjbknaaGreatAmK4
import Derived.Test.YtbljglfnbjbknaaGreatAmK2
set_option linter.unusedVariables false
set_option linter.unusedSimpArgs false
set_option maxHeartbeats 4000000
set_option maxRecDepth 40000
namespace Am
open Go
theorem append_num {h : Heap} {lo hi : Nat} {v : Value} {l : List Int} {a : Int} {K : Value → Heap → Prop} (hp : 0 < lo) (hl : l.length ≤ 1048576) (hv : Bf h lo hi v 1 (ints l))
  (hK : ∀ v' h'', Mod lo hi h h'' → Bf h'' h.length h''.length v' 1 (ints (l ++ [a])) → K v' h'') :
  bindW (aBuildSlice 1 1 h [(0, .agg #[I 0]), (1, I a)]) fun y h'' => bindW (aAppend 1 h'' y v) K := by
 have e : aBuildSlice 1 1 h [(0, .agg #[I 0]), (1, I a)] = some (sl h.length 0 1 1, h ++ [⟨[I a], true⟩]) := by simp [aBuildSlice]
 rw [e]
 simp only [bindW_some]
 refine append_bf hp (hv.grow ⟨_, rfl⟩) (new := [I a]) ?_ (by omega) (by simp) (by simp) (by simp [ints, maxSize]; omega) ?_
 ·simp [newCells]
  rw [cellsAt_of (k := ⟨[I a], true⟩) (by simp) (by simp)]
  simp
 ·intro v' h'' m1 b1
  refine hK v' h'' ((Mod.push _).trans m1) ?_
  rw [ints_append]
  exact b1.wide (by simp) (Nat.le_refl _)
theorem kinds_64 (l : List UInt8) : ∀ x ∈ l.map kindB, I64 x := by
 intro x hx
 obtain ⟨c, _, rfl⟩ := List.mem_map.1 hx
 exact kindB_64 c
theorem kinds_take {l : List UInt8} {k : Nat} (hk : k < l.length) : (l.map kindB).take (k + 1) = (l.map kindB).take k ++ [kindB l[k]] := by
 rw [List.take_succ_eq_append_getElem (by simpa using hk)]; simp
theorem nth_of {l : List (List UInt8)} {i : Nat} (h : i < l.length) : nth l i = l[i] := by simp [nth, h]
def spRes (s : List UInt8) : Pan × Bool := if (spW s).length = 2 ∧ (spV s).length = 2 then (spP s, spOk s) else ((0, 0, []), false)
theorem c468 (h : Heap) (hp : 0 < h.length) (s : List UInt8) (hs : s.length ≤ 1048576) : ACall Gam 468 [S s] h fun r h' => Grows h h' ∧ ∃ r0, r = .tuple #[r0, B (spRes s).2] ∧ Vo h' h.length h'.length shPanel r0 (spRes s).1 := by
 refine ACall_intro g468 rfl ?_
 unfold fn468
 rw [awp_seq, awp_reg]
 generalize hK : seqQ Gam _ _ 0 = K
 simp (disch := omega)
 subst hK
 simp only [seqQ_zero]
 rw [awp_seq, awp_reg]
 generalize hK : seqQ Gam _ _ 0 = K
 simp (disch := omega)
 refine callW_of (split_ok (.inr rfl) s 58 hs h hp) ?_
 rintro wv h1 ⟨g1, bw⟩
 have hW : splitS 58 s = spW s := rfl
 rw [hW] at bw
 obtain ⟨wb, wo, wn, rfl, hwn, hwc⟩ := bw.reads
 have hwn' : wn = (spW s).length := by simpa [texts] using hwn
 subst hwn'
 have l1 := g1.le
 subst hK
 simp only [seqQ_zero]
 by_cases e2 : (spW s).length = 2
 rotate_left
 ·have er : spRes s = ((0, 0, []), false) := by simp [spRes, e2]
  rw [er]
  have e2' : ¬ ((spW s).length : Int) = 2 := by omega
  simp (disch := omega) [e2, e2', resOf, resAll, resOne, aField]
  exact ⟨g1, Vo.zero_panel⟩
 have e2' : ((spW s).length : Int) = 2 := by omega
 have c0 := texts_cell hwc hwn (k := 0) (by omega)
 have c1 := texts_cell hwc hwn (k := 1) (by omega)
 rw [← nth_of (i := 0) (by omega), Nat.add_zero] at c0
 rw [← nth_of (i := 1) (by omega)] at c1
 have wl : ∀ w ∈ spW s, w.length ≤ s.length := by
  intro w hw
  have := splitG_sum 58 s [] w hw
  simpa using this
 have n0 : (nth (spW s) 0).length ≤ s.length := by rw [nth_of (by omega)]; exact wl _ (List.getElem_mem _)
 have n1 : (nth (spW s) 1).length ≤ s.length := by rw [nth_of (by omega)]; exact wl _ (List.getElem_mem _)
 rw [awp_seq]
 generalize hK : seqQ Gam _ (retQ _ _) = K
 simp (disch := omega) [e2, e2']
 subst hK
 simp only [seqQ_zero]
 rw [awp_seq, awp_reg]
 generalize hK : seqQ Gam _ _ 0 = K
 simp (disch := omega) [e2, c0]
 refine callW_of (split_ok (.inr rfl) (nth (spW s) 0) 120 (by omega) h1 (by omega)) ?_
 rintro vv h2 ⟨g2, bv⟩
 have hV : splitS 120 (nth (spW s) 0) = spV s := rfl
 rw [hV] at bv
 obtain ⟨vb, vo, vn, rfl, hvn, hvc⟩ := bv.reads
 have hvn' : vn = (spV s).length := by simpa [texts] using hvn
 subst hvn'
 have g12 := g1.trans g2
 have l2 := g12.le
 subst hK
 simp only [seqQ_zero]
 by_cases e3 : (spV s).length = 2
 rotate_left
 ·have er : spRes s = ((0, 0, []), false) := by simp [spRes, e3]
  rw [er]
  have e3' : ¬ ((spV s).length : Int) = 2 := by omega
  simp (disch := omega) [e3, e3', resOf, resAll, resOne, aField]
  exact ⟨g12, Vo.zero_panel⟩
 have e3' : ((spV s).length : Int) = 2 := by omega
 have er : spRes s = (spP s, spOk s) := by simp [spRes, e2, e3]
 rw [er]
 have d0 := texts_cell hvc hvn (k := 0) (by omega)
 have d1 := texts_cell hvc hvn (k := 1) (by omega)
 rw [← nth_of (i := 0) (by omega), Nat.add_zero] at d0
 rw [← nth_of (i := 1) (by omega)] at d1
 have vl : ∀ w ∈ spV s, w.length ≤ s.length := by
  intro w hw
  have := splitG_sum 120 (nth (spW s) 0) [] w hw
  have h' : w.length ≤ (nth (spW s) 0).length := by simpa using this
  omega
 have m0 : (nth (spV s) 0).length ≤ s.length := by rw [nth_of (by omega)]; exact vl _ (List.getElem_mem _)
 have m1 : (nth (spV s) 1).length ≤ s.length := by rw [nth_of (by omega)]; exact vl _ (List.getElem_mem _)
 have c1 := g2.cell c1
 rw [awp_seq]
 generalize hK : seqQ Gam _ (retQ _ _) = K
 simp (disch := omega) [e3, e3']
 subst hK
 simp only [seqQ_zero]
 rw [awp_seq, awp_reg]
 generalize hK : seqQ Gam _ _ 0 = K
 simp (disch := omega) [e3, d0]
 refine callW_of (c439 (nth (spV s) 0) (by omega) h2 (by omega)) ?_
 rintro _ h3 ⟨g3, rfl⟩
 simp (disch := omega)
 subst hK
 simp only [seqQ_zero]
 rw [awp_seq, awp_reg]
 generalize hK : seqQ Gam _ _ 0 = K
 have d1 := g3.cell d1
 have l3 := g3.le
 simp (disch := omega) [e3, d1]
 refine callW_of (c439 (nth (spV s) 1) (by omega) h3 (by omega)) ?_
 rintro _ h4 ⟨g4, rfl⟩
 simp (disch := omega)
 subst hK
 simp only [seqQ_zero]
 have g14 := g12.trans (g3.trans g4)
 have l4 := g14.le
 have c1 := (g3.trans g4).cell c1
 have i1 := rdDec_64 (nth (spV s) 0)
 have i2 := rdDec_64 (nth (spV s) 1)
 rw [awp_seq, awp_reg]
 generalize hK : seqQ Gam _ _ 0 = K
 simp (disch := omega)
 subst hK
 simp only [seqQ_zero]
 rw [awp_seq]
 generalize hK : seqQ Gam _ (retQ _ _) = K
 simp (disch := omega)
 refine awp_loop (fun (k : Nat) σ h' => k ≤ (nth (spW s) 1).length ∧ Grows h4 h' ∧ σ 2 = .agg #[I 0, I 0, sl 0 0 0 0] ∧ σ 4 = sl wb wo 2 1 ∧ σ 7 = B (rdDec (nth (spV s) 0)).2 ∧ σ 9 = B (rdDec (nth (spV s) 1)).2 ∧ σ 11 = I k ∧ ∃ q, σ 10 = .agg #[I (rdDec (nth (spV s) 0)).1, I (rdDec (nth (spV s) 1)).1, q] ∧ Bf h' h4.length h'.length q 1 (ints (((nth (spW s) 1).map kindB).take k))) (fun k => (nth (spW s) 1).length - k) 0 ?_ ?_
 ·refine ⟨by omega, Grows.refl _, by simp, by simp [e2], by simp, by simp, by simp, sl 0 0 0 0, by simp, ?_⟩
  simp [ints]; exact Bf.nil
 ·rintro k σ h' ⟨hk, g, q2, q4, q7, q9, q11, q, q10, bf⟩
  have c1' := g.cell c1
  have lg := g.le
  simp (disch := omega) [q4, q11, c1']
  refine fork_dec (fun hlt => ?_) (fun hge => ?_)
  ·have k1 : k < (nth (spW s) 1).length := by omega
   have hat := at8_of k1
   have hea := at8_eq k1
   have hkt := kinds_take k1
   simp (disch := omega) [q4, q10, q11, c1', k1, hat, hea]
   refine callW_of (c467 _ h') ?_
   rintro _ h' ⟨rfl, rfl⟩
   try refine ⟨fun e => (by cases e), ?_⟩
   try simp (disch := omega)
   refine append_num (by omega) (by simp; omega) bf fun v2 h5 m5 b5 => ?_
   have g5 := m5.grows g (Nat.le_refl _)
   have l5 := m5.1
   obtain ⟨vb5, vn5, vz5, ev⟩ := b5.sl
   subst ev
   simp (disch := omega) [q2, q4, q7, q9, q10, q11, wrap64]
   refine ⟨k + 1, ⟨by omega, g5, by omega, ?_⟩, by omega⟩
   rw [hkt, hea]
   exact b5.wide (by omega) (Nat.le_refl _)
  ·have ek : k = (nth (spW s) 1).length := by omega
   rw [ek, List.take_of_length_le (by simp)] at bf
   have vo := bf.ints (by rw [List.length_map, maxLen_eq]; omega) (kinds_64 _)
   have vp : Vo h' h4.length h'.length shPanel (.agg #[I (rdDec (nth (spV s) 0)).1, I (rdDec (nth (spV s) 1)).1, q]) (spP s) := Vo.of_panel i1 i2 vo
   obtain ⟨vb5, vn5, vz5, ev⟩ := bf.sl
   subst ev
   subst hK
   have vw := vp.wide l4 (Nat.le_refl _)
   have gg := g14.trans g
   cases r1 : (rdDec (nth (spV s) 0)).2
   ·simp (disch := omega) [q2, q7, q9, q10, r1, resOf, resAll, resOne, aField]
    exact ⟨gg, _, ⟨rfl, by simp [spOk, r1]⟩, vw⟩
   ·cases r2 : (rdDec (nth (spV s) 1)).2
    ·simp (disch := omega) [q2, q7, q9, q10, r1, r2, resOf, resAll, resOne, aField]
     exact ⟨gg, _, ⟨rfl, by simp [spOk, r1, r2]⟩, vw⟩
    ·simp (disch := omega) [q2, q7, q9, q10, r1, r2, resOf, resAll, resOne, aField]
     exact ⟨gg, _, ⟨rfl, by simp [spOk, r1, r2]⟩, vw⟩
theorem read_sp (s : List UInt8) : readAns s = if (spRes s).2 && okP (spRes s).1 then ((spRes s).1, true) else ((0, 0, []), false) := by
 by_cases e2 : (spW s).length = 2
 ·by_cases e3 : (spV s).length = 2
  ·have er : spRes s = (spP s, spOk s) := by simp [spRes, e2, e3]
   rw [er]
   cases h1 : spOk s
   ·rw [sp_no (.inl h1)]; rfl
   ·cases h2 : okP (spP s)
    ·rw [sp_no (.inr h2)]; simp only [h2]; rfl
    ·rw [sp_yes e2 e3 h1 h2]; simp only [h2]; rfl
  ·have er : spRes s = ((0, 0, []), false) := by simp [spRes, e3]
   rw [er, sp_v e3]; rfl
 ·have er : spRes s = ((0, 0, []), false) := by simp [spRes, e2]
  rw [er, sp_w e2]; rfl
theorem c413 (h : Heap) (hp : 0 < h.length) (s : List UInt8) (hs : s.length ≤ 1048576) : ACall Gam 413 [S s] h fun r h' => Grows h h' ∧ ∃ r0, r = .tuple #[r0, B (readAns s).2] ∧ Vo h' h.length h'.length shPanel r0 (readAns s).1 := by
 refine ACall_intro g413 rfl ?_
 unfold fn413
 simp (disch := omega)
 refine callW_of (c468 h hp s hs) ?_
 rintro _ h1 ⟨g1, r0, rfl, o1⟩
 obtain ⟨a, b, c, rfl⟩ := o1.vr.panel3
 have st1 := store_box (h := h1) (cs := [I 0, I 0, sl 0 0 0 0]) (xs := [a, b, c]) rfl
 try refine ⟨fun e => (by cases e), ?_⟩
 simp (disch := omega) [st1]
 obtain ⟨h2, e2⟩ : ∃ h2, h2 = h1 ++ [⟨[a, b, c], true⟩] := ⟨_, rfl⟩
 have g2 : Grows h1 h2 := ⟨_, e2⟩
 have kb : h2[h1.length]? = some ⟨[a, b, c], true⟩ := by rw [e2]; simp
 try rw [← e2]
 have gg := g1.trans g2
 have rs := read_sp s
 cases q1 : (spRes s).2
 ·rw [q1] at rs
  have rs' : readAns s = ((0, 0, []), false) := rs
  rw [rs']
  simp (disch := omega) [resOf, resAll, resOne, aField]
  exact ⟨gg, Vo.zero_panel⟩
 rw [q1] at rs
 obtain ⟨P, hP⟩ : ∃ P, P = (spRes s).1 := ⟨_, rfl⟩
 rw [← hP] at o1 rs
 obtain ⟨W, H, br⟩ := P
 have o1' := o1
 obtain ⟨s', es, w1, w2, o3⟩ := o1.panel
 simp at es
 obtain ⟨rfl, rfl, rfl⟩ := es
 simp (disch := omega)
 refine callW_of (c452 _ (W, H, br) h2 (PtP.at kb (o3.vr.grow g2) w1 w2)) ?_
 rintro _ h2 ⟨rfl, rfl⟩
 try refine ⟨fun e => (by cases e), ?_⟩
 cases q2 : okP (W, H, br)
 ·rw [q2] at rs
  have rs' : readAns s = ((0, 0, []), false) := rs
  rw [rs']
  simp (disch := omega) [resOf, resAll, resOne, aField]
  exact ⟨gg, Vo.zero_panel⟩
 ·rw [q2] at rs
  have rs' : readAns s = ((W, H, br), true) := rs
  rw [rs']
  have cl : cellsAt h2 h1.length 0 3 = some [I W, I H, c] := cellsAt_all kb rfl
  simp (disch := omega) [cl, resOf, resAll, resOne, aField]
  exact ⟨gg, (o1'.grow g2).wide (Nat.le_refl _) g2.le⟩
/-- Rows in own memory, one behind the other. -/
structure KR (h0 h : Heap) (L : List Row) : Prop where
 el : ∀ r ∈ L, EntO h r
 nd : (L.map rowB).flatten.Nodup
 rg : ∀ r ∈ L, ∀ c ∈ rowB r, h0.length ≤ c
theorem KR.nil {h0 h : Heap} : KR h0 h [] := ⟨by simp, by simp, by simp⟩
theorem KR.grow {h0 h h' : Heap} {L : List Row} (k : KR h0 h L) (g : Grows h h') : KR h0 h' L :=
 ⟨fun r hr => (k.el r hr).frame fun c hc => g.look ((k.el r hr).lt c hc), k.nd, k.rg⟩
theorem KR.snoc {h0 h h1 : Heap} {L : List Row} {n : List UInt8} {Y : Pan} {v : Value} (k : KR h0 h L) (g : Grows h0 h) (g1 : Grows h h1) (o : Vo h1 h.length h1.length shPanel v Y) (hn : n.length ≤ 12) : ∃ r a b c, v = .agg #[a, b, c] ∧ KR h0 h1 (L ++ [r]) ∧ rowC r = [S n, a, b, c] ∧ r.1 = (n, Y) := by
 obtain ⟨W, H, br⟩ := Y
 obtain ⟨s, rfl, w1, w2, o⟩ := o.panel
 obtain ⟨b, z, rfl, hz, hm, hx, hb⟩ := o.ints
 refine ⟨((n, W, H, br), b, z), _, _, _, rfl, ⟨fun q hq => ?_, ?_, fun q hq c hc => ?_⟩, rfl, rfl⟩
 ·rcases List.mem_append.1 hq with hq | hq
  ·exact (k.grow g1).el q hq
  ·simp at hq; subst hq
   exact ⟨hz, hm, hx, hb.imp id fun q => q.1, w1, w2, by rw [maxLen_eq]; show n.length ≤ _; omega⟩
 ·rw [List.map_append, List.flatten_append, List.nodup_append]
  refine ⟨k.nd, by simp [rowB]; split <;> simp, ?_⟩
  intro c hc c' hc'
  obtain ⟨t, ht, hct⟩ := List.mem_flatten.1 hc
  obtain ⟨q, hq, rfl⟩ := List.mem_map.1 ht
  have hlt := (k.el q hq).lt c hct
  simp at hc'
  unfold rowB at hc'
  split at hc'
  ·simp at hc'
  ·rename_i h0
   simp at hc'
   have := (hb.resolve_left h0).2.1
   omega
 ·rcases List.mem_append.1 hq with hq | hq
  ·exact k.rg q hq c hc
  ·simp at hq; subst hq
   unfold rowB at hc
   split at hc
   ·simp at hc
   ·rename_i h0
    simp at hc
    have := (hb.resolve_left h0).2.1
    have := g.le
    omega
theorem c543 (h : Heap) (hp : 0 < h.length) (s : List UInt8) (hs : s.length ≤ 100) (X : Pan) (ok : okP X = true) (hX : pTxt X = s) : ACall Gam 543 [S s] h fun r h' => Grows h h' ∧ Vo h' h.length h'.length shPanel r (canonP X) := by
 have ok' := okP_iff.1 ok
 have ra : readAns s = (X, true) := by rw [← hX]; exact readAns_some ok'
 refine ACall_intro g543 rfl ?_
 unfold fn543
 simp (disch := omega)
 refine callW_of (c413 h hp s (by omega)) ?_
 rintro _ h1 ⟨g1, r0, rfl, o1⟩
 rw [ra] at o1 ⊢
 obtain ⟨W, H, br⟩ := X
 obtain ⟨s', rfl, w1, w2, o3⟩ := o1.panel
 have st1 := store_box (h := h1) (cs := [I 0, I 0, sl 0 0 0 0]) (xs := [I W, I H, s']) rfl
 try refine ⟨fun e => (by cases e), ?_⟩
 simp (disch := omega) [st1]
 obtain ⟨h2, e2⟩ : ∃ h2, h2 = h1 ++ [⟨[I W, I H, s'], true⟩] := ⟨_, rfl⟩
 have g2 : Grows h1 h2 := ⟨_, e2⟩
 have kb : h2[h1.length]? = some ⟨[I W, I H, s'], true⟩ := by rw [e2]; simp
 rw [← e2]
 have l2 := (g1.trans g2).le
 refine callW_of (c476 h2 (by omega) _ (W, H, br) (PtP.at kb (o3.vr.grow g2) w1 w2) ok') ?_
 rintro v3 h3 ⟨g3, o4⟩
 try refine ⟨fun e => (by cases e), ?_⟩
 obtain ⟨a, b, c, rfl⟩ := o4.vr.panel3
 simp (disch := omega)
 exact ⟨g1.trans (g2.trans g3), o4.wide l2 (Nat.le_refl _)⟩
def stdX : List (List UInt8 × Pan) := [([98, 114, 105, 99, 107], (2, 1, [0])), ([99, 97, 114, 112, 101, 116], (3, 3, [0, 0, 0, 0, 0, 0, 0, 0, 0, 0, 0, 0])), ([99, 104, 97, 105, 110], (4, 1, [0, 0, 0])), ([100, 105, 97, 109, 111, 110, 100], (1, 1, [])), ([114, 105, 110, 103, 115], (2, 2, [0, 0, 0, 0])), ([116, 119, 111], (2, 1, [1]))]
noncomputable def stdK : Lib := stdX.map fun k => (k.1, canonP k.2)
theorem std_t1 : okP ((2, 1, [0]) : Pan) = true ∧ pTxt ((2, 1, [0]) : Pan) = [50, 120, 49, 58, 43] := by
 have ok : okP ((2, 1, [0]) : Pan) = true := by decide
 exact ⟨ok, by rw [pTxt_ok (okP_iff.1 ok)]; decide⟩
theorem std_t2 : okP ((3, 3, [0, 0, 0, 0, 0, 0, 0, 0, 0, 0, 0, 0]) : Pan) = true ∧ pTxt ((3, 3, [0, 0, 0, 0, 0, 0, 0, 0, 0, 0, 0, 0]) : Pan) = [51, 120, 51, 58, 43, 43, 43, 43, 43, 43, 43, 43, 43, 43, 43, 43] := by
 have ok : okP ((3, 3, [0, 0, 0, 0, 0, 0, 0, 0, 0, 0, 0, 0]) : Pan) = true := by decide
 exact ⟨ok, by rw [pTxt_ok (okP_iff.1 ok)]; decide⟩
theorem std_t3 : okP ((4, 1, [0, 0, 0]) : Pan) = true ∧ pTxt ((4, 1, [0, 0, 0]) : Pan) = [52, 120, 49, 58, 43, 43, 43] := by
 have ok : okP ((4, 1, [0, 0, 0]) : Pan) = true := by decide
 exact ⟨ok, by rw [pTxt_ok (okP_iff.1 ok)]; decide⟩
theorem std_t4 : okP ((1, 1, []) : Pan) = true ∧ pTxt ((1, 1, []) : Pan) = [49, 120, 49, 58] := by
 have ok : okP ((1, 1, []) : Pan) = true := by decide
 exact ⟨ok, by rw [pTxt_ok (okP_iff.1 ok)]; decide⟩
theorem std_t5 : okP ((2, 2, [0, 0, 0, 0]) : Pan) = true ∧ pTxt ((2, 2, [0, 0, 0, 0]) : Pan) = [50, 120, 50, 58, 43, 43, 43, 43] := by
 have ok : okP ((2, 2, [0, 0, 0, 0]) : Pan) = true := by decide
 exact ⟨ok, by rw [pTxt_ok (okP_iff.1 ok)]; decide⟩
theorem std_t6 : okP ((2, 1, [1]) : Pan) = true ∧ pTxt ((2, 1, [1]) : Pan) = [50, 120, 49, 58, 124] := by
 have ok : okP ((2, 1, [1]) : Pan) = true := by decide
 exact ⟨ok, by rw [pTxt_ok (okP_iff.1 ok)]; decide⟩
theorem std_siz : siz shKepts stdK ≤ 16777216 := by
 have := small_siz (X := stdK) (n := 6) (by simp [stdK, stdX]) (by
  intro y hy
  obtain ⟨k, hk, rfl⟩ := List.mem_map.1 hy
  have key : ∀ k ∈ stdX, k.1.length ≤ 12 ∧ okP k.2 = true := by decide
  obtain ⟨h1, h2⟩ := key k hk
  exact ⟨h1, (canonP_ok (okP_iff.1 h2)).siz⟩)
 omega
theorem c422 (h : Heap) (hp : 0 < h.length) : ACall Gam 422 [] h fun r h' => Grows h h' ∧ Vo h' h.length h'.length shKepts r stdK ∧ siz shKepts stdK ≤ 16777216 := by
 refine ACall_intro g422 rfl ?_
 unfold fn422
 have k0 : KR h h [] := KR.nil
 have G0 : Grows h h := Grows.refl h
 simp (disch := omega)
 refine callW_of (c543 h (by have := G0.le; omega) _ (by simp) (2, 1, [0]) std_t1.1 std_t1.2) ?_
 rintro v1 h1 ⟨g1, o1⟩
 try refine ⟨fun e => (by cases e), ?_⟩
 obtain ⟨r1, a1, b1, c1, rfl, k1, e1, n1⟩ := k0.snoc (n := [98, 114, 105, 99, 107]) G0 g1 o1 (by simp)
 have G1 := G0.trans g1
 try simp (disch := omega)
 refine callW_of (c543 h1 (by have := G1.le; omega) _ (by simp) (3, 3, [0, 0, 0, 0, 0, 0, 0, 0, 0, 0, 0, 0]) std_t2.1 std_t2.2) ?_
 rintro v2 h2 ⟨g2, o2⟩
 try refine ⟨fun e => (by cases e), ?_⟩
 obtain ⟨r2, a2, b2, c2, rfl, k2, e2, n2⟩ := k1.snoc (n := [99, 97, 114, 112, 101, 116]) G1 g2 o2 (by simp)
 have G2 := G1.trans g2
 try simp (disch := omega)
 refine callW_of (c543 h2 (by have := G2.le; omega) _ (by simp) (4, 1, [0, 0, 0]) std_t3.1 std_t3.2) ?_
 rintro v3 h3 ⟨g3, o3⟩
 try refine ⟨fun e => (by cases e), ?_⟩
 obtain ⟨r3, a3, b3, c3, rfl, k3, e3, n3⟩ := k2.snoc (n := [99, 104, 97, 105, 110]) G2 g3 o3 (by simp)
 have G3 := G2.trans g3
 try simp (disch := omega)
 refine callW_of (c543 h3 (by have := G3.le; omega) _ (by simp) (1, 1, []) std_t4.1 std_t4.2) ?_
 rintro v4 h4 ⟨g4, o4⟩
 try refine ⟨fun e => (by cases e), ?_⟩
 obtain ⟨r4, a4, b4, c4, rfl, k4, e4, n4⟩ := k3.snoc (n := [100, 105, 97, 109, 111, 110, 100]) G3 g4 o4 (by simp)
 have G4 := G3.trans g4
 try simp (disch := omega)
 refine callW_of (c543 h4 (by have := G4.le; omega) _ (by simp) (2, 2, [0, 0, 0, 0]) std_t5.1 std_t5.2) ?_
 rintro v5 h5 ⟨g5, o5⟩
 try refine ⟨fun e => (by cases e), ?_⟩
 obtain ⟨r5, a5, b5, c5, rfl, k5, e5, n5⟩ := k4.snoc (n := [114, 105, 110, 103, 115]) G4 g5 o5 (by simp)
 have G5 := G4.trans g5
 try simp (disch := omega)
 refine callW_of (c543 h5 (by have := G5.le; omega) _ (by simp) (2, 1, [1]) std_t6.1 std_t6.2) ?_
 rintro v6 h6 ⟨g6, o6⟩
 try refine ⟨fun e => (by cases e), ?_⟩
 obtain ⟨r6, a6, b6, c6, rfl, k6, e6, n6⟩ := k5.snoc (n := [116, 119, 111]) G5 g6 o6 (by simp)
 have G6 := G5.trans g6
 have eb : aBuildSlice 4 6 h6 [(0, .agg #[S [], I 0, I 0, sl 0 0 0 0, S [], I 0, I 0, sl 0 0 0 0, S [], I 0, I 0, sl 0 0 0 0, S [], I 0, I 0, sl 0 0 0 0, S [], I 0, I 0, sl 0 0 0 0, S [], I 0, I 0, sl 0 0 0 0]), (4, .agg #[S [98, 114, 105, 99, 107], a1, b1, c1]), (4004, .agg #[S [99, 97, 114, 112, 101, 116], a2, b2, c2]), (8004, .agg #[S [99, 104, 97, 105, 110], a3, b3, c3]), (12004, .agg #[S [100, 105, 97, 109, 111, 110, 100], a4, b4, c4]), (16004, .agg #[S [114, 105, 110, 103, 115], a5, b5, c5]), (20004, .agg #[S [116, 119, 111], a6, b6, c6])] = some (sl h6.length 0 6 4, h6 ++ [⟨rowsC [r1, r2, r3, r4, r5, r6], true⟩]) := by
  simp [aBuildSlice, rowsC, e1, e2, e3, e4, e5, e6]
 simp (disch := omega) [eb]
 have gl : Grows h6 (h6 ++ [⟨rowsC [r1, r2, r3, r4, r5, r6], true⟩]) := ⟨_, rfl⟩
 have kk := k6.grow gl
 simp only [List.nil_append, List.cons_append] at kk
 have kb : KB h (h6 ++ [⟨rowsC [r1, r2, r3, r4, r5, r6], true⟩]) (sl h6.length 0 6 4) [r1, r2, r3, r4, r5, r6] := ⟨.inr ⟨h6.length, 6, rfl, by rw [rowsC_len]; rfl, G6.le, by simp⟩, kk.el, kk.nd, kk.rg⟩
 have vo := kb.vo (by rw [maxLen_eq]; simp)
 have em : [r1, r2, r3, r4, r5, r6].map (·.1) = stdK := by simp [stdK, stdX, n1, n2, n3, n4, n5, n6]
 rw [em] at vo
 have lg : (h6 ++ [(⟨rowsC [r1, r2, r3, r4, r5, r6], true⟩ : Blk)]).length = h6.length + 1 := by simp
 rw [lg] at vo
 exact ⟨G6.trans gl, vo, std_siz⟩
theorem c459 (h : Heap) (x y dx dy : Int) (bx : -100 ≤ x ∧ x ≤ 100) (bY : -100 ≤ y ∧ y ≤ 100) (bd : -100 ≤ dx ∧ dx ≤ 100) (be : -100 ≤ dy ∧ dy ≤ 100) : ACall Gam 459 [.agg #[I x, I y, I dx, I dy]] h fun r h' => r = .agg #[I (x + dx), I (y + dy)] ∧ h' = h := by
 refine ACall_intro g459 rfl ?_
 unfold fn459
 simp (disch := omega) [wrap64, resOf_box, aField]
theorem c58 (h : Heap) (x y dx dy : Int) (bx : -100 ≤ x ∧ x ≤ 100) (bY : -100 ≤ y ∧ y ≤ 100) (bd : -100 ≤ dx ∧ dx ≤ 100) (be : -100 ≤ dy ∧ dy ≤ 100) : ACall Gam 58 [.agg #[I x, I y, I dx, I dy]] h fun r h' => r = .agg #[I (x + dx), I (y + dy)] ∧ h' = h := by
 refine ACall_intro g58 rfl ?_
 unfold fn58
 simp (disch := omega) [wrap64, resOf_box, aField]
theorem c458 (h : Heap) (x y dx dy : Int) (bx : -100 ≤ x ∧ x ≤ 100) (bY : -100 ≤ y ∧ y ≤ 100) (bd : -100 ≤ dx ∧ dx ≤ 100) (be : -100 ≤ dy ∧ dy ≤ 100) : ACall Gam 458 [.agg #[I x, I y, I dx, I dy]] h fun r h' => r = .tuple #[.agg #[I (if dx = 1 then x else x + dx), I (if dx = 1 then y else y + dy)], I (if dx = 1 then y + dy else y)] ∧ h' = h := by
 refine ACall_intro g458 rfl ?_
 unfold fn458
 simp (disch := omega)
 refine callW_of (c459 h x y dx dy bx bY bd be) ?_
 rintro _ h' ⟨rfl, rfl⟩
 simp (disch := omega)
 refine fork_dec (fun e => ?_) (fun e => ?_)
 ·simp (disch := omega) [e, resOf_box, aField, resOf, resAll, resOne]
 ·simp (disch := omega) [e, resOf_box, aField, resOf, resAll, resOne]
theorem c446 (h : Heap) (v : Value) (X : Pan) (x y : Int) (hv : PtP h v X) (ok : OkP X) : ACall Gam 446 [v, .agg #[I x, I y]] h fun r h' => r = B (decide (edgeW X.1.toNat X.2.1.toNat x y)) ∧ h' = h := by
 obtain ⟨b, o, s, rfl, h1, h2, _⟩ := hv
 obtain ⟨w, hh, _, _⟩ := ok
 refine ACall_intro g446 rfl ?_
 unfold fn446
 have w1 : (X.1.toNat : Int) = X.1 := by omega
 have w2 : (X.2.1.toNat : Int) = X.2.1 := by omega
 have n1 : ¬ 2 * X.1 = 0 := by omega
 have n2 : ¬ 2 * X.2.1 = 0 := by omega
 have n3 : ¬ X.1 = 0 := by omega
 have n4 : ¬ X.2.1 = 0 := by omega
 by_cases e1 : x = 0
 ·simp (disch := omega) [h1, h2, e1, wrap64, edgeW, w1, w2, n1, n2, n3, n4]
 by_cases e2 : y = 0
 ·simp (disch := omega) [h1, h2, e1, e2, wrap64, edgeW, w1, w2, n1, n2, n3, n4]
 by_cases e3 : x = 2 * X.1
 ·simp (disch := omega) [h1, h2, e1, e2, e3, wrap64, edgeW, w1, w2, n1, n2, n3, n4]
 by_cases e4 : y = 2 * X.2.1
 ·simp (disch := omega) [h1, h2, e1, e2, e3, e4, wrap64, edgeW, w1, w2, n1, n2, n3, n4]
 simp (disch := omega) [h1, h2, e1, e2, e3, e4, wrap64, edgeW, w1, w2, n1, n2, n3, n4]
theorem c34 (h : Heap) (W H x y : Int) (s : Value) (w : 1 ≤ W ∧ W ≤ 8) (hh : 1 ≤ H ∧ H ≤ 8) : ACall Gam 34 [.agg #[I W, I H, s], .agg #[I x, I y]] h fun r h' => r = B (decide (edgeW W.toNat H.toNat x y)) ∧ h' = h := by
 refine ACall_intro g34 rfl ?_
 unfold fn34
 have w1 : (W.toNat : Int) = W := by omega
 have w2 : (H.toNat : Int) = H := by omega
 have n1 : ¬ 2 * W = 0 := by omega
 have n2 : ¬ 2 * H = 0 := by omega
 have n3 : ¬ W = 0 := by omega
 have n4 : ¬ H = 0 := by omega
 by_cases e1 : x = 0
 ·simp (disch := omega) [e1, wrap64, edgeW, w1, w2, n1, n2, n3, n4]
 by_cases e2 : x = 2 * W
 ·simp (disch := omega) [e1, e2, wrap64, edgeW, w1, w2, n1, n2, n3, n4]
 by_cases e3 : y = 0
 ·simp (disch := omega) [e1, e2, e3, wrap64, edgeW, w1, w2, n1, n2, n3, n4]
 by_cases e4 : y = 2 * H
 ·simp (disch := omega) [e1, e2, e3, e4, wrap64, edgeW, w1, w2, n1, n2, n3, n4]
 simp (disch := omega) [e1, e2, e3, e4, wrap64, edgeW, w1, w2, n1, n2, n3, n4]
theorem c460 (h : Heap) (v : Value) (X : Pan) (x y dx dy : Int) (hv : PtP h v X) (ok : OkP X) (hw : OkW X.1.toNat X.2.1.toNat (x, y, dx, dy)) : ACall Gam 460 [v, .agg #[I x, I y, I dx, I dy]] h fun r h' => r = I (segW X.2.1.toNat (x, y, dx, dy)) ∧ h' = h := by
 obtain ⟨b, o, s, rfl, h1, h2, _⟩ := hv
 obtain ⟨w, hh, _, _⟩ := ok
 have hc := seg_cast hw
 obtain ⟨⟨s1, s2⟩, s3, s4⟩ := seg_bd hw
 obtain ⟨d1, d2, p1, p2, p3, p4, p5⟩ := hw
 simp only at *
 have w2 : (X.2.1.toNat : Int) = X.2.1 := by omega
 have w1 : (X.1.toNat : Int) = X.1 := by omega
 rw [w2] at hc
 rw [hc]
 have m1 := minI_one (x := x) d1
 have m2 := minI_one (x := y) d2
 rw [m1, m2]
 obtain ⟨H, eH⟩ : ∃ H, H = X.2.1 := ⟨_, rfl⟩
 rw [← eH] at h2 hh p2 p4 ⊢
 have bm : ∀ a : Int, 0 ≤ a → a ≤ 17 → 0 ≤ a * (2 * H) ∧ a * (2 * H) ≤ 17 * (2 * 8) := fun a h1 h2 => ⟨Int.mul_nonneg (by omega) (by omega), Int.mul_le_mul (by omega) (by omega) (by omega) (by omega)⟩
 refine ACall_intro g460 rfl ?_
 unfold fn460
 simp (disch := omega)
 refine callW_of (c458 h x y dx dy (by omega) (by omega) (by omega) (by omega)) ?_
 rintro _ h' ⟨rfl, rfl⟩
 rcases d1 with e | e <;> subst e
 ·have b1 := bm x (by omega) (by omega)
  rcases d2 with e' | e' <;> subst e' <;> simp (disch := omega) [h2, wrap64, Int.mul_assoc] <;> refine fork_dec (fun e => ?_) (fun e => ?_) <;> first | (exfalso; omega) | (simp (disch := omega) [wrap64] <;> omega)
 ·have b1 := bm (x + -1) (by omega) (by omega)
  have ex : x + -1 = x - 1 := by omega
  rw [ex] at b1
  rcases d2 with e' | e' <;> subst e' <;> simp (disch := omega) [h2, wrap64, Int.mul_assoc, ex] <;> refine fork_dec (fun e => ?_) (fun e => ?_) <;> first | (exfalso; omega) | (simp (disch := omega) [wrap64, Int.mul_assoc] <;> omega)
/-- A walker. -/
def wv (w : Wk) : Value := .agg #[I w.1, I w.2.1, I w.2.2.1, I w.2.2.2]
theorem c461 (h : Heap) (v : Value) (X : Pan) (x y dx dy : Int) (hv : PtP h v X) (ok : OkP X) (hw : OkW X.1.toNat X.2.1.toNat (x, y, dx, dy)) : ACall Gam 461 [v, .agg #[I x, I y, I dx, I dy]] h fun r h' => r = wv (stepW X.1.toNat X.2.1.toNat X.2.2 (x, y, dx, dy)) ∧ h' = h := by
 have hv0 := hv
 have ok0 := ok
 obtain ⟨b, o, s, rfl, h1, h2, h3, hr, _⟩ := hv
 obtain ⟨b2, o2, z2, rfl, _, hm, _, hc⟩ := hr.ints
 obtain ⟨w, hh, hn, _⟩ := ok
 obtain ⟨d1, d2, p1, p2, p3, p4, p5⟩ := hw
 simp only at *
 have n1 : ¬ 2 * X.1 = 0 := by omega
 have n2 : ¬ 2 * X.2.1 = 0 := by omega
 have n3 : ¬ X.1 = 0 := by omega
 have n4 : ¬ X.2.1 = 0 := by omega
 have w2 : (X.2.1.toNat : Int) = X.2.1 := by omega
 have w1 : (X.1.toNat : Int) = X.1 := by omega
 have w3 : max X.1 0 = X.1 := by omega
 have w4 : max X.2.1 0 = X.2.1 := by omega
 refine ACall_intro g461 rfl ?_
 unfold fn461
 rw [awp_seq, awp_reg]
 generalize hK : seqQ Gam _ _ 0 = K
 simp (disch := omega)
 subst hK
 simp only [seqQ_zero]
 rw [awp_seq, awp_reg]
 generalize hK : seqQ Gam _ _ 0 = K
 simp (disch := omega)
 refine callW_of (c459 h x y dx dy (by omega) (by omega) (by omega) (by omega)) ?_
 rintro _ h' ⟨rfl, rfl⟩
 simp (disch := omega)
 subst hK
 simp only [seqQ_zero]
 rw [awp_seq, awp_reg]
 generalize hK : seqQ Gam _ _ 0 = K
 simp (disch := omega)
 obtain ⟨nx, enx⟩ : ∃ nx, nx = x + dx := ⟨_, rfl⟩
 obtain ⟨ny, eny⟩ : ∃ ny, ny = y + dy := ⟨_, rfl⟩
 have es : wv (stepW X.1.toNat X.2.1.toNat X.2.2 (x, y, dx, dy)) = .agg #[I nx, I ny, I (if nx = 0 ∨ nx = 2 * X.1 ∨ kindW X.1.toNat X.2.1.toNat X.2.2 nx ny = 1 then -dx else dx), I (if ny = 0 ∨ ny = 2 * X.2.1 ∨ kindW X.1.toNat X.2.1.toNat X.2.2 nx ny = 2 then -dy else dy)] := by
  simp only [stepW, wv, enx, eny, w1, w2]
 rw [es] at hK
 rw [← enx] at p3 ⊢
 rw [← eny] at p4 ⊢
 have c4 := c446 h' (pt b o) X nx ny hv0 ok0
 obtain ⟨k, ek⟩ : ∃ k, k = kindW X.1.toNat X.2.1.toNat X.2.2 nx ny := ⟨_, rfl⟩
 rw [← ek] at hK
 subst hK
 simp only [seqQ_zero]
 rw [awp_seq]
 generalize hK : seqQ Gam _ _ = K
 have key : ∀ σ' : Nat → Value, σ' 0 = pt b o → σ' 4 = .agg #[I 0, I 0, I 0, I 0] → σ' 5 = .agg #[I nx, I ny] → σ' 6 = .agg #[I nx, I ny, I (if nx = 0 ∨ nx = 2 * X.1 then -dx else dx), I dy] → K 0 σ' h' := by
  intro σ q0 q4 q5 q6
  subst hK
  simp only [seqQ_zero]
  rw [awp_seq]
  generalize hK : seqQ Gam _ _ = K
  have key2 : ∀ σ' : Nat → Value, σ' 0 = pt b o → σ' 4 = .agg #[I 0, I 0, I 0, I 0] → σ' 5 = .agg #[I nx, I ny] → σ' 6 = .agg #[I nx, I ny, I (if nx = 0 ∨ nx = 2 * X.1 then -dx else dx), I (if ny = 0 ∨ ny = 2 * X.2.1 then -dy else dy)] → K 0 σ' h' := by
   intro σ q0 q4 q5 q6
   subst hK
   simp only [seqQ_zero]
   by_cases E : edgeW X.1.toNat X.2.1.toNat nx ny
   ·have k0 : k = 0 := by rw [ek]; exact kindW_edge E
    rw [decide_eq_true E] at c4
    simp (disch := omega) [q0, q5]
    refine callW_of c4 ?_
    rintro _ h'' ⟨rfl, rfl⟩
    simp (disch := omega) [q4, q6, k0, resOf_box, aField]
   ·have E' : ¬ (nx = 0 ∨ nx = 2 * X.1 ∨ ny = 0 ∨ ny = 2 * X.2.1) := by
     intro e; apply E; unfold edgeW; rw [w1, w2]; exact e
    have e1 : ¬ (nx = 0 ∨ nx = 2 * X.1) := fun e => E' (by rcases e with e | e; exact .inl e; exact .inr (.inl e))
    have e2 : ¬ (ny = 0 ∨ ny = 2 * X.2.1) := fun e => E' (by rcases e with e | e; exact .inr (.inr (.inl e)); exact .inr (.inr (.inr e)))
    rw [decide_eq_false E] at c4
    rw [if_neg e1, if_neg e2] at q6
    have ek' : k = at0 X.2.2 (numP X.1.toNat nx.toNat ny.toNat) := by rw [ek]; exact if_neg E
    have e3 : ¬ nx = 0 := fun e => e1 (.inl e)
    have e4 : ¬ nx = 2 * X.1 := fun e => e1 (.inr e)
    have e5 : ¬ ny = 0 := fun e => e2 (.inl e)
    have e6 : ¬ ny = 2 * X.2.1 := fun e => e2 (.inr e)
    have b1 : (nx.toNat : Int) = nx := by omega
    have b2' : (ny.toNat : Int) = ny := by omega
    have hnum := numP_lt (W := X.1.toNat) (H := X.2.1.toNat) (x := nx.toNat) (y := ny.toNat) (by omega) (by omega) (by omega)
    have hl : rowN X.1.toNat (2 * X.2.1.toNat) = X.2.2.length := by
     have := rowN_end (W := X.1.toNat) (by omega) (H := X.2.1.toNat) (by omega) (by omega) (by omega)
     rw [w1, w2] at this
     have h3 : inner X.1 X.2.1 = X.1 * (X.2.1 - 1) + X.2.1 * (X.1 - 1) := rfl
     omega
    rw [hl] at hnum
    have hcell := ints_cell hc hnum
    rw [← at0_of hnum, ← ek'] at hcell
    have c5 := c451 h' (pt b o) X X.1.toNat nx.toNat ny.toNat hv0 w1.symm (by omega) (by omega) (by omega) (by omega)
    rw [b1, b2'] at c5
    simp (disch := omega) [q0, q5]
    refine callW_of c4 ?_
    rintro _ h'' ⟨rfl, rfl⟩
    simp (disch := omega) [q0, q5, h3]
    refine callW_of c5 ?_
    rintro _ h'' ⟨rfl, rfl⟩
    simp (disch := omega) [hnum, hcell]
    refine ⟨Grows.refl _, ?_⟩
    refine fork_dec (fun f1 => ?_) (fun f1 => ?_)
    ·simp (disch := omega) [q4, q6, f1, e3, e4, e5, e6, wrap64, resOf_box, aField]
    ·simp (disch := omega)
     refine fork_dec (fun f2 => ?_) (fun f2 => ?_)
     ·simp (disch := omega) [q4, q6, f1, f2, e3, e4, e5, e6, wrap64, resOf_box, aField]
     ·simp (disch := omega) [q4, q6, f1, f2, e3, e4, e5, e6, wrap64, resOf_box, aField]
  by_cases e1 : ny = 0
  ·simp (disch := omega) [q0, q5, q6, h2, wrap64, e1]
   exact key2 _ (by simp [q0]) (by simp [q4]) (by simp [q5, e1]) (by simp [e1])
  by_cases e2 : ny = 2 * X.2.1
  ·simp (disch := omega) [q0, q5, q6, h2, wrap64, e1, e2, n2, n4]
   exact key2 _ (by simp [q0]) (by simp [q4]) (by simp [q5, e2]) (by simp [e2])
  simp (disch := omega) [q0, q5, q6, h2, wrap64, e1, e2]
  exact key2 _ (by simp [q0]) (by simp [q4]) (by simp [q5]) (by simp [q6, e1, e2])
 by_cases e1 : nx = 0
 ·simp (disch := omega) [h1, wrap64, e1]
  exact key _ (by simp) (by simp) (by simp [e1]) (by simp [e1])
 by_cases e2 : nx = 2 * X.1
 ·simp (disch := omega) [h1, wrap64, e1, e2, n1, n3]
  exact key _ (by simp) (by simp) (by simp [e2]) (by simp [e2])
 simp (disch := omega) [h1, wrap64, e1, e2]
 exact key _ (by simp) (by simp) (by simp) (by simp [e1, e2])
theorem c51 (h : Heap) (W H : Int) (s : Value) (w : 1 ≤ W ∧ W ≤ 8) (hh : 1 ≤ H ∧ H ≤ 8) : ACall Gam 51 [.agg #[I W, I H, s]] h fun r h' => r = I (4 * W.toNat * H.toNat : Nat) ∧ h' = h := by
 have b : 0 ≤ W * H ∧ W * H ≤ 8 * 8 := ⟨Int.mul_nonneg (by omega) (by omega), Int.mul_le_mul (by omega) (by omega) (by omega) (by omega)⟩
 have w1 : (W.toNat : Int) = W := by omega
 have w2 : (H.toNat : Int) = H := by omega
 have w3 : max W 0 = W := by omega
 have w4 : max H 0 = H := by omega
 refine ACall_intro g51 rfl ?_
 unfold fn51
 simp (disch := omega) [wrap64, Int.mul_assoc, w1, w2, w3, w4]
theorem c50 (h : Heap) (W H : Int) (s : Value) (x y dx dy : Int) (w : 1 ≤ W ∧ W ≤ 8) (hh : 1 ≤ H ∧ H ≤ 8) (hw : OkW W.toNat H.toNat (x, y, dx, dy)) : ACall Gam 50 [.agg #[I W, I H, s], .agg #[I x, I y, I dx, I dy]] h fun r h' => r = I (segW H.toNat (x, y, dx, dy)) ∧ h' = h := by
 have hc := seg_cast hw
 obtain ⟨⟨s1, s2⟩, s3, s4⟩ := seg_bd hw
 obtain ⟨d1, d2, p1, p2, p3, p4, p5⟩ := hw
 simp only at *
 have w2 : (H.toNat : Int) = H := by omega
 have w1 : (W.toNat : Int) = W := by omega
 rw [w2] at hc
 rw [hc]
 have bm : ∀ a : Int, 0 ≤ a → a ≤ 17 → 0 ≤ a * (2 * H) ∧ a * (2 * H) ≤ 17 * (2 * 8) := fun a h1 h2 => ⟨Int.mul_nonneg (by omega) (by omega), Int.mul_le_mul (by omega) (by omega) (by omega) (by omega)⟩
 have e1 : aMin [I x, I (x + dx)] = some (I (minI x (x + dx))) := by
  show some (I (if x + dx < x then x + dx else x)) = _
  congr 2; unfold minI; split <;> split <;> omega
 have e2 : aMin [I y, I (y + dy)] = some (I (minI y (y + dy))) := by
  show some (I (if y + dy < y then y + dy else y)) = _
  congr 2; unfold minI; split <;> split <;> omega
 have b1 := bm (minI x (x + dx)) (by omega) (by omega)
 refine ACall_intro g50 rfl ?_
 unfold fn50
 simp (disch := omega)
 refine callW_of (c58 h x y dx dy (by omega) (by omega) (by omega) (by omega)) ?_
 rintro _ h' ⟨rfl, rfl⟩
 simp (disch := omega) [wrap64, Int.mul_assoc, e1, e2]
theorem c56 (h : Heap) (W H : Int) (s : Value) (k : Nat) (w : 1 ≤ W ∧ W ≤ 8) (hh : 1 ≤ H ∧ H ≤ 8) (hk : k < 4 * W.toNat * H.toNat) : ACall Gam 56 [.agg #[I W, I H, s], I k] h fun r h' => r = wv (wkW H.toNat k) ∧ h' = h := by
 have w2 : (H.toNat : Int) = H := by omega
 have b : k < 256 := by
  have : 4 * W.toNat * H.toNat ≤ 4 * 8 * 8 := Nat.mul_le_mul (by omega) (by omega)
  omega
 have t1 : (k : Int).tdiv (2 * H) = ((k / (2 * H.toNat) : Nat) : Int) := by
  rw [show (2 * H : Int) = ((2 * H.toNat : Nat) : Int) by omega]; rfl
 have t2 : (k : Int).tmod (2 * H) = ((k % (2 * H.toNat) : Nat) : Int) := by
  rw [show (2 * H : Int) = ((2 * H.toNat : Nat) : Int) by omega]; rfl
 have q1 : k / (2 * H.toNat) ≤ 256 := by have := Nat.div_le_self k (2 * H.toNat); omega
 have q2 : k % (2 * H.toNat) < 2 * H.toNat := Nat.mod_lt _ (by omega)
 have h0 : ¬ 2 * H = 0 := by omega
 have h0' : ¬ H = 0 := by omega
 unfold wkW
 obtain ⟨q, eq⟩ : ∃ q, q = k / (2 * H.toNat) := ⟨_, rfl⟩
 obtain ⟨r, er⟩ : ∃ r, r = k % (2 * H.toNat) := ⟨_, rfl⟩
 rw [← eq] at t1 q1 ⊢
 rw [← er] at t2 q2 ⊢
 have t3 : ((q : Int) + r).tmod 2 = (((q + r) % 2 : Nat) : Int) := rfl
 refine ACall_intro g56 rfl ?_
 unfold fn56
 simp (disch := omega) [wrap64, t1, t2, h0, h0']
 by_cases e : (q + r) % 2 = 1
 ·rw [if_pos e]
  have t3 : ((q : Int) + r).tmod 2 = 1 := by rw [t3, e]; rfl
  simp (disch := omega) [t3, wrap64, resOf_box, aField, wv]
 ·rw [if_neg e]
  have t3 : ¬ ((q : Int) + r).tmod 2 = 1 := by rw [t3]; omega
  simp (disch := omega) [t3, wrap64, resOf_box, aField, wv]
theorem c54 (h : Heap) (W H : Int) (br : List Int) (s : Value) (x y dx dy : Int) (ok : OkP (W, H, br)) (hr : Vr h shInts s br) (hw : OkW W.toNat H.toNat (x, y, dx, dy)) : ACall Gam 54 [.agg #[I W, I H, s], .agg #[I x, I y, I dx, I dy]] h fun r h' => (∃ t, r = .tuple #[wv (stepW W.toNat H.toNat br (x, y, dx, dy)), B t]) ∧ h' = h := by
 obtain ⟨b2, o2, z2, rfl, _, hm, _, hc⟩ := hr.ints
 obtain ⟨w, hh, hn, _⟩ := ok
 obtain ⟨d1, d2, p1, p2, p3, p4, p5⟩ := hw
 simp only at *
 have n1 : ¬ 2 * W = 0 := by omega
 have n2 : ¬ 2 * H = 0 := by omega
 have n3 : ¬ W = 0 := by omega
 have n4 : ¬ H = 0 := by omega
 have w2 : (H.toNat : Int) = H := by omega
 have w1 : (W.toNat : Int) = W := by omega
 refine ACall_intro g54 rfl ?_
 unfold fn54
 rw [awp_seq, awp_reg]
 generalize hK : seqQ Gam _ _ 0 = K
 simp (disch := omega)
 subst hK
 simp only [seqQ_zero]
 rw [awp_seq, awp_reg]
 generalize hK : seqQ Gam _ _ 0 = K
 simp (disch := omega)
 refine callW_of (c58 h x y dx dy (by omega) (by omega) (by omega) (by omega)) ?_
 rintro _ h' ⟨rfl, rfl⟩
 simp (disch := omega)
 subst hK
 simp only [seqQ_zero]
 rw [awp_seq, awp_reg]
 generalize hK : seqQ Gam _ _ 0 = K
 simp (disch := omega)
 subst hK
 simp only [seqQ_zero]
 rw [awp_seq, awp_reg]
 generalize hK : seqQ Gam _ _ 0 = K
 simp (disch := omega)
 obtain ⟨nx, enx⟩ : ∃ nx, nx = x + dx := ⟨_, rfl⟩
 obtain ⟨ny, eny⟩ : ∃ ny, ny = y + dy := ⟨_, rfl⟩
 have es : wv (stepW W.toNat H.toNat br (x, y, dx, dy)) = .agg #[I nx, I ny, I (if nx = 0 ∨ nx = 2 * W ∨ kindW W.toNat H.toNat br nx ny = 1 then -dx else dx), I (if ny = 0 ∨ ny = 2 * H ∨ kindW W.toNat H.toNat br nx ny = 2 then -dy else dy)] := by
  simp only [stepW, wv, enx, eny, w1, w2]
 rw [es] at hK
 rw [← enx] at p3 ⊢
 rw [← eny] at p4 ⊢
 have c4 := c34 h' W H nx ny (sl b2 o2 br.length z2) w hh
 obtain ⟨k, ek⟩ : ∃ k, k = kindW W.toNat H.toNat br nx ny := ⟨_, rfl⟩
 rw [← ek] at hK
 subst hK
 simp only [seqQ_zero]
 rw [awp_seq]
 generalize hK : seqQ Gam _ _ = K
 have key : ∀ σ' : Nat → Value, σ' 2 = .agg #[I W, I H, sl b2 o2 br.length z2] → σ' 3 = .agg #[I x, I y, I dx, I dy] → σ' 4 = .agg #[I 0, I 0, I 0, I 0] → σ' 6 = .agg #[I nx, I ny] → σ' 7 = .agg #[I nx, I ny, I dx, I dy] → σ' 8 = I k → K 0 σ' h' := by
  intro σ q2 q3 q4 q6 q7 q8
  subst hK
  simp only [seqQ_zero]
  rw [awp_seq]
  generalize hK : seqQ Gam _ _ = K
  have key2 : ∀ σ' : Nat → Value, σ' 2 = .agg #[I W, I H, sl b2 o2 br.length z2] → σ' 3 = .agg #[I x, I y, I dx, I dy] → σ' 4 = .agg #[I 0, I 0, I 0, I 0] → σ' 6 = .agg #[I nx, I ny] → σ' 7 = .agg #[I nx, I ny, I (if nx = 0 ∨ nx = 2 * W ∨ k = 1 then -dx else dx), I dy] → σ' 8 = I k → K 0 σ' h' := by
   intro σ q2 q3 q4 q6 q7 q8
   subst hK
   simp only [seqQ_zero]
   rw [awp_seq]
   generalize hK : seqQ Gam _ _ = K
   have key3 : ∀ σ' : Nat → Value, σ' 3 = .agg #[I x, I y, I dx, I dy] → σ' 4 = .agg #[I 0, I 0, I 0, I 0] → σ' 7 = .agg #[I nx, I ny, I (if nx = 0 ∨ nx = 2 * W ∨ k = 1 then -dx else dx), I (if ny = 0 ∨ ny = 2 * H ∨ k = 2 then -dy else dy)] → K 0 σ' h' := by
    intro σ q3 q4 q7
    subst hK
    simp only [seqQ_zero]
    generalize (if nx = 0 ∨ nx = 2 * W ∨ k = 1 then -dx else dx) = D at *
    generalize (if ny = 0 ∨ ny = 2 * H ∨ k = 2 then -dy else dy) = E at *
    by_cases e1 : D = dx
    ·by_cases e2 : E = dy
     ·simp (disch := omega) [q3, q4, q7, e1, e2, resOf, resAll, resOne, aField]
     ·simp (disch := omega) [q3, q4, q7, e1, e2, resOf, resAll, resOne, aField]
    ·simp (disch := omega) [q3, q4, q7, e1, resOf, resAll, resOne, aField]
   by_cases e1 : ny = 0
   ·simp (disch := omega) [q2, q3, q4, q6, q7, q8, wrap64, e1]
    exact key3 _ (by simp [q3]) (by simp [q4]) (by simp [e1])
   by_cases e2 : ny = 2 * H
   ·simp (disch := omega) [q2, q3, q4, q6, q7, q8, wrap64, e1, e2, n2, n4]
    exact key3 _ (by simp [q3]) (by simp [q4]) (by simp [e2])
   by_cases e3 : k = 2
   ·simp (disch := omega) [q2, q3, q4, q6, q7, q8, wrap64, e1, e2, e3, n2, n4]
    exact key3 _ (by simp [q3]) (by simp [q4]) (by simp [e3])
   simp (disch := omega) [q2, q3, q4, q6, q7, q8, wrap64, e1, e2, e3, n2, n4]
   exact key3 _ (by simp [q3]) (by simp [q4]) (by simp [q7, e1, e2, e3])
  by_cases e1 : nx = 0
  ·simp (disch := omega) [q2, q3, q4, q6, q7, q8, wrap64, e1]
   exact key2 _ (by simp [q2]) (by simp [q3]) (by simp [q4]) (by simp [q6, e1]) (by simp [e1]) (by simp [q8])
  by_cases e2 : nx = 2 * W
  ·simp (disch := omega) [q2, q3, q4, q6, q7, q8, wrap64, e1, e2, n1, n3]
   exact key2 _ (by simp [q2]) (by simp [q3]) (by simp [q4]) (by simp [q6, e2]) (by simp [e2]) (by simp [q8])
  by_cases e3 : k = 1
  ·simp (disch := omega) [q2, q3, q4, q6, q7, q8, wrap64, e1, e2, e3, n1, n3]
   exact key2 _ (by simp [q2]) (by simp [q3]) (by simp [q4]) (by simp [q6]) (by simp [e3]) (by simp [q8, e3])
  simp (disch := omega) [q2, q3, q4, q6, q7, q8, wrap64, e1, e2, e3, n1, n3]
  exact key2 _ (by simp [q2]) (by simp [q3]) (by simp [q4]) (by simp [q6]) (by simp [q7, e1, e2, e3]) (by simp [q8])
 by_cases E : edgeW W.toNat H.toNat nx ny
 ·have k0 : k = 0 := by rw [ek]; exact kindW_edge E
  rw [decide_eq_true E] at c4
  simp (disch := omega)
  refine callW_of c4 ?_
  rintro _ h'' ⟨rfl, rfl⟩
  simp (disch := omega)
  exact key _ (by simp) (by simp) (by simp) (by simp) (by simp) (by simp [k0])
 ·have ek' : k = at0 br (numP W.toNat nx.toNat ny.toNat) := by rw [ek]; exact if_neg E
  have E' : ¬ (nx = 0 ∨ nx = 2 * W ∨ ny = 0 ∨ ny = 2 * H) := by
   intro e; apply E; unfold edgeW; rw [w1, w2]; exact e
  rw [decide_eq_false E] at c4
  have b1 : (nx.toNat : Int) = nx := by omega
  have b2' : (ny.toNat : Int) = ny := by omega
  have hnum := numP_lt (W := W.toNat) (H := H.toNat) (x := nx.toNat) (y := ny.toNat) (by omega) (by omega) (by omega)
  have hl : rowN W.toNat (2 * H.toNat) = br.length := by
   have := rowN_end (W := W.toNat) (by omega) (H := H.toNat) (by omega) (by omega) (by omega)
   rw [w1, w2] at this
   have h3 : inner W H = W * (H - 1) + H * (W - 1) := rfl
   omega
  rw [hl] at hnum
  have hcell := ints_cell hc hnum
  rw [← at0_of hnum, ← ek'] at hcell
  have c5 := c40 h' W.toNat H.toNat nx.toNat ny.toNat (sl b2 o2 br.length z2) (by omega) (by omega) (by omega) (by omega) (by omega)
  rw [b1, b2', w1, w2] at c5
  simp (disch := omega)
  refine callW_of c4 ?_
  rintro _ h'' ⟨rfl, rfl⟩
  simp (disch := omega)
  refine callW_of c5 ?_
  rintro _ h'' ⟨rfl, rfl⟩
  simp (disch := omega) [hnum, hcell]
  exact key _ (by simp) (by simp) (by simp) (by simp) (by simp) (by simp)
/-- Two slices have no block in common. -/
def Apart (v w : Value) : Prop := ∀ b c n m z y, v = sl b 0 n z → w = sl c 0 m y → b = c → b = 0
theorem Apart.symm {v w : Value} (a : Apart v w) : Apart w v := fun b c n m z y h1 h2 e => by
 have := a c b m n y z h2 h1 e.symm; omega
/-- Appending to an own slice: what it becomes, and what stays. -/
theorem append_own {H0 B0 h : Heap} {v x : Value} {z : Nat} {cs new : List Value} {k : Value → Heap → Prop} (hp : 0 < B0.length) (g : Grows H0 h) (hB : H0.length ≤ B0.length) (hBh : B0.length ≤ h.length) (hv : Buf B0 h v z cs) (hn : newCells z h x = some new) (hz : 0 < z) (hne : new ≠ []) (hm : new.length / z * z = new.length)
  (hmax : cs.length + new.length ≤ maxSize) (hk : ∀ n' h', Grows H0 h' → h.length < h'.length → n' * z = (cs ++ new).length → h'[h.length]? = some ⟨cs ++ new, true⟩ → (∀ c kk, h[c]? = some kk → (∀ n, v ≠ sl c 0 n z) → h'[c]? = some kk) → k (sl h.length 0 n' z) h') : bindW (aAppend z h x v) k := by
 rcases hv with ⟨rfl, rfl⟩ | ⟨b, n, rfl, h2, h3, h4⟩
 ·have e : aAppend z h x (sl 0 0 0 z) = some (sl h.length 0 (new.length / z) z, h ++ [⟨new, true⟩]) := by
   simp only [aAppend, hn]
   rw [if_neg (by omega), if_neg hne, if_neg (by simp at hmax; omega), if_pos trivial]
  rw [e]
  exact hk _ _ (g.push _) (by simp) hm (by simp) fun c kk hc _ => push_at hc
 ·have hnz : n ≤ cs.length := by rw [← h2]; exact Nat.le_mul_of_pos_right n hz
  have e : aAppend z h x (sl b 0 n z) = some (sl h.length 0 (n + new.length / z) z, h.set b ⟨[], false⟩ ++ [⟨cs ++ new, true⟩]) := by
   simp only [aAppend, hn]
   rw [if_neg (by omega), if_neg hne, if_neg (by omega), if_neg (by omega)]
   simp only [h4]
   rw [if_pos ⟨trivial, trivial⟩, cellsAt_all h4 h2]
  rw [e]
  have hb := at_lt h4
  refine hk _ _ ((g.put (by omega) _).push _) (by simp) (by rw [Nat.add_mul, hm, h2]; simp) (by simp) fun c kk hc hne' => ?_
  exact push_at (put_at hc fun e => hne' n (by rw [e]))
/-- A second own slice beside it. -/
theorem Buf.keep {B0 h h' : Heap} {v w : Value} {z y : Nat} {cs : List Value} (hp : 0 < B0.length) (hw : Buf B0 h w y cs) (a : Apart v w) (fr : ∀ c kk, h[c]? = some kk → (∀ n, v ≠ sl c 0 n z) → h'[c]? = some kk) : Buf B0 h' w y cs := by
 rcases hw with ⟨rfl, rfl⟩ | ⟨b, n, rfl, h2, h3, h4⟩
 ·exact .inl ⟨rfl, rfl⟩
 ·refine .inr ⟨b, n, rfl, h2, h3, fr b _ h4 fun m e => ?_⟩
  have := a b b m n z y e rfl rfl
  omega
theorem buf_new {B0 h h' : Heap} {n z : Nat} {cs : List Value} (hBh : B0.length ≤ h.length) (hn : n * z = cs.length) (hk : h'[h.length]? = some ⟨cs, true⟩) : Buf B0 h' (sl h.length 0 n z) z cs := .inr ⟨h.length, n, rfl, hn, hBh, hk⟩
theorem c462 (h : Heap) (v : Value) (X : Pan) (k : Nat) (hv : PtP h v X) (ok : OkP X) (hk : k < 4 * X.1.toNat * X.2.1.toNat) : ACall Gam 462 [v, I k] h fun r h' => r = wv (wkW X.2.1.toNat k) ∧ h' = h := by
 obtain ⟨b, o, s, rfl, h1, h2, h3, hr, _⟩ := hv
 obtain ⟨w, hh, hn, _⟩ := ok
 obtain ⟨H, eH⟩ : ∃ H, H = X.2.1 := ⟨_, rfl⟩
 rw [← eH] at h2 hh hk ⊢
 have w2 : (H.toNat : Int) = H := by omega
 have b0 : k < 256 := by
  have : 4 * X.1.toNat * H.toNat ≤ 4 * 8 * 8 := Nat.mul_le_mul (by omega) (by omega)
  omega
 have e0 : H * 2 = ((2 * H.toNat : Nat) : Int) := by omega
 have t1 : (k : Int).tdiv (H * 2) = ((k / (2 * H.toNat) : Nat) : Int) := by rw [e0]; rfl
 have t2 : (k : Int).tmod (H * 2) = ((k % (2 * H.toNat) : Nat) : Int) := by rw [e0]; rfl
 have f1 : (k : Int) / (2 * H) = ((k / (2 * H.toNat) : Nat) : Int) := by rw [Int.mul_comm, e0]; rfl
 have f2 : (k : Int) % (2 * H) = ((k % (2 * H.toNat) : Nat) : Int) := by rw [Int.mul_comm, e0]; rfl
 have q1 : k / (2 * H.toNat) ≤ 256 := by have := Nat.div_le_self k (2 * H.toNat); omega
 have q2 : k % (2 * H.toNat) < 2 * H.toNat := Nat.mod_lt _ (by omega)
 have h0 : ¬ H * 2 = 0 := by omega
 have h0' : ¬ H = 0 := by omega
 unfold wkW
 obtain ⟨q, eq⟩ : ∃ q, q = k / (2 * H.toNat) := ⟨_, rfl⟩
 obtain ⟨r, er⟩ : ∃ r, r = k % (2 * H.toNat) := ⟨_, rfl⟩
 rw [← eq] at t1 f1 q1 ⊢
 rw [← er] at t2 f2 q2 ⊢
 refine ACall_intro g462 rfl ?_
 unfold fn462
 rw [awp_seq, awp_reg]
 generalize hK : seqQ Gam _ _ 0 = K
 simp (disch := omega)
 subst hK
 simp only [seqQ_zero]
 rw [awp_seq, awp_reg]
 generalize hK : seqQ Gam _ _ 0 = K
 simp (disch := omega) [h2, wrap64, t1, f1, h0, h0']
 subst hK
 simp only [seqQ_zero]
 rw [awp_seq, awp_reg]
 generalize hK : seqQ Gam _ _ 0 = K
 simp (disch := omega) [h2, wrap64, t2, f2, h0, h0']
 have key : ∀ σ : Nat → Value, σ 4 = .agg #[I 0, I 0, I 0, I 0] → σ 5 = I q → σ 6 = I r → K σ h := by
  clear eq er t1 t2 f1 f2
  intro σ q4 q5 q6
  subst hK
  simp only [seqQ_zero]
  have t3 : (q : Int).tmod 2 = ((q % 2 : Nat) : Int) := rfl
  have t4 : (r : Int).tmod 2 = ((r % 2 : Nat) : Int) := rfl
  have t5 : (r : Int).tdiv 2 = ((r / 2 : Nat) : Int) := rfl
  have t6 : ((r : Int) + 1).tdiv 2 = (((r + 1) / 2 : Nat) : Int) := rfl
  by_cases e : q % 2 = 0
  ·have t3 : (q : Int).tmod 2 = 0 := by rw [t3, e]; rfl
   by_cases e' : r % 2 = 0
   ·have t4 : (r : Int).tmod 2 = 0 := by rw [t4, e']; rfl
    rw [if_neg (by omega)]
    have a1 : (r : Int).tdiv 2 * 2 + 1 = r + 1 := by rw [t5]; omega
    have a2 : 0 ≤ (r : Int).tdiv 2 ∧ (r : Int).tdiv 2 ≤ 100 := by rw [t5]; omega
    simp (disch := omega) [q4, q5, q6, wrap64, t3, t4, a1, resOf_box, aField, wv]
    try omega
   ·have t4 : (r : Int).tmod 2 = 1 := by rw [t4]; omega
    rw [if_pos (by omega)]
    have a1 : (r : Int).tdiv 2 * 2 + 1 = r := by rw [t5]; omega
    have a2 : 0 ≤ (r : Int).tdiv 2 ∧ (r : Int).tdiv 2 ≤ 100 := by rw [t5]; omega
    simp (disch := omega) [q4, q5, q6, wrap64, t3, t4, a1, resOf_box, aField, wv]
    try omega
  ·have t3 : ¬ (q : Int).tmod 2 = 0 := by rw [t3]; omega
   have a2 : 0 ≤ ((r : Int) + 1).tdiv 2 ∧ ((r : Int) + 1).tdiv 2 ≤ 100 := by rw [t6]; omega
   by_cases e' : r % 2 = 0
   ·have t4 : ¬ (r : Int).tmod 2 = 1 := by rw [t4]; omega
    have a1 : ((r : Int) + 1).tdiv 2 * 2 = r := by rw [t6]; omega
    rw [if_pos (by omega)]
    simp (disch := omega) [q4, q5, q6, wrap64, t3, t4, a1, resOf_box, aField, wv]
    try omega
   ·have t4 : (r : Int).tmod 2 = 1 := by rw [t4]; omega
    have a1 : ((r : Int) + 1).tdiv 2 * 2 = r + 1 := by rw [t6]; omega
    rw [if_neg (by omega)]
    simp (disch := omega) [q4, q5, q6, wrap64, t3, t4, a1, resOf_box, aField, wv]
    try omega
 refine key _ (by simp) (by simp) ?_
 simp
 rw [Int.mul_comm]; exact t2
end Am
