/- Contracts: AmY18, AmY19, AmY20. -/
import Derived.Test.YtbljglfnbjbknaaGreatAmK6
set_option linter.unusedVariables false
set_option linter.unusedSimpArgs false
set_option maxHeartbeats 4000000
set_option maxRecDepth 40000
namespace Am
open Go
theorem rowsC_erase (L : List Row) (i : Nat) (hi : i < L.length) : (rowsC L).take (i * 4) ++ (rowsC L).drop ((i + 1) * 4) = rowsC (L.eraseIdx i) := by
 have h1 : L = L.take i ++ L[i] :: L.drop (i + 1) := by rw [← List.drop_eq_getElem_cons hi, List.take_append_drop]
 have e1 : (rowsC (L.take i)).length = i * 4 := by rw [rowsC_len, List.length_take]; congr 1; omega
 have e2 : rowsC L = rowsC (L.take i) ++ (rowC L[i] ++ rowsC (L.drop (i + 1))) := by
  conv => lhs; rw [h1]
  rw [rowsC_append, rowsC_cons]
 have e3 : (rowC L[i]).length = 4 := rfl
 rw [e2, List.take_append_of_le_length (by omega), List.take_of_length_le (by omega), List.drop_append, List.drop_eq_nil_of_le (by omega), List.nil_append, e1, List.drop_append, List.drop_eq_nil_of_le (by omega), e3, show (i + 1) * 4 - i * 4 - 4 = 0 by omega]
 rw [List.eraseIdx_eq_take_drop_succ, rowsC_append]
 simp
theorem flat_sub {α β : Type} (f : α → List β) {a b : List α} (s : List.Sublist a b) : List.Sublist (a.map f).flatten (b.map f).flatten := by
 induction s with
 | slnil => simp
 | cons x s ih => simp only [List.map_cons, List.flatten_cons]; exact ih.trans (List.sublist_append_right _ _)
 | cons_cons x s ih => simp only [List.map_cons, List.flatten_cons]; exact ih.append_left _
theorem c311 (h0 h : Heap) (hp : 0 < h0.length) (g : Grows h0 h) (v : Value) (L : List Row) (kb : KB h0 h v L) (i : Nat) (hi : i < L.length) : ACall Gam 311 [v, I i, I ((i : Int) + 1)] h fun r h' => Grows h0 h' ∧ KB h0 h' r (L.eraseIdx i) := by
 have hl := rowsC_len L
 rcases kb.b with ⟨e1, e2⟩ | ⟨b, n, rfl, e2, e3, e4⟩
 ·rw [e1] at hl; simp at hl; omega
 have hn : n = L.length := by rw [hl] at e2; omega
 subst hn
 have hb0 : b ≠ 0 := by omega
 have hd : primDelete 4 [sl b 0 L.length 4, I i, I ((i : Int) + 1)] h = some (sl h.length 0 (L.length - 1) 4, h.set b ⟨[], false⟩ ++ [⟨rowsC (L.eraseIdx i), true⟩]) := by
  have c1 : ¬ (4 = 0 ∨ b = 0 ∨ (i : Int) < 0 ∨ (i : Int) + 1 ≤ i ∨ (L.length : Int) < i + 1) := by omega
  simp only [primDelete, sl]
  rw [if_neg c1]
  simp only [e4]
  rw [if_pos ⟨trivial, trivial⟩, cellsAt_all e4 e2]
  simp only
  rw [show (i : Int).toNat = i by omega, show ((i : Int) + 1).toNat = i + 1 by omega, rowsC_erase L i hi, show i + 1 - i = 1 by omega]
 have nb := rows_nb (b := b) kb.el (.inr e4)
 have hsub : ∀ r ∈ L.eraseIdx i, r ∈ L := fun r hr => List.mem_of_mem_eraseIdx hr
 refine ACall_prim g311 rfl rfl hd ⟨(g.put e3 _).push _, ?_, fun r hr => ?_, ?_, fun r hr => kb.rg r (hsub r hr)⟩
 ·refine .inr ⟨h.length, L.length - 1, rfl, ?_, g.le, by simp⟩
  rw [rowsC_len, List.length_eraseIdx_of_lt hi]
 ·refine (kb.el r (hsub r hr)).frame fun c hc => ?_
  have hlt := (kb.el r (hsub r hr)).lt c hc
  rw [List.getElem?_append_left (by simpa using hlt), List.getElem?_set_ne (fun e => nb r (hsub r hr) (by rw [e]; exact hc))]
 ·exact List.Nodup.sublist (flat_sub rowB (List.eraseIdx_sublist L i)) kb.nd
def KCs (h : Heap) (X : Lib) (cs : List Value) : Prop := cs.length = X.length * 4 ∧ ∀ i (hi : i < X.length), ∃ s, (cs.drop (i * 4)).take 4 = [S X[i].1, I X[i].2.1, I X[i].2.2.1, s] ∧ Vr h shInts s X[i].2.2.2 ∧ I64 X[i].2.1 ∧ I64 X[i].2.2.1 ∧ X[i].1.length ≤ 9223372036854775807
theorem KCs.nil {h : Heap} : KCs h [] [] := ⟨rfl, fun i hi => by simp at hi⟩
theorem KCs.append {h : Heap} {X Y : Lib} {a b : List Value} (x : KCs h X a) (y : KCs h Y b) : KCs h (X ++ Y) (a ++ b) := by
 refine ⟨by rw [List.length_append, List.length_append, x.1, y.1]; omega, fun i hi => ?_⟩
 rw [List.length_append] at hi
 by_cases e : i < X.length
 ·obtain ⟨s, c, r⟩ := x.2 i e
  rw [List.getElem_append_left e]
  refine ⟨s, ?_, r⟩
  rw [List.drop_append_of_le_length (by rw [x.1]; omega), List.take_append_of_le_length (by rw [List.length_drop, x.1]; omega), c]
 ·obtain ⟨s, c, r⟩ := y.2 (i - X.length) (by omega)
  rw [List.getElem_append_right (by omega)]
  refine ⟨s, ?_, r⟩
  rw [List.drop_append, List.drop_eq_nil_of_le (by rw [x.1]; omega), List.nil_append, x.1, show i * 4 - X.length * 4 = (i - X.length) * 4 by omega, c]
theorem Vr.kat4 {h : Heap} {v : Value} {X : Lib} (x : Vr h shKepts v X) : ∃ b o z, v = sl b o X.length z ∧ KAt h b o z X ∧ (z = 4 ∨ X = []) := by
 have x0 := x
 obtain ⟨b, o, z, rfl, k⟩ := x.kat
 obtain ⟨b', o', z', e, hz', _⟩ := x0.slice
 simp at e
 obtain ⟨⟨rfl, rfl⟩, rfl⟩ := e
 exact ⟨_, _, _, rfl, k, hz'.imp id fun q => q.2⟩
theorem KAt.part {h : Heap} {b o z : Nat} {X : Lib} (x : KAt h b o z X) (hz : z = 4 ∨ X = []) {i j : Nat} (hij : i ≤ j) (hj : j ≤ X.length) : ∃ cs, newCells 4 h (sl b (o + i * z) (j - i) z) = some cs ∧ KCs h ((X.take j).drop i) cs := by
 by_cases e : j - i = 0
 ·have : i = j := by omega
  subst this
  refine ⟨[], by simp [newCells], ?_⟩
  rw [List.drop_eq_nil_of_le (by rw [List.length_take]; omega)]
  exact KCs.nil
 ·have hz4 : z = 4 := by
   rcases hz with q | q
   ·exact q
   ·subst q; simp at hj; omega
  subst hz4
  obtain ⟨s, c, _⟩ := x.2 (j - 1) (by omega)
  obtain ⟨k, hk⟩ : ∃ k, h[b]? = some k := by
   unfold cellsAt at c
   cases q : h[b]? with
   | none => simp [q] at c
   | some k => exact ⟨k, rfl⟩
  have hlen : o + (j - 1) * 4 + 4 ≤ k.cells.length := by
   unfold cellsAt at c
   simp only [hk] at c
   split at c
   ·assumption
   ·cases c
  refine ⟨(k.cells.drop (o + i * 4)).take ((j - i) * 4), ?_, ?_, fun m hm => ?_⟩
  ·simp only [newCells, sl]
   rw [if_neg e, cellsAt_of hk (by omega)]
  ·rw [List.length_take, List.length_drop, List.length_drop, List.length_take]; omega
  ·rw [List.length_drop, List.length_take] at hm
   obtain ⟨s, c, r⟩ := x.2 (i + m) (by omega)
   rw [List.getElem_drop, List.getElem_take]
   refine ⟨s, ?_, r⟩
   have : o + (i + m) * 4 + 4 ≤ k.cells.length := by omega
   rw [cellsAt_of hk (by omega)] at c
   injection c with c
   rw [List.drop_take, List.take_take, List.drop_drop, ← c, show o + i * 4 + m * 4 = o + (i + m) * 4 by omega]
   congr 1; omega
theorem KCs.kat {h h' : Heap} {v : Value} {X : Lib} {cs : List Value} (k : KCs h X cs) (hv : Buf h h' v 4 cs) (g : Grows h h') (hm : X.length ≤ maxLen) : ∃ b, v = sl b 0 X.length 4 ∧ KAt h' b 0 4 X := by
 rcases hv with ⟨e1, e2⟩ | ⟨b, n, e1, e2, e3, e4⟩
 ·have hl := k.1
  rw [e1] at hl; simp at hl
  have : X = [] := List.length_eq_zero_iff.1 (by omega)
  subst this
  exact ⟨0, e2, ⟨by simp, .inl rfl⟩, fun i hi => by simp at hi⟩
 ·rw [k.1] at e2
  have : n = X.length := by omega
  subst this
  refine ⟨b, e1, ⟨hm, .inl rfl⟩, fun i hi => ?_⟩
  obtain ⟨s, c, r, w⟩ := k.2 i hi
  refine ⟨s, ?_, r.grow g, w⟩
  rw [Nat.zero_add, cellsAt_of e4 (by simp only; rw [k.1]; omega), c]
/-- A part of a list that is there is appended. -/
theorem app_part {h0 h : Heap} {b o z i j o' n' : Nat} {v : Value} {X Y : Lib} {cs : List Value} {K : Value → Heap → Prop} (hp : 0 < h0.length) (g : Grows h0 h) (hv : Buf h0 h v 4 cs) (hX : KCs h0 X cs) (y : KAt h0 b o z Y) (hz : z = 4 ∨ Y = []) (hij : i ≤ j) (hj : j ≤ Y.length) (hl : X.length ≤ 1000) (hl2 : Y.length ≤ 1000) (eo : o' = o + i * z) (en : n' = j - i)
  (hK : ∀ v' h' cs', Grows h0 h' → Buf h0 h' v' 4 cs' → KCs h0 (X ++ (Y.take j).drop i) cs' → K v' h') : bindW (aAppend 4 h (sl b o' n' z) v) K := by
 subst eo; subst en
 obtain ⟨new, hn, hnew⟩ := y.part hz hij hj
 have hn' : newCells 4 h (sl b (o + i * z) (j - i) z) = some new := by
  by_cases e : j - i = 0
  ·simp only [newCells, sl, if_pos e] at hn ⊢; exact hn
  ·simp only [newCells, sl, if_neg e] at hn ⊢; exact g.cellsAt hn
 have hnl := hnew.1
 rw [List.length_drop, List.length_take] at hnl
 by_cases e : new = []
 ·have e1 : aAppend 4 h (sl b (o + i * z) (j - i) z) v = some (v, h) := by
   rcases hv with ⟨_, e2⟩ | ⟨b', n', e2, _⟩
   ·rw [e2]; simp only [aAppend, sl]; rw [show newCells 4 h (.slice (some ⟨b, o + i * z, none⟩) (j - i) z) = some new from hn']; simp [e]
   ·rw [e2]; simp only [aAppend, sl]; rw [show newCells 4 h (.slice (some ⟨b, o + i * z, none⟩) (j - i) z) = some new from hn']; simp [e]
  rw [e1]
  simp only [bindW_some]
  have := hX.append hnew
  rw [e, List.append_nil] at this
  exact hK v h cs g hv this
 ·refine append_buf hp g hv hn' (by omega) e (by omega) (by rw [hX.1, hnl]; simp [maxSize]; omega) fun v' h' g' b' _ => ?_
  exact hK v' h' _ g' b' (hX.append hnew)
theorem erase_parts (X : Lib) (k : Nat) (hk : k < X.length) : (X.take k).drop 0 ++ (X.take X.length).drop (k + 1) = X.eraseIdx k := by
 rw [List.drop_zero, List.take_length, List.eraseIdx_eq_take_drop_succ]
theorem KeptOk.erase_siz {X : Lib} (ok : KeptOk X) (i : Nat) : siz shKepts (X.eraseIdx i) ≤ 16777216 := by
 have key : ∀ Y : Lib, (∀ y ∈ Y, y ∈ X) → sizL Y ≤ 200 * Y.length := by
  intro Y
  induction Y with
  | nil => intro _; simp [sizL]
  | cons y Y ih =>
   intro hy
   have h1 := ih fun z hz => hy z (by simp [hz])
   obtain ⟨j, hj, rfl⟩ := List.getElem_of_mem (hy y (by simp))
   obtain ⟨okp, hn⟩ := ok.getOk hj
   have h128 := okp.siz
   have h3 : siz shKept X[j] = X[j].1.length + X[j].2.2.2.length := siz_kept _ _ _ _
   have h4 : sizL (X[j] :: Y) = siz shKept X[j] + sizL Y := by simp [sizL]
   rw [h4, h3]
   simp only [List.length_cons]; omega
 have hl : (X.eraseIdx i).length ≤ X.length := List.length_eraseIdx_le X i
 have := key (X.eraseIdx i) fun y hy => List.mem_of_mem_eraseIdx hy
 have := ok.len
 rw [siz_kepts]; omega
theorem KeptOk.small {X : Lib} (ok : KeptOk X) : ∀ y ∈ X, y.1.length ≤ 12 ∧ y.2.2.2.length ≤ 128 := by
 intro y hy
 obtain ⟨j, hj, rfl⟩ := List.getElem_of_mem hy
 obtain ⟨okp, hn⟩ := ok.getOk hj
 exact ⟨hn, okp.siz⟩
theorem remove_siz (X : Lib) (s : List UInt8) : siz shKepts (removeAns X s).1 ≤ 16777216 := by
 unfold removeAns
 split
 ·rename_i h
  split
  ·exact (keptOk_iff.1 h).erase_siz _
  ·rw [siz_kepts]; simp [sizL]
 ·rw [siz_kepts]; simp [sizL]
theorem Vo.no_kepts {h : Heap} {lo hi : Nat} {z : Nat} : Vo h lo hi shKepts (sl 0 0 0 z) ([] : Lib) := KO.vo (L := []) ⟨.inr ⟨rfl, rfl⟩, by simp, by simp, .inl rfl, by simp, by simp⟩
theorem c124 (h : Heap) (hp : 0 < h.length) (v0 : Value) (X : Lib) (hv0 : Vr h shKepts v0 X) (hs0 : siz shKepts X ≤ 1048576) (s : List UInt8) (hs1 : s.length ≤ 1048576) :
  ACall Gam 124 [v0, S s] h fun r h' => Grows h h' ∧ ∃ r0, r = .tuple #[r0, I (removeAns X s).2] ∧ Vo h' h.length h'.length shKepts r0 (removeAns X s).1 ∧ siz shKepts (removeAns X s).1 ≤ 16777216 := by
 have hsz := remove_siz X s
 obtain ⟨b, o, z, rfl, hX⟩ := hv0.kat
 refine ACall_intro g124 rfl ?_
 unfold fn124
 simp (disch := omega)
 refine callW_of (c168 h hp b o z X hX hs0 s) ?_
 rintro _ h1 ⟨rfl, G1⟩
 have l1 := G1.le
 have hle := nameN_le X s
 cases e1 : keptOk X
 ·have e : removeAns X s = ([], 1) := by simp [removeAns, e1]
  rw [e] at hsz ⊢
  simp (disch := omega) [keptIx, resOf, resAll, resOne, aField]
  exact ⟨G1, Vo.no_kepts, hsz⟩
 have ok := keptOk_iff.1 e1
 by_cases e3 : nameN X s < X.length
 ·have e : removeAns X s = (X.eraseIdx (nameN X s), 0) := by simp [removeAns, e1, e3]
  rw [e] at hsz ⊢
  have h40 := ok.len
  simp (disch := omega) [keptIx, e3]
  refine callW_of (c149 h1 (by omega) b o z X (hX.grow G1) (by omega) fun i hi => by have := ok.small _ (List.getElem_mem hi); omega) ?_
  rintro v2 h2 ⟨G2, L, hL, kb⟩
  have l2 := G2.le
  have hLl : L.length = X.length := by rw [← hL]; simp
  have kb' : KB h1 h2 v2 L := kb
  simp (disch := omega) [wrap64]
  refine callW_of (c311 h1 h2 (by omega) G2 v2 L kb' (nameN X s) (by omega)) ?_
  rintro v3 h3 ⟨G3, kb3⟩
  have hl3 : (L.eraseIdx (nameN X s)).length ≤ maxLen := by
   have := List.length_eraseIdx_le L (nameN X s)
   rw [maxLen_eq]; omega
  have vo := kb3.vo hl3
  have hm : (L.eraseIdx (nameN X s)).map (·.1) = X.eraseIdx (nameN X s) := by
   rw [← hL, List.eraseIdx_eq_take_drop_succ, List.eraseIdx_eq_take_drop_succ, List.map_append, List.map_take, List.map_drop]
  rw [hm] at vo
  obtain ⟨b3, e3'⟩ := kb3.len
  subst e3'
  simp (disch := omega) [resOf, resAll, resOne, aField]
  exact ⟨G1.trans G3, vo.wide l1 (Nat.le_refl _), hsz⟩
 ·have e : removeAns X s = ([], 3) := by simp [removeAns, e1, e3]
  rw [e] at hsz ⊢
  simp (disch := omega) [keptIx, e3, resOf, resAll, resOne, aField]
  exact ⟨G1, Vo.no_kepts, hsz⟩
theorem c415 (h : Heap) (hp : 0 < h.length) (v0 : Value) (X : Lib) (hv0 : Vr h shKepts v0 X) (hs0 : siz shKepts X ≤ 1048576) (s : List UInt8) (hs1 : s.length ≤ 1048576) :
  ACall Gam 415 [v0, S s] h fun r h' => Grows h h' ∧ ∃ r0, r = .tuple #[r0, I (removeAns X s).2] ∧ Vo h' h.length h'.length shKepts r0 (removeAns X s).1 ∧ siz shKepts (removeAns X s).1 ≤ 16777216 := by
 have hsz := remove_siz X s
 obtain ⟨b, o, z, rfl, hX, hz⟩ := hv0.kat4
 refine ACall_intro g415 rfl ?_
 unfold fn415
 simp (disch := omega)
 refine callW_of (c541 h hp b o z X hX fun k hk => KAt.short hs0 hk) ?_
 rintro _ h1 ⟨rfl, G1⟩
 have l1 := G1.le
 have hle := nameN_le X s
 cases e1 : keptOk X
 ·have e : removeAns X s = ([], 1) := by simp [removeAns, e1]
  rw [e] at hsz ⊢
  simp (disch := omega) [resOf, resAll, resOne, aField]
  exact ⟨G1, Vo.no_kepts, hsz⟩
 have ok := keptOk_iff.1 e1
 simp (disch := omega)
 refine callW_of (c538 h1 b o z X (hX.grow G1) s) ?_
 rintro _ h1 ⟨rfl, rfl⟩
 by_cases e3 : nameN X s < X.length
 ·have e : removeAns X s = (X.eraseIdx (nameN X s), 0) := by simp [removeAns, e1, e3]
  rw [e] at hsz ⊢
  have h40 := ok.len
  obtain ⟨k, hk⟩ : ∃ k, k = nameN X s := ⟨_, rfl⟩
  rw [← hk] at e3 hsz ⊢
  have hz1 : z = 4 ∨ b = 0 := hX.1.2
  have n0 : ¬ ((k : Nat) : Int) < 0 := by omega
  have n1 : (0 : Int) ≤ (k : Int) + 1 := by omega
  have n2 : (k : Int) + 1 ≤ X.length := by omega
  have n3 : k + 1 ≤ X.length := by omega
  have n4 : k ≤ X.length := by omega
  have hX1 := hX.grow G1
  simp (disch := omega) [ix_lt e3, n0, n1, n2, n3, n4, aSlice, bound, hz1, wrap64]
  refine app_part (h0 := h1) (i := 0) (j := k) (X := []) (Y := X) (cs := []) (by omega) (Grows.refl _) Buf.nil KCs.nil hX1 hz (by omega) (by omega) (by simp) (by omega) (by omega) (by omega) fun v2 h2 cs2 G2 B2 C2 => ?_
  have lk : ([] ++ (X.take k).drop 0).length = k := by simp; omega
  try simp (disch := omega) [ix_lt e3, n0, n1, n2, n3, n4, aSlice, bound, hz1, wrap64]
  refine app_part (h0 := h1) (i := k + 1) (j := X.length) (Y := X) (by omega) G2 B2 C2 hX1 hz (by omega) (by omega) (by omega) (by omega) (by omega) (by omega) fun v3 h3 cs3 G3 B3 C3 => ?_
  have em : [] ++ (X.take k).drop 0 ++ (X.take X.length).drop (k + 1) = X.eraseIdx k := by rw [List.nil_append, erase_parts X k e3]
  rw [em] at C3
  have le := List.length_eraseIdx_le X k
  obtain ⟨b4, rfl, hX4⟩ := C3.kat B3 G3 (by rw [maxLen_eq]; omega)
  have l3 := G3.le
  try simp (disch := omega)
  refine callW_of (c542 h3 (by omega) b4 0 4 (X.eraseIdx k) hX4 (by omega) fun i hi => by have := ok.small _ (List.mem_of_mem_eraseIdx (List.getElem_mem hi)); omega) ?_
  rintro v5 h5 ⟨G5, L, hL, kb⟩
  have hLl : L.length ≤ maxLen := by
   have := congrArg List.length hL
   rw [List.length_map] at this
   rw [maxLen_eq]; omega
  have vo := kb.vo hLl
  rw [hL] at vo
  obtain ⟨b5, e5⟩ := kb.len
  subst e5
  simp (disch := omega) [resOf, resAll, resOne, aField]
  exact ⟨G1.trans (G3.trans G5), vo.wide (by omega) (Nat.le_refl _), hsz⟩
 ·have e : removeAns X s = ([], 3) := by simp [removeAns, e1, e3]
  rw [e] at hsz ⊢
  simp (disch := omega) [ix_no e3, resOf, resAll, resOne, aField]
  exact ⟨G1, Vo.no_kepts, hsz⟩
def cmpT (a b : List UInt8) : Int := if lexLt a b = true then -1 else if lexLt b a = true then 1 else 0
theorem c153 (h : Heap) (a b : List UInt8) : ACall Gam 153 [S a, S b] h fun r h' => r = I (cmpT a b) ∧ h' = h := by
 refine ACall_intro g153 rfl ?_
 unfold fn153
 have e := lexLt_not b a
 cases q : lexLt a b
 ·rw [q] at e
  simp only [Bool.false_or] at e
  by_cases q2 : a = b
  ·simp (disch := omega) [q, q2, cmpT, lexLt_irr]
  ·simp (disch := omega) [q, q2, cmpT, e]
 ·simp (disch := omega) [q, cmpT]
theorem c201 (h : Heap) (n m : List UInt8) (W H W' H' : Int) (s s' : Value) : ACall Gam 201 [.agg #[S n, I W, I H, s], .agg #[S m, I W', I H', s']] h fun r h' => r = I (cmpT n m) ∧ h' = h := by
 refine ACall_intro g201 rfl ?_
 unfold fn201
 simp (disch := omega)
 refine callW_of (c153 h n m) ?_
 rintro _ h' ⟨rfl, rfl⟩
 simp
theorem c306 (h : Heap) (b o z : Nat) (X : Lib) (hX : KAt h b o z X) (hl : X.length ≤ 1000) (srt : SortK X) (n : List UInt8) (W H : Int) (s : Value) (hn : ∀ y ∈ X, y.1 ≠ n) :
  ACall Gam 306 [sl b o X.length z, .agg #[S n, I W, I H, s], .func (.func 201) #[] #[]] h fun r h' => h' = h ∧ ∃ k c, IsPut X n k ∧ r = .tuple #[I k, B c] := by
 refine ACall_intro g306 rfl ?_
 unfold fn306
 simp (disch := omega)
 refine awp_loop (fun (p : Nat × Nat) σ h' => h' = h ∧ p.1 ≤ p.2 ∧ p.2 ≤ X.length ∧ σ 0 = sl b o X.length z ∧ σ 2 = .func (.func 201) #[] #[] ∧ σ 4 = .agg #[S n, I W, I H, s] ∧ σ 8 = I X.length ∧ σ 9 = I p.1 ∧ σ 10 = I p.2 ∧ (∀ i (hi : i < X.length), i < p.1 → lexLt X[i].1 n = true) ∧ ∀ i (hi : i < X.length), p.2 ≤ i → lexLt n X[i].1 = true) (fun p => p.2 - p.1) (0, X.length) ?_ ?_
 ·refine ⟨rfl, by omega, by omega, by simp, by simp, by simp, by simp, by simp, by simp, fun i hi h => by omega, fun i hi h => by omega⟩
 ·rintro ⟨i, j⟩ σ h' ⟨rfl, hij, hj, q0, q2, q4, q8, q9, q10, lo, hi⟩
  simp only at hij hj q9 q10 lo hi
  simp (disch := omega) [q9, q10]
  refine fork_dec (fun hlt => ?_) (fun hge => ?_)
  ·obtain ⟨m, hm⟩ : ∃ m, m = (i + j) / 2 := ⟨_, rfl⟩
   have em : IntKind.i64.wrap ((IntKind.u64.wrap ((i : Int) + j)).fdiv (2 ^ min 1 IntKind.u64.bits)) = (m : Int) := by
    rw [wrapU (by omega) (by omega)]
    have e2 : ((2 : Int) ^ min 1 IntKind.u64.bits) = 2 := by decide
    rw [e2, Int.fdiv_eq_ediv_of_nonneg _ (by omega), wrap64 (by omega) (by omega)]
    omega
   have m1 : m < X.length := by omega
   obtain ⟨s', c, c1, _⟩ := hX.cells m1
   have hsrt := List.pairwise_iff_getElem.1 srt
   have hmn := hn _ (List.getElem_mem m1)
   simp (disch := omega) [q0, q2, q4, q9, q10, em, m1, c, wrap64]
   refine callW_of (c201 h' X[m].1 n _ _ W H s' s) ?_
   rintro _ h' ⟨rfl, rfl⟩
   cases q : lexLt X[m].1 n
   ·have q' := lexLt_or q hmn
    have ec : cmpT X[m].1 n = 1 := by simp [cmpT, q, q']
    simp (disch := omega) [ec, q0, q2, q4, q8, q9, q10, wrap64]
    refine ⟨i, m, ⟨by omega, by omega, by omega, by omega, lo, fun k hk h => ?_⟩, by omega⟩
    by_cases e : k = m
    ·subst e; exact q'
    ·exact lexLt_trans q' (hsrt m k m1 hk (by omega))
   ·have ec : cmpT X[m].1 n = -1 := by simp [cmpT, q]
    simp (disch := omega) [ec, q0, q2, q4, q8, q9, q10, wrap64]
    refine ⟨m + 1, j, ⟨by omega, by omega, by omega, by omega, fun k hk h => ?_, hi⟩, by omega⟩
    by_cases e : k = m
    ·subst e; exact q
    ·exact lexLt_trans (hsrt k m hk m1 (by omega)) q
  ·have : i = j := by omega
   subst this
   have put : IsPut X n i := ⟨hj, fun k hk h => lo k hk h, fun k hk h => hi k hk h⟩
   by_cases e : i < X.length
   ·obtain ⟨s', c, _⟩ := hX.cells e
    have e' : (i : Int) < X.length := by omega
    simp (disch := omega) [q0, q2, q4, q8, q9, q10, e, e', c]
    refine callW_of (c201 h' X[i].1 n _ _ W H s' s) ?_
    rintro _ h' ⟨rfl, rfl⟩
    simp (disch := omega) [q0, q2, q4, q8, q9, q10, resOf, resAll, resOne, aField]
    exact ⟨i, put, by by_cases q : cmpT X[i].1 n = 0 <;> simp [q]⟩
   ·have e' : ¬ (i : Int) < X.length := by omega
    simp (disch := omega) [q0, q2, q4, q8, q9, q10, e, e', resOf, resAll, resOne, aField]
    exact ⟨i, put, rfl⟩
theorem rowsC_ins (L : List Row) (i : Nat) (hi : i ≤ L.length) (r : Row) : (rowsC L).take (i * 4) ++ (rowC r ++ (rowsC L).drop (i * 4)) = rowsC (L.take i ++ r :: L.drop i) := by
 have e1 : (rowsC (L.take i)).length = i * 4 := by rw [rowsC_len, List.length_take]; congr 1; omega
 have e2 : rowsC L = rowsC (L.take i) ++ rowsC (L.drop i) := by rw [← rowsC_append, List.take_append_drop]
 rw [e2, List.take_append_of_le_length (by omega), List.take_of_length_le (by omega), List.drop_append, List.drop_eq_nil_of_le (by omega), List.nil_append, e1, Nat.sub_self, List.drop_zero, rowsC_append, rowsC_cons]
theorem ins_perm (L : List Row) (i : Nat) (r : Row) : List.Perm (L.take i ++ r :: L.drop i) (r :: L) := by
 have := (List.perm_middle (a := r) (l₁ := L.take i) (l₂ := L.drop i))
 rw [List.take_append_drop] at this
 exact this
theorem c318 (h0 h h1 : Heap) (hp : 0 < h0.length) (g : Grows h0 h) (v : Value) (L : List Row) (kb : KB h0 h v L) (hl : L.length ≤ 1000) (i : Nat) (hi : i ≤ L.length) (r : Row) (G1 : Grows h h1) (er : EntO h r) (hr0 : ∀ c ∈ rowB r, h0.length ≤ c) (hrn : ∀ q ∈ L, ∀ c ∈ rowB q, c ∉ rowB r) (nb : Nat) (hnb : h.length ≤ nb) (hb : h1[nb]? = some ⟨rowC r, true⟩) (hv : ∀ m, v ≠ sl r.2.1 0 m 4 ∨ rbr r = []) :
  ACall Gam 318 [v, I i, sl nb 0 1 4] h1 fun w h' => Grows h0 h' ∧ KB h0 h' w (L.take i ++ r :: L.drop i) ∧ h.length ≤ h'.length ∧ (∃ b2 n2, w = sl b2 0 n2 4 ∧ h.length ≤ b2) ∧ ∀ c, c < h.length → (∀ m, v ≠ sl c 0 m 4) → h'[c]? = h[c]? := by
 have hlen := rowsC_len L
 have hn : newCells 4 h1 (sl nb 0 1 4) = some (rowC r) := by
  simp only [newCells, if_neg (show ¬ (1 : Nat) = 0 by omega)]
  exact cellsAt_all (n := 4) hb rfl
 have perm := ins_perm L i r
 have nd : ((L.take i ++ r :: L.drop i).map rowB).flatten.Nodup := by
  have p2 : List.Perm ((L.take i ++ r :: L.drop i).map rowB).flatten ((r :: L).map rowB).flatten := (perm.map rowB).flatten
  rw [p2.nodup_iff]
  simp only [List.map_cons, List.flatten_cons]
  rw [List.nodup_append]
  refine ⟨by unfold rowB; split <;> simp, kb.nd, fun c hc d hd e => ?_⟩
  obtain ⟨t, ht, hdt⟩ := List.mem_flatten.1 hd
  obtain ⟨q, hq, rfl⟩ := List.mem_map.1 ht
  exact hrn q hq d hdt (e ▸ hc)
 have mem : ∀ q ∈ L.take i ++ r :: L.drop i, q = r ∨ q ∈ L := by
  intro q hq
  have := perm.mem_iff.1 hq
  simpa using this
 have lr : (L.take i ++ r :: L.drop i).length = L.length + 1 := by
  have := perm.length_eq
  simpa using this
 have rg : ∀ q ∈ L.take i ++ r :: L.drop i, ∀ c ∈ rowB q, h0.length ≤ c := by
  intro q hq c hc
  rcases mem q hq with e | e
  ·rw [e] at hc; exact hr0 c hc
  ·exact kb.rg q e c hc
 have l1 := G1.le
 rcases kb.b with ⟨e1, rfl⟩ | ⟨b, n, rfl, e2, e3, e4⟩
 ·have hL : L = [] := by
   rw [e1] at hlen; simp at hlen; exact List.length_eq_zero_iff.1 (by omega)
  subst hL
  have hi0 : i = 0 := by simpa using hi
  subst hi0
  have hx : primInsert 4 [sl 0 0 0 4, I ((0 : Nat) : Int), sl nb 0 1 4] h1 = some (sl h1.length 0 1 4, h1 ++ [⟨rowC r, true⟩]) := by
   simp only [primInsert, sl]
   rw [show newCells 4 h1 (.slice (some ⟨nb, 0, none⟩) 1 4) = some (rowC r) from hn]
   have c1 : ¬ ((4 : Nat) < 2 ∨ (4 : Nat) ≠ 4 ∨ (1 : Nat) = 0 ∨ maxSize < 0 + (rowC r).length ∨ ((0 : Nat) : Int) < 0 ∨ ((0 : Nat) : Int) < ((0 : Nat) : Int) ∨ nb = 0) := by
    simp [maxSize, rowC]
    have := g.le; omega
   simp only
   rw [if_neg c1, if_pos trivial]
  refine ACall_prim g318 rfl rfl hx ⟨(g.trans G1).push _, ⟨.inr ⟨h1.length, 1, rfl, by simp [rowC, rowsC], by have := g.le; omega, by simp [rowsC]⟩, fun q hq => ?_, nd, rg⟩, by simp; omega, ⟨_, _, rfl, by omega⟩, fun c hc _ => by rw [List.getElem?_append_left (by omega), G1.look hc]⟩
  simp at hq; subst hq
  exact er.frame fun c hc => by
   have := er.lt c hc
   rw [List.getElem?_append_left (by omega), G1.look this]
 ·have hnn : n = L.length := by rw [hlen] at e2; omega
  subst hnn
  have e4' := G1.at e4
  have hb0 : b ≠ 0 := by omega
  have hbl := at_lt e4
  have hx : primInsert 4 [sl b 0 L.length 4, I i, sl nb 0 1 4] h1 = some (sl h1.length 0 (L.length + 1) 4, h1.set b ⟨[], false⟩ ++ [⟨rowsC (L.take i ++ r :: L.drop i), true⟩]) := by
   simp only [primInsert, sl]
   rw [show newCells 4 h1 (.slice (some ⟨nb, 0, none⟩) 1 4) = some (rowC r) from hn]
   have c1 : ¬ ((4 : Nat) < 2 ∨ (4 : Nat) ≠ 4 ∨ (1 : Nat) = 0 ∨ maxSize < L.length + (rowC r).length ∨ (i : Int) < 0 ∨ (L.length : Int) < (i : Int) ∨ nb = b) := by
    simp [maxSize, rowC]; omega
   simp only
   rw [if_neg c1, if_neg hb0]
   simp only [e4', hb]
   rw [if_pos ⟨trivial, trivial, trivial⟩, cellsAt_all e4' e2]
   simp only
   rw [show (i : Int).toNat = i by omega, rowsC_ins L i hi r]
  have nbb := rows_nb (b := b) kb.el (.inr e4)
  refine ACall_prim g318 rfl rfl hx ⟨((g.trans G1).put e3 _).push _, ⟨.inr ⟨h1.length, L.length + 1, rfl, by rw [rowsC_len, lr], by have := g.le; omega, by simp⟩, fun q hq => ?_, nd, rg⟩, by simp; omega, ⟨_, _, rfl, by omega⟩, fun c hc hcv => by rw [List.getElem?_append_left (by simp; omega), List.getElem?_set_ne (fun e => hcv L.length (by rw [e])), G1.look hc]⟩
  have hne : ∀ c ∈ rowB q, c ≠ b ∧ c < h.length := by
   intro c hc
   rcases mem q hq with e | e
   ·subst e
    refine ⟨fun ec => ?_, er.lt c hc⟩
    unfold rowB at hc
    split at hc
    ·simp at hc
    ·rename_i h5
     simp at hc
     rcases hv L.length with q5 | q5
     ·exact q5 (by rw [← hc, ec])
     ·exact h5 q5
   ·exact ⟨fun ec => nbb q e (ec ▸ hc), (kb.el q e).lt c hc⟩
  have eq0 : EntO h q := by
   rcases mem q hq with e | e
   ·rw [e]; exact er
   ·exact kb.el q e
  refine eq0.frame fun c hc => ?_
  obtain ⟨n1, n2⟩ := hne c hc
  rw [List.getElem?_append_left (by simp; omega), List.getElem?_set_ne (Ne.symm n1), G1.look n2]
theorem KB.low {h0 h1 h : Heap} {v : Value} {L : List Row} (k : KB h1 h v L) (g : Grows h0 h1) : KB h0 h v L := by
 have l := g.le
 refine ⟨?_, k.el, k.nd, fun r hr c hc => Nat.le_trans l (k.rg r hr c hc)⟩
 rcases k.b with q | ⟨b, n, e1, e2, e3, e4⟩
 ·exact .inl q
 ·exact .inr ⟨b, n, e1, e2, by omega, e4⟩
theorem KB.grow {h0 h h' : Heap} {v : Value} {L : List Row} (k : KB h0 h v L) (g : Grows h h') : KB h0 h' v L :=
 ⟨k.b.grow g, fun r hr => (k.el r hr).frame fun c hc => g.look ((k.el r hr).lt c hc), k.nd, k.rg⟩
theorem KB.kat {h0 h : Heap} {v : Value} {L : List Row} (k : KB h0 h v L) (hl : L.length ≤ 1048576) : ∃ b, v = sl b 0 L.length 4 ∧ KAt h b 0 4 (L.map (·.1)) := by
 have vo := k.vo (by rw [maxLen_eq]; omega)
 obtain ⟨b, e⟩ := k.len
 subst e
 obtain ⟨b', o', z', e, hX⟩ := vo.vr.kat
 simp at e
 obtain ⟨⟨rfl, rfl⟩, rfl⟩ := e
 exact ⟨b, rfl, hX⟩
/-- All that was there stays, but for a list's own block. -/
def FrameOut (h h' : Heap) (v w : Value) : Prop := h.length ≤ h'.length ∧ (∃ b2 n2, w = sl b2 0 n2 4 ∧ h.length ≤ b2) ∧ ∀ c, c < h.length → (∀ m, v ≠ sl c 0 m 4) → h'[c]? = h[c]?
/-- Rows that are of a list, or are one row. -/
def OneMore (L' : List Row) (r : Row) (L : List Row) : Prop := ∀ q ∈ L', q = r ∨ q ∈ L
theorem c200 (h0 h : Heap) (hp : 0 < h0.length) (g : Grows h0 h) (v : Value) (L : List Row) (kb : KB h0 h v L) (hl : L.length ≤ 1000) (srt : SortK (L.map (·.1))) (r : Row) (hn : ∀ y ∈ L.map (·.1), y.1 ≠ r.1.1) (er : EntO h r) (hr0 : ∀ c ∈ rowB r, h0.length ≤ c) (hrn : ∀ q ∈ L, ∀ c ∈ rowB q, c ∉ rowB r) (hv : ∀ m, v ≠ sl r.2.1 0 m 4 ∨ rbr r = []) :
  ACall Gam 200 [v, .agg #[S r.1.1, I r.1.2.1, I r.1.2.2.1, rowS r]] h fun w h' => Grows h0 h' ∧ FrameOut h h' v w ∧ ∃ L', KB h0 h' w L' ∧ L'.map (·.1) = insK r.1 (L.map (·.1)) ∧ OneMore L' r L ∧ L'.length = L.length + 1 := by
 obtain ⟨b, e, hX⟩ := kb.kat (by omega)
 have hlm : (L.map (·.1)).length = L.length := by simp
 have kb0 := kb
 rw [e] at kb hv ⊢
 refine ACall_intro g200 rfl ?_
 unfold fn200
 simp (disch := omega)
 have hc := c306 h b 0 4 (L.map (·.1)) hX (by omega) srt r.1.1 r.1.2.1 r.1.2.2.1 (rowS r) hn
 rw [hlm] at hc
 refine callW_of hc ?_
 rintro _ h' ⟨rfl, k, c, put, rfl⟩
 have hk := put.le
 rw [hlm] at hk
 have eb : aBuildSlice 4 1 h' [(0, .agg #[S [], I 0, I 0, sl 0 0 0 0]), (4, .agg #[S r.1.1, I r.1.2.1, I r.1.2.2.1, rowS r])] = some (sl h'.length 0 1 4, h' ++ [⟨rowC r, true⟩]) := by simp [aBuildSlice, rowC]
 try refine ⟨fun e => (by cases e), ?_⟩
 simp (disch := omega) [eb]
 refine callW_of (c318 h0 h' (h' ++ [⟨rowC r, true⟩]) hp g (sl b 0 L.length 4) L kb hl k hk r ⟨_, rfl⟩ er hr0 hrn h'.length (Nat.le_refl _) (by simp) hv) ?_
 rintro w h2 ⟨g2, kb2, fr⟩
 have hfr' : FrameOut h' h2 (sl b 0 L.length 4) w := fr
 obtain ⟨L2, hL2⟩ : ∃ L2, L2 = L.take k ++ r :: L.drop k := ⟨_, rfl⟩
 rw [← hL2] at kb2
 obtain ⟨b2, e2⟩ := kb2.len
 subst e2
 have m1 : L2.map (·.1) = insK r.1 (L.map (·.1)) := by
  rw [hL2, ← put.ins]
  simp [List.map_take, List.map_drop]
 have m2 : OneMore L2 r L := by
  intro q hq
  rw [hL2] at hq
  have := (ins_perm L k r).mem_iff.1 hq
  simpa using this
 have m3 : L2.length = L.length + 1 := by
  have := (ins_perm L k r).length_eq
  rw [hL2]
  simpa using this
 simp (disch := omega)
 exact ⟨g2, hfr', L2, kb2, m1, m2, m3⟩
/-- The place in the order, sought from the end. -/
theorem c544 (h : Heap) (hp : 0 < h.length) (b o z : Nat) (X : Lib) (hX : KAt h b o z X) (hz : z = 4 ∨ X = []) (hl : X.length ≤ 900) (srt : SortK X) (n : List UInt8) (W H : Int) (br : List Int) (s : Value) (hs : Vr h shInts s br) (w1 : I64 W) (w2 : I64 H) (w0 : n.length ≤ 9223372036854775807) (hn : ∀ y ∈ X, y.1 ≠ n) :
  ACall Gam 544 [sl b o X.length z, .agg #[S n, I W, I H, s]] h fun w h' => Grows h h' ∧ ∃ b', w = sl b' 0 (X.length + 1) 4 ∧ KAt h' b' 0 4 (insK (n, W, H, br) X) := by
 refine ACall_intro g544 rfl ?_
 unfold fn544
 simp (disch := omega)
 refine awp_loop (fun (k : Nat) σ h' => h' = h ∧ k ≤ X.length ∧ σ 0 = sl b o X.length z ∧ σ 3 = .agg #[S n, I W, I H, s] ∧ σ 5 = I k ∧ ∀ i (hi : i < X.length), k ≤ i → lexLt n X[i].1 = true) (fun k => k) X.length ?_ ?_
 ·refine ⟨rfl, by omega, by simp, by simp, by simp, fun i hi h => by omega⟩
 ·rintro k σ h' ⟨rfl, hk, q0, q3, q5, hi⟩
  have hz1 : z = 4 ∨ b = 0 := hX.1.2
  have tail : ∀ (k : Nat) (ki : Int), ki = k → IsPut X n k → bindW (aSlice 9 h' (sl b o X.length z) none (some (I ki)) none) fun v h1 => bindW (aAppend 4 h1 v (sl 0 0 0 4)) fun v h2 => bindW (aBuildSlice 4 1 h2 [(0, .agg #[S [], I 0, I 0, sl 0 0 0 0]), (4, .agg #[S n, I W, I H, s])]) fun v1 h3 => bindW (aAppend 4 h3 v1 v) fun v h4 => bindW (aSlice 9 h4 (sl b o X.length z) (some (I ki)) none none) fun v2 h5 => bindW (aAppend 4 h5 v2 v) fun v h6 =>
    Grows h' h6 ∧ ∃ b', v = sl b' 0 (X.length + 1) 4 ∧ KAt h6 b' 0 4 (insK (n, W, H, br) X) := by
   rintro k ki rfl put
   have hk := put.le
   have e1 : aSlice 9 h' (sl b o X.length z) none (some (I k)) none = some (sl b o k z, h') := by
    simp [aSlice, bound, hk, hz1]
   rw [e1]
   simp only [bindW_some]
   refine app_part (h0 := h') (i := 0) (j := k) (X := []) (Y := X) (cs := []) hp (Grows.refl _) Buf.nil KCs.nil hX hz (by omega) hk (by simp) (by omega) (by omega) (by omega) fun v2 h2 cs2 G2 B2 C2 => ?_
   have e2 : aBuildSlice 4 1 h2 [(0, .agg #[S [], I 0, I 0, sl 0 0 0 0]), (4, .agg #[S n, I W, I H, s])] = some (sl h2.length 0 1 4, h2 ++ [⟨[S n, I W, I H, s], true⟩]) := by simp [aBuildSlice]
   rw [e2]
   simp only [bindW_some]
   have gb : Grows h2 (h2 ++ [⟨[S n, I W, I H, s], true⟩]) := ⟨_, rfl⟩
   have lc2 := C2.1
   simp only [List.nil_append, List.drop_zero, List.length_take] at lc2
   refine append_buf hp (G2.trans gb) (B2.grow gb) (new := [S n, I W, I H, s]) ?_ (by omega) (by simp) (by simp) (by rw [lc2]; simp [maxSize]; omega) fun v3 h3 G3 B3 _ => ?_
   ·simp [newCells]
    rw [cellsAt_of (k := ⟨[S n, I W, I H, s], true⟩) (by simp) (by simp)]
    simp
   have C1 : KCs h' [((n, W, H, br) : Kpt)] [S n, I W, I H, s] := by
    refine ⟨rfl, fun i hi => ?_⟩
    have : i = 0 := by simpa using hi
    subst this
    exact ⟨s, by simp, hs, w1, w2, w0⟩
   have C3 := C2.append C1
   have e3 : aSlice 9 h3 (sl b o X.length z) (some (I k)) none none = some (sl b (o + k * z) (X.length - k) z, h3) := by
    simp [aSlice, bound, hk, hz1]
   rw [e3]
   simp only [bindW_some]
   refine app_part (h0 := h') (i := k) (j := X.length) (Y := X) hp G3 B3 C3 hX hz hk (Nat.le_refl _) (by simp; omega) (by omega) rfl rfl fun v4 h4 cs4 G4 B4 C4 => ?_
   have em : [] ++ (X.take k).drop 0 ++ [((n, W, H, br) : Kpt)] ++ (X.take X.length).drop k = insK (n, W, H, br) X := by
    rw [← put.ins]; simp
   rw [em] at C4
   obtain ⟨b4, e4, hX4⟩ := C4.kat B4 G4 (by rw [insK_len, maxLen_eq]; omega)
   rw [insK_len] at e4
   exact ⟨G4, b4, e4, hX4⟩
  have srt' : ∀ k, k ≤ X.length → (∀ i (hi : i < X.length), k ≤ i → lexLt n X[i].1 = true) → (0 < k → ∀ h : k - 1 < X.length, lexLt X[k - 1].1 n = true) → IsPut X n k := fun k hk hi lo =>
   SortK.put srt hn hk lo (fun h => hi k h (Nat.le_refl _))
  by_cases hk0 : k = 0
  ·subst hk0
   have put := srt' 0 (by omega) hi (by omega)
   simp (disch := omega) [q0, q3, q5]
   exact tail 0 0 rfl put
  ·obtain ⟨k, rfl⟩ : ∃ j, k = j + 1 := ⟨k - 1, by omega⟩
   have k1 : k < X.length := by omega
   obtain ⟨s', c, c1, _⟩ := hX.cells k1
   have i1 : (k : Int) + 1 - 1 = k := by omega
   have i2 : (0 : Int) < (k : Int) + 1 := by omega
   have i3 : 0 < k + 1 := by omega
   cases q : lexLt n X[k].1
   ·have q' := lexLt_or q (Ne.symm (hn _ (List.getElem_mem k1)))
    have put := srt' (k + 1) hk hi (fun _ h => q')
    simp (disch := omega) [q0, q3, q5, i1, i2, i3, k1, c1, q', wrap64]
    exact tail (k + 1) _ (by omega) put
   ·have q' := lexLt_asym q
    have hne := Ne.symm (hn _ (List.getElem_mem k1))
    have hne' := hn _ (List.getElem_mem k1)
    simp (disch := omega) [q0, q3, q5, i1, i2, i3, k1, c1, q', hne', wrap64]
    refine ⟨k, ⟨by omega, rfl, fun i hi' h => ?_⟩, by omega⟩
    by_cases e : i = k
    ·subst e; exact q
    ·exact hi i hi' (by omega)
theorem kb_apart {h3 h4 : Heap} {v : Value} {L : List Row} (kb : KB h3 h4 v L) {c : Nat} (h1 : c < h3.length) (h2 : 0 < c) (m : Nat) : v ≠ sl c 0 m 4 := by
 intro e
 rcases kb.b with ⟨_, q⟩ | ⟨b, n, q, _, q3, _⟩
 ·rw [q] at e
  simp only [sl, Value.slice.injEq, Option.some.injEq, Addr.mk.injEq] at e
  omega
 ·rw [q] at e
  simp only [sl, Value.slice.injEq, Option.some.injEq, Addr.mk.injEq] at e
  omega
theorem small_siz {X : Lib} {n : Nat} (hl : X.length ≤ n) (hs : ∀ y ∈ X, y.1.length ≤ 12 ∧ y.2.2.2.length ≤ 128) : siz shKepts X ≤ 200 * n := by
 have key : ∀ Y : Lib, (∀ y ∈ Y, y.1.length ≤ 12 ∧ y.2.2.2.length ≤ 128) → Y.length + sizL Y ≤ 200 * Y.length := by
  intro Y
  induction Y with
  | nil => intro _; simp [sizL]
  | cons y Y ih =>
   intro hy
   have h1 := ih fun z hz => hy z (by simp [hz])
   obtain ⟨a, b⟩ := hy y (by simp)
   have h3 : siz shKept y = y.1.length + y.2.2.2.length := siz_kept _ _ _ _
   have h4 : sizL (y :: Y) = siz shKept y + sizL Y := by simp [sizL]
   rw [h4, h3]
   simp only [List.length_cons]; omega
 have := key X hs
 rw [siz_kepts]; omega
theorem nameOk_len {s : List UInt8} (h : nameOk s = true) : s.length ≤ 12 := by
 simp only [nameOk, Bool.and_eq_true, decide_eq_true_eq] at h
 exact h.2.1
theorem add_siz (X : Lib) (s : List UInt8) (p : Pan) : siz shKepts (addAns X s p).1 ≤ 16777216 := by
 unfold addAns
 split
 ·rename_i h
  simp only [Bool.and_eq_true] at h
  have ok := keptOk_iff.1 h.1
  have okp := canonP_ok (okP_iff.1 h.2)
  split
  ·rename_i hn
   split
   ·rw [siz_kepts]; simp [sizL]
   ·split
    ·rw [siz_kepts]; simp [sizL]
    ·have := small_siz (X := insK (s, canonP p) X) (n := 41) (by rw [insK_len]; have := ok.len; omega) (by
      intro y hy
      rcases mem_insK.1 hy with e | e
      ·rw [e]; exact ⟨nameOk_len hn, okp.siz⟩
      ·exact ok.small y e)
     simp only
     omega
  ·rw [siz_kepts]; simp [sizL]
 ·rw [siz_kepts]; simp [sizL]
theorem c61 (h : Heap) (hp : 0 < h.length) (v0 : Value) (X : Lib) (hv0 : Vr h shKepts v0 X) (hs0 : siz shKepts X ≤ 1048576) (s : List UInt8) (hs1 : s.length ≤ 1048576) (v2 : Value) (P : Pan) (hv2 : Vr h shPanel v2 P) (hs2 : siz shPanel P ≤ 1048576) :
  ACall Gam 61 [v0, S s, v2] h fun r h' => Grows h h' ∧ ∃ r0, r = .tuple #[r0, I (addAns X s P).2] ∧ Vo h' h.length h'.length shKepts r0 (addAns X s P).1 ∧ siz shKepts (addAns X s P).1 ≤ 16777216 := by
 have hsz := add_siz X s P
 obtain ⟨b, o, z, rfl, hX⟩ := hv0.kat
 have hv2' := hv2
 obtain ⟨pa, pb, pc, rfl⟩ := hv2.panel3
 have hm := hX.1.1
 rw [maxLen_eq] at hm
 refine ACall_intro g61 rfl ?_
 unfold fn61
 simp (disch := omega)
 refine callW_of (c139 h hp b o z X hX fun k hk => KAt.short hs0 hk) ?_
 rintro _ h1 ⟨rfl, G1⟩
 have l1 := G1.le
 cases e1 : keptOk X
 ·have e : addAns X s P = ([], 1) := by simp [addAns, e1]
  rw [e] at hsz ⊢
  simp (disch := omega) [resOf, resAll, resOne, aField]
  exact ⟨G1, Vo.no_kepts, hsz⟩
 simp (disch := omega)
 refine callW_of (c140 _ P h1 (hv2'.grow G1)) ?_
 rintro _ h1 ⟨rfl, rfl⟩
 cases e2 : okP P
 ·have e : addAns X s P = ([], 1) := by simp [addAns, e1, e2]
  rw [e] at hsz ⊢
  simp (disch := omega) [resOf, resAll, resOne, aField]
  exact ⟨G1, Vo.no_kepts, hsz⟩
 have ok := keptOk_iff.1 e1
 have okc := canonP_ok (okP_iff.1 e2)
 simp (disch := omega)
 refine callW_of (c147 h1 (by omega) _ P (hv2'.grow G1) (okP_iff.1 e2)) ?_
 rintro v3 h2 ⟨G2, o2⟩
 have l2 := G2.le
 obtain ⟨Y, hY⟩ : ∃ Y, Y = canonP P := ⟨_, rfl⟩
 have ans : addAns X s P = if nameOk s then (if nameN X s < X.length ∨ likeN X Y < X.length then ([], 4) else if 40 ≤ X.length then ([], 5) else (insK (s, Y) X, 0)) else ([], 7) := by
  simp [addAns, e1, e2, hY]
 rw [← hY] at o2 okc
 rw [ans] at hsz ⊢
 obtain ⟨W2, H2, br2⟩ := Y
 have o2v := o2.vr
 obtain ⟨s3, rfl, u1, u2, r3⟩ := o2.panel
 simp (disch := omega)
 refine callW_of (c90 h2 s hs1) ?_
 rintro _ h2 ⟨rfl, rfl⟩
 have G12 := G1.trans G2
 cases e3 : nameOk s
 ·rw [e3] at hsz
  simp (disch := omega) [resOf, resAll, resOne, aField]
  exact ⟨G12, Vo.no_kepts, by simpa using hsz⟩
 rw [e3] at hsz
 simp only [if_true] at hsz ⊢
 simp (disch := omega)
 refine callW_of (c159 h2 b o z X (hX.grow G12) s) ?_
 rintro _ h3 ⟨rfl, G3⟩
 have l3 := G3.le
 have G13 := G12.trans G3
 try refine ⟨fun e => (by cases e), ?_⟩
 by_cases e4 : nameN X s < X.length
 ·have n0 : (0 : Int) ≤ ((nameN X s : Nat) : Int) := by omega
  rw [if_pos (.inl e4)] at hsz ⊢
  simp (disch := omega) [ix_lt e4, n0, resOf, resAll, resOne, aField]
  exact ⟨G13, Vo.no_kepts, hsz⟩
 have n1 : ¬ (0 : Int) ≤ -1 := by omega
 simp (disch := omega) [ix_no e4, n1]
 refine callW_of (c161 h3 b o z X (hX.grow G13) _ (W2, H2, br2) (o2v.grow G3)) ?_
 rintro _ h4 ⟨rfl, G4⟩
 have l4 := G4.le
 have G14 := G13.trans G4
 try refine ⟨fun e => (by cases e), ?_⟩
 by_cases e5 : likeN X (W2, H2, br2) < X.length
 ·have n0 : (0 : Int) ≤ ((likeN X (W2, H2, br2) : Nat) : Int) := by omega
  rw [if_pos (.inr e5)] at hsz ⊢
  simp (disch := omega) [ix_lt e5, n0, resOf, resAll, resOne, aField]
  exact ⟨G14, Vo.no_kepts, hsz⟩
 rw [if_neg (by rintro (q | q); exact e4 q; exact e5 q)] at hsz ⊢
 have h40 := ok.len
 by_cases e6 : 40 ≤ X.length
 ·have n2 : (X.length : Int) = 40 := by omega
  rw [if_pos e6] at hsz ⊢
  simp (disch := omega) [ix_no e5, n1, n2, resOf, resAll, resOne, aField]
  exact ⟨G14, Vo.no_kepts, hsz⟩
 rw [if_neg e6] at hsz ⊢
 have n2 : ¬ (X.length : Int) = 40 := by omega
 simp (disch := omega) [ix_no e5, n1, n2]
 refine callW_of (c149 h4 (by omega) b o z X (hX.grow G14) (by omega) fun i hi => by have := ok.small _ (List.getElem_mem hi); omega) ?_
 rintro v5 h5 ⟨G5, L, hL, kb⟩
 have l5 := G5.le
 try refine ⟨fun e => (by cases e), ?_⟩
 have hLl : L.length = X.length := by rw [← hL]; simp
 obtain ⟨bi, zi, rfl, qz, qm, qx, qb⟩ := r3.ints
 obtain ⟨r, hr⟩ : ∃ r : Row, r = ((s, W2, H2, br2), bi, zi) := ⟨_, rfl⟩
 have er2 : EntO h2 r := by rw [hr]; exact ⟨qz, qm, qx, qb.imp id fun q => q.1, u1, u2, by rw [maxLen_eq]; show s.length ≤ _; omega⟩
 have er : EntO h5 r := er2.frame fun c hc => ((G3.trans G4).trans G5).look (er2.lt c hc)
 have rr : ∀ c ∈ rowB r, h1.length ≤ c ∧ c < h2.length := by
  intro c hc
  rw [hr] at hc
  unfold rowB at hc
  split at hc
  ·simp at hc
  ·rename_i h0
   simp at hc
   rw [hc]; exact (qb.resolve_left h0).2
 have hc := c200 h h5 hp (G14.trans G5) v5 L (kb.low G14) (by omega) (by rw [hL]; exact ok.sorted) r (by
   rw [hL, hr]
   intro y hy e
   exact e4 (nameN_lt.2 ⟨y, hy, e⟩)) er (fun c hc => by have := rr c hc; omega) (fun q hq c hc hc' => by
   have := kb.rg q hq c hc
   have := rr c hc'
   omega) (fun m => by
   by_cases h0 : rbr r = []
   ·exact .inr h0
   ·left
    have := rr r.2.1 (by rw [rowB, if_neg h0]; simp)
    exact kb_apart kb (by omega) (by omega) m)
 have ea : (Value.agg #[S r.1.1, I r.1.2.1, I r.1.2.2.1, rowS r]) = .agg #[S s, I W2, I H2, sl bi 0 br2.length zi] := by rw [hr]; rfl
 rw [ea] at hc
 try simp (disch := omega)
 refine callW_of hc ?_
 rintro w h6 ⟨G6, _, L', kb', hL', _, hl'⟩
 have vo := kb'.vo (by rw [maxLen_eq]; omega)
 rw [hL', hL, hr] at vo
 obtain ⟨b6, e7⟩ := kb'.len
 subst e7
 simp (disch := omega) [resOf, resAll, resOne, aField]
 exact ⟨G6, vo, hsz⟩
theorem c329 (h : Heap) (hp : 0 < h.length) (v0 : Value) (X : Lib) (hv0 : Vr h shKepts v0 X) (hs0 : siz shKepts X ≤ 1048576) (s : List UInt8) (hs1 : s.length ≤ 1048576) (v2 : Value) (P : Pan) (hv2 : Vr h shPanel v2 P) (hs2 : siz shPanel P ≤ 1048576) :
  ACall Gam 329 [v0, S s, v2] h fun r h' => Grows h h' ∧ ∃ r0, r = .tuple #[r0, I (addAns X s P).2] ∧ Vo h' h.length h'.length shKepts r0 (addAns X s P).1 ∧ siz shKepts (addAns X s P).1 ≤ 16777216 := by
 have hsz := add_siz X s P
 obtain ⟨b, o, z, rfl, hX, hz⟩ := hv0.kat4
 obtain ⟨W, H, br⟩ := P
 obtain ⟨sp, rfl, w1, w2, r⟩ := hv2.panel
 have hm := hX.1.1
 rw [maxLen_eq] at hm
 refine ACall_intro g329 rfl ?_
 unfold fn329
 simp (disch := omega)
 obtain ⟨h0, e0⟩ : ∃ h0, h0 = h ++ [⟨[I W, I H, sp], true⟩] := ⟨_, rfl⟩
 rw [← e0]
 have G0 : Grows h h0 := ⟨_, e0⟩
 have kb0 : h0[h.length]? = some ⟨[I W, I H, sp], true⟩ := by rw [e0]; simp
 have pp : PtP h0 (pt h.length 0) (W, H, br) := PtP.at kb0 (r.grow G0) w1 w2
 have l0 := G0.le
 refine callW_of (c541 h0 (by omega) b o z X (hX.grow G0) fun k hk => KAt.short hs0 hk) ?_
 rintro _ h1 ⟨rfl, G1'⟩
 have G1 := G0.trans G1'
 have l1 := G1.le
 try refine ⟨fun e => (by cases e), ?_⟩
 cases e1 : keptOk X
 ·have e : addAns X s (W, H, br) = ([], 1) := by simp [addAns, e1]
  rw [e] at hsz ⊢
  simp (disch := omega) [resOf, resAll, resOne, aField]
  exact ⟨G1, Vo.no_kepts, hsz⟩
 simp (disch := omega)
 refine callW_of (c452 _ (W, H, br) h1 (pp.grow G1')) ?_
 rintro _ h1 ⟨rfl, rfl⟩
 try refine ⟨fun e => (by cases e), ?_⟩
 cases e2 : okP (W, H, br)
 ·have e : addAns X s (W, H, br) = ([], 1) := by simp [addAns, e1, e2]
  rw [e] at hsz ⊢
  simp (disch := omega) [resOf, resAll, resOne, aField]
  exact ⟨G1, Vo.no_kepts, hsz⟩
 have ok := keptOk_iff.1 e1
 have okc := canonP_ok (okP_iff.1 e2)
 obtain ⟨Y, hY⟩ : ∃ Y, Y = canonP (W, H, br) := ⟨_, rfl⟩
 have ans : addAns X s (W, H, br) = if nameOk s then (if nameN X s < X.length ∨ likeN X Y < X.length then ([], 4) else if 40 ≤ X.length then ([], 5) else (insK (s, Y) X, 0)) else ([], 7) := by
  simp [addAns, e1, e2, hY]
 rw [← hY] at okc
 rw [ans] at hsz ⊢
 simp (disch := omega)
 refine callW_of (c383 h1 s hs1) ?_
 rintro _ h1 ⟨rfl, rfl⟩
 try refine ⟨fun e => (by cases e), ?_⟩
 cases e3 : nameOk s
 ·rw [e3] at hsz
  simp (disch := omega) [resOf, resAll, resOne, aField]
  exact ⟨G1, Vo.no_kepts, by simpa using hsz⟩
 rw [e3] at hsz
 simp only [if_true] at hsz ⊢
 simp (disch := omega)
 refine callW_of (c476 h1 (by omega) _ (W, H, br) (pp.grow G1') (okP_iff.1 e2)) ?_
 rintro v3 h2 ⟨G2, o2⟩
 try refine ⟨fun e => (by cases e), ?_⟩
 rw [← hY] at o2
 obtain ⟨W2, H2, br2⟩ := Y
 obtain ⟨s3, rfl, u1, u2, r3⟩ := o2.panel
 have st2 := store_box (h := h2) (cs := [I 0, I 0, sl 0 0 0 0]) (xs := [I W2, I H2, s3]) rfl
 simp (disch := omega) [st2]
 obtain ⟨h3, e3'⟩ : ∃ h3, h3 = h2 ++ [⟨[I W2, I H2, s3], true⟩] := ⟨_, rfl⟩
 rw [← e3']
 have g23 : Grows h2 h3 := ⟨_, e3'⟩
 have kb3 : h3[h2.length]? = some ⟨[I W2, I H2, s3], true⟩ := by rw [e3']; simp
 have G3 := G1.trans (G2.trans g23)
 have l3 := G3.le
 have pp3 : PtP h3 (pt h2.length 0) (W2, H2, br2) := PtP.at kb3 (r3.vr.grow g23) u1 u2
 refine callW_of (c538 h3 b o z X (hX.grow G3) s) ?_
 rintro _ h3 ⟨rfl, rfl⟩
 try refine ⟨fun e => (by cases e), ?_⟩
 by_cases e4 : nameN X s < X.length
 ·have n0 : (0 : Int) ≤ ((nameN X s : Nat) : Int) := by omega
  rw [if_pos (.inl e4)] at hsz ⊢
  simp (disch := omega) [ix_lt e4, n0, resOf, resAll, resOne, aField]
  exact ⟨G3, Vo.no_kepts, hsz⟩
 have n1 : ¬ (0 : Int) ≤ -1 := by omega
 simp (disch := omega) [ix_no e4, n1]
 refine callW_of (c539 h3 b o z X (hX.grow G3) _ (W2, H2, br2) pp3) ?_
 rintro _ h3 ⟨rfl, rfl⟩
 try refine ⟨fun e => (by cases e), ?_⟩
 by_cases e5 : likeN X (W2, H2, br2) < X.length
 ·have n0 : (0 : Int) ≤ ((likeN X (W2, H2, br2) : Nat) : Int) := by omega
  rw [if_pos (.inr e5)] at hsz ⊢
  simp (disch := omega) [ix_lt e5, n0, resOf, resAll, resOne, aField]
  exact ⟨G3, Vo.no_kepts, hsz⟩
 rw [if_neg (by rintro (q | q); exact e4 q; exact e5 q)] at hsz ⊢
 have h40 := ok.len
 by_cases e6 : 40 ≤ X.length
 ·have n2 : (40 : Int) ≤ (X.length : Int) := by omega
  rw [if_pos e6] at hsz ⊢
  simp (disch := omega) [ix_no e5, n1, n2, e6, resOf, resAll, resOne, aField]
  exact ⟨G3, Vo.no_kepts, hsz⟩
 rw [if_neg e6] at hsz ⊢
 have n2 : ¬ (40 : Int) ≤ (X.length : Int) := by omega
 have cl3 : cellsAt h3 h2.length 0 3 = some [I W2, I H2, s3] := cellsAt_all kb3 rfl
 simp (disch := omega) [ix_no e5, n1, n2, e6, cl3]
 refine callW_of (c544 h3 (by omega) b o z X (hX.grow G3) hz (by omega) ok.sorted s W2 H2 br2 s3 (r3.vr.grow g23) u1 u2 (by omega) (fun y hy e => e4 (nameN_lt.2 ⟨y, hy, e⟩))) ?_
 rintro w4 h4 ⟨G4, b4, rfl, hX4⟩
 try refine ⟨fun e => (by cases e), ?_⟩
 have l4 := G4.le
 have sm : ∀ y ∈ insK (s, W2, H2, br2) X, y.1.length ≤ 12 ∧ y.2.2.2.length ≤ 128 := by
  intro y hy
  rcases mem_insK.1 hy with e | e
  ·rw [e]; exact ⟨nameOk_len e3, okc.siz⟩
  ·exact ok.small y e
 have il : (insK ((s, W2, H2, br2) : Kpt) X).length = X.length + 1 := insK_len
 have hc := c542 h4 (by omega) b4 0 4 (insK (s, W2, H2, br2) X) hX4 (by omega) fun i hi => by have := sm _ (List.getElem_mem hi); omega
 rw [il] at hc
 refine callW_of hc ?_
 rintro v5 h5 ⟨G5, L, hL, kb⟩
 try refine ⟨fun e => (by cases e), ?_⟩
 have hLl : L.length = X.length + 1 := by rw [← il, ← hL]; simp
 have vo := kb.vo (by rw [maxLen_eq]; omega)
 rw [hL] at vo
 obtain ⟨b6, e7⟩ := kb.len
 subst e7
 simp (disch := omega) [resOf, resAll, resOne, aField]
 exact ⟨G3.trans (G4.trans G5), vo.wide (by omega) (Nat.le_refl _), hsz⟩
end Am
