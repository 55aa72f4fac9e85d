/- Contracts: AmY36, AmY37, AmY38, AmG4, AmG1, AmG2, AmG5, AmG6, AmS7, AmS8, AmG7, AmS10, AmS11, AmS13, AmR1, AmR2, AmR3, AmR4, AmR5, AmR6, AmR7, AmR8, AmR9, AmR10, AmR11, AmR12, AmR13, AmM1, AmM2, AmV1. -/
import Derived.Test.YtbljglfnbjbknaaGreatAmK9
import Derived.Test.YtbljglfnbjbknaaGreatAmK2
import Derived.Test.YtbljglfnbjbknaaGreatAmK6
import Derived.Test.YtbljglfnbjbknaaGreatAmK8
import Derived.Test.YtbljglfnbjbknaaGreatAmK4
import Derived.Test.YtbljglfnbjbknaaGreatAmK3
import Derived.Test.YtbljglfnbjbknaaGreatAmK1
import Derived.Test.YtbljglfnbjbknaaGreatAmK5
import Derived.Test.YtbljglfnbjbknaaGreatAmK7
import Derived.Test.YtbljglfnbjbknaaGreatAmTab
set_option linter.unusedVariables false
set_option linter.unusedSimpArgs false
set_option maxHeartbeats 4000000
set_option maxRecDepth 40000
namespace Am
open Go
section
variable {α : Type} {f g : α → α} {V : α → Prop} {ix : Nat → α} {n : Nat}
end
section
variable {α : Type} {f g R : α → α} {seg : α → Nat} {V : α → Prop} {N : Nat} {wk : Nat → α}
end
theorem c443 (h : Heap) (b m : Nat) (hs : Src h b m) (hm : m ≤ 10000000) : ACall Gam 443 [pt b 0] h fun r h' => ∃ P : Pan, P.2.2.length ≤ 200 ∧ Mod b (b + 1) h h' ∧ Vo h' h.length h'.length shPanel r P ∧ Src h' b (m + 1100) := by
 have hb : b < h.length := by
  obtain ⟨_, _, _, _, _, _, e, _⟩ := hs
  exact at_lt e
 refine ACall_intro g443 rfl ?_
 unfold fn443
 rw [awp_seq, awp_reg]
 generalize hK : seqQ Gam _ _ 0 = K
 simp (disch := omega)
 subst hK
 simp only [seqQ_zero]
 rw [awp_seq, awp_reg]
 generalize hK : seqQ Gam _ _ 0 = K
 simp (disch := omega)
 refine callW_of (c445s h b m 5 hs (by omega) (by omega)) ?_
 rintro _ h1 ⟨⟨W, H, br⟩, bb, ok, w5, h5, md1, rfl, hbb, lb1, lb2, hs1⟩
 have okw : 1 ≤ W ∧ W ≤ 8 := ok.w
 have okh : 1 ≤ H ∧ H ≤ 8 := ok.h
 have okb : ∀ x ∈ br, 0 ≤ x ∧ x ≤ 2 := ok.b
 have w64 : I64 W := by unfold I64; omega
 have h64 : I64 H := by unfold I64; omega
 have hbb : h1[bb]? = some ⟨ints br, true⟩ := hbb
 have br64 : ∀ x ∈ br, I64 x := fun x hx => by have := okb x hx; unfold I64; omega
 have o1 : Vo h1 h.length h1.length shInts (sl bb 0 br.length 1) br := Vo.of_ints (.inl rfl) (by rw [maxLen_eq]; have := ok_len ok; omega) br64 (.inr ⟨hbb, lb1, lb2⟩)
 have hbl := ok_len ok
 have L1 := md1.1
 have bbb : b < bb := by omega
 simp (disch := omega)
 subst hK
 simp only [seqQ_zero]
 rw [awp_seq]
 generalize hK : seqQ Gam _ _ = K
 have tail : ∀ (σ : Nat → Value) (h3 : Heap) (W H : Int) (br : List Int) (s : Value), σ 3 = .agg #[I W, I H, s] → σ 2 = .agg #[I 0, I 0, sl 0 0 0 0] → I64 W → I64 H → br.length ≤ 200 → Mod b (b + 1) h h3 → Vo h3 h.length h3.length shInts s br → Src h3 b (m + 1100) → K 0 σ h3 := by
  intro σ h3 W H br s q3 q2 w64 h64 hl md ov hs3
  obtain ⟨bb, zz, e, _⟩ := ov.ints
  subst hK
  simp only [seqQ_zero]
  subst e
  simp (disch := omega) [q3, q2, resOf, resAll, resOne, aField]
  exact ⟨W, H, br, hl, md, Vo.of_panel w64 h64 ov, hs3⟩
 clear hK
 rw [awp_seq, awp_reg]
 generalize hA : seqQ Gam _ _ 0 = A
 simp (disch := omega)
 refine callW_of (c7 h1 b _ 20 hs1 (by omega) (by unfold I64; omega)) ?_
 rintro _ h2 ⟨k, rfl, _, k2, md2, l2, hs2⟩
 have o2 := o1.mod md2 (by omega)
 simp (disch := omega)
 subst hA
 simp only [seqQ_zero]
 rw [awp_block]
 have tail' : ∀ (σ : Nat → Value) (h3 : Heap) (W H : Int) (br : List Int) (s : Value), σ 3 = .agg #[I W, I H, s] → σ 2 = .agg #[I 0, I 0, sl 0 0 0 0] → I64 W → I64 H → br.length ≤ 200 → Mod b (b + 1) h h3 → Vo h3 h.length h3.length shInts s br → Src h3 b (m + 1100) → blockQ 0 K 0 σ h3 := by
  intro σ h3 W H br s q3 q2 w64 h64 hl md ov hs3
  rw [blockQ_eq, if_neg (by omega)]
  exact tail σ h3 W H br s q3 q2 w64 h64 hl md ov hs3
 clear tail
 generalize blockQ 0 K = B1 at tail' ⊢
 by_cases e0 : k = 0
 ·subst e0
  simp (disch := omega) [aBuildSlice]
  obtain ⟨h3, e3⟩ : ∃ h3, h3 = h2 ++ [⟨ints [0, 8, 9, -9223372036854775808], true⟩] := ⟨_, rfl⟩
  have g3 : Grows h2 h3 := ⟨_, e3⟩
  simp only [ints, List.map_cons, List.map_nil] at e3
  rw [← e3]
  refine callW_of (c4 h3 b _ h2.length [0, 8, 9, -9223372036854775808] (hs2.grow g3) (by omega) (by rw [e3]; simp [ints]) (by omega) (by simp) (by simp)) ?_
  rintro _ h4 ⟨x, hx', rfl, md4, l4, hs4⟩
  have x64 : I64 x := by simp at hx'; unfold I64; omega
  have L3 := g3.le
  simp (disch := omega)
  exact tail' _ h4 x H br _ (by simp) (by simp) x64 h64 (by omega) (((md1.trans md2).trans g3.mod).trans md4) (((o2.grow g3).mod md4 (by omega)).wide (Nat.le_refl _) (by omega)) (hs4.mono (by omega))
 by_cases e1 : k = 1
 ·subst e1
  have hb2 : h2[bb]? = some ⟨ints br, true⟩ := by rw [md2.2 bb (at_lt hbb) (by omega)]; exact hbb
  have eb : aBuildSlice 1 1 h2 [(0, .agg #[I 0]), (1, I 0)] = some (sl h2.length 0 1 1, h2 ++ [⟨[I 0], true⟩]) := by simp [aBuildSlice]
  simp (disch := omega) [eb]
  obtain ⟨h3, e3⟩ : ∃ h3, h3 = h2 ++ [⟨[I 0], true⟩] := ⟨_, rfl⟩
  have g3 : Grows h2 h3 := ⟨_, e3⟩
  rw [← e3]
  have hb3 := g3.at hb2
  have hn3 : h3[h2.length]? = some ⟨[I 0], true⟩ := by rw [e3]; simp
  have l3 : h3.length = h2.length + 1 := by rw [e3]; simp
  have hbl2 : bb < h2.length := at_lt hb2
  have ea : aAppend 1 h3 (sl h2.length 0 1 1) (sl bb 0 br.length 1) = some (sl h3.length 0 (br.length + 1) 1, h3.set bb ⟨[], false⟩ ++ [⟨ints (br ++ [0]), true⟩]) := by
   have hnew : newCells 1 h3 (sl h2.length 0 1 1) = some [I 0] := by
    simp [newCells]
    rw [cellsAt_of hn3 (by simp)]; simp
   have hold : cellsAt h3 bb 0 (br.length * 1) = some (ints br) := by rw [Nat.mul_one]; exact cellsAt_all hb3 (by simp [ints])
   have hbz : ¬ bb = 0 := by omega
   unfold aAppend
   rw [hnew]
   simp only [hb3, hold]
   rw [if_neg (by omega), if_neg (by simp), if_neg (by simp [maxSize]; omega), if_neg hbz, if_pos (by simp)]
   simp [ints]
  obtain ⟨h4, e4⟩ : ∃ h4, h4 = h3.set bb ⟨[], false⟩ ++ [⟨ints (br ++ [0]), true⟩] := ⟨_, rfl⟩
  rw [← e4] at ea
  have l4 : h4.length = h3.length + 1 := by rw [e4]; simp
  have ho : ∀ c, c < h3.length → c ≠ bb → h4[c]? = h3[c]? := fun c hc hne => by
   rw [e4, List.getElem?_append_left (by simpa using hc)]; exact set_other hne
  have md3 := (md1.trans md2).trans g3.mod
  have md4 : Mod b (b + 1) h h4 := ⟨by have := md3.1; omega, fun c hc hn => by
   rw [ho c (by have := md3.1; omega) (by omega)]
   exact md3.2 c hc hn⟩
  have hs4 : Src h4 b (m + 1100) := ((hs2.grow g3).mono (by omega)).mod (lo := bb) (hi := bb + 1) ⟨by omega, fun c hc hn => ho c hc (by omega)⟩ (by omega)
  have o4 : Vo h4 h.length h4.length shInts (sl h3.length 0 (br ++ [0]).length 1) (br ++ [0]) := Vo.of_ints (.inl rfl) (by rw [maxLen_eq]; simp; omega) (fun x hx => by
   rcases List.mem_append.1 hx with hx | hx
   ·exact br64 x hx
   ·simp at hx; subst hx; unfold I64; omega) (.inr ⟨by rw [e4, List.getElem?_append_right (by simp)]; simp, by have := md3.1; omega, by omega⟩)
  have el : (br ++ [0]).length = br.length + 1 := by simp
  rw [el] at o4
  simp (disch := omega) [ea]
  exact tail' _ h4 W H (br ++ [0]) _ (by simp) (by simp) w64 h64 (by omega) md4 o4 hs4
 by_cases e2 : k = 2
 ·subst e2
  simp (disch := omega)
  refine fork_dec (fun hq => ?_) (fun hq => ?_)
  ·have hq : 0 < br.length := by omega
   have hne : br ≠ [] := by intro e; rw [e] at hq; simp at hq
   have hb2 : h2[bb]? = some ⟨ints br, true⟩ := by rw [md2.2 bb (at_lt hbb) (by omega)]; exact hbb
   simp (disch := omega)
   refine callW_of (c7 h2 b _ br.length hs2 (by omega) (by unfold I64; omega)) ?_
   rintro _ h3 ⟨x, rfl, x1, x2, md3, l3, hs3⟩
   have hx' : x < br.length := by
    by_cases q1 : br.length = 1
    ·have := x1 (by omega); omega
    ·have := x2 (by omega); omega
   have hb3 : h3[bb]? = some ⟨ints br, true⟩ := by rw [md3.2 bb (at_lt hb2) (by omega)]; exact hb2
   simp (disch := omega) [aBuildSlice]
   obtain ⟨h4, e4⟩ : ∃ h4, h4 = h3 ++ [⟨ints [-1, 2, 3], true⟩] := ⟨_, rfl⟩
   have g4 : Grows h3 h4 := ⟨_, e4⟩
   simp only [ints, List.map_cons, List.map_nil] at e4
   rw [← e4]
   refine callW_of (c4 h4 b _ h3.length [-1, 2, 3] (hs3.grow g4) (by omega) (by rw [e4]; simp [ints]) (by omega) (by simp) (by simp)) ?_
   rintro _ h5 ⟨y, hy, rfl, md5, l5, hs5⟩
   have y64 : I64 y := by simp at hy; unfold I64; omega
   have L4 := g4.le
   have hb5 : h5[bb]? = some ⟨ints br, true⟩ := by rw [md5.2 bb (at_lt (g4.at hb3)) (by omega)]; exact g4.at hb3
   have hst := store_int (v := y) hb5 hx'
   obtain ⟨h6, e6⟩ : ∃ h6, h6 = h5.set bb ⟨ints (br.set x y), true⟩ := ⟨_, rfl⟩
   rw [← e6] at hst
   have l6 : h6.length = h5.length := by rw [e6]; simp
   have ho : ∀ c, c ≠ bb → h6[c]? = h5[c]? := fun c hc => by rw [e6]; exact set_other hc
   have md5' := (((md1.trans md2).trans md3).trans g4.mod).trans md5
   have md6 : Mod b (b + 1) h h6 := ⟨by have := md5'.1; omega, fun c hc hn => by rw [ho c (by omega)]; exact md5'.2 c hc hn⟩
   have hs6 : Src h6 b (m + 1100) := (hs5.mono (by omega)).mod (lo := bb) (hi := bb + 1) ⟨by omega, fun c hc hn => ho c (by omega)⟩ (by omega)
   have o6 : Vo h6 h.length h6.length shInts (sl bb 0 (br.set x y).length 1) (br.set x y) := Vo.of_ints (.inl rfl) (by rw [maxLen_eq]; simp; omega) (fun z hz => by
    rcases List.mem_or_eq_of_mem_set hz with hz | hz
    ·exact br64 z hz
    ·rw [hz]; exact y64) (.inr ⟨by rw [e6]; simp [at_lt hb5], lb1, by have := at_lt hb5; omega⟩)
   have el : (br.set x y).length = br.length := by simp
   rw [el] at o6
   have hxl : (x : Int) < br.length := by omega
   simp (disch := omega) [hx', hxl, hst]
   exact tail' _ h6 W H (br.set x y) _ (by simp) (by simp) w64 h64 (by rw [el]; omega) md6 o6 hs6
  ·simp (disch := omega)
   exact tail' _ h2 W H br _ (by simp) (by simp) w64 h64 (by omega) (md1.trans md2) (o2.wide (Nat.le_refl _) (by omega)) (hs2.mono (by omega))
 by_cases e3 : k = 3
 ·subst e3
  simp (disch := omega)
  refine callW_of (c450 h2 8 8 (by omega) (by omega) (by omega)) ?_
  rintro _ h3 ⟨g3, o3⟩
  have L3 := g3.le
  obtain ⟨s', rfl, w64', h64', o3⟩ := o3.panel
  have ol : (List.replicate (inner 8 8).toNat (0 : Int)).length ≤ 200 := by
   have := ok_len (newP_ok (W := 8) (H := 8) (by omega) (by omega))
   omega
  obtain ⟨b3, z3, e3, _⟩ := o3.ints
  subst e3
  simp (disch := omega)
  exact tail' _ h3 8 8 _ _ (by simp) (by simp) w64' h64' ol ((md1.trans md2).trans g3.mod) (o3.wide (by omega) (Nat.le_refl _)) ((hs2.grow g3).mono (by omega))
 have k1 : ((k : Int) = 1) = False := eq_false (by omega)
 have k2' : ((k : Int) = 2) = False := eq_false (by omega)
 have k3 : ((k : Int) = 3) = False := eq_false (by omega)
 simp (disch := omega) [e0, k1, k2', k3]
 exact tail' _ h2 W H br _ (by simp) (by simp) w64 h64 (by omega) (md1.trans md2) (o2.wide (Nat.le_refl _) (by omega)) (hs2.mono (by omega))
theorem cell_grow {h h' : Heap} (g : Grows h h') {b o : Nat} {v : Value} (hc : cell h b o = some v) : cell h' b o = some v := by
 obtain ⟨l, rfl⟩ := g
 unfold cell at hc ⊢
 cases e : h[b]? with
 | none => rw [e] at hc; simp at hc
 | some k => rw [push_at' e]; rw [e] at hc; exact hc
 where
 push_at' {h l : Heap} {b : Nat} {k : Blk} (hk : h[b]? = some k) : (h ++ l)[b]? = some k := Grows.at ⟨l, rfl⟩ hk
theorem text_pre {h : Heap} {b n : Nat} {l : List UInt8} (hb : h[b]? = some ⟨bytesV l, true⟩) (hn : n ≤ l.length) : aConv 21 (sl b 0 n 1) h = some (S (l.take n), h) := by
 simp only [aConv]
 by_cases h0 : n = 0
 ·subst h0; simp
 ·have hc := cellsAt_of (o := 0) (n := n) hb (by simpa [bytesV] using hn)
  have e : (List.drop 0 (bytesV l)).take n = bytesV (l.take n) := by simp [bytesV, List.map_take]
  rw [e] at hc
  simp [h0, hc, asInts_bytes]
/-- Texts that can be read. -/
def TxV (h : Heap) (v : Value) (L : List (List UInt8)) : Prop := ∃ b o z, v = sl b o L.length z ∧ L.length ≤ 1048576 ∧ ∀ k (hk : k < L.length), cell h b (o + k) = some (S L[k])
theorem TxV.grow {h h' : Heap} {v : Value} {L : List (List UInt8)} (x : TxV h v L) (g : Grows h h') : TxV h' v L := by
 obtain ⟨b, o, z, e, hl, hc⟩ := x
 exact ⟨b, o, z, e, hl, fun k hk => cell_grow g (hc k hk)⟩
theorem c274 (h : Heap) (v w : Value) (X Y : List (List UInt8)) (hv : TxV h v X) (hw : TxV h w Y) : ACall Gam 274 [v, w] h fun r h' => r = B (decide (X = Y)) ∧ h' = h := by
 obtain ⟨b1, o1, z1, rfl, hm1, hc1⟩ := hv
 obtain ⟨b2, o2, z2, rfl, hm2, hc2⟩ := hw
 refine ACall_intro g274 rfl ?_
 unfold fn274
 simp (disch := omega)
 refine fork_dec (fun heq => ?_) (fun hne => ?_)
 ·simp (disch := omega)
  refine awp_loop (fun k σ h' => h' = h ∧ k ≤ X.length ∧ X.take k = Y.take k ∧ σ 0 = sl b1 o1 X.length z1 ∧ σ 1 = sl b2 o2 Y.length z2 ∧ σ 5 = I k) (fun k => X.length - k) 0 ?_ ?_
  ·simp
  ·rintro k σ h' ⟨rfl, hk, ht, h0, h1, h5⟩
   simp (disch := omega) [h0, h1, h5]
   refine fork_dec (fun hlt => ?_) (fun hge => ?_)
   ·have k1 : k < X.length := by omega
    have k2 : k < Y.length := by omega
    simp (disch := omega) [h0, h1, h5, hc1 k k1, hc2 k k2, k1, k2]
    refine fork_dec (fun he => ?_) (fun he => ?_)
    ·simp (disch := omega) [h0, h1, h5]
     refine ⟨k + 1, ⟨by omega, ?_, ?_⟩, by omega⟩
     ·rw [List.take_succ_eq_append_getElem k1, List.take_succ_eq_append_getElem k2, ht, he]
     ·rw [wrap64 (by omega) (by omega)]; simp
    ·simp (disch := omega) [h0, h1, h5]
     intro e
     apply he
     have : X[k]? = Y[k]? := by rw [e]
     rw [List.getElem?_eq_getElem k1, List.getElem?_eq_getElem k2] at this
     simpa using this
   ·simp (disch := omega) [h0, h1, h5]
    have q1 : k = X.length := by omega
    have q2 : X.length = Y.length := by omega
    subst q1
    rw [List.take_length, q2, List.take_length] at ht
    exact ht
 ·simp (disch := omega)
  intro e; apply hne; rw [e]
/-- One symmetry after another. -/
def cmpS (s t : Nat) : Nat := if 4 ≤ t then (if 4 ≤ s then 0 else 4) + 2 * ((s % 2 + t / 2 % 2) % 2) + (s / 2 % 2 + t % 2) % 2 else (if 4 ≤ s then 4 else 0) + 2 * ((s / 2 % 2 + t / 2 % 2) % 2) + (s % 2 + t % 2) % 2
theorem cmpS_lt (s t : Nat) : cmpS s t < 8 := by
 unfold cmpS
 split <;> split <;> omega
theorem cmpS_all : ∀ s < 8, ∀ u < 8, ∃ t, t < 8 ∧ cmpS s t = u := by decide
theorem map_comp {W H x y s t : Nat} (hs : s < 8) (ht : t < 8) (hx : 1 ≤ x ∧ x < 2 * W) (hy : 1 ≤ y ∧ y < 2 * H) :
  mapX (mapW W H s) (mapH W H s) (mapX W H x y s) (mapY W H x y s) t = mapX W H x y (cmpS s t) ∧ mapY (mapW W H s) (mapH W H s) (mapX W H x y s) (mapY W H x y s) t = mapY W H x y (cmpS s t) ∧ mapW (mapW W H s) (mapH W H s) t = mapW W H (cmpS s t) ∧ mapH (mapW W H s) (mapH W H s) t = mapH W H (cmpS s t) := by
 have h1 : s = 0 ∨ s = 1 ∨ s = 2 ∨ s = 3 ∨ s = 4 ∨ s = 5 ∨ s = 6 ∨ s = 7 := by omega
 have h2 : t = 0 ∨ t = 1 ∨ t = 2 ∨ t = 3 ∨ t = 4 ∨ t = 5 ∨ t = 6 ∨ t = 7 := by omega
 rcases h1 with rfl | rfl | rfl | rfl | rfl | rfl | rfl | rfl <;> rcases h2 with rfl | rfl | rfl | rfl | rfl | rfl | rfl | rfl <;>
  (simp [mapX, mapY, mapW, mapH, cmpS]; try omega)
theorem kind_comp {k : Int} {s t : Nat} (hs : s < 8) (ht : t < 8) (hk : 0 ≤ k ∧ k ≤ 2) : kindM (kindM k s) t = kindM k (cmpS s t) := by
 have h1 : s = 0 ∨ s = 1 ∨ s = 2 ∨ s = 3 ∨ s = 4 ∨ s = 5 ∨ s = 6 ∨ s = 7 := by omega
 have h2 : t = 0 ∨ t = 1 ∨ t = 2 ∨ t = 3 ∨ t = 4 ∨ t = 5 ∨ t = 6 ∨ t = 7 := by omega
 have h3 : k = 0 ∨ k = 1 ∨ k = 2 := by omega
 rcases h1 with rfl | rfl | rfl | rfl | rfl | rfl | rfl | rfl <;> rcases h2 with rfl | rfl | rfl | rfl | rfl | rfl | rfl | rfl <;> rcases h3 with rfl | rfl | rfl <;> decide
theorem cmpS_inv : ∀ u < 8, ∃ v, v < 8 ∧ cmpS v u = 0 ∧ cmpS u v = 0 := by decide
theorem map_zero (W H x y : Nat) : mapX W H x y 0 = x ∧ mapY W H x y 0 = y ∧ mapW W H 0 = W ∧ mapH W H 0 = H := by simp [mapX, mapY, mapW, mapH]
theorem map_inj {W H x y x2 y2 s : Nat} (hs : s < 8) (hx : 1 ≤ x ∧ x < 2 * W) (hy : 1 ≤ y ∧ y < 2 * H) (hx2 : 1 ≤ x2 ∧ x2 < 2 * W) (hy2 : 1 ≤ y2 ∧ y2 < 2 * H) (e1 : mapX W H x y s = mapX W H x2 y2 s) (e2 : mapY W H x y s = mapY W H x2 y2 s) : x = x2 ∧ y = y2 := by
 obtain ⟨v, hv, _, e⟩ := cmpS_inv s hs
 obtain ⟨a1, a2, _⟩ := map_comp (t := v) hs hv hx hy
 obtain ⟨b1, b2, _⟩ := map_comp (t := v) hs hv hx2 hy2
 rw [e] at a1 a2 b1 b2
 rw [e1, e2] at a1 a2
 obtain ⟨z1, z2, _⟩ := map_zero W H x y
 obtain ⟨w1, w2, _⟩ := map_zero W H x2 y2
 omega
theorem at_set {l : List Int} {i j : Nat} {x : Int} (hi : i < l.length) : at0 (l.set i x) j = if j = i then x else at0 l j := by
 unfold at0
 rw [List.getD_eq_getElem?_getD, List.getD_eq_getElem?_getD, List.getElem?_set]
 by_cases q : i = j
 ·subst q; simp [hi]
 ·rw [if_neg q, if_neg (fun e => q e.symm)]
theorem ext_at {a b : List Int} (hl : a.length = b.length) (h : ∀ j < a.length, at0 a j = at0 b j) : a = b := by
 apply List.ext_getElem hl
 intro k h1 h2
 have := h k h1
 rwa [at0_of h1, at0_of h2] at this
theorem at_map {W H x y s : Nat} {br : List Int} (hs : s < 8) (w1 : 1 ≤ W) (h1 : 1 ≤ H) (hx : 1 ≤ x ∧ x < 2 * W) (hy : 1 ≤ y ∧ y < 2 * H) (hp : (x + y) % 2 = 1) : ∀ k, k ≤ rowN W (2 * H) → numP W x y < k → at0 (mapSt W H s br k) (numP (mapW W H s) (mapX W H x y s) (mapY W H x y s)) = kindM (at0 br (numP W x y)) s
 | 0, _, h => by omega
 | k + 1, hk, h => by
  obtain ⟨xk, yk, hP⟩ := IsPt.ex w1 h1 (show k < rowN W (2 * H) by omega)
  obtain ⟨bx1, bx2, bp⟩ := hP.bd
  have by1 := hP.y1
  have by2 := hP.y2
  have ek : idxM W H s k = numP (mapW W H s) (mapX W H xk yk s) (mapY W H xk yk s) := by unfold idxM; rw [thePt_eq hP]
  obtain ⟨m1, m2, m3⟩ := map_pt (s := s) ⟨bx1, bx2⟩ ⟨by1, by2⟩ bp
  obtain ⟨n1, n2, n3⟩ := map_pt (s := s) hx hy hp
  have hlt := numP_lt m1 m2 m3
  rw [mapSt, at_set (by rw [mapSt_len, ek]; exact hlt), ek]
  by_cases e : numP W x y = k
  ·have hP2 := numP_pt hx hy hp
   rw [e] at hP2
   obtain ⟨q1, q2⟩ := hP.uniq hP2
   rw [q1, q2, if_pos rfl, e]
  ·have hne : ¬ numP (mapW W H s) (mapX W H x y s) (mapY W H x y s) = numP (mapW W H s) (mapX W H xk yk s) (mapY W H xk yk s) := by
    intro en
    have a := numP_pt n1 n2 n3
    have b := numP_pt m1 m2 m3
    rw [en] at a
    obtain ⟨q1, q2⟩ := a.uniq b
    obtain ⟨r1, r2⟩ := map_inj hs hx hy ⟨bx1, bx2⟩ ⟨by1, by2⟩ q1 q2
    subst r1; subst r2
    exact e hP.num
   rw [if_neg hne]
   exact at_map hs w1 h1 hx hy hp k (by omega) (by omega)
theorem mapW_pos {W H s : Nat} (w : 1 ≤ W) (h : 1 ≤ H) : 1 ≤ mapW W H s ∧ 1 ≤ mapH W H s := by
 unfold mapW mapH; split <;> omega
theorem mapSt_comp {W H s t : Nat} {br : List Int} (hs : s < 8) (ht : t < 8) (w1 : 1 ≤ W) (h1 : 1 ≤ H) (hb : ∀ x ∈ br, 0 ≤ x ∧ x ≤ 2) :
  mapSt (mapW W H s) (mapH W H s) t (mapSt W H s br (rowN W (2 * H))) (rowN (mapW W H s) (2 * mapH W H s)) = mapSt W H (cmpS s t) br (rowN W (2 * H)) := by
 obtain ⟨u, hu⟩ : ∃ u, u = cmpS s t := ⟨_, rfl⟩
 have u8 : u < 8 := by rw [hu]; exact cmpS_lt s t
 obtain ⟨p1, p2⟩ := mapW_pos (s := s) w1 h1
 obtain ⟨_, _, eW, eH⟩ := map_comp (W := W) (H := H) (x := 1) (y := 1) hs ht (by omega) (by omega)
 rw [← hu] at eW eH ⊢
 apply ext_at
 ·rw [mapSt_len, mapSt_len, eW, eH]
 ·intro j hj
  rw [mapSt_len, eW, eH] at hj
  obtain ⟨q1, q2⟩ := mapW_pos (s := u) w1 h1
  obtain ⟨x2, y2, hP⟩ := IsPt.ex q1 q2 hj
  obtain ⟨bx1, bx2, bp⟩ := hP.bd
  have by1 := hP.y1
  have by2 := hP.y2
  obtain ⟨v, hv, e1, e2⟩ := cmpS_inv u u8
  obtain ⟨_, _, vW, vH⟩ := map_comp (W := W) (H := H) (x := 1) (y := 1) u8 hv (by omega) (by omega)
  rw [e2] at vW vH
  obtain ⟨_, _, z3, z4⟩ := map_zero W H 0 0
  rw [z3] at vW
  rw [z4] at vH
  obtain ⟨m1, m2, m3⟩ := map_pt (s := v) ⟨bx1, bx2⟩ ⟨by1, by2⟩ bp
  obtain ⟨c1, c2, _, _⟩ := map_comp (t := u) hv u8 (W := mapW W H u) (H := mapH W H u) ⟨bx1, bx2⟩ ⟨by1, by2⟩
  rw [e1] at c1 c2
  obtain ⟨z1, z2, _, _⟩ := map_zero (mapW W H u) (mapH W H u) x2 y2
  rw [z1] at c1
  rw [z2] at c2
  rw [vW] at m1
  rw [vH] at m2
  rw [vW, vH] at c1 c2
  obtain ⟨x, hx⟩ : ∃ x, x = mapX (mapW W H u) (mapH W H u) x2 y2 v := ⟨_, rfl⟩
  obtain ⟨y, hy⟩ : ∃ y, y = mapY (mapW W H u) (mapH W H u) x2 y2 v := ⟨_, rfl⟩
  rw [← hx, ← hy] at c1 c2 m3
  rw [← hx] at m1
  rw [← hy] at m2
  have nj : j = numP (mapW W H u) (mapX W H x y u) (mapY W H x y u) := by rw [c1, c2, hP.num]
  have hn := numP_lt m1 m2 m3
  obtain ⟨n1, n2, n3⟩ := map_pt (s := s) m1 m2 m3
  obtain ⟨d1, d2, _, _⟩ := map_comp hs ht m1 m2
  rw [← hu] at d1 d2
  have r := at_map (br := br) u8 w1 h1 m1 m2 m3 (rowN W (2 * H)) (Nat.le_refl _) hn
  have l1 := at_map (br := br) hs w1 h1 m1 m2 m3 (rowN W (2 * H)) (Nat.le_refl _) hn
  have l2 := at_map (br := mapSt W H s br (rowN W (2 * H))) ht p1 p2 n1 n2 n3 (rowN (mapW W H s) (2 * mapH W H s)) (Nat.le_refl _) (numP_lt n1 n2 n3)
  rw [l1, d1, d2, eW, kind_comp hs ht (at0_rng hb _), ← hu] at l2
  rw [nj, l2, r]
theorem mapP_comp {X : Pan} (ok : OkP X) {s t : Nat} (hs : s < 8) (ht : t < 8) : mapP (mapP X s) t = mapP X (cmpS s t) := by
 have h1 := ok.w; have h2 := ok.h
 have hr := ok.row
 have hl : (mapSt X.1.toNat X.2.1.toNat s X.2.2 X.2.2.length).length = rowN (mapW X.1.toNat X.2.1.toNat s) (2 * mapH X.1.toNat X.2.1.toNat s) := mapSt_len _
 obtain ⟨_, _, eW, eH⟩ := map_comp (W := X.1.toNat) (H := X.2.1.toNat) (x := 1) (y := 1) hs ht (by omega) (by omega)
 have e := mapSt_comp (W := X.1.toNat) (H := X.2.1.toNat) (br := X.2.2) hs ht (by omega) (by omega) ok.b
 unfold mapP
 simp only [Int.toNat_natCast]
 rw [hl, eW, eH]
 rw [hr]
 rw [e]
def keyP (X : Pan) : List Int := X.1 :: X.2.1 :: X.2.2
theorem keyP_inj {X Y : Pan} (h : keyP X = keyP Y) : X = Y := by
 obtain ⟨a, b, c⟩ := X
 obtain ⟨d, e, f⟩ := Y
 unfold keyP at h
 simp only [List.cons.injEq] at h
 obtain ⟨rfl, rfl, rfl⟩ := h
 rfl
theorem cmpP_key (X Y : Pan) : cmpP X Y = cmpL (keyP X) (keyP Y) := by
 unfold cmpP keyP
 simp only [cmpL]
 by_cases h1 : cmpI X.1 Y.1 = 0
 ·rw [if_neg (by simp [h1]), if_pos h1]
  by_cases h2 : cmpI X.2.1 Y.2.1 = 0
  ·rw [if_neg (by simp [h2]), if_pos h2]
  ·rw [if_pos h2, if_neg h2]
 ·rw [if_pos h1, if_neg h1]
theorem cmpL_trans : ∀ {a b c : List Int}, cmpL a b ≤ 0 → cmpL b c ≤ 0 → cmpL a c ≤ 0
 | [], b, [], _, _ => by simp [cmpL]
 | [], b, _ :: _, _, _ => by simp [cmpL]
 | _ :: _, [], c, h, _ => by simp [cmpL] at h
 | _ :: _, _ :: _, [], _, h => by simp [cmpL] at h
 | a :: l, b :: m, c :: n, h1, h2 => by
  simp only [cmpL] at h1 h2 ⊢
  have ih := @cmpL_trans l m n
  unfold cmpI at *
  repeat' split at h1
  all_goals (repeat' split at h2)
  all_goals (repeat' split)
  all_goals first | omega | (exact ih (by assumption) (by assumption)) | skip
theorem cmpL_anti : ∀ {a b : List Int}, cmpL a b ≤ 0 → cmpL b a ≤ 0 → a = b
 | [], [], _, _ => rfl
 | [], _ :: _, _, h => by simp [cmpL] at h
 | _ :: _, [], h, _ => by simp [cmpL] at h
 | a :: l, b :: m, h1, h2 => by
  simp only [cmpL] at h1 h2
  have ih := @cmpL_anti l m
  unfold cmpI at *
  repeat' split at h1
  all_goals (repeat' split at h2)
  all_goals first | omega | skip
  all_goals (have e : a = b := by omega)
  all_goals (subst e; rw [ih (by assumption) (by assumption)])
theorem cmpL_same : ∀ a : List Int, cmpL a a = 0
 | [] => rfl
 | a :: l => by simp only [cmpL, cmpI_same rfl, if_true]; exact cmpL_same l
theorem cmpL_flip : ∀ a b : List Int, cmpL b a = - cmpL a b
 | [], [] => rfl
 | [], _ :: _ => rfl
 | _ :: _, [] => rfl
 | a :: l, b :: m => by
  simp only [cmpL]
  have ih := cmpL_flip l m
  unfold cmpI
  repeat' split
  all_goals first | omega | assumption | skip
theorem canonF_spec {X : Pan} (ok : OkP X) : ∀ s, (∃ u, u ≤ s ∧ canonF X s = mapP X u) ∧ ∀ u, u ≤ s → cmpP (canonF X s) (mapP X u) ≤ 0
 | 0 => by
  refine ⟨⟨0, Nat.le_refl _, by rw [mapP_none ok]; rfl⟩, fun u hu => ?_⟩
  have : u = 0 := by omega
  subst this
  rw [mapP_none ok, cmpP_key]
  show cmpL (keyP X) (keyP X) ≤ 0
  rw [cmpL_same]; omega
 | s + 1 => by
  obtain ⟨⟨u0, h0, e0⟩, h⟩ := canonF_spec ok s
  simp only [canonF]
  split
  ·rename_i hlt
   refine ⟨⟨s + 1, Nat.le_refl _, rfl⟩, fun u hu => ?_⟩
   by_cases e : u = s + 1
   ·subst e; rw [cmpP_key, cmpL_same]; omega
   ·have := h u (by omega)
    rw [cmpP_key] at this hlt ⊢
    exact cmpL_trans (by omega) this
  ·rename_i hlt
   refine ⟨⟨u0, by omega, e0⟩, fun u hu => ?_⟩
   by_cases e : u = s + 1
   ·subst e
    have := cmpL_flip (keyP (mapP X (s + 1))) (keyP (canonF X s))
    rw [cmpP_key] at hlt ⊢
    omega
   ·exact h u (by omega)
theorem canon_map {X : Pan} (ok : OkP X) {s : Nat} (hs : s < 8) : canonP (mapP X s) = canonP X := by
 obtain ⟨⟨u, hu, eu⟩, lu⟩ := canonF_spec ok 7
 obtain ⟨⟨w, hw, ew⟩, lw⟩ := canonF_spec (mapP_ok ok s) 7
 unfold canonP
 have a : cmpP (canonF X 7) (canonF (mapP X s) 7) ≤ 0 := by
  rw [ew, mapP_comp ok hs (by omega)]
  exact lu _ (by have := cmpS_lt s w; omega)
 have b : cmpP (canonF (mapP X s) 7) (canonF X 7) ≤ 0 := by
  obtain ⟨t, ht, e⟩ := cmpS_all s hs u (by omega)
  have := lw t (by omega)
  rw [mapP_comp ok hs ht, e, ← eu] at this
  exact this
 rw [cmpP_key] at a b
 exact (keyP_inj (cmpL_anti a b)).symm
theorem canon_idem {X : Pan} (ok : OkP X) : canonP (canonP X) = canonP X := by
 obtain ⟨⟨u, hu, eu⟩, _⟩ := canonF_spec ok 7
 have e : canonP X = mapP X u := eu
 rw [e, canon_map ok (by omega), e]
structure KGood (X : Lib) : Prop where
 len : X.length ≤ 40
 ent : ∀ x ∈ X, nameOk x.1 = true ∧ OkP x.2 ∧ canonP x.2 = x.2
 srt : SortK X
 dif : X.Pairwise fun a b => a.2 ≠ b.2
theorem good_iff {X : Lib} : KeptOk X ↔ KGood X := by
 constructor
 ·intro ok
  refine ⟨ok.len, fun x hx => ?_, ok.sorted, ok.diff.p⟩
  obtain ⟨i, hi, rfl⟩ := List.getElem_of_mem hx
  have e := ok.ent i hi
  have h1 := e.name
  have h2 := e.ok
  have h3 := e.canon
  rw [kN_of hi] at h1
  rw [kP_of hi] at h2 h3
  exact ⟨h1, h2, h3⟩
 ·intro g
  refine ⟨g.len, fun i hi => ?_⟩
  obtain ⟨h1, h2, h3⟩ := g.ent _ (List.getElem_mem hi)
  have hs := g.srt
  unfold SortK at hs
  rw [List.pairwise_iff_getElem] at hs
  have hd := g.dif
  rw [List.pairwise_iff_getElem] at hd
  refine ⟨by rw [kN_of hi]; exact h1, by rw [kP_of hi]; exact h2, ?_, by rw [kP_of hi]; exact h3, ?_⟩
  ·by_cases e : i = 0
   ·exact .inl e
   ·right
    rw [kN_of hi, kN_of (show i - 1 < X.length by omega)]
    exact hs (i - 1) i (by omega) hi (by omega)
  ·rw [kP_of hi]
   have h1 := likeN_le (X.take i) X[i].2
   rw [List.length_take] at h1
   have h2 : ¬ likeN (X.take i) X[i].2 < (X.take i).length := by
    rw [likeN_lt]
    rintro ⟨e, he, q⟩
    rw [List.mem_take_iff_getElem] at he
    obtain ⟨j, hj, rfl⟩ := he
    exact hd j i (by omega) hi (by omega) q
   rw [List.length_take] at h2
   omega
theorem insK_good {X : Lib} {s : List UInt8} {p : Pan} (g : KGood X) (hs : nameOk s = true) (hp : OkP p) (hc : canonP p = p) (hn : ∀ y ∈ X, y.1 ≠ s ∧ y.2 ≠ p) (hl : X.length < 40) : KGood (insK (s, p) X) := by
 refine ⟨by rw [insK_len]; omega, fun x hx => ?_, insK_sorted g.srt fun y hy => (hn y hy).1, mrg_eq.ins_pw (f := fun k : Kpt => k.2) g.dif fun y hy => (hn y hy).2⟩
 rcases mem_insK.1 hx with rfl | hx
 ·exact ⟨hs, hp, hc⟩
 ·exact g.ent x hx
theorem KGood.sub {X Y : Lib} (g : KGood X) (h : Y.Sublist X) : KGood Y :=
 ⟨by have := h.length_le; have := g.len; omega, fun x hx => g.ent x (h.subset hx), List.Pairwise.sublist h g.srt, List.Pairwise.sublist h g.dif⟩
theorem add_good {X Y : Lib} {s : List UInt8} {P : Pan} (h : addAns X s P = (Y, 0)) : KGood Y ∧ KGood X ∧ Y = insK (s, canonP P) X ∧ OkP P ∧ (∀ y ∈ X, y.1 ≠ s ∧ y.2 ≠ canonP P) ∧ nameOk s = true ∧ X.length < 40 := by
 unfold addAns at h
 split at h
 ·rename_i h1
  simp only [Bool.and_eq_true] at h1
  have ok := keptOk_iff.1 h1.1
  have okp := okP_iff.1 h1.2
  split at h
  ·rename_i h2
   split at h
   ·simp at h
   ·rename_i h3
    split at h
    ·simp at h
    ·rename_i h4
     simp only [Prod.mk.injEq, and_true] at h
     simp only [not_or] at h3
     have hn : ∀ y ∈ X, y.1 ≠ s ∧ y.2 ≠ canonP P := fun y hy => ⟨fun e => h3.1 (nameN_lt.2 ⟨y, hy, e⟩), fun e => h3.2 (likeN_lt.2 ⟨y, hy, e⟩)⟩
     have g := good_iff.1 ok
     rw [← h]
     exact ⟨insK_good g h2 (canonP_ok okp) (canon_idem okp) hn (by omega), g, rfl, okp, hn, h2, by omega⟩
  ·simp at h
 ·simp at h
theorem zero_map {W H s : Nat} {br : List Int} (hb : ∀ x ∈ br, x = 0) : ∀ k, ∀ x ∈ mapSt W H s br k, x = 0
 | 0 => by intro x hx; exact List.eq_of_mem_replicate hx
 | k + 1 => by
  intro x hx
  rcases List.mem_or_eq_of_mem_set hx with e | e
  ·exact zero_map hb k x e
  ·rw [e]
   have : at0 br k = 0 := by
    by_cases q : k < br.length
    ·rw [at0_of q]; exact hb _ (List.getElem_mem q)
    ·unfold at0; rw [List.getD_eq_getElem?_getD, List.getElem?_eq_none (by omega)]; rfl
   rw [this]; unfold kindM; simp
theorem canon_eq {A B : Pan} (a : OkP A) (b : OkP B) (e : canonP A = canonP B) : ∃ s, s < 8 ∧ B = mapP A s := by
 obtain ⟨⟨u, hu, eu⟩, _⟩ := canonF_spec a 7
 obtain ⟨⟨w, hw, ew⟩, _⟩ := canonF_spec b 7
 obtain ⟨v, hv, _, e2⟩ := cmpS_inv w (by omega)
 have e1 : mapP A u = mapP B w := by rw [← eu, ← ew]; exact e
 refine ⟨cmpS u v, cmpS_lt _ _, ?_⟩
 rw [← mapP_comp a (by omega) hv, e1, mapP_comp b (by omega) hv, e2, mapP_none b]
theorem std_good : KGood stdK := by
 have ok : ∀ k ∈ stdX, nameOk k.1 = true ∧ okP k.2 = true := by decide
 refine ⟨by simp [stdK, stdX], ?_, ?_, ?_⟩
 ·intro x hx
  unfold stdK at hx
  obtain ⟨k, hk, rfl⟩ := List.mem_map.1 hx
  obtain ⟨h1, h2⟩ := ok k hk
  exact ⟨h1, canonP_ok (okP_iff.1 h2), canon_idem (okP_iff.1 h2)⟩
 ·unfold SortK stdK
  rw [List.pairwise_map]
  exact (by decide : stdX.Pairwise fun a b => lexLt a.1 b.1 = true)
 ·unfold stdK
  rw [List.pairwise_map]
  have key : stdX.Pairwise fun a b => okP a.2 = true ∧ okP b.2 = true ∧ (a.2.1 + a.2.2.1 ≠ b.2.1 + b.2.2.1 ∨ ((∀ x ∈ a.2.2.2, x = 0) ∧ ¬ ∀ x ∈ b.2.2.2, x = 0)) := by decide
  refine key.imp ?_
  rintro a b ⟨h1, h2, h3⟩ e
  obtain ⟨s, _, es⟩ := canon_eq (okP_iff.1 h1) (okP_iff.1 h2) e
  rcases h3 with h3 | ⟨h3, h4⟩
  ·apply h3
   rw [es]
   have w := (okP_iff.1 h1).w
   have hh := (okP_iff.1 h1).h
   unfold mapP mapW mapH
   simp only
   split <;> omega
  ·apply h4
   rw [es]
   exact zero_map h3 _
/-- A drawn library: its own block from lo' on, its rows' blocks from lo on. -/
structure DK (h : Heap) (lo lo' : Nat) (v : Value) (L : List Row) : Prop where
 out : (L = [] ∧ ∃ y, v = sl 0 0 0 y) ∨ ∃ b, v = sl b 0 L.length 4 ∧ lo' ≤ b ∧ h[b]? = some ⟨rowsC L, true⟩
 row : ∀ r ∈ L, EntO h r ∧ ∀ c ∈ rowB r, lo ≤ c
theorem DK.nil {h : Heap} {lo lo' y : Nat} : DK h lo lo' (sl 0 0 0 y) [] := ⟨.inl ⟨rfl, y, rfl⟩, by simp⟩
theorem DK.low {h : Heap} {lo lo' a a' : Nat} {v : Value} {L : List Row} (d : DK h lo lo' v L) (h1 : a ≤ lo) (h2 : a' ≤ lo') : DK h a a' v L := by
 refine ⟨?_, fun r hr => ⟨(d.row r hr).1, fun c hc => by have := (d.row r hr).2 c hc; omega⟩⟩
 rcases d.out with x | ⟨b, e, e1, e2⟩
 ·exact .inl x
 ·exact .inr ⟨b, e, by omega, e2⟩
theorem DK.same {h h' : Heap} {lo lo' : Nat} {v : Value} {L : List Row} (d : DK h lo lo' v L) (f : ∀ c, c < h.length → (lo ≤ c ∨ lo' ≤ c) → h'[c]? = h[c]?) : DK h' lo lo' v L := by
 refine ⟨?_, fun r hr => ?_⟩
 ·rcases d.out with x | ⟨b, e, e1, e2⟩
  ·exact .inl x
  ·exact .inr ⟨b, e, e1, by rw [f b (at_lt e2) (.inr e1)]; exact e2⟩
 ·obtain ⟨e, hc⟩ := d.row r hr
  exact ⟨e.frame fun c hcm => f c (e.lt c hcm) (.inl (hc c hcm)), hc⟩
theorem DK.mod {h h' : Heap} {lo lo' s : Nat} {v : Value} {L : List Row} (d : DK h lo lo' v L) (m : Mod s (s + 1) h h') (h1 : s < lo) (h2 : s < lo') : DK h' lo lo' v L :=
 d.same fun c hc hn => m.2 c hc (by omega)
theorem DK.grow {h h' : Heap} {lo lo' : Nat} {v : Value} {L : List Row} (d : DK h lo lo' v L) (g : Grows h h') : DK h' lo lo' v L :=
 d.same fun c hc _ => g.look hc
theorem DK.sl {h : Heap} {lo lo' : Nat} {v : Value} {L : List Row} (d : DK h lo lo' v L) : ∃ b z, v = Am.sl b 0 L.length z ∧ (z = 4 ∨ b = 0) ∧ (L = [] ∨ z = 4 ∧ lo' ≤ b ∧ h[b]? = some ⟨rowsC L, true⟩) := by
 rcases d.out with ⟨e, y, e2⟩ | ⟨b, e, e1, e2⟩
 ·subst e; exact ⟨0, y, e2, .inr rfl, .inl rfl⟩
 ·exact ⟨b, 4, e, .inl rfl, .inr ⟨rfl, e1, e2⟩⟩
theorem rd_rows {h : Heap} : ∀ {L : List Row}, (∀ r ∈ L, EntO h r) → All2 (fun c y => Rd h shKept c y) (L.map rowC) (L.map (·.1))
 | [], _ => trivial
 | r :: L, f => ⟨(f r (by simp)).ow.rd, rd_rows fun q hq => f q (by simp [hq])⟩
theorem DK.vr {h : Heap} {lo lo' : Nat} {v : Value} {L : List Row} (d : DK h lo lo' v L) (hl : L.length ≤ 1000) : Vr h shKepts v (L.map (·.1)) := by
 have hlen := rowsC_len L
 obtain ⟨b, z, e, hz, hb⟩ := d.sl
 refine ⟨[v], ⟨b, 0, z, L.map rowC, ?_, ?_, ?_, rd_rows fun r hr => (d.row r hr).1, ?_⟩, rfl⟩
 ·rw [e]; simp
 ·rcases hb with x | x
  ·subst x
   exact hz.imp id fun q => ⟨q, rfl⟩
  ·exact .inl x.1
 ·rw [maxLen_eq, List.length_map]; omega
 ·rcases hb with x | x
  ·left; subst x; rfl
  ·right
   have := cellsAt_all (n := L.length * 4) x.2.2 (by rw [hlen])
   rw [List.length_map]
   exact this
theorem DK.of_vo {h : Heap} {lo hi : Nat} {v : Value} {X : Lib} (x : Vo h lo hi shKepts v X) (hne : X ≠ []) : ∃ L : List Row, L.map (·.1) = X ∧ DK h lo lo v L := by
 obtain ⟨b, z, L, rfl, e, k⟩ := x.rows
 refine ⟨L, e.symm, ?_, fun r hr => ⟨k.el r hr, fun c hc => (k.rg r hr c hc).1⟩⟩
 have hl : X.length = L.length := by rw [e]; simp
 have h0 : L ≠ [] := by intro q; subst q; exact hne e
 right
 obtain ⟨k1, k2, k3⟩ := k.blk.resolve_left h0
 refine ⟨b, ?_, k2, k1⟩
 rcases k.z with q | q
 ·rw [q, hl]
 ·exact absurd q.2 h0
theorem row_first {h : Heap} {b : Nat} {L : List Row} {r : Row} (e : EntO h r) (hb : h[b]? = some ⟨rowsC L, true⟩) (hne : L ≠ []) : b ∉ rowB r := by
 intro hm
 unfold rowB at hm
 split at hm
 ·simp at hm
 ·rename_i h0
  simp at hm
  have e1 := e.b.resolve_left h0
  rw [← hm, hb] at e1
  simp only [Option.some.injEq, Blk.mk.injEq, and_true] at e1
  cases L with
  | nil => exact hne rfl
  | cons q L =>
   rw [rowsC_cons] at e1
   cases hx : rbr r with
   | nil => exact h0 hx
   | cons a l => rw [hx] at e1; simp [ints, rowC] at e1
/-- A row at the end of a drawn library. -/
theorem dk_app {h : Heap} {lo lo' : Nat} {v : Value} {L : List Row} {r : Row} {K : Value → Heap → Prop} (hp : 0 < lo') (hlo : lo' ≤ h.length) (d : DK h lo lo' v L) (hr : EntO h r ∧ ∀ c ∈ rowB r, lo ≤ c) (hl : L.length ≤ 1000)
  (hK : ∀ v' h', Mod lo' h.length h h' → DK h' lo lo' v' (L ++ [r]) → K v' h') :
  bindW (aBuildSlice 4 1 h [(0, .agg #[S [], I 0, I 0, sl 0 0 0 0]), (4, .agg #[S r.1.1, I r.1.2.1, I r.1.2.2.1, rowS r])]) fun y h' => bindW (aAppend 4 h' y v) K := by
 have e : aBuildSlice 4 1 h [(0, .agg #[S [], I 0, I 0, sl 0 0 0 0]), (4, .agg #[S r.1.1, I r.1.2.1, I r.1.2.2.1, rowS r])] = some (sl h.length 0 1 4, h ++ [⟨rowC r, true⟩]) := by
  simp [aBuildSlice, rowC, rowS]
 rw [e]
 simp only [bindW_some]
 obtain ⟨h1, e1⟩ : ∃ h1, h1 = h ++ [⟨rowC r, true⟩] := ⟨_, rfl⟩
 have g1 : Grows h h1 := ⟨_, e1⟩
 have l1 : h1.length = h.length + 1 := by rw [e1]; simp
 rw [← e1]
 have hnew : newCells 4 h1 (sl h.length 0 1 4) = some (rowC r) := by
  rw [e1]
  simp [newCells]
  rw [cellsAt_of (k := ⟨rowC r, true⟩) (by simp) (by simp [rowC])]
  simp [rowC]
 have rl : (rowC r).length = 4 := rfl
 have rne : rowC r ≠ [] := by simp [rowC]
 have hlen := rowsC_len L
 have d1 := d.grow g1
 have hr1 : EntO h1 r := hr.1.frame fun c hc => g1.look (hr.1.lt c hc)
 rcases d1.out with ⟨q1, y, q2⟩ | ⟨b, q1, q2, q3⟩
 ·subst q1
  have ea : aAppend 4 h1 (sl h.length 0 1 4) v = some (sl h1.length 0 1 4, h1 ++ [⟨rowC r, true⟩]) := by
   rw [q2]
   unfold aAppend
   simp only [Am.sl] at hnew ⊢
   simp only [hnew]
   rw [if_neg (by omega), if_neg rne, if_neg (by simp [maxSize, rl])]
   simp [rl]
  rw [ea]
  simp only [bindW_some]
  have g2 : Grows h1 (h1 ++ [⟨rowC r, true⟩]) := ⟨_, rfl⟩
  refine hK _ _ (g1.trans g2).mod ⟨.inr ⟨h1.length, by simp, by omega, by simp [rowsC]⟩, ?_⟩
  intro q hq
  simp at hq; subst hq
  exact ⟨hr1.frame fun c hc => g2.look (hr1.lt c hc), hr.2⟩
 ·have hb := at_lt q3
  by_cases h0 : L = []
  ·subst h0
   have hb0 : ¬ b = 0 := by omega
   have ea : aAppend 4 h1 (sl h.length 0 1 4) v = some (sl h1.length 0 1 4, h1.set b ⟨[], false⟩ ++ [⟨rowC r, true⟩]) := by
    rw [q1]
    unfold aAppend
    simp only [Am.sl] at hnew ⊢
    simp only [hnew, q3]
    rw [if_neg (by omega), if_neg rne, if_neg (by simp [maxSize, rl]), if_neg hb0, if_pos (by simp)]
    have : cellsAt h1 b 0 0 = some [] := by
     have := cellsAt_all (n := 0) q3 (by simp [rowsC]); simpa [rowsC] using this
    simp [this, rl]
   rw [ea]
   simp only [bindW_some]
   have hbr : b ∉ rowB r := by
    intro hm
    unfold rowB at hm
    split at hm
    ·simp at hm
    ·rename_i h0
     simp at hm
     have e1 := hr1.b.resolve_left h0
     rw [← hm, q3] at e1
     simp only [Option.some.injEq, Blk.mk.injEq, and_true] at e1
     have := congrArg List.length e1
     simp [rowsC, ints] at this
     exact h0 (List.eq_nil_of_length_eq_zero this.symm)
   refine hK _ _ ⟨by simp; omega, fun c hc hn => ?_⟩ ⟨.inr ⟨h1.length, by simp, by omega, by rw [List.getElem?_append_right (by simp)]; simp [rowsC]⟩, ?_⟩
   ·rw [List.getElem?_append_left (by simp; omega), set_other (by omega), g1.look hc]
   ·intro q hq
    simp at hq; subst hq
    refine ⟨hr1.frame fun c hc => ?_, hr.2⟩
    rw [List.getElem?_append_left (by simpa using hr1.lt c hc), set_other (fun e => hbr (by rw [← e]; exact hc))]
  ·have hb0 : ¬ b = 0 := by omega
   have ea : aAppend 4 h1 (sl h.length 0 1 4) v = some (sl h1.length 0 (L.length + 1) 4, h1.set b ⟨[], false⟩ ++ [⟨rowsC L ++ rowC r, true⟩]) := by
    rw [q1]
    unfold aAppend
    have hold := cellsAt_all (n := L.length * 4) q3 (by rw [hlen])
    simp only [Am.sl] at hnew ⊢
    simp only [hnew, q3]
    rw [if_neg (by omega), if_neg rne, if_neg (by simp [maxSize, rl]; omega), if_neg hb0, if_pos (by simp)]
    simp [hold, rl]
   rw [ea]
   simp only [bindW_some]
   have frame : ∀ q ∈ L ++ [r], EntO h1 q := by
    intro q hq
    rcases List.mem_append.1 hq with hq | hq
    ·exact (d1.row q hq).1
    ·simp at hq; subst hq; exact hr1
   refine hK _ _ ⟨by simp; omega, fun c hc hn => ?_⟩ ⟨.inr ⟨h1.length, by simp, by omega, by rw [List.getElem?_append_right (by simp), rowsC_append]; simp [rowsC]⟩, ?_⟩
   ·rw [List.getElem?_append_left (by simp; omega), set_other (by omega), g1.look hc]
   ·intro q hq
    have eq := frame q hq
    have nb := row_first eq q3 h0
    refine ⟨eq.frame fun c hc => ?_, ?_⟩
    ·rw [List.getElem?_append_left (by simpa using eq.lt c hc), set_other (fun e => nb (by rw [← e]; exact hc))]
    ·rcases List.mem_append.1 hq with hq | hq
     ·exact (d.row q hq).2
     ·simp at hq; subst hq; exact hr.2
theorem c540 (h : Heap) (b m : Nat) (hs : Src h b m) (hm : m ≤ 10000000) (hb : b < h.length) : ACall Gam 540 [pt b 0] h fun r h' => ∃ s : List UInt8, r = S s ∧ s.length ≤ 10 ∧ Mod b (b + 1) h h' ∧ Src h' b (m + 10) := by
 refine ACall_intro g540 rfl ?_
 unfold fn540
 rw [awp_seq, awp_reg]
 generalize hK : seqQ Gam _ _ 0 = K
 simp (disch := omega)
 subst hK
 simp only [seqQ_zero]
 rw [awp_seq]
 generalize hK : seqQ Gam _ _ = K
 simp (disch := omega)
 refine callW_of (c6 h b m 12 hs (by omega) (by unfold I64; omega)) ?_
 rintro _ h1 ⟨w, rfl, md1, l1, hs1⟩
 try refine ⟨fun e => (by cases e), ?_⟩
 cases w
 ·simp (disch := omega)
  subst hK
  simp only [seqQ_zero]
  simp (disch := omega) [aBuildSlice]
  obtain ⟨N, hN⟩ : ∃ N : List (List UInt8), N = [[98, 114, 105, 99, 107], [99, 97, 114, 112, 101, 116], [109, 105, 110, 101], [114, 105, 110, 103, 115], [120, 45, 49], [116, 119, 111], [97], [122, 122]] := ⟨_, rfl⟩
  obtain ⟨h3, e3⟩ : ∃ h3, h3 = h1 ++ [⟨N.map S, true⟩] := ⟨_, rfl⟩
  have g3 : Grows h1 h3 := ⟨_, e3⟩
  have b3 : h3[h1.length]? = some ⟨N.map S, true⟩ := by rw [e3]; simp
  rw [hN] at e3
  simp only [List.map_cons, List.map_nil] at e3
  rw [← e3]
  have nl : N.length = 8 := by rw [hN]; rfl
  have hc := c8 h3 b _ h1.length N (hs1.grow g3) (by omega) b3 (by omega) (by omega) (by omega)
  rw [nl] at hc
  refine callW_of hc ?_
  rintro _ h4 ⟨x, hx, rfl, md4, l4, hs4⟩
  try refine ⟨fun e => (by cases e), ?_⟩
  simp (disch := omega)
  refine ⟨?_, (md1.trans g3.mod).trans md4, hs4.mono (by omega)⟩
  rw [hN] at hx
  have key : ∀ y ∈ ([[98, 114, 105, 99, 107], [99, 97, 114, 112, 101, 116], [109, 105, 110, 101], [114, 105, 110, 103, 115], [120, 45, 49], [116, 119, 111], [97], [122, 122]] : List (List UInt8)), y.length ≤ 10 := by decide
  exact key x hx
 ·simp (disch := omega) [aBuildSlice]
  obtain ⟨N, hN⟩ : ∃ N : List (List UInt8), N = [[], [66, 114, 105, 99, 107], [50, 120]] := ⟨_, rfl⟩
  obtain ⟨h3, e3⟩ : ∃ h3, h3 = h1 ++ [⟨N.map S, true⟩] := ⟨_, rfl⟩
  have g3 : Grows h1 h3 := ⟨_, e3⟩
  have b3 : h3[h1.length]? = some ⟨N.map S, true⟩ := by rw [e3]; simp
  rw [hN] at e3
  simp only [List.map_cons, List.map_nil] at e3
  rw [← e3]
  have nl : N.length = 3 := by rw [hN]; rfl
  have hc := c8 h3 b _ h1.length N (hs1.grow g3) (by omega) b3 (by omega) (by omega) (by omega)
  rw [nl] at hc
  refine callW_of hc ?_
  rintro _ h4 ⟨x, hx, rfl, md4, l4, hs4⟩
  try refine ⟨fun e => (by cases e), ?_⟩
  subst hK
  simp (disch := omega)
  refine ⟨?_, (md1.trans g3.mod).trans md4, hs4.mono (by omega)⟩
  rw [hN] at hx
  have key : ∀ y ∈ ([[], [66, 114, 105, 99, 107], [50, 120]] : List (List UInt8)), y.length ≤ 10 := by decide
  exact key x hx
end Am
