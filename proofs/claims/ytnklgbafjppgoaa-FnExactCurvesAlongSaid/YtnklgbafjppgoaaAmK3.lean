/- Contracts: AmP12, AmP13, AmP14, AmP16, AmJ1, AmJ2, AmJ3, AmJ4, AmY7. -/
import Derived.Test.YtnklgbafjppgoaaAmK2
set_option linter.unusedVariables false
set_option linter.unusedSimpArgs false
set_option maxHeartbeats 4000000
set_option maxRecDepth 40000
namespace Am
open Go
/-- A step fits a panel with n points. -/
def okStep (n : Nat) (s : Trip) : Bool := inR s.1 0 ((n : Int) - 1) && (okBr s.2.1 && (okBr s.2.2 && !decide (s.2.1 = s.2.2)))
theorem okStep_iff {n : Nat} {s : Trip} : okStep n s = true ↔ (0 ≤ s.1 ∧ s.1 < n) ∧ (0 ≤ s.2.1 ∧ s.2.1 ≤ 2) ∧ (0 ≤ s.2.2 ∧ s.2.2 ≤ 2) ∧ s.2.1 ≠ s.2.2 := by
 simp only [okStep, okBr, Bool.and_eq_true, inR_iff, Bool.not_eq_true', decide_eq_false_iff_not]
 omega
/-- Steps undone, the last one first: none if one does not fit. -/
def runB : List Trip → List Int → Option (List Int)
 | [], br => some br
 | s :: l, br => if okStep br.length s && decide (at0 br s.1.toNat = s.2.2) then runB l (br.set s.1.toNat s.2.1) else none
/-- Steps made. -/
def runF : List Trip → List Int → Option (List Int)
 | [], br => some br
 | s :: l, br => if okStep br.length s && decide (at0 br s.1.toNat = s.2.1) then runF l (br.set s.1.toNat s.2.2) else none
def okJ (X : Jrn) : Bool := okP X.1 && (decide (X.2.1.length + X.2.2.length ≤ 50) && ((runB X.2.1.reverse X.1.2.2).isSome && (runF X.2.2 X.1.2.2).isSome))
theorem c163 (a : Int) (n : Nat) (hn : n ≤ maxLen) (h : Heap) : ACall Gam 163 [I a, I n] h fun v h' => v = B (inR a 0 ((n : Int) - 1)) ∧ h' = h := by
 rw [maxLen_eq] at hn
 refine ACall_intro g163 rfl ?_
 unfold fn163
 simp (disch := omega) [wrap64]
 refine callW_of (c164 a 0 ((n : Int) - 1) h) ?_
 rintro v h' ⟨rfl, rfl⟩
 simp
theorem c199 (h : Heap) (W H : Int) (b o n z : Nat) (s : Trip) (hn : n ≤ maxLen) : ACall Gam 199 [.agg #[I W, I H, sl b o n z], .agg #[I s.1, I s.2.1, I s.2.2]] h fun r h' => r = B (okStep n s) ∧ h' = h := by
 refine ACall_intro g199 rfl ?_
 unfold fn199
 simp (disch := omega)
 refine callW_of (c163 s.1 n hn h) ?_
 rintro v h' ⟨rfl, rfl⟩
 cases h1 : inR s.1 0 ((n : Int) - 1)
 ·simp [okStep, h1]
 simp (disch := omega)
 refine callW_of (c196 s.2.1 h') ?_
 rintro v h' ⟨rfl, rfl⟩
 cases h2 : okBr s.2.1
 ·simp [okStep, h1, h2]
 simp (disch := omega)
 refine callW_of (c196 s.2.2 h') ?_
 rintro v h' ⟨rfl, rfl⟩
 cases h3 : okBr s.2.2
 ·simp [okStep, h1, h2, h3]
 simp (disch := omega) [okStep, h1, h2, h3]
theorem c562 (h : Heap) (pb po : Nat) (b o n z : Nat) (s : Trip) (hn : n ≤ maxLen) (hc : cell h pb (po + 2) = some (sl b o n z)) : ACall Gam 562 [pt pb po, .agg #[I s.1, I s.2.1, I s.2.2]] h fun r h' => r = B (okStep n s) ∧ h' = h := by
 have hn' := hn
 rw [maxLen_eq] at hn'
 refine ACall_intro g562 rfl ?_
 unfold fn562
 simp (disch := omega) [hc, wrap64]
 refine callW_of (c432 s.1 0 ((n : Int) - 1) h) ?_
 rintro v h' ⟨rfl, rfl⟩
 cases h1 : inR s.1 0 ((n : Int) - 1)
 ·simp [okStep, h1]
 simp (disch := omega)
 refine callW_of (c449 s.2.1 h') ?_
 rintro v h' ⟨rfl, rfl⟩
 cases h2 : okBr s.2.1
 ·simp [okStep, h1, h2]
 simp (disch := omega)
 refine callW_of (c449 s.2.2 h') ?_
 rintro v h' ⟨rfl, rfl⟩
 cases h3 : okBr s.2.2
 ·simp [okStep, h1, h2, h3]
 simp (disch := omega) [okStep, h1, h2, h3]
/-- A number written in a block of numbers. -/
theorem ints_set (l : List Int) (k : Nat) (v : Int) : (ints l).set k (I v) = ints (l.set k v) := by simp [ints, List.map_set]
theorem store_int {h : Heap} {b k : Nat} {l : List Int} {v : Int} (hb : h[b]? = some ⟨ints l, true⟩) (hk : k < l.length) : storeAt h b k [I v] = some (h.set b ⟨ints (l.set k v), true⟩) := by
 rw [store_one hb (by simp [ints]; exact hk), ints_set]
theorem cell_int {h : Heap} {b k : Nat} {l : List Int} {r : Bool} (hb : h[b]? = some ⟨ints l, r⟩) (hk : k < l.length) : cell h b k = some (I (at0 l k)) := by
 rw [at0_of hk]
 exact cell_of hb (by simp [ints, hk])
theorem ok_len {W H : Int} {br : List Int} (ok : OkP (W, H, br)) : br.length ≤ 112 := by
 have := inner_bd (a := W) (b := H) ok.w ok.h
 have := ok.n
 simp only at this
 omega
theorem storeAt_whole {h : Heap} {b : Nat} {cs ds : List Value} (hb : h[b]? = some ⟨ds, true⟩) (hl : cs.length = ds.length) : storeAt h b 0 cs = some (h.set b ⟨cs, true⟩) := by
 unfold storeAt
 simp only [hb]
 rw [if_pos ⟨trivial, by omega⟩]
 simp [hl]
/-- A clone's slice. -/
theorem own_slice {h : Heap} {lo hi : Nat} {v : Value} {X : List Int} (x : Vo h lo hi shInts v X) : ∃ b z, v = sl b 0 X.length z ∧ (X.length = 0 ∨ h[b]? = some ⟨ints X, true⟩ ∧ lo ≤ b ∧ b < hi) := by
 obtain ⟨b, z, e, _, _, _, hc⟩ := x.ints
 exact ⟨b, z, e, hc.imp (fun e => by rw [e]; rfl) id⟩
/-- A pointer to a journal. -/
def PtJ (h : Heap) (v : Value) (X : Jrn) : Prop := ∃ b o s sp sf, v = pt b o ∧ cellsAt h b o 5 = some [I X.1.1, I X.1.2.1, s, sp, sf] ∧ Vr h shInts s X.1.2.2 ∧ Vr h shTrips sp X.2.1 ∧ Vr h shTrips sf X.2.2 ∧ I64 X.1.1 ∧ I64 X.1.2.1
theorem PtJ.grow {h h' : Heap} {v : Value} {X : Jrn} (x : PtJ h v X) (g : Grows h h') : PtJ h' v X := by
 obtain ⟨b, o, s, sp, sf, e, h1, h2, h3, h4, h5⟩ := x
 exact ⟨b, o, s, sp, sf, e, g.cellsAt h1, h2.grow g, h3.grow g, h4.grow g, h5⟩
theorem PtJ.of {h : Heap} {b : Nat} {W H : Int} {s sp sf : Value} {br : List Int} {p f : List Trip} {r : Bool} (hb : h[b]? = some ⟨[I W, I H, s, sp, sf], r⟩) (h1 : Vr h shInts s br) (h2 : Vr h shTrips sp p) (h3 : Vr h shTrips sf f) (w1 : I64 W) (w2 : I64 H) : PtJ h (pt b 0) ((W, H, br), p, f) :=
 ⟨b, 0, s, sp, sf, rfl, cellsAt_all hb rfl, h1, h2, h3, w1, w2⟩
theorem PtJ.panel {h : Heap} {b o : Nat} {X : Jrn} (x : PtJ h (pt b o) X) : PtP h (pt b o) X.1 := by
 obtain ⟨b, o, s, sp, sf, e, h1, h2, h3, h4, w1, w2⟩ := x
 injection e with e; injection e with e; injection e with e1 e2; subst e1; subst e2
 have k0 := (cell_in (i := 0) h1 (by omega)).1
 have k1 := (cell_in (i := 1) h1 (by omega)).1
 have k2 := (cell_in (i := 2) h1 (by omega)).1
 exact ⟨_, _, s, rfl, by simpa using k0, by simpa using k1, by simpa using k2, h2, w1, w2⟩
theorem c138 (h : Heap) (hp : 0 < h.length) (v0 : Value) (X0 : Jrn) (hv0 : Vr h shJournal v0 X0) (hs0 : siz shJournal X0 ≤ 1048576) :
  ACall Gam 138 [v0] h fun r h' => Grows h h' ∧ r = B (okJ X0) := by
 obtain ⟨⟨W, H, br⟩, p, f⟩ := X0
 rw [siz_journal] at hs0
 obtain ⟨s, sp, sf, rfl, w1, w2, r1, r2, r3⟩ := hv0.journal
 have rp : Vr h shPanel (.agg #[I W, I H, s]) (W, H, br) := Vr.of_panel w1 w2 r1
 obtain ⟨pb, po, pz, rfl, hpm, hpe⟩ := trips_at r2
 obtain ⟨fb, fo, fz, rfl, hfm, hfe⟩ := trips_at r3
 rw [maxLen_eq] at hpm hfm
 refine ACall_intro g138 rfl ?_
 unfold fn138
 simp (disch := omega)
 refine callW_of (c140 _ _ h rp) ?_
 rintro _ h1 ⟨rfl, rfl⟩
 cases q : okP (W, H, br)
 ·simp [okJ, q]
  exact Grows.refl _
 have ok := okP_iff.1 q
 have hbl := ok_len ok
 simp (disch := omega) [wrap64]
 refine fork_dec (fun hgt => ?_) (fun hle => ?_)
 ·have : ¬ p.length + f.length ≤ 50 := by omega
  simp [okJ, q, this]
  exact Grows.refl _
 have hle : p.length + f.length ≤ 50 := by omega
 have eJ : okJ ((W, H, br), p, f) = ((runB p.reverse br).isSome && (runF f br).isSome) := by simp [okJ, q, hle]
 rw [eJ]
 simp (disch := omega)
 refine callW_of (c150 h1 _ _ hp rp (by simp only; omega)) ?_
 rintro _ h2 ⟨g2, o2⟩
 obtain ⟨so, rfl, _, _, o2⟩ := o2.panel
 obtain ⟨bb, zz, rfl, hb⟩ := own_slice o2
 obtain ⟨n, hn⟩ : ∃ n, n = br.length := ⟨_, rfl⟩
 rw [← hn] at hb ⊢
 simp (disch := omega) [wrap64]
 refine awp_loop (fun (k : Nat) σ h' => k ≤ p.length ∧ Grows h1 h' ∧ σ 1 = .agg #[I W, I H, s, sl pb po p.length pz, sl fb fo f.length fz] ∧ σ 3 = .agg #[I W, I H, sl bb 0 n zz] ∧ σ 4 = I ((p.length : Int) - 1 - k) ∧
  ∃ cur : List Int, cur.length = n ∧ runB (p.reverse.drop k) cur = runB p.reverse br ∧ (n = 0 ∨ h'[bb]? = some ⟨ints cur, true⟩ ∧ h1.length ≤ bb)) (fun k => p.length - k) 0 ?_ ?_
 ·refine ⟨by omega, g2, by simp, by simp, by simp, br, hn.symm, by simp, hb.imp id fun e => ⟨e.1, e.2.1⟩⟩
 rintro k σ h' ⟨hk, hg, q1, q3, q4, cur, hcl, hrun, hb⟩
 simp (disch := omega) [q4]
 refine fork_dec (fun hlt => ?_) (fun hge => ?_)
 ·have k1 : k < p.length := by omega
  obtain ⟨j, hj⟩ : ∃ j, j = p.length - 1 - k := ⟨_, rfl⟩
  have j1 : j < p.length := by omega
  have ej : (p.length : Int) - 1 - k = (j : Int) := by omega
  have hd : p.reverse.drop k = p[j] :: p.reverse.drop (k + 1) := by
   rw [List.drop_eq_getElem_cons (by simpa using k1)]
   congr 1
   rw [List.getElem_reverse]
   congr 1
   omega
  rw [hd] at hrun
  have hcell := grows_cellsAt hg (hpe j j1)
  rw [ej] at q4
  obtain ⟨⟨t1, t2, t3⟩, ht⟩ : ∃ t, t = p[j] := ⟨_, rfl⟩
  rw [← ht] at hrun hcell
  simp only [runB, hcl] at hrun
  simp (disch := omega) [q1, q3, q4, j1, hcell, trip]
  refine callW_of (c199 h' W H bb 0 n zz (t1, t2, t3) (by rw [maxLen_eq]; omega)) ?_
  rintro _ h' ⟨rfl, rfl⟩
  cases hs : okStep n (t1, t2, t3)
  ·simp only [hs, Bool.false_and, Bool.false_eq_true, if_false] at hrun
   simp [← hrun]
   exact hg
  have hso := okStep_iff.1 hs
  simp only at hso
  have hne : n ≠ 0 := by omega
  obtain ⟨hb1, hb2⟩ := hb.resolve_left hne
  obtain ⟨t, rfl⟩ := Int.eq_ofNat_of_zero_le hso.1.1
  have htn : t < cur.length := by omega
  have htn' : t < n := by omega
  have hci := cell_int hb1 htn
  simp only [hs, Bool.true_and, Int.toNat_natCast] at hrun
  simp (disch := omega) [q1, q3, q4, hci, htn']
  refine fork_dec (fun he => ?_) (fun he => ?_)
  ·simp only [he, decide_true, if_true] at hrun
   have hst := store_int (v := t2) hb1 htn
   simp (disch := omega) [q1, q3, q4, hst, htn', wrap64]
   refine ⟨k + 1, ⟨by omega, hg.put hb2 _, by omega, cur.set t t2, by simpa using hcl, hrun, .inr ⟨by simp [at_lt hb1], hb2⟩⟩, by omega⟩
  ·simp only [he, decide_false, Bool.false_eq_true, if_false] at hrun
   simp [← hrun]
   exact hg
 have hkp : k = p.length := by omega
 rw [List.drop_of_length_le (by simp; omega)] at hrun
 simp only [runB] at hrun
 rw [← hrun]
 simp (disch := omega) [q1, q3]
 refine callW_of (c150 h' _ _ (pos_of hp hg) (rp.grow hg) (by simp only; omega)) ?_
 rintro _ h3 ⟨g3, o3⟩
 obtain ⟨so, rfl, _, _, o3⟩ := o3.panel
 obtain ⟨bb, zz, rfl, hb⟩ := own_slice o3
 rw [← hn] at hb ⊢
 simp (disch := omega) [wrap64, q1, q3]
 refine awp_loop (fun (k : Nat) σ h' => k ≤ f.length ∧ Grows h1 h' ∧ σ 3 = .agg #[I W, I H, sl bb 0 n zz] ∧ σ 64 = sl fb fo f.length fz ∧ σ 65 = I f.length ∧ σ 66 = I k ∧
  ∃ cur : List Int, cur.length = n ∧ runF (f.drop k) cur = runF f br ∧ (n = 0 ∨ h'[bb]? = some ⟨ints cur, true⟩ ∧ h1.length ≤ bb)) (fun k => f.length - k) 0 ?_ ?_
 ·refine ⟨by omega, hg.trans g3, by simp, by simp, by simp, by simp, br, hn.symm, by simp, hb.imp id fun e => ⟨e.1, by have := hg.le; omega⟩⟩
 rintro k σ h' ⟨hk, hg, q3, q64, q65, q66, cur, hcl, hrun, hb⟩
 simp (disch := omega) [q65, q66]
 refine fork_dec (fun hlt => ?_) (fun hge => ?_)
 ·have k1 : k < f.length := by omega
  rw [List.drop_eq_getElem_cons k1] at hrun
  have hcell := grows_cellsAt hg (hfe k k1)
  obtain ⟨⟨t1, t2, t3⟩, ht⟩ : ∃ t, t = f[k] := ⟨_, rfl⟩
  rw [← ht] at hrun hcell
  simp only [runF, hcl] at hrun
  simp (disch := omega) [q3, q64, q66, k1, hcell, trip]
  refine callW_of (c199 h' W H bb 0 n zz (t1, t2, t3) (by rw [maxLen_eq]; omega)) ?_
  rintro _ h' ⟨rfl, rfl⟩
  cases hs : okStep n (t1, t2, t3)
  ·simp only [hs, Bool.false_and, Bool.false_eq_true, if_false] at hrun
   simp [← hrun]
   exact hg
  have hso := okStep_iff.1 hs
  simp only at hso
  have hne : n ≠ 0 := by omega
  obtain ⟨hb1, hb2⟩ := hb.resolve_left hne
  obtain ⟨t, rfl⟩ := Int.eq_ofNat_of_zero_le hso.1.1
  have htn : t < cur.length := by omega
  have htn' : t < n := by omega
  have hci := cell_int hb1 htn
  simp only [hs, Bool.true_and, Int.toNat_natCast] at hrun
  simp (disch := omega) [q3, hci, htn']
  refine fork_dec (fun he => ?_) (fun he => ?_)
  ·simp only [he, decide_true, if_true] at hrun
   have hst := store_int (v := t3) hb1 htn
   simp (disch := omega) [q3, q64, q65, q66, hst, htn', wrap64]
   refine ⟨k + 1, ⟨by omega, hg.put hb2 _, by omega, cur.set t t3, by simpa using hcl, hrun, .inr ⟨by simp [at_lt hb1], hb2⟩⟩, by omega⟩
  ·simp only [he, decide_false, Bool.false_eq_true, if_false] at hrun
   simp [← hrun]
   exact hg
 have hkp : k = f.length := by omega
 rw [List.drop_of_length_le (by omega)] at hrun
 simp only [runF] at hrun
 simp [← hrun]
 exact hg
theorem c558 (h : Heap) (hp : 0 < h.length) (v0 : Value) (X0 : Jrn) (hv0 : PtJ h v0 X0) (hs0 : siz shJournal X0 ≤ 1048576) :
  ACall Gam 558 [v0] h fun r h' => Grows h h' ∧ r = B (okJ X0) := by
 have hv0' := hv0
 obtain ⟨⟨W, H, br⟩, p, f⟩ := X0
 rw [siz_journal] at hs0
 obtain ⟨jb, jo, s, sp, sf, rfl, hc, r1, r2, r3, w1, w2⟩ := hv0
 obtain ⟨pb, po, pz, rfl, hpm, hpe⟩ := trips_at r2
 obtain ⟨fb, fo, fz, rfl, hfm, hfe⟩ := trips_at r3
 rw [maxLen_eq] at hpm hfm
 have k3 : cell h jb (jo + 3) = _ := (cell_in (i := 3) hc (by omega)).1
 have k4 : cell h jb (jo + 4) = _ := (cell_in (i := 4) hc (by omega)).1
 simp at k3 k4
 have hpt := hv0'.panel
 simp only at hpt
 refine ACall_intro g558 rfl ?_
 unfold fn558
 simp (disch := omega)
 refine callW_of (c452 _ _ h hpt) ?_
 rintro _ h1 ⟨rfl, rfl⟩
 cases q : okP (W, H, br)
 ·simp [okJ, q]
  exact Grows.refl _
 have ok := okP_iff.1 q
 have hbl := ok_len ok
 simp (disch := omega) [k3, k4, wrap64]
 refine fork_dec (fun hgt => ?_) (fun hle => ?_)
 ·have : ¬ p.length + f.length ≤ 50 := by omega
  simp [okJ, q, this]
  exact Grows.refl _
 have hle : p.length + f.length ≤ 50 := by omega
 have eJ : okJ ((W, H, br), p, f) = ((runB p.reverse br).isSome && (runF f br).isSome) := by simp [okJ, q, hle]
 rw [eJ]
 simp (disch := omega)
 refine callW_of (c453 h1 _ _ hp hpt (by simp only; omega)) ?_
 rintro _ h2 ⟨g2, o2⟩
 obtain ⟨so, rfl, _, _, o2⟩ := o2.panel
 obtain ⟨bb, zz, rfl, hb⟩ := own_slice o2
 obtain ⟨n, hn⟩ : ∃ n, n = br.length := ⟨_, rfl⟩
 rw [← hn] at hb ⊢
 have hsb : storeAt (h2 ++ [⟨[I 0, I 0, sl 0 0 0 0], true⟩]) h2.length 0 [I W, I H, sl bb 0 n zz] = some (h2 ++ [⟨[I W, I H, sl bb 0 n zz], true⟩]) := store_box rfl
 simp (disch := omega) [hsb]
 obtain ⟨h3, e3⟩ : ∃ h3, h3 = h2 ++ [⟨[I W, I H, sl bb 0 n zz], true⟩] := ⟨_, rfl⟩
 rw [← e3]
 have g3 : Grows h2 h3 := ⟨_, e3⟩
 have l3 : h3.length = h2.length + 1 := by rw [e3]; simp
 have b3 : h3[h2.length]? = some ⟨[I W, I H, sl bb 0 n zz], true⟩ := by rw [e3]; simp
 have G3 := g2.trans g3
 have c3 := G3.cell k3
 have l2 := g2.le
 simp (disch := omega) [c3, wrap64]
 refine awp_loop (fun (k : Nat) σ h' => k ≤ p.length ∧ Grows h1 h' ∧ h'[h2.length]? = some ⟨[I W, I H, sl bb 0 n zz], true⟩ ∧ σ 0 = pt jb jo ∧ σ 3 = pt h2.length 0 ∧ σ 4 = I ((p.length : Int) - 1 - k) ∧
  ∃ cur : List Int, cur.length = n ∧ runB (p.reverse.drop k) cur = runB p.reverse br ∧ (n = 0 ∨ h'[bb]? = some ⟨ints cur, true⟩ ∧ h1.length ≤ bb ∧ bb < h2.length)) (fun k => p.length - k) 0 ?_ ?_
 ·refine ⟨by omega, G3, b3, by simp, by simp, by simp, br, hn.symm, by simp, hb.imp id fun e => ⟨g3.at e.1, e.2⟩⟩
 rintro k σ h' ⟨hk, hg, hkb, q0, q3, q4, cur, hcl, hrun, hb⟩
 simp (disch := omega) [q4]
 refine fork_dec (fun hlt => ?_) (fun hge => ?_)
 ·have k1 : k < p.length := by omega
  obtain ⟨j, hj⟩ : ∃ j, j = p.length - 1 - k := ⟨_, rfl⟩
  have j1 : j < p.length := by omega
  have ej : (p.length : Int) - 1 - k = (j : Int) := by omega
  have hd : p.reverse.drop k = p[j] :: p.reverse.drop (k + 1) := by
   rw [List.drop_eq_getElem_cons (by simpa using k1)]
   congr 1
   rw [List.getElem_reverse]
   congr 1
   omega
  rw [hd] at hrun
  have hcell := grows_cellsAt hg (hpe j j1)
  have c3 := hg.cell k3
  have cl2 : cell h' h2.length 2 = some (sl bb 0 n zz) := by simp [cell, hkb]
  rw [ej] at q4
  obtain ⟨⟨t1, t2, t3⟩, ht⟩ : ∃ t, t = p[j] := ⟨_, rfl⟩
  rw [← ht] at hrun hcell
  simp only [runB, hcl] at hrun
  simp (disch := omega) [q0, q3, q4, j1, c3, hcell, trip]
  refine callW_of (c562 h' h2.length 0 bb 0 n zz (t1, t2, t3) (by rw [maxLen_eq]; omega) cl2) ?_
  rintro _ h' ⟨rfl, rfl⟩
  cases hs : okStep n (t1, t2, t3)
  ·simp only [hs, Bool.false_and, Bool.false_eq_true, if_false] at hrun
   simp [← hrun]
   exact hg
  have hso := okStep_iff.1 hs
  simp only at hso
  have hne : n ≠ 0 := by omega
  obtain ⟨hb1, hb2⟩ := hb.resolve_left hne
  obtain ⟨t, rfl⟩ := Int.eq_ofNat_of_zero_le hso.1.1
  have htn : t < cur.length := by omega
  have htn' : t < n := by omega
  have hci := cell_int hb1 htn
  simp only [hs, Bool.true_and, Int.toNat_natCast] at hrun
  simp (disch := omega) [q0, q3, q4, cl2, hci, htn']
  refine fork_dec (fun he => ?_) (fun he => ?_)
  ·simp only [he, decide_true, if_true] at hrun
   have hst := store_int (v := t2) hb1 htn
   simp (disch := omega) [q0, q3, q4, cl2, hst, htn', wrap64]
   refine ⟨k + 1, ⟨by omega, hg.put hb2.1 _, by first | exact hkb | (rw [List.getElem?_set_ne (by omega)]; exact hkb), by omega, cur.set t t2, by simpa using hcl, hrun, .inr ⟨by simp [at_lt hb1], hb2⟩⟩, by omega⟩
  ·simp only [he, decide_false, Bool.false_eq_true, if_false] at hrun
   simp [← hrun]
   exact hg
 have hkp : k = p.length := by omega
 rw [List.drop_of_length_le (by simp; omega)] at hrun
 simp only [runB] at hrun
 rw [← hrun]
 simp (disch := omega) [q0, q3]
 refine callW_of (c453 h' _ _ (pos_of hp hg) (hpt.grow hg) (by simp only; omega)) ?_
 rintro _ h4 ⟨g4, o4⟩
 obtain ⟨so, rfl, _, _, o4⟩ := o4.panel
 obtain ⟨bb, zz, rfl, hb⟩ := own_slice o4
 rw [← hn] at hb ⊢
 have b4 := g4.at hkb
 have hst := storeAt_whole (cs := [I W, I H, sl bb 0 n zz]) b4 rfl
 simp (disch := omega) [q0, q3, hst]
 obtain ⟨h5, e5⟩ : ∃ h5, h5 = h4.set h2.length ⟨[I W, I H, sl bb 0 n zz], true⟩ := ⟨_, rfl⟩
 rw [← e5]
 have b5 : h5[h2.length]? = some ⟨[I W, I H, sl bb 0 n zz], true⟩ := by rw [e5]; simp [at_lt b4]
 have G5 : Grows h1 h5 := by rw [e5]; exact (hg.trans g4).put l2 _
 have l4 := at_lt hkb
 refine awp_loop (fun (k : Nat) σ h' => k ≤ f.length ∧ Grows h1 h' ∧ h'[h2.length]? = some ⟨[I W, I H, sl bb 0 n zz], true⟩ ∧ σ 0 = pt jb jo ∧ σ 3 = pt h2.length 0 ∧ σ 6 = I k ∧
  ∃ cur : List Int, cur.length = n ∧ runF (f.drop k) cur = runF f br ∧ (n = 0 ∨ h'[bb]? = some ⟨ints cur, true⟩ ∧ h1.length ≤ bb ∧ h2.length ≠ bb)) (fun k => f.length - k) 0 ?_ ?_
 ·refine ⟨by omega, G5, b5, by simp [q0], by simp [q3], by simp, br, hn.symm, by simp, hb.imp id fun e => ⟨?_, by have := hg.le; omega, by omega⟩⟩
  rw [e5, List.getElem?_set_ne (by omega)]; exact e.1
 rintro k σ h' ⟨hk, hg, hkb, q0, q3, q6, cur, hcl, hrun, hb⟩
 have c4 := hg.cell k4
 simp (disch := omega) [q0, q6, c4]
 refine fork_dec (fun hlt => ?_) (fun hge => ?_)
 ·have k1 : k < f.length := by omega
  rw [List.drop_eq_getElem_cons k1] at hrun
  have hcell := grows_cellsAt hg (hfe k k1)
  have cl2 : cell h' h2.length 2 = some (sl bb 0 n zz) := by simp [cell, hkb]
  obtain ⟨⟨t1, t2, t3⟩, ht⟩ : ∃ t, t = f[k] := ⟨_, rfl⟩
  rw [← ht] at hrun hcell
  simp only [runF, hcl] at hrun
  simp (disch := omega) [q0, q3, q6, k1, c4, hcell, trip]
  refine callW_of (c562 h' h2.length 0 bb 0 n zz (t1, t2, t3) (by rw [maxLen_eq]; omega) cl2) ?_
  rintro _ h' ⟨rfl, rfl⟩
  cases hs : okStep n (t1, t2, t3)
  ·simp only [hs, Bool.false_and, Bool.false_eq_true, if_false] at hrun
   simp [← hrun]
   exact hg
  have hso := okStep_iff.1 hs
  simp only at hso
  have hne : n ≠ 0 := by omega
  obtain ⟨hb1, hb2⟩ := hb.resolve_left hne
  obtain ⟨t, rfl⟩ := Int.eq_ofNat_of_zero_le hso.1.1
  have htn : t < cur.length := by omega
  have htn' : t < n := by omega
  have hci := cell_int hb1 htn
  simp only [hs, Bool.true_and, Int.toNat_natCast] at hrun
  simp (disch := omega) [q0, q3, q6, cl2, hci, htn']
  refine fork_dec (fun he => ?_) (fun he => ?_)
  ·simp only [he, decide_true, if_true] at hrun
   have hst := store_int (v := t3) hb1 htn
   simp (disch := omega) [q0, q3, q6, cl2, hst, htn', wrap64]
   refine ⟨k + 1, ⟨by omega, hg.put hb2.1 _, by first | exact hkb | (rw [List.getElem?_set_ne (fun e => hb2.2 e.symm)]; exact hkb), by omega, cur.set t t3, by simpa using hcl, hrun, .inr ⟨by simp [at_lt hb1], hb2⟩⟩, by omega⟩
  ·simp only [he, decide_false, Bool.false_eq_true, if_false] at hrun
   simp [← hrun]
   exact hg
 have hkp : k = f.length := by omega
 rw [List.drop_of_length_le (by omega)] at hrun
 simp only [runF] at hrun
 simp [← hrun]
 exact hg
def startB (X : Jrn) : List Int := (runB X.2.1.reverse X.1.2.2).getD []
theorem runB_ok : ∀ {l : List Trip} {br c : List Int}, runB l br = some c → c.length = br.length ∧ ((∀ x ∈ br, 0 ≤ x ∧ x ≤ 2) → ∀ x ∈ c, 0 ≤ x ∧ x ≤ 2)
 | [], br, c, h => by simp only [runB, Option.some.injEq] at h; subst h; exact ⟨rfl, fun h => h⟩
 | s :: l, br, c, h => by
  simp only [runB] at h
  split at h
  ·rename_i hs
   simp only [Bool.and_eq_true] at hs
   obtain ⟨h1, h2⟩ := runB_ok h
   refine ⟨by simpa using h1, fun hb => h2 fun x hx => ?_⟩
   rcases List.mem_or_eq_of_mem_set hx with hx | rfl
   ·exact hb x hx
   ·exact (okStep_iff.1 hs.1).2.1
  ·cases h
theorem runB_step {n : Nat} {s : Trip} {l : List Trip} {br c : List Int} (hn : br.length = n) (h : runB (s :: l) br = some c) : (0 ≤ s.1 ∧ s.1 < n) ∧ runB l (br.set s.1.toNat s.2.1) = some c := by
 simp only [runB] at h
 split at h
 ·rename_i hs
  simp only [Bool.and_eq_true] at hs
  have := (okStep_iff.1 hs.1).1
  exact ⟨by omega, h⟩
 ·cases h
theorem okJ_parts {W H : Int} {br : List Int} {p f : List Trip} (h : okJ ((W, H, br), p, f) = true) : OkP (W, H, br) ∧ p.length + f.length ≤ 50 ∧ (∃ c, runB p.reverse br = some c) ∧ ∃ c, runF f br = some c := by
 simp only [okJ, Bool.and_eq_true, decide_eq_true_eq, Option.isSome_iff_exists] at h
 exact ⟨okP_iff.1 h.1, h.2.1, h.2.2.1, h.2.2.2⟩
theorem cur_64 {c : List Int} (h : ∀ x ∈ c, 0 ≤ x ∧ x ≤ 2) : ∀ x ∈ c, I64 x := fun x hx => rng_64' (h x hx)
where rng_64' {x : Int} (h : 0 ≤ x ∧ x ≤ 2) : I64 x := by unfold I64; omega
theorem rev_drop {α : Type} {p : List α} {k j : Nat} (hk : k < p.length) (hj : j = p.length - 1 - k) : p.reverse.drop k = p[j]'(by omega) :: p.reverse.drop (k + 1) := by
 rw [List.drop_eq_getElem_cons (by simpa using hk)]
 congr 1
 rw [List.getElem_reverse]
 congr 1
 omega
theorem c22 (h : Heap) (hp : 0 < h.length) (v0 : Value) (W H : Int) (br : List Int) (p f : List Trip) (hv0 : Vr h shJournal v0 ((W, H, br), p, f)) (hok : okJ ((W, H, br), p, f) = true) :
  ACall Gam 22 [v0] h fun r h' => Grows h h' ∧ Vo h' h.length h'.length shPanel r (W, H, startB ((W, H, br), p, f)) := by
 obtain ⟨ok, hle, ⟨fin, hfin⟩, _⟩ := okJ_parts hok
 have hbl := ok_len ok
 have eS : startB ((W, H, br), p, f) = fin := by simp [startB, hfin]
 rw [eS]
 obtain ⟨hf1, hf2⟩ := runB_ok hfin
 obtain ⟨s, sp, sf, rfl, w1, w2, r1, r2, r3⟩ := hv0.journal
 have rp : Vr h shPanel (.agg #[I W, I H, s]) (W, H, br) := Vr.of_panel w1 w2 r1
 have hcp := r2.trips
 obtain ⟨pb, po, pz, rfl, _, hpm, hpx, hpc⟩ := hcp
 rw [maxLen_eq] at hpm
 refine ACall_intro g22 rfl ?_
 unfold fn22
 simp (disch := omega)
 refine callW_of (c150 h _ _ hp rp (by simp only; omega)) ?_
 rintro _ h2 ⟨g2, o2⟩
 obtain ⟨so, rfl, _, _, o2⟩ := o2.panel
 obtain ⟨bb, zz, rfl, hz, _, _, hb⟩ := o2.ints
 obtain ⟨n, hn⟩ : ∃ n, n = br.length := ⟨_, rfl⟩
 have hz' : zz = 1 ∨ bb = 0 ∧ n = 0 := hz.imp id fun e => ⟨e.1, by rw [hn, e.2]; rfl⟩
 have hb' : n = 0 ∨ h2[bb]? = some ⟨ints br, true⟩ ∧ h.length ≤ bb := hb.imp (fun e => by rw [hn, e]; rfl) fun e => ⟨e.1, e.2.1⟩
 rw [← hn] at hf1 ⊢
 simp (disch := omega) [wrap64]
 refine awp_loop (fun (k : Nat) σ h' => k ≤ p.length ∧ Grows h h' ∧ σ 1 = .agg #[I W, I H, s, sl pb po p.length pz, sf] ∧ σ 2 = .agg #[I 0, I 0, sl 0 0 0 0] ∧ σ 3 = .agg #[I W, I H, sl bb 0 n zz] ∧ σ 4 = I ((p.length : Int) - 1 - k) ∧
  ∃ cur : List Int, cur.length = n ∧ runB (p.reverse.drop k) cur = some fin ∧ (n = 0 ∨ h'[bb]? = some ⟨ints cur, true⟩ ∧ h.length ≤ bb)) (fun k => p.length - k) 0 ?_ ?_
 ·refine ⟨by omega, g2, by simp, by simp, by simp, by simp, br, hn.symm, by simpa using hfin, hb'⟩
 rintro k σ h' ⟨hk, hg, q1, q2, q3, q4, cur, hcl, hrun, hb⟩
 simp (disch := omega) [q4]
 refine fork_dec (fun hlt => ?_) (fun hge => ?_)
 ·have k1 : k < p.length := by omega
  obtain ⟨j, hj⟩ : ∃ j, j = p.length - 1 - k := ⟨_, rfl⟩
  have j1 : j < p.length := by omega
  have ej : (p.length : Int) - 1 - k = (j : Int) := by omega
  rw [rev_drop k1 hj] at hrun
  obtain ⟨⟨t1, t2⟩, hrun⟩ := runB_step hcl hrun
  have hne : n ≠ 0 := by omega
  obtain ⟨hb1, hb2⟩ := hb.resolve_left hne
  obtain ⟨t, ht⟩ := Int.eq_ofNat_of_zero_le t1
  obtain ⟨ca, cb, _⟩ := trips_cell (hpc.imp id (grows_cellsAt hg)) j1
  rw [ht, Int.toNat_natCast] at hrun
  rw [ht] at t2 ca
  have htn : t < cur.length := by omega
  have htn' : t < n := by omega
  rw [ej] at q4
  have hst := store_int (v := p[j].2.1) hb1 htn
  simp (disch := omega) [q1, q2, q3, q4, j1, ca, cb, hst, htn', wrap64]
  exact ⟨k + 1, ⟨by omega, hg.put hb2 _, by omega, cur.set t p[j].2.1, by simpa using hcl, hrun, .inr ⟨by simp [at_lt hb1], hb2⟩⟩, by omega⟩
 ·have hkp : k = p.length := by omega
  rw [List.drop_of_length_le (by simp; omega)] at hrun
  simp only [runB, Option.some.injEq] at hrun
  subst hrun
  simp (disch := omega) [q1, q2, q3, resOf_box, aField]
  have := Vo.of_ints (h := h') (b := bb) (lo := h.length) (hi := h'.length) (z := zz) (X := cur) (hz'.imp id fun e => ⟨e.1, by rw [e.2] at hcl; exact List.length_eq_zero_iff.1 hcl⟩) (by rw [maxLen_eq]; omega) (cur_64 (hf2 ok.b)) (by
   rcases hb with e | e
   ·left; rw [e] at hcl; exact List.length_eq_zero_iff.1 hcl
   ·exact .inr ⟨e.1, e.2, at_lt e.1⟩)
  rw [hcl] at this
  exact ⟨hg, Vo.of_panel w1 w2 this⟩
theorem c561 (h : Heap) (hp : 0 < h.length) (v0 : Value) (W H : Int) (br : List Int) (p f : List Trip) (hv0 : PtJ h v0 ((W, H, br), p, f)) (hok : okJ ((W, H, br), p, f) = true) :
  ACall Gam 561 [v0] h fun r h' => Grows h h' ∧ Vo h' h.length h'.length shPanel r (W, H, startB ((W, H, br), p, f)) := by
 obtain ⟨ok, hle, ⟨fin, hfin⟩, _⟩ := okJ_parts hok
 have hbl := ok_len ok
 have eS : startB ((W, H, br), p, f) = fin := by simp [startB, hfin]
 rw [eS]
 obtain ⟨hf1, hf2⟩ := runB_ok hfin
 have hv0' := hv0
 obtain ⟨jb, jo, s, sp, sf, rfl, hc, r1, r2, r3, w1, w2⟩ := hv0
 have hpt := hv0'.panel
 simp only at hpt hc r1 r2 r3 w1 w2
 have k3 : cell h jb (jo + 3) = _ := (cell_in (i := 3) hc (by omega)).1
 simp at k3
 obtain ⟨pb, po, pz, rfl, _, hpm, hpx, hpc⟩ := r2.trips
 rw [maxLen_eq] at hpm
 refine ACall_intro g561 rfl ?_
 unfold fn561
 simp (disch := omega)
 refine callW_of (c453 h _ _ hp hpt (by simp only; omega)) ?_
 rintro _ h2 ⟨g2, o2⟩
 obtain ⟨so, rfl, _, _, o2⟩ := o2.panel
 obtain ⟨bb, zz, rfl, hz, _, _, hb⟩ := o2.ints
 obtain ⟨n, hn⟩ : ∃ n, n = br.length := ⟨_, rfl⟩
 have hz' : zz = 1 ∨ bb = 0 ∧ n = 0 := hz.imp id fun e => ⟨e.1, by rw [hn, e.2]; rfl⟩
 have hb' : n = 0 ∨ h2[bb]? = some ⟨ints br, true⟩ ∧ h.length ≤ bb := hb.imp (fun e => by rw [hn, e]; rfl) fun e => ⟨e.1, e.2.1⟩
 rw [← hn] at hf1 ⊢
 have c3 := g2.cell k3
 simp (disch := omega) [c3, wrap64]
 refine awp_loop (fun (k : Nat) σ h' => k ≤ p.length ∧ Grows h h' ∧ σ 0 = pt jb jo ∧ σ 2 = .agg #[I 0, I 0, sl 0 0 0 0] ∧ σ 3 = .agg #[I W, I H, sl bb 0 n zz] ∧ σ 4 = I ((p.length : Int) - 1 - k) ∧
  ∃ cur : List Int, cur.length = n ∧ runB (p.reverse.drop k) cur = some fin ∧ (n = 0 ∨ h'[bb]? = some ⟨ints cur, true⟩ ∧ h.length ≤ bb)) (fun k => p.length - k) 0 ?_ ?_
 ·refine ⟨by omega, g2, by simp, by simp, by simp, by simp, br, hn.symm, by simpa using hfin, hb'⟩
 rintro k σ h' ⟨hk, hg, q0, q2, q3, q4, cur, hcl, hrun, hb⟩
 have c3 := hg.cell k3
 simp (disch := omega) [q4]
 refine fork_dec (fun hlt => ?_) (fun hge => ?_)
 ·have k1 : k < p.length := by omega
  obtain ⟨j, hj⟩ : ∃ j, j = p.length - 1 - k := ⟨_, rfl⟩
  have j1 : j < p.length := by omega
  have ej : (p.length : Int) - 1 - k = (j : Int) := by omega
  rw [rev_drop k1 hj] at hrun
  obtain ⟨⟨t1, t2⟩, hrun⟩ := runB_step hcl hrun
  have hne : n ≠ 0 := by omega
  obtain ⟨hb1, hb2⟩ := hb.resolve_left hne
  obtain ⟨t, ht⟩ := Int.eq_ofNat_of_zero_le t1
  obtain ⟨ca, cb, _⟩ := trips_cell (hpc.imp id (grows_cellsAt hg)) j1
  rw [ht, Int.toNat_natCast] at hrun
  rw [ht] at t2 ca
  have htn : t < cur.length := by omega
  have htn' : t < n := by omega
  rw [ej] at q4
  have hst := store_int (v := p[j].2.1) hb1 htn
  simp (disch := omega) [q0, q2, q3, q4, j1, c3, ca, cb, hst, htn', wrap64]
  exact ⟨k + 1, ⟨by omega, hg.put hb2 _, by omega, cur.set t p[j].2.1, by simpa using hcl, hrun, .inr ⟨by simp [at_lt hb1], hb2⟩⟩, by omega⟩
 ·have hkp : k = p.length := by omega
  rw [List.drop_of_length_le (by simp; omega)] at hrun
  simp only [runB, Option.some.injEq] at hrun
  subst hrun
  simp (disch := omega) [q0, q2, q3, resOf_box, aField]
  have := Vo.of_ints (h := h') (b := bb) (lo := h.length) (hi := h'.length) (z := zz) (X := cur) (hz'.imp id fun e => ⟨e.1, by rw [e.2] at hcl; exact List.length_eq_zero_iff.1 hcl⟩) (by rw [maxLen_eq]; omega) (cur_64 (hf2 ok.b)) (by
   rcases hb with e | e
   ·left; rw [e] at hcl; exact List.length_eq_zero_iff.1 hcl
   ·exact .inr ⟨e.1, e.2, at_lt e.1⟩)
  rw [hcl] at this
  exact ⟨hg, Vo.of_panel w1 w2 this⟩
theorem startB_ok {W H : Int} {br : List Int} {p f : List Trip} (h : okJ ((W, H, br), p, f) = true) : (startB ((W, H, br), p, f)).length = br.length ∧ ∀ x ∈ startB ((W, H, br), p, f), 0 ≤ x ∧ x ≤ 2 := by
 obtain ⟨ok, hle, ⟨fin, hfin⟩, _⟩ := okJ_parts h
 obtain ⟨h1, h2⟩ := runB_ok hfin
 have e : startB ((W, H, br), p, f) = fin := by simp [startB, hfin]
 rw [e]
 exact ⟨h1, h2 ok.b⟩
section
variable {α : Type} (f R : α → α) (seg : α → Nat) (V : α → Prop) (N : Nat)
def itW (f : α → α) : Nat → α → α
 | 0, w => w
 | k + 1, w => f (itW f k w)
theorem itW_add {f : α → α} (i j : Nat) (w : α) : itW f (i + j) w = itW f j (itW f i w) := by
 induction j with
 | zero => rfl
 | succ j ih => rw [← Nat.add_assoc]; simp only [itW]; rw [ih]
/-- What makes the curves of walkers closed. -/
structure Walks : Prop where
 vf : ∀ w, V w → V (f w)
 vr : ∀ w, V w → V (R w)
 rr : ∀ w, R (R w) = w
 fr : ∀ w, V w → f (R (f w)) = R w
 ne : ∀ w, V w → f w ≠ R w
 nr : ∀ w, V w → R w ≠ w
 sg : ∀ w v, V w → V v → (seg w = seg v ↔ w = v ∨ w = R v)
 lt : ∀ w, V w → seg w < N
variable {f R seg V N}
theorem Walks.vi (a : Walks f R seg V N) {w : α} (h : V w) : ∀ k, V (itW f k w)
 | 0 => h
 | k + 1 => a.vf _ (a.vi h k)
theorem Walks.inj (a : Walks f R seg V N) {w v : α} (h1 : V w) (h2 : V v) (e : f w = f v) : w = v := by
 have e1 := a.fr w h1
 have e2 := a.fr v h2
 rw [e, e2] at e1
 rw [← a.rr w, ← e1, a.rr]
/-- A walker turned back walks back. -/
theorem Walks.back (a : Walks f R seg V N) {w : α} (h : V w) : ∀ k, itW f k (R (itW f k w)) = R w
 | 0 => rfl
 | k + 1 => by
  have e := a.fr _ (a.vi h k)
  have := a.back h k
  rw [show k + 1 = 1 + k by omega, itW_add, Nat.add_comm]
  simp only [itW]
  rw [e]; exact this
theorem Walks.injI (a : Walks f R seg V N) {u v : α} (h : V u) (h' : V v) : ∀ k, itW f k u = itW f k v → u = v
 | 0, e => e
 | k + 1, e => a.injI h h' k (a.inj (a.vi h k) (a.vi h' k) e)
theorem Walks.never (a : Walks f R seg V N) {w : α} (h : V w) (m : Nat) : itW f m w ≠ R w := by
 intro e
 rcases Nat.mod_two_eq_zero_or_one m with hm | hm
 ·obtain ⟨k, rfl⟩ : ∃ k, m = k + k := ⟨m / 2, by omega⟩
  rw [itW_add] at e
  have hb := a.back h k
  rw [← e] at hb
  have := a.injI (a.vr _ (a.vi h k)) (a.vi h k) k hb
  exact a.nr _ (a.vi h k) this
 ·obtain ⟨k, rfl⟩ : ∃ k, m = k + 1 + k := ⟨m / 2, by omega⟩
  rw [itW_add] at e
  have hb := a.back h k
  rw [← e] at hb
  have := a.injI (a.vr _ (a.vi h k)) (a.vi h (k + 1)) k hb
  exact a.ne _ (a.vi h k) this.symm
theorem Walks.same (a : Walks f R seg V N) {w : α} (h : V w) {i j : Nat} (hij : i ≤ j) (e : seg (itW f i w) = seg (itW f j w)) : itW f (j - i) w = w := by
 have hi := a.vi h i
 have hj := a.vi h j
 rcases (a.sg _ _ hj hi).1 e.symm with q | q
 ·have : itW f i (itW f (j - i) w) = itW f i w := by
   rw [← itW_add, show j - i + i = j by omega, q]
  exact a.injI (a.vi h (j - i)) h i this
 ·exfalso
  refine a.never hi (j - i) ?_
  rw [← itW_add, show i + (j - i) = j by omega]; exact q
theorem pigeon : ∀ (n : Nat) (g : Nat → Nat), (∀ i, i ≤ n → g i < n) → ∃ i j, i < j ∧ j ≤ n ∧ g i = g j
 | 0, g, hb => by have := hb 0 (Nat.le_refl _); omega
 | n + 1, g, hb => by
  by_cases q : ∃ i, i ≤ n ∧ g i = g (n + 1)
  ·obtain ⟨i, h1, h2⟩ := q
   exact ⟨i, n + 1, by omega, Nat.le_refl _, h2⟩
  ·have hc := hb (n + 1) (Nat.le_refl _)
   have hne : ∀ i, i ≤ n → g i ≠ g (n + 1) := fun i hi e => q ⟨i, hi, e⟩
   obtain ⟨i, j, h1, h2, h3⟩ := pigeon n (fun i => if g (n + 1) < g i then g i - 1 else g i) (fun i hi => by
    have := hne i hi
    have := hb i (by omega)
    split <;> omega)
   have e1 := hne i (by omega)
   have e2 := hne j (by omega)
   refine ⟨i, j, h1, by omega, ?_⟩
   split at h3 <;> split at h3 <;> omega
theorem least {P : Nat → Prop} : ∀ n, P n → ∃ m, m ≤ n ∧ P m ∧ ∀ k, k < m → ¬ P k := by
 intro n
 induction n using Nat.strongRecOn with
 | ind n ih =>
  intro hp
  by_cases q : ∃ k, k < n ∧ P k
  ·obtain ⟨k, h1, h2⟩ := q
   obtain ⟨m, a, b, c⟩ := ih k h1 h2
   exact ⟨m, by omega, b, c⟩
  ·exact ⟨n, Nat.le_refl _, hp, fun k hk hx => q ⟨k, hk, hx⟩⟩
/-- The length of a walker's curve. -/
theorem Walks.period (a : Walks f R seg V N) {w : α} (h : V w) : ∃ n, 0 < n ∧ n ≤ N ∧ itW f n w = w := by
 obtain ⟨i, j, h1, h2, h3⟩ := pigeon N (fun i => seg (itW f i w)) fun i _ => a.lt _ (a.vi h i)
 exact ⟨j - i, by omega, by omega, a.same h (by omega) h3⟩
open Classical in
noncomputable def perW (f : α → α) (w : α) : Nat := if h : ∃ n, (0 < n ∧ itW f n w = w) ∧ ∀ k, k < n → ¬ (0 < k ∧ itW f k w = w) then Classical.choose h else 0
theorem Walks.per (a : Walks f R seg V N) {w : α} (h : V w) : 0 < perW f w ∧ perW f w ≤ N ∧ itW f (perW f w) w = w ∧ ∀ j, 0 < j → j < perW f w → itW f j w ≠ w := by
 obtain ⟨n, h1, h2, h3⟩ := a.period h
 obtain ⟨m, m1, m2, m3⟩ := least (P := fun n => 0 < n ∧ itW f n w = w) n ⟨h1, h3⟩
 have e : ∃ n, (0 < n ∧ itW f n w = w) ∧ ∀ k, k < n → ¬ (0 < k ∧ itW f k w = w) := ⟨m, m2, m3⟩
 unfold perW
 rw [dif_pos e]
 obtain ⟨p1, p2⟩ := Classical.choose_spec e
 refine ⟨p1.1, ?_, p1.2, fun j hj hl hx => p2 j hl ⟨hj, hx⟩⟩
 by_cases q : Classical.choose e ≤ N
 ·exact q
 ·exact absurd ⟨h1, h3⟩ (p2 n (by omega))
theorem Walks.dist (a : Walks f R seg V N) {w : α} (h : V w) {i j : Nat} (hij : i < j) (hj : j < perW f w) : seg (itW f i w) ≠ seg (itW f j w) := by
 intro e
 exact (a.per h).2.2.2 (j - i) (by omega) (by omega) (a.same h (by omega) e)
def paint (f : α → α) (seg : α → Nat) (w : α) (c : Int) (o : List Int) : Nat → List Int
 | 0 => o
 | k + 1 => (paint f seg w c o k).set (seg (itW f k w)) c
theorem paint_len {w : α} {c : Int} {o : List Int} : ∀ k, (paint f seg w c o k).length = o.length
 | 0 => rfl
 | k + 1 => by simp [paint, paint_len k]
theorem paint_at {w : α} {c : Int} {o : List Int} {s : Nat} (hs : s < o.length) : ∀ k, at0 (paint f seg w c o k) s = if ∃ j, j < k ∧ seg (itW f j w) = s then c else at0 o s
 | 0 => by simp [paint]
 | k + 1 => by
  simp only [paint]
  have ih := paint_at (w := w) (c := c) hs k
  have hl := paint_len (f := f) (seg := seg) (w := w) (c := c) (o := o) k
  by_cases e : seg (itW f k w) = s
  ·rw [if_pos ⟨k, by omega, e⟩]
   unfold at0
   rw [List.getD_eq_getElem?_getD, e, List.getElem?_set_self (by omega)]; rfl
  ·have : at0 ((paint f seg w c o k).set (seg (itW f k w)) c) s = at0 (paint f seg w c o k) s := by
    unfold at0
    rw [List.getD_eq_getElem?_getD, List.getElem?_set_ne e, ← List.getD_eq_getElem?_getD]
   rw [this, ih]
   by_cases q : ∃ j, j < k ∧ seg (itW f j w) = s
   ·obtain ⟨j, a, b⟩ := q
    rw [if_pos ⟨j, a, b⟩, if_pos ⟨j, by omega, b⟩]
   ·rw [if_neg q, if_neg]
    rintro ⟨j, a, b⟩
    by_cases ej : j = k
    ·exact e (ej ▸ b)
    ·exact q ⟨j, by omega, b⟩
/-- Owned segments are owned with all of their curve. -/
def Closed (f : α → α) (seg : α → Nat) (V : α → Prop) (o : List Int) : Prop := ∀ w, V w → (0 ≤ at0 o (seg w) ↔ 0 ≤ at0 o (seg (f w)))
theorem Closed.it (hV : ∀ w, V w → V (f w)) {o : List Int} (a : Closed f seg V o) {w : α} (h : V w) : ∀ k, V (itW f k w) ∧ (0 ≤ at0 o (seg w) ↔ 0 ≤ at0 o (seg (itW f k w)))
 | 0 => ⟨h, Iff.rfl⟩
 | k + 1 => by
  obtain ⟨h1, h2⟩ := Closed.it hV a h k
  exact ⟨hV _ h1, h2.trans (a _ h1)⟩
theorem Walks.closed (a : Walks f R seg V N) {w : α} (h : V w) {c : Int} (hc : 0 ≤ c) {o : List Int} (ho : o.length = N) (cl : Closed f seg V o) : Closed f seg V (paint f seg w c o (perW f w)) := by
 obtain ⟨p1, p2, p3, p4⟩ := a.per h
 intro v hv
 rw [paint_at (by rw [ho]; exact a.lt v hv), paint_at (by rw [ho]; exact a.lt _ (a.vf v hv))]
 have key : (∃ j, j < perW f w ∧ seg (itW f j w) = seg v) ↔ ∃ j, j < perW f w ∧ seg (itW f j w) = seg (f v) := by
  constructor
  ·rintro ⟨j, h1, h2⟩
   rcases (a.sg _ _ (a.vi h j) hv).1 h2 with q | q
   ·by_cases e : j + 1 < perW f w
    ·exact ⟨j + 1, e, by simp only [itW]; rw [q]⟩
    ·refine ⟨0, p1, ?_⟩
     have : itW f (j + 1) w = w := by rw [show j + 1 = perW f w by omega]; exact p3
     simp only [itW] at this ⊢
     rw [← q, this]
   · -- f^j w = R v, so R (f v) = f^(j-1) w
    have hb : f (R (f v)) = R v := a.fr v hv
    by_cases e : j = 0
    ·subst e
     refine ⟨perW f w - 1, by omega, (a.sg _ _ (a.vi h _) (a.vf v hv)).2 (.inr ?_)⟩
     refine a.inj (a.vi h _) (a.vr _ (a.vf v hv)) ?_
     rw [hb, ← q]
     have : itW f (perW f w - 1 + 1) w = w := by rw [show perW f w - 1 + 1 = perW f w by omega]; exact p3
     exact this
    ·refine ⟨j - 1, by omega, (a.sg _ _ (a.vi h _) (a.vf v hv)).2 (.inr ?_)⟩
     refine a.inj (a.vi h _) (a.vr _ (a.vf v hv)) ?_
     rw [hb, ← q]
     show itW f (j - 1 + 1) w = _
     rw [show j - 1 + 1 = j by omega]
  ·rintro ⟨j, h1, h2⟩
   rcases (a.sg _ _ (a.vi h j) (a.vf v hv)).1 h2 with q | q
   ·by_cases e : j = 0
    ·subst e
     refine ⟨perW f w - 1, by omega, (a.sg _ _ (a.vi h _) hv).2 (.inl ?_)⟩
     refine a.inj (a.vi h _) hv ?_
     rw [← q]
     show itW f (perW f w - 1 + 1) w = _
     rw [show perW f w - 1 + 1 = perW f w by omega]; exact p3
    ·refine ⟨j - 1, by omega, (a.sg _ _ (a.vi h _) hv).2 (.inl ?_)⟩
     refine a.inj (a.vi h _) hv ?_
     rw [← q]
     show itW f (j - 1 + 1) w = _
     rw [show j - 1 + 1 = j by omega]
   · -- f^j w = R (f v), so f^(j+1) w = R v
    have hb : f (R (f v)) = R v := a.fr v hv
    by_cases e : j + 1 < perW f w
    ·exact ⟨j + 1, e, (a.sg _ _ (a.vi h _) hv).2 (.inr (by simp only [itW]; rw [q, hb]))⟩
    ·refine ⟨0, p1, (a.sg _ _ h hv).2 (.inr ?_)⟩
     have : itW f (j + 1) w = w := by rw [show j + 1 = perW f w by omega]; exact p3
     simp only [itW] at this
     rw [q, hb] at this
     exact this.symm
 by_cases q : ∃ j, j < perW f w ∧ seg (itW f j w) = seg v
 ·rw [if_pos q, if_pos (key.1 q)]
 ·rw [if_neg q, if_neg (fun x => q (key.2 x))]; exact cl v hv
/-- After the first segments: the curve of each segment, the number of curves. -/
noncomputable def curvesSt (f : α → α) (seg : α → Nat) (wk : Nat → α) (N : Nat) : Nat → List Int × Nat
 | 0 => (List.replicate N (-1), 0)
 | k + 1 => if 0 ≤ at0 (curvesSt f seg wk N k).1 k then curvesSt f seg wk N k else (paint f seg (wk k) (curvesSt f seg wk N k).2 (curvesSt f seg wk N k).1 (perW f (wk k)), (curvesSt f seg wk N k).2 + 1)
theorem Walks.st (a : Walks f R seg V N) {wk : Nat → α} (hw : ∀ k, k < N → V (wk k)) : ∀ k, k ≤ N → (curvesSt f seg wk N k).1.length = N ∧ Closed f seg V (curvesSt f seg wk N k).1 ∧ (curvesSt f seg wk N k).2 ≤ k
 | 0, _ => by
  refine ⟨by simp [curvesSt], ?_, by simp [curvesSt]⟩
  intro w hw
  have h1 := a.lt w hw
  have h2 := a.lt _ (a.vf w hw)
  simp [curvesSt, at0, List.getD_eq_getElem?_getD, List.getElem?_replicate, h1, h2]
 | k + 1, hk => by
  obtain ⟨h1, h2, h3⟩ := Walks.st a hw k (by omega)
  simp only [curvesSt]
  split
  ·exact ⟨h1, h2, by omega⟩
  ·exact ⟨by rw [paint_len, h1], a.closed (hw k (by omega)) (by omega) h1 h2, by simp only; omega⟩
/-- The steps of the walk that paints a curve: not owned before the end, owned at the end. -/
theorem Walks.run (a : Walks f R seg V N) {w : α} (h : V w) {c : Int} (hc : 0 ≤ c) {o : List Int} (ho : o.length = N) (cl : Closed f seg V o) (hn : at0 o (seg w) < 0) :
  (∀ k, k < perW f w → at0 (paint f seg w c o k) (seg (itW f k w)) < 0) ∧ 0 ≤ at0 (paint f seg w c o (perW f w)) (seg (itW f (perW f w) w)) := by
 obtain ⟨p1, p2, p3, p4⟩ := a.per h
 constructor
 ·intro k hk
  have hv := a.vi h k
  rw [paint_at (by rw [ho]; exact a.lt _ hv), if_neg]
  ·have := (Closed.it a.vf cl h k).2
   omega
  ·rintro ⟨j, hj, e⟩
   exact a.dist h hj hk e
 ·rw [p3, paint_at (by rw [ho]; exact a.lt _ h), if_pos ⟨0, p1, rfl⟩]; exact hc
end
abbrev Wk := Int × Int × Int × Int
def edgeW (W H : Nat) (x y : Int) : Prop := x = 0 ∨ x = 2 * W ∨ y = 0 ∨ y = 2 * H
instance (W H : Nat) (x y : Int) : Decidable (edgeW W H x y) := by unfold edgeW; infer_instance
def kindW (W H : Nat) (br : List Int) (x y : Int) : Int := if edgeW W H x y then 0 else at0 br (numP W x.toNat y.toNat)
def stepW (W H : Nat) (br : List Int) (w : Wk) : Wk :=
 (w.1 + w.2.2.1, w.2.1 + w.2.2.2,
  if w.1 + w.2.2.1 = 0 ∨ w.1 + w.2.2.1 = 2 * W ∨ kindW W H br (w.1 + w.2.2.1) (w.2.1 + w.2.2.2) = 1 then -w.2.2.1 else w.2.2.1,
  if w.2.1 + w.2.2.2 = 0 ∨ w.2.1 + w.2.2.2 = 2 * H ∨ kindW W H br (w.1 + w.2.2.1) (w.2.1 + w.2.2.2) = 2 then -w.2.2.2 else w.2.2.2)
def backW (w : Wk) : Wk := (w.1 + w.2.2.1, w.2.1 + w.2.2.2, -w.2.2.1, -w.2.2.2)
structure OkW (W H : Nat) (w : Wk) : Prop where
 dx : w.2.2.1 = 1 ∨ w.2.2.1 = -1
 dy : w.2.2.2 = 1 ∨ w.2.2.2 = -1
 x : 0 ≤ w.1 ∧ w.1 ≤ 2 * W
 y : 0 ≤ w.2.1 ∧ w.2.1 ≤ 2 * H
 nx : 0 ≤ w.1 + w.2.2.1 ∧ w.1 + w.2.2.1 ≤ 2 * W
 ny : 0 ≤ w.2.1 + w.2.2.2 ∧ w.2.1 + w.2.2.2 ≤ 2 * H
 p : (w.1 + w.2.1) % 2 = 1
def minI (a b : Int) : Int := if a ≤ b then a else b
def segW (H : Nat) (w : Wk) : Nat := (minI w.1 (w.1 + w.2.2.1) * (2 * H) + minI w.2.1 (w.2.1 + w.2.2.2)).toNat
theorem minI_one {x d : Int} (h : d = 1 ∨ d = -1) : minI x (x + d) = if d = 1 then x else x - 1 := by
 unfold minI; rcases h with rfl | rfl
 ·rw [if_pos (by omega), if_pos rfl]
 ·rw [if_neg (by omega), if_neg (by omega)]; omega
theorem pair_eq {H a b c d : Int} (h : 0 < H) (hb : 0 ≤ b ∧ b < H) (hd : 0 ≤ d ∧ d < H) (e : a * H + b = c * H + d) : a = c ∧ b = d := by
 have h1 : (a * H + b) / H = a := by
  rw [Int.add_comm, Int.add_mul_ediv_right _ _ (by omega), Int.ediv_eq_zero_of_lt hb.1 hb.2]; omega
 have h2 : (c * H + d) / H = c := by
  rw [Int.add_comm, Int.add_mul_ediv_right _ _ (by omega), Int.ediv_eq_zero_of_lt hd.1 hd.2]; omega
 have : a = c := by rw [← h1, e, h2]
 subst this
 exact ⟨rfl, by omega⟩
theorem seg_bd {W H : Nat} {w : Wk} (h : OkW W H w) : (0 ≤ minI w.1 (w.1 + w.2.2.1) ∧ minI w.1 (w.1 + w.2.2.1) ≤ 2 * W - 1) ∧ (0 ≤ minI w.2.1 (w.2.1 + w.2.2.2) ∧ minI w.2.1 (w.2.1 + w.2.2.2) ≤ 2 * H - 1) := by
 obtain ⟨dx, dy, x, y, nx, ny, p⟩ := h
 rw [minI_one dx, minI_one dy]
 rcases dx with e | e <;> rcases dy with e' | e' <;> rw [e, e'] <;> rw [e] at nx <;> rw [e'] at ny <;> simp <;> omega
theorem seg_cast {W H : Nat} {w : Wk} (h : OkW W H w) : (segW H w : Int) = minI w.1 (w.1 + w.2.2.1) * (2 * H) + minI w.2.1 (w.2.1 + w.2.2.2) := by
 obtain ⟨⟨a, _⟩, b, _⟩ := seg_bd h
 have : 0 ≤ minI w.1 (w.1 + w.2.2.1) * (2 * (H : Int)) := Int.mul_nonneg a (by omega)
 unfold segW; omega
theorem seg_lt {W H : Nat} {w : Wk} (h : OkW W H w) : segW H w < 4 * W * H := by
 obtain ⟨⟨a, a'⟩, b, b'⟩ := seg_bd h
 have hc := seg_cast h
 have h1 : minI w.1 (w.1 + w.2.2.1) * (2 * (H : Int)) ≤ (2 * W - 1) * (2 * H) := Int.mul_le_mul_of_nonneg_right a' (by omega)
 have h2 : ((2 : Int) * W - 1) * (2 * H) = 4 * W * H - 2 * H := by
  rw [Int.sub_mul]; simp only [Int.one_mul]
  congr 1
  rw [show (2 : Int) * W * (2 * H) = (2 * 2) * (W * H) by ac_rfl, show (4 : Int) * W * H = 4 * (W * H) by ac_rfl]
  rfl
 have h3 : ((4 * W * H : Nat) : Int) = 4 * W * H := by simp
 omega
theorem kindW_edge {W H : Nat} {br : List Int} {x y : Int} (h : edgeW W H x y) : kindW W H br x y = 0 := if_pos h
theorem walks {W H : Nat} {br : List Int} (w1 : 1 ≤ W) (h1 : 1 ≤ H) : Walks (stepW W H br) backW (segW H) (OkW W H) (4 * W * H) where
 vf := by
  rintro ⟨x, y, dx, dy⟩ ⟨hdx, hdy, hx, hy, hnx, hny, hp⟩
  simp only at *
  have c1 : ∀ k : Int, (if x + dx = 0 ∨ x + dx = 2 * (W : Int) ∨ k = 1 then -dx else dx) = 1 ∨ (if x + dx = 0 ∨ x + dx = 2 * (W : Int) ∨ k = 1 then -dx else dx) = -1 := by intro k; split <;> omega
  have c2 : ∀ k : Int, (if y + dy = 0 ∨ y + dy = 2 * (H : Int) ∨ k = 2 then -dy else dy) = 1 ∨ (if y + dy = 0 ∨ y + dy = 2 * (H : Int) ∨ k = 2 then -dy else dy) = -1 := by intro k; split <;> omega
  refine ⟨c1 _, c2 _, hnx, hny, ?_, ?_, by simp only [stepW]; omega⟩
  ·simp only [stepW]; split <;> omega
  ·simp only [stepW]; split <;> omega
 vr := by
  rintro ⟨x, y, dx, dy⟩ ⟨hdx, hdy, hx, hy, hnx, hny, hp⟩
  simp only at *
  refine ⟨?_, ?_, hnx, hny, ?_, ?_, ?_⟩ <;> simp only [backW] <;> omega
 rr := by
  rintro ⟨x, y, dx, dy⟩
  simp only [backW, Prod.mk.injEq]
  omega
 fr := by
  rintro ⟨x, y, dx, dy⟩ ⟨hdx, hdy, hx, hy, hnx, hny, hp⟩
  simp only at *
  have e1 : ∀ a : Int, x + dx + a + -a = x + dx := by intro a; omega
  have e2 : ∀ a : Int, y + dy + a + -a = y + dy := by intro a; omega
  simp only [stepW, backW, e1, e2, Prod.mk.injEq, true_and]
  constructor
  ·split <;> simp
  ·split <;> simp
 ne := by
  rintro ⟨x, y, dx, dy⟩ ⟨hdx, hdy, hx, hy, hnx, hny, hp⟩ e
  simp only [stepW, backW, Prod.mk.injEq, true_and] at *
  obtain ⟨e1, e2⟩ := e
  have hk := kindW_edge (W := W) (H := H) (br := br) (x := x + dx) (y := y + dy)
  unfold edgeW at hk
  split at e1
  ·split at e2
   ·rename_i q1 q2
    have : ¬ (x + dx = 0 ∨ x + dx = 2 * (W : Int) ∨ y + dy = 0 ∨ y + dy = 2 * (H : Int)) ∨ kindW W H br (x + dx) (y + dy) = 0 := by
     by_cases q : x + dx = 0 ∨ x + dx = 2 * (W : Int) ∨ y + dy = 0 ∨ y + dy = 2 * (H : Int)
     ·exact .inr (hk q)
     ·exact .inl q
    omega
   ·omega
  ·omega
 nr := by
  rintro ⟨x, y, dx, dy⟩ ⟨hdx, hdy, hx, hy, hnx, hny, hp⟩ e
  simp only [backW, Prod.mk.injEq] at *
  omega
 sg := by
  intro w v hw hv
  have cw := seg_cast hw
  have cv := seg_cast hv
  obtain ⟨⟨a, a'⟩, b, b'⟩ := seg_bd hw
  obtain ⟨⟨c, c'⟩, d, d'⟩ := seg_bd hv
  constructor
  ·intro e
   rw [e, cv] at cw
   obtain ⟨e1, e2⟩ := pair_eq (H := 2 * (H : Int)) (by omega) ⟨d, by omega⟩ ⟨b, by omega⟩ cw
   obtain ⟨x, y, dx, dy⟩ := w
   obtain ⟨x', y', dx', dy'⟩ := v
   obtain ⟨hdx, hdy, hx, hy, hnx, hny, hp⟩ := hw
   obtain ⟨hdx', hdy', hx', hy', hnx', hny', hp'⟩ := hv
   simp only at *
   rw [minI_one hdx, minI_one hdx'] at e1
   rw [minI_one hdy, minI_one hdy'] at e2
   simp only [backW, Prod.mk.injEq]
   rcases hdx with rfl | rfl <;> rcases hdy with rfl | rfl <;> rcases hdx' with rfl | rfl <;> rcases hdy' with rfl | rfl <;> simp at e1 e2 ⊢ <;> omega
  ·rintro (e | e)
   ·rw [e]
   ·have : (segW H w : Int) = segW H v := by
     rw [cw, cv, e]
     obtain ⟨x', y', dx', dy'⟩ := v
     simp only [backW]
     have q1 : ∀ p d : Int, minI (p + d) (p + d + -d) = minI p (p + d) := by
      intro p d; unfold minI
      rw [show p + d + -d = p by omega]
      split <;> split <;> omega
     rw [q1, q1]
    omega
 lt := fun w h => seg_lt h
/-- The walker along a segment, to the right. -/
def wkW (H : Nat) (k : Nat) : Wk := if (k / (2 * H) + k % (2 * H)) % 2 = 1 then ((k / (2 * H) : Nat), (k % (2 * H) : Nat), 1, 1) else ((k / (2 * H) : Nat), (k % (2 * H) : Nat) + 1, 1, -1)
theorem wkW_ok {W H k : Nat} (h1 : 1 ≤ H) (hk : k < 4 * W * H) : OkW W H (wkW H k) := by
 have a : k % (2 * H) < 2 * H := Nat.mod_lt _ (by omega)
 have b : k / (2 * H) < 2 * W := by
  rw [Nat.div_lt_iff_lt_mul (by omega)]
  have : 2 * W * (2 * H) = 4 * W * H := by
   rw [show 2 * W * (2 * H) = (2 * 2) * (W * H) by ac_rfl, show 4 * W * H = 4 * (W * H) by ac_rfl]
  omega
 unfold wkW
 generalize k / (2 * H) = q at *
 generalize k % (2 * H) = r at *
 split <;> constructor <;> simp only <;> first | omega | simp
theorem wkW_seg {W H k : Nat} (h1 : 1 ≤ H) (hk : k < 4 * W * H) : segW H (wkW H k) = k := by
 have hc := seg_cast (wkW_ok (W := W) h1 hk)
 have hd := Nat.div_add_mod k (2 * H)
 have hd' : ((2 * H * (k / (2 * H)) : Nat) : Int) = ((k / (2 * H) : Nat) : Int) * (2 * H) := by
  rw [Nat.mul_comm]; simp
 have : (segW H (wkW H k) : Int) = k := by
  rw [hc]
  unfold wkW minI
  split
  ·simp only; rw [if_pos (by omega), if_pos (by omega)]; omega
  ·simp only; rw [if_pos (by omega), if_neg (by omega)]; omega
 omega
noncomputable def curvesP (X : Pan) : List Int × Nat := curvesSt (stepW X.1.toNat X.2.1.toNat X.2.2) (segW X.2.1.toNat) (wkW X.2.1.toNat) (4 * X.1.toNat * X.2.1.toNat) (4 * X.1.toNat * X.2.1.toNat)
/-- The number of curves. -/
noncomputable def curveN (X : Pan) : Nat := (curvesP X).2
end Am
