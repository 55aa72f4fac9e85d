/- Contracts: AmY13, AmY5, AmY6, AmY12, AmY14, AmY8, AmY15, AmY16, AmY17. -/
import Derived.Test.YtbljglfnbjbknaaGreatAmK5
import Derived.Test.YtbljglfnbjbknaaGreatAmK3
import Derived.Test.YtbljglfnbjbknaaGreatAmK1
import Derived.Test.YtbljglfnbjbknaaGreatAmK4
import Derived.Test.YtbljglfnbjbknaaGreatAmK2
set_option linter.unusedVariables false
set_option linter.unusedSimpArgs false
set_option maxHeartbeats 4000000
set_option maxRecDepth 40000
namespace Am
open Go
theorem c428 (h : Heap) (hp : 0 < h.length) (v : Value) (X : Lib) (hv : Vr h shKepts v X) (hs : siz shKepts X ≤ 1048576) : ACall Gam 428 [v] h fun r h' => Grows h h' ∧ r = B (keptOk X) := by
 obtain ⟨b, o, z, rfl, hX⟩ := hv.kat
 refine ACall_intro g428 rfl ?_
 unfold fn428
 simp (disch := omega)
 refine callW_of (c541 h hp b o z X hX fun k hk => KAt.short hs hk) ?_
 rintro _ h1 ⟨rfl, g1⟩
 simp (disch := omega)
 exact g1
theorem c139v (h : Heap) (hp : 0 < h.length) (v : Value) (X : Lib) (hv : Vr h shKepts v X) (hs : siz shKepts X ≤ 1048576) : ACall Gam 139 [v] h fun r h' => Grows h h' ∧ r = B (keptOk X) := by
 obtain ⟨b, o, z, rfl, hX⟩ := hv.kat
 exact (c139 h hp b o z X hX fun k hk => KAt.short hs hk).mono fun r h' x => ⟨x.2, x.1⟩
def pTxt (X : Pan) : List UInt8 := decS X.1 ++ ([120] ++ (decS X.2.1 ++ ([58] ++ X.2.2.map signB)))
def dgB (W : Int) : UInt8 := UInt8.ofNat (48 + W.toNat)
theorem dec_side {W : Int} (h : 1 ≤ W ∧ W ≤ 8) : decS W = [dgB W] := by
 unfold decS dgB
 rw [if_neg (by omega), if_neg (by omega), decN_pos (by omega), show W.natAbs / 10 = 0 by omega, decN_zero]
 simp
 congr 1
 omega
theorem dgB_toNat {W : Int} (h : 1 ≤ W ∧ W ≤ 8) : (dgB W).toNat = 48 + W.toNat := by
 unfold dgB; rw [UInt8.toNat_ofNat']; omega
theorem pTxt_ok {X : Pan} (ok : OkP X) : pTxt X = dgB X.1 :: 120 :: dgB X.2.1 :: 58 :: X.2.2.map signB := by
 unfold pTxt; rw [dec_side ok.w, dec_side ok.h]; rfl
theorem kind_sign {b : Int} (h : 0 ≤ b ∧ b ≤ 2) : kindB (signB b) = b := by
 have : b = 0 ∨ b = 1 ∨ b = 2 := by omega
 rcases this with rfl | rfl | rfl <;> decide
theorem kind_signs : ∀ {l : List Int}, (∀ x ∈ l, 0 ≤ x ∧ x ≤ 2) → (l.map signB).map kindB = l
 | [], _ => rfl
 | a :: l, h => by
  simp only [List.map_cons]
  rw [kind_sign (h a (by simp)), kind_signs fun x hx => h x (by simp [hx])]
theorem sign_kind {c : UInt8} (h : okBr (kindB c) = true) : signB (kindB c) = c := by
 unfold okBr at h
 rw [inR_iff] at h
 unfold kindB at h ⊢
 split at h
 ·rename_i e; rw [if_pos e, e]; decide
 ·split at h
  ·rename_i e1 e; rw [if_neg e1, if_pos e, e]; decide
  ·split at h
   ·rename_i e1 e2 e; rw [if_neg e1, if_neg e2, if_pos e, e]; decide
   ·omega
theorem sign_kinds : ∀ {l : List UInt8}, (l.map kindB).all okBr = true → (l.map kindB).map signB = l
 | [], _ => rfl
 | a :: l, h => by
  simp only [List.map_cons, List.all_cons, Bool.and_eq_true] at h ⊢
  rw [sign_kind h.1, sign_kinds h.2]
theorem rdDec_dig {W : Int} (h : 1 ≤ W ∧ W ≤ 8) : rdDec [dgB W] = (W, true) := by
 have hd := dgB_toNat h
 have hne : dgB W ≠ 45 := by
  intro e
  have := congrArg UInt8.toNat e
  rw [hd] at this
  have h45 : (45 : UInt8).toNat = 45 := rfl
  omega
 have e1 : dgs [dgB W] = [dgB W] := by simp [dgs, hne]
 have e2 : rdV [dgB W] = W := by
  simp [rdV, e1, valN, hd]; omega
 have e3 : rdOk [dgB W] = true := by
  simp [rdOk, e1, e2, dec_side h, isDig, hd]; omega
 unfold rdDec
 rw [e3, e2]; rfl
theorem rdDec_true {s : List UInt8} (h : (rdDec s).2 = true) : decS (rdDec s).1 = s := by
 unfold rdDec at h ⊢
 cases q : rdOk s
 ·rw [q] at h; simp at h
 ·simp only [rdOk, Bool.and_eq_true, decide_eq_true_eq] at q
  simp [q.2.2.2]
theorem pTxt_inj {X Y : Pan} (a : OkP X) (b : OkP Y) (h : pTxt X = pTxt Y) : X = Y := by
 rw [pTxt_ok a, pTxt_ok b] at h
 simp only [List.cons.injEq, true_and] at h
 obtain ⟨h1, h2, h3⟩ := h
 have e1 := dgB_toNat a.w
 have e2 := dgB_toNat b.w
 have e3 := dgB_toNat a.h
 have e4 := dgB_toNat b.h
 rw [h1] at e1
 rw [h2] at e3
 have q1 := a.w; have q2 := b.w; have q3 := a.h; have q4 := b.h
 have e5 := kind_signs a.b
 rw [h3, kind_signs b.b] at e5
 obtain ⟨W, H, br⟩ := X
 obtain ⟨W', H', br'⟩ := Y
 simp only at *
 rw [show W = W' by omega, show H = H' by omega, e5]
open Classical in
/-- The panel with a text; false if there is none. -/
noncomputable def readAns (s : List UInt8) : Pan × Bool := if e : ∃ X, OkP X ∧ pTxt X = s then (Classical.choose e, true) else ((0, 0, []), false)
theorem readAns_some {X : Pan} (ok : OkP X) : readAns (pTxt X) = (X, true) := by
 have e : ∃ Y, OkP Y ∧ pTxt Y = pTxt X := ⟨X, ok, rfl⟩
 unfold readAns
 rw [dif_pos e]
 have := Classical.choose_spec e
 rw [pTxt_inj this.1 ok this.2]
theorem readAns_none {s : List UInt8} (h : ∀ X, OkP X → pTxt X ≠ s) : readAns s = ((0, 0, []), false) := by
 unfold readAns
 rw [dif_neg]
 rintro ⟨X, a, b⟩
 exact h X a b
theorem joinS_two (sep a b : List UInt8) : joinS sep [a, b] = a ++ sep ++ b := by simp [joinS]
theorem splitG_join (b : UInt8) : ∀ (s cur : List UInt8), joinS [b] (splitG b cur s) = cur ++ s
 | [], cur => by simp [splitG, joinS]
 | c :: r, cur => by
  simp only [splitG]
  split
  ·rename_i e
   have hl := splitG_len b r []
   have ih := splitG_join b r []
   cases q : splitG b [] r with
   | nil => rw [q] at hl; simp at hl
   | cons x l =>
    rw [q] at ih
    simp only [joinS, List.nil_append] at ih ⊢
    rw [← ih, e]
    simp
  ·rw [splitG_join b r (cur ++ [c])]; simp
theorem splitS_join (b : UInt8) (s : List UInt8) : joinS [b] (splitS b s) = s := by unfold splitS; rw [splitG_join]; simp
theorem splitG_none {b : UInt8} : ∀ {s cur : List UInt8}, b ∉ s → splitG b cur s = [cur ++ s]
 | [], cur, _ => by simp [splitG]
 | c :: r, cur, h => by
  simp only [List.mem_cons, not_or] at h
  simp only [splitG]
  rw [if_neg (fun e => h.1 e.symm), splitG_none h.2]; simp
theorem splitG_one {b : UInt8} : ∀ {s cur t : List UInt8}, b ∉ s → splitG b cur (s ++ b :: t) = (cur ++ s) :: splitG b [] t
 | [], cur, t, _ => by simp [splitG]
 | c :: r, cur, t, h => by
  simp only [List.mem_cons, not_or] at h
  simp only [List.cons_append, splitG]
  rw [if_neg (fun e => h.1 e.symm), splitG_one h.2]; simp
theorem split_two {b : UInt8} {s t : List UInt8} (h1 : b ∉ s) (h2 : b ∉ t) : splitS b (s ++ b :: t) = [s, t] := by
 unfold splitS; rw [splitG_one h1, splitG_none h2]; simp
def nth (l : List (List UInt8)) (i : Nat) : List UInt8 := l.getD i []
def spW (s : List UInt8) : List (List UInt8) := splitS 58 s
def spV (s : List UInt8) : List (List UInt8) := splitS 120 (nth (spW s) 0)
def spP (s : List UInt8) : Pan := ((rdDec (nth (spV s) 0)).1, (rdDec (nth (spV s) 1)).1, (nth (spW s) 1).map kindB)
def spOk (s : List UInt8) : Bool := (rdDec (nth (spV s) 0)).2 && (rdDec (nth (spV s) 1)).2
theorem sign_not (x : Int) : signB x ≠ 58 ∧ signB x ≠ 120 := by unfold signB; split <;> (try split) <;> decide
theorem sp_text {X : Pan} (ok : OkP X) : spW (pTxt X) = [[dgB X.1, 120, dgB X.2.1], X.2.2.map signB] ∧ spV (pTxt X) = [[dgB X.1], [dgB X.2.1]] := by
 have h1 := dgB_toNat ok.w
 have h2 := dgB_toNat ok.h
 have hw := ok.w; have hh := ok.h
 have a : dgB X.1 ≠ 120 := by intro e; rw [e] at h1; have : (120 : UInt8).toNat = 120 := rfl; omega
 have b : dgB X.1 ≠ 58 := by intro e; rw [e] at h1; have : (58 : UInt8).toNat = 58 := rfl; omega
 have c : dgB X.2.1 ≠ 58 := by intro e; rw [e] at h2; have : (58 : UInt8).toNat = 58 := rfl; omega
 have d : dgB X.2.1 ≠ 120 := by intro e; rw [e] at h2; have : (120 : UInt8).toNat = 120 := rfl; omega
 have e1 : spW (pTxt X) = [[dgB X.1, 120, dgB X.2.1], X.2.2.map signB] := by
  rw [pTxt_ok ok]
  refine split_two (s := [dgB X.1, 120, dgB X.2.1]) ?_ ?_
  ·simp [Ne.symm b, Ne.symm c]
  ·intro hm
   obtain ⟨x, _, hx⟩ := List.mem_map.1 hm
   exact (sign_not x).1 hx
 refine ⟨e1, ?_⟩
 unfold spV
 rw [e1]
 exact split_two (s := [dgB X.1]) (t := [dgB X.2.1]) (by simp [Ne.symm a]) (by simp [Ne.symm d])
theorem sp_w {s : List UInt8} (h : (spW s).length ≠ 2) : readAns s = ((0, 0, []), false) := readAns_none fun X ok e => h (by rw [← e, (sp_text ok).1]; rfl)
theorem sp_v {s : List UInt8} (h : (spV s).length ≠ 2) : readAns s = ((0, 0, []), false) := readAns_none fun X ok e => h (by rw [← e, (sp_text ok).2]; rfl)
theorem two_list {l : List (List UInt8)} (h : l.length = 2) : l = [nth l 0, nth l 1] := by
 match l, h with
 | [a, b], _ => rfl
theorem sp_yes {s : List UInt8} (hw : (spW s).length = 2) (hv : (spV s).length = 2) (h : spOk s = true) (ok : okP (spP s) = true) : readAns s = (spP s, true) := by
 have ok' := okP_iff.1 ok
 simp only [spOk, Bool.and_eq_true] at h
 have e : pTxt (spP s) = s := by
  have j1 := splitS_join 58 s
  have j2 := splitS_join 120 (nth (spW s) 0)
  rw [show splitS 58 s = spW s from rfl, two_list hw, joinS_two] at j1
  rw [show splitS 120 (nth (spW s) 0) = spV s from rfl, two_list hv, joinS_two] at j2
  have r1 := rdDec_true h.1
  have r2 := rdDec_true h.2
  have r3 : (spP s).2.2.map signB = nth (spW s) 1 := sign_kinds (by
   simp only [okP, Bool.and_eq_true] at ok
   exact ok.2.2)
  unfold pTxt
  rw [r3, show (spP s).1 = (rdDec (nth (spV s) 0)).1 from rfl, show (spP s).2.1 = (rdDec (nth (spV s) 1)).1 from rfl, r1, r2]
  calc nth (spV s) 0 ++ ([120] ++ (nth (spV s) 1 ++ ([58] ++ nth (spW s) 1))) = (nth (spV s) 0 ++ [120] ++ nth (spV s) 1) ++ [58] ++ nth (spW s) 1 := by simp only [List.append_assoc]
   _ = nth (spW s) 0 ++ [58] ++ nth (spW s) 1 := by rw [j2]
   _ = s := j1
 have := readAns_some ok'
 rw [e] at this
 exact this
theorem sp_no {s : List UInt8} (h : spOk s = false ∨ okP (spP s) = false) : readAns s = ((0, 0, []), false) := readAns_none fun X ok e => by
 obtain ⟨e1, e2⟩ := sp_text ok
 rw [e] at e1 e2
 have d1 : rdDec (nth (spV s) 0) = (X.1, true) := by rw [e2]; exact rdDec_dig ok.w
 have d2 : rdDec (nth (spV s) 1) = (X.2.1, true) := by rw [e2]; exact rdDec_dig ok.h
 have d3 : (nth (spW s) 1).map kindB = X.2.2 := by rw [e1]; exact kind_signs ok.b
 rcases h with h | h
 ·simp [spOk, d1, d2] at h
 ·have : spP s = X := by unfold spP; rw [d1, d2, d3]
  rw [this, okP_iff.2 ok] at h; cases h
theorem KeptOk.getOk {X : Lib} (ok : KeptOk X) {i : Nat} (hi : i < X.length) : OkP X[i].2 ∧ X[i].1.length ≤ 12 := by
 have h1 := (ok.ent i hi).ok
 have h2 := (ok.name12 hi).1
 rw [kP_of hi] at h1
 rw [kN_of hi] at h2
 exact ⟨h1, h2⟩
noncomputable def nameOfAns (X : Lib) (p : Pan) : List UInt8 × Int := if keptOk X && okP p then (if likeN X (canonP p) < X.length then (kN X (likeN X (canonP p)), 0) else ([], 3)) else ([], 1)
noncomputable def namedAns (X : Lib) (s : List UInt8) : Pan × Int := if keptOk X then (if nameN X s < X.length then (kP X (nameN X s), 0) else ((0, 0, []), 3)) else ((0, 0, []), 1)
noncomputable def removeAns (X : Lib) (s : List UInt8) : Lib × Int := if keptOk X then (if nameN X s < X.length then (X.eraseIdx (nameN X s), 0) else ([], 3)) else ([], 1)
theorem ix_lt {k n : Nat} (h : k < n) : ixI k n = (k : Int) := by unfold ixI; rw [if_pos h]
theorem ix_no {k n : Nat} (h : ¬ k < n) : ixI k n = -1 := by unfold ixI; rw [if_neg h]
theorem c99 (h : Heap) (hp : 0 < h.length) (v0 : Value) (X : Lib) (hv0 : Vr h shKepts v0 X) (hs0 : siz shKepts X ≤ 1048576) (v1 : Value) (P : Pan) (hv1 : Vr h shPanel v1 P) (hs1 : siz shPanel P ≤ 1048576) :
  ACall Gam 99 [v0, v1] h fun r h' => Grows h h' ∧ r = .tuple #[S (nameOfAns X P).1, I (nameOfAns X P).2] := by
 obtain ⟨b, o, z, rfl, hX⟩ := hv0.kat
 have hv1' := hv1
 obtain ⟨pa, pb, pc, rfl⟩ := hv1.panel3
 refine ACall_intro g99 rfl ?_
 unfold fn99
 simp (disch := omega)
 refine callW_of (c139 h hp b o z X hX fun k hk => KAt.short hs0 hk) ?_
 rintro _ h1 ⟨rfl, g1⟩
 have l1 := g1.le
 cases e1 : keptOk X
 ·simp (disch := omega) [nameOfAns, e1, resOf, resAll, resOne, aField, g1]
 simp (disch := omega)
 refine callW_of (c140 _ P h1 (hv1'.grow g1)) ?_
 rintro _ h1 ⟨rfl, rfl⟩
 cases e2 : okP P
 ·simp (disch := omega) [nameOfAns, e1, e2, resOf, resAll, resOne, aField, g1]
 simp (disch := omega)
 refine callW_of (c147 h1 (by omega) _ P (hv1'.grow g1) (okP_iff.1 e2)) ?_
 rintro v2 h2 ⟨g2, o2⟩
 refine ⟨fun e => (by cases e), ?_⟩
 refine callW_of (c161 h2 b o z X ((hX.grow g1).grow g2) _ (canonP P) o2.vr) ?_
 rintro _ h3 ⟨rfl, g3⟩
 have g13 := g1.trans (g2.trans g3)
 have hle := likeN_le X (canonP P)
 obtain ⟨k, hk⟩ : ∃ k, k = likeN X (canonP P) := ⟨_, rfl⟩
 rw [← hk] at hle ⊢
 by_cases e3 : k < X.length
 ·obtain ⟨s, c, c1, _⟩ := (hX.grow g13).cells e3
  have hm := hX.1.1
  rw [maxLen_eq] at hm
  have n0 : ¬ (k : Int) < 0 := by omega
  simp (disch := omega) [ix_lt e3, n0, e3, c1, nameOfAns, e1, e2, ← hk, kN_of e3, resOf, resAll, resOne, aField]
  exact g13
 ·simp (disch := omega) [ix_no e3, e3, nameOfAns, e1, e2, ← hk, resOf, resAll, resOne, aField]
  exact g13
theorem c392 (h : Heap) (hp : 0 < h.length) (v0 : Value) (X : Lib) (hv0 : Vr h shKepts v0 X) (hs0 : siz shKepts X ≤ 1048576) (v1 : Value) (P : Pan) (hv1 : Vr h shPanel v1 P) (hs1 : siz shPanel P ≤ 1048576) :
  ACall Gam 392 [v0, v1] h fun r h' => Grows h h' ∧ r = .tuple #[S (nameOfAns X P).1, I (nameOfAns X P).2] := by
 obtain ⟨b, o, z, rfl, hX⟩ := hv0.kat
 obtain ⟨W, H, br⟩ := P
 obtain ⟨s, rfl, w1, w2, r⟩ := hv1.panel
 refine ACall_intro g392 rfl ?_
 unfold fn392
 simp (disch := omega)
 obtain ⟨h0, e0⟩ : ∃ h0, h0 = h ++ [⟨[I W, I H, s], true⟩] := ⟨_, rfl⟩
 rw [← e0]
 have g0 : Grows h h0 := ⟨_, e0⟩
 have kb : h0[h.length]? = some ⟨[I W, I H, s], true⟩ := by rw [e0]; simp
 have pp : PtP h0 (pt h.length 0) (W, H, br) := PtP.at kb (r.grow g0) w1 w2
 have l0 := g0.le
 refine callW_of (c541 h0 (by omega) b o z X (hX.grow g0) fun k hk => KAt.short hs0 hk) ?_
 rintro _ h1 ⟨rfl, g1⟩
 have l1 := g1.le
 have g01 := g0.trans g1
 try refine ⟨fun e => (by cases e), ?_⟩
 cases e1 : keptOk X
 ·simp (disch := omega) [nameOfAns, e1, resOf, resAll, resOne, aField, g01]
 simp (disch := omega)
 refine callW_of (c452 _ (W, H, br) h1 (pp.grow g1)) ?_
 rintro _ h1 ⟨rfl, rfl⟩
 try refine ⟨fun e => (by cases e), ?_⟩
 cases e2 : okP (W, H, br)
 ·simp (disch := omega) [nameOfAns, e1, e2, resOf, resAll, resOne, aField, g01]
 simp (disch := omega)
 refine callW_of (c476 h1 (by omega) _ (W, H, br) (pp.grow g1) (okP_iff.1 e2)) ?_
 rintro v2 h2 ⟨g2, o2⟩
 try refine ⟨fun e => (by cases e), ?_⟩
 obtain ⟨Y, hY⟩ : ∃ Y, Y = canonP (W, H, br) := ⟨_, rfl⟩
 rw [← hY] at o2
 obtain ⟨W2, H2, br2⟩ := Y
 obtain ⟨s2, rfl, u1, u2, r2⟩ := o2.panel
 have st2 := store_box (h := h2) (cs := [I 0, I 0, sl 0 0 0 0]) (xs := [I W2, I H2, s2]) rfl
 simp (disch := omega) [st2]
 obtain ⟨h3, e3⟩ : ∃ h3, h3 = h2 ++ [⟨[I W2, I H2, s2], true⟩] := ⟨_, rfl⟩
 rw [← e3]
 have g23 : Grows h2 h3 := ⟨_, e3⟩
 have kb3 : h3[h2.length]? = some ⟨[I W2, I H2, s2], true⟩ := by rw [e3]; simp
 have g3 := g01.trans (g2.trans g23)
 refine callW_of (c539 h3 b o z X (hX.grow g3) _ (W2, H2, br2) (PtP.at kb3 (r2.vr.grow g23) u1 u2)) ?_
 rintro _ h3 ⟨rfl, rfl⟩
 try refine ⟨fun e => (by cases e), ?_⟩
 rw [hY]
 have hle := likeN_le X (canonP (W, H, br))
 obtain ⟨k, hk⟩ : ∃ k, k = likeN X (canonP (W, H, br)) := ⟨_, rfl⟩
 rw [← hk] at hle ⊢
 by_cases e3 : k < X.length
 ·obtain ⟨s, c, c1, _⟩ := (hX.grow g3).cells e3
  have hm := hX.1.1
  rw [maxLen_eq] at hm
  have n0 : ¬ (k : Int) < 0 := by omega
  simp (disch := omega) [ix_lt e3, n0, e3, c1, nameOfAns, e1, e2, ← hk, kN_of e3, resOf, resAll, resOne, aField]
  exact g3
 ·simp (disch := omega) [ix_no e3, e3, nameOfAns, e1, e2, ← hk, resOf, resAll, resOne, aField]
  exact g3
theorem named_siz (X : Lib) (s : List UInt8) : siz shPanel (namedAns X s).1 ≤ 16777216 := by
 unfold namedAns
 split
 ·rename_i h
  have ok := keptOk_iff.1 h
  split
  ·rename_i hk
   have := (ok.ent _ hk).ok.siz
   show siz shPanel ((kP X (nameN X s)).1, (kP X (nameN X s)).2.1, (kP X (nameN X s)).2.2) ≤ _
   rw [siz_panel]; omega
  ·rw [siz_panel]; simp
 ·rw [siz_panel]; simp
def keptIx (X : Lib) (s : List UInt8) (ok : Bool) : Int × Int := if ok then (if nameN X s < X.length then (nameN X s, 0) else (0, 3)) else (0, 1)
theorem c168 (h : Heap) (hp : 0 < h.length) (b o z : Nat) (X : Lib) (hX : KAt h b o z X) (hs0 : siz shKepts X ≤ 1048576) (s : List UInt8) : ACall Gam 168 [sl b o X.length z, S s] h fun r h' => r = .tuple #[I (keptIx X s (keptOk X)).1, I (keptIx X s (keptOk X)).2] ∧ Grows h h' := by
 refine ACall_intro g168 rfl ?_
 unfold fn168
 simp (disch := omega)
 refine callW_of (c139 h hp b o z X hX fun k hk => KAt.short hs0 hk) ?_
 rintro _ h1 ⟨rfl, g1⟩
 cases e1 : keptOk X
 ·simp (disch := omega) [keptIx, resOf, resAll, resOne, aField, g1]
 simp (disch := omega)
 refine callW_of (c159 h1 b o z X (hX.grow g1) s) ?_
 rintro _ h2 ⟨rfl, g2⟩
 have hle := nameN_le X s
 have g12 := g1.trans g2
 by_cases e3 : nameN X s < X.length
 ·have n0 : ¬ ((nameN X s : Nat) : Int) < 0 := by omega
  simp (disch := omega) [ix_lt e3, n0, e3, keptIx, resOf, resAll, resOne, aField]
  exact g12
 ·simp (disch := omega) [ix_no e3, e3, keptIx, resOf, resAll, resOne, aField]
  exact g12
theorem c93 (h : Heap) (hp : 0 < h.length) (v0 : Value) (X : Lib) (hv0 : Vr h shKepts v0 X) (hs0 : siz shKepts X ≤ 1048576) (s : List UInt8) (hs1 : s.length ≤ 1048576) :
  ACall Gam 93 [v0, S s] h fun r h' => Grows h h' ∧ ∃ r0, r = .tuple #[r0, I (namedAns X s).2] ∧ Vo h' h.length h'.length shPanel r0 (namedAns X s).1 ∧ siz shPanel (namedAns X s).1 ≤ 16777216 := by
 have hsz := named_siz X s
 obtain ⟨b, o, z, rfl, hX⟩ := hv0.kat
 refine ACall_intro g93 rfl ?_
 unfold fn93
 simp (disch := omega)
 refine callW_of (c168 h hp b o z X hX hs0 s) ?_
 rintro _ h1 ⟨rfl, g1⟩
 have l1 := g1.le
 have hle := nameN_le X s
 cases e1 : keptOk X
 ·have e : namedAns X s = ((0, 0, []), 1) := by simp [namedAns, e1]
  rw [e] at hsz ⊢
  simp (disch := omega) [keptIx, resOf, resAll, resOne, aField]
  exact ⟨g1, Vo.zero_panel, hsz⟩
 by_cases e3 : nameN X s < X.length
 ·have e : namedAns X s = (X[nameN X s].2, 0) := by simp [namedAns, e1, e3, kP_of e3]
  rw [e] at hsz ⊢
  obtain ⟨s', c, c1, vp, pp, _⟩ := (hX.grow g1).cells e3
  obtain ⟨okp, _⟩ := (keptOk_iff.1 e1).getOk e3
  have h128 := okp.siz
  have hm := hX.1.1
  rw [maxLen_eq] at hm
  have cp := cellsAt_in (i := 1) (m := 3) c (by omega)
  simp only [List.drop_succ_cons, List.drop_zero, List.take_succ_cons, List.take_zero] at cp
  simp (disch := omega) [keptIx, e3, cp]
  refine callW_of (c150 h1 _ X[nameN X s].2 (by omega) vp (by omega)) ?_
  rintro v2 h2 ⟨g2, o2⟩
  obtain ⟨qa, qb, qc, rfl⟩ := o2.vr.panel3
  simp (disch := omega) [resOf, resAll, resOne, aField]
  exact ⟨g1.trans g2, o2.wide l1 (Nat.le_refl _), hsz⟩
 ·have e : namedAns X s = ((0, 0, []), 3) := by simp [namedAns, e1, e3]
  rw [e] at hsz ⊢
  simp (disch := omega) [keptIx, e3, resOf, resAll, resOne, aField]
  exact ⟨g1, Vo.zero_panel, hsz⟩
theorem lexLt_asym {a b : List UInt8} (h : lexLt a b = true) : lexLt b a = false := by
 cases q : lexLt b a
 ·rfl
 ·have := lexLt_trans h q
  rw [lexLt_irr] at this; cases this
theorem lexLt_ne {a b : List UInt8} (h : lexLt a b = true) : a ≠ b := by
 rintro rfl; rw [lexLt_irr] at h; cases h
theorem lexLt_or {a b : List UInt8} (h : lexLt a b = false) (hn : a ≠ b) : lexLt b a = true := by
 rw [lexLt_not] at h
 cases q : lexLt b a
 ·rw [q] at h; simp at h; exact absurd h.symm hn
 ·rfl
/-- In the order of the names. -/
def SortK (X : Lib) : Prop := X.Pairwise fun a b => lexLt a.1 b.1 = true
theorem KeptOk.lt {X : Lib} (ok : KeptOk X) : ∀ j i, i < j → j < X.length → lexLt (kN X i) (kN X j) = true := by
 intro j
 induction j with
 | zero => intro i h; omega
 | succ j ih =>
  intro i hi hj
  have h1 := ((ok.ent (j + 1) hj).ord).resolve_left (by omega)
  rw [Nat.add_sub_cancel] at h1
  by_cases e : i = j
  ·subst e; exact h1
  ·exact lexLt_trans (ih i (by omega) (by omega)) h1
theorem KeptOk.sorted {X : Lib} (ok : KeptOk X) : SortK X := by
 unfold SortK
 rw [List.pairwise_iff_getElem]
 intro i j hi hj h
 have := ok.lt j i h hj
 rwa [kN_of hi, kN_of hj] at this
structure IsPut (X : Lib) (s : List UInt8) (k : Nat) : Prop where
 le : k ≤ X.length
 lo : ∀ i (h : i < X.length), i < k → lexLt X[i].1 s = true
 hi : ∀ i (h : i < X.length), k ≤ i → lexLt s X[i].1 = true
def insK (k : Kpt) : Lib → Lib
 | [] => [k]
 | x :: X => if lexLt x.1 k.1 then x :: insK k X else k :: x :: X
theorem IsPut.ins {k : Kpt} : ∀ {X : Lib} {i : Nat}, IsPut X k.1 i → X.take i ++ k :: X.drop i = insK k X
 | [], i, h => by simp [insK]
 | x :: X, 0, h => by
  have := lexLt_asym (h.hi 0 (by simp) (by omega))
  simp only [List.getElem_cons_zero] at this
  simp [insK, this]
 | x :: X, i + 1, h => by
  have h0 := h.lo 0 (by simp) (by omega)
  simp only [List.getElem_cons_zero] at h0
  have := IsPut.ins (k := k) (X := X) (i := i) ⟨by simpa using h.le, fun j hj hl => h.lo (j + 1) (by simpa using hj) (by omega), fun j hj hl => h.hi (j + 1) (by simpa using hj) (by omega)⟩
  simp [insK, h0, this]
theorem mem_insK {k y : Kpt} : ∀ {X : Lib}, y ∈ insK k X ↔ y = k ∨ y ∈ X
 | [] => by simp [insK]
 | x :: X => by
  simp only [insK]
  split
  ·simp only [List.mem_cons, mem_insK (X := X)]
   constructor
   ·rintro (a | a | a) <;> simp [a]
   ·rintro (a | a | a) <;> simp [a]
  ·simp [List.mem_cons]
theorem insK_len {k : Kpt} : ∀ {X : Lib}, (insK k X).length = X.length + 1
 | [] => rfl
 | x :: X => by simp only [insK]; split <;> simp [insK_len]
theorem insK_sorted {k : Kpt} : ∀ {X : Lib}, SortK X → (∀ y ∈ X, y.1 ≠ k.1) → SortK (insK k X)
 | [], _, _ => by simp [insK, SortK]
 | x :: X, h, hn => by
  simp only [insK]
  have h' := List.pairwise_cons.1 h
  split
  ·rename_i hl
   refine List.pairwise_cons.2 ⟨?_, insK_sorted h'.2 fun y hy => hn y (by simp [hy])⟩
   intro y hy
   rcases mem_insK.1 hy with e | e
   ·rw [e]; exact hl
   ·exact h'.1 y e
  ·rename_i hl
   have hl' : lexLt k.1 x.1 = true := lexLt_or (by simpa using hl) (hn x (by simp))
   refine List.pairwise_cons.2 ⟨?_, h⟩
   intro y hy
   rcases List.mem_cons.1 hy with e | e
   ·rw [e]; exact hl'
   ·exact lexLt_trans hl' (h'.1 y e)
theorem SortK.put {X : Lib} (h : SortK X) {s : List UInt8} (hn : ∀ y ∈ X, y.1 ≠ s) {k : Nat} (hk : k ≤ X.length) (lo : 0 < k → ∀ h : k - 1 < X.length, lexLt X[k - 1].1 s = true) (hi : ∀ h : k < X.length, lexLt s X[k].1 = true) : IsPut X s k := by
 unfold SortK at h
 rw [List.pairwise_iff_getElem] at h
 refine ⟨hk, fun i hl hik => ?_, fun i hl hik => ?_⟩
 ·by_cases e : i = k - 1
  ·subst e; exact lo (by omega) hl
  ·exact lexLt_trans (h i (k - 1) hl (by omega) (by omega)) (lo (by omega) (by omega))
 ·by_cases e : i = k
  ·subst e; exact hi hl
  ·exact lexLt_trans (hi (by omega)) (h k i (by omega) hl (by omega))
noncomputable def addAns (X : Lib) (s : List UInt8) (p : Pan) : Lib × Int :=
 if keptOk X && okP p then (if nameOk s then (if nameN X s < X.length ∨ likeN X (canonP p) < X.length then ([], 4) else if 40 ≤ X.length then ([], 5) else (insK (s, canonP p) X, 0)) else ([], 7)) else ([], 1)
def mrg (A : Lib) : Lib → Lib → Option Lib
 | out, [] => some out
 | out, b :: l => if ixI (nameN A b.1) A.length = ixI (likeN A b.2) A.length then (if nameN A b.1 < A.length then mrg A out l else mrg A (insK b out) l) else none
def mrgS : Lib → Lib → Option Lib
 | out, [] => some out
 | out, b :: l => if ixI (nameN out b.1) out.length = ixI (likeN out b.2) out.length then (if nameN out b.1 < out.length then mrgS out l else mrgS (insK b out) l) else none
def SameAt (X : Lib) (s : List UInt8) (p : Pan) : Prop := (∀ e ∈ X, e.1 ≠ s ∧ e.2 ≠ p) ∨ ∃ e ∈ X, e.1 = s ∧ e.2 = p
/-- Names are different, and so are panels. -/
structure Diff (X : Lib) : Prop where
 n : X.Pairwise fun a b => a.1 ≠ b.1
 p : X.Pairwise fun a b => a.2 ≠ b.2
theorem pw_inj {α β : Type} {f : α → β} {X : List α} (h : X.Pairwise fun a b => f a ≠ f b) {i j : Nat} (hi : i < X.length) (hj : j < X.length) (e : f X[i] = f X[j]) : i = j := by
 rw [List.pairwise_iff_getElem] at h
 rcases Nat.lt_trichotomy i j with q | q | q
 ·exact absurd e (h i j hi hj q)
 ·exact q
 ·exact absurd e.symm (h j i hj hi q)
theorem same_at {X : Lib} (d : Diff X) {s : List UInt8} {p : Pan} : ixI (nameN X s) X.length = ixI (likeN X p) X.length ↔ SameAt X s p := by
 have h1 := nameN_le X s
 have h2 := likeN_le X p
 constructor
 ·intro e
  unfold ixI at e
  by_cases a : nameN X s < X.length
  ·rw [if_pos a] at e
   by_cases b : likeN X p < X.length
   ·rw [if_pos b] at e
    have ei : nameN X s = likeN X p := by omega
    have na := nameN_at a
    have lb := likeN_at b
    refine .inr ⟨X[nameN X s], List.getElem_mem a, na, ?_⟩
    rw [← lb]; congr 2
   ·rw [if_neg b] at e; omega
  ·rw [if_neg a] at e
   by_cases b : likeN X p < X.length
   ·rw [if_pos b] at e; omega
   ·refine .inl fun y hy => ⟨fun q => a (nameN_lt.2 ⟨y, hy, q⟩), fun q => b (likeN_lt.2 ⟨y, hy, q⟩)⟩
 ·rintro (q | ⟨y, hy, q1, q2⟩)
  ·have a : ¬ nameN X s < X.length := by rw [nameN_lt]; rintro ⟨y, hy, e⟩; exact (q y hy).1 e
   have b : ¬ likeN X p < X.length := by rw [likeN_lt]; rintro ⟨y, hy, e⟩; exact (q y hy).2 e
   unfold ixI; rw [if_neg a, if_neg b]
  ·have a : nameN X s < X.length := nameN_lt.2 ⟨y, hy, q1⟩
   have b : likeN X p < X.length := likeN_lt.2 ⟨y, hy, q2⟩
   obtain ⟨i, hi, rfl⟩ := List.getElem_of_mem hy
   have e1 : nameN X s = i := pw_inj (f := fun k : Kpt => k.1) d.n a hi (by show (X[nameN X s]).1 = (X[i]).1; rw [nameN_at a, q1])
   have e2 : likeN X p = i := pw_inj (f := fun k : Kpt => k.2) d.p b hi (by show (X[likeN X p]).2 = (X[i]).2; rw [likeN_at b, q2])
   rw [e1, e2]
theorem mrg_eq {A : Lib} (dA : Diff A) : ∀ {B out : Lib}, Diff B → Diff out → (∀ e ∈ A, e ∈ out) → (∀ e ∈ out, e ∈ A ∨ ∀ b ∈ B, b.1 ≠ e.1 ∧ b.2 ≠ e.2) → mrg A out B = mrgS out B
 | [], out, _, _, _, _ => rfl
 | b :: B, out, dB, dO, h1, h2 => by
  have hn : nameN out b.1 < out.length ↔ nameN A b.1 < A.length := by
   rw [nameN_lt, nameN_lt]
   constructor
   ·rintro ⟨e, he, q⟩
    rcases h2 e he with h | h
    ·exact ⟨e, h, q⟩
    ·exact absurd q.symm (h b (by simp)).1
   ·rintro ⟨e, he, q⟩; exact ⟨e, h1 e he, q⟩
  have hs : SameAt out b.1 b.2 ↔ SameAt A b.1 b.2 := by
   constructor
   ·rintro (q | ⟨e, he, q1, q2⟩)
    ·exact .inl fun e he => q e (h1 e he)
    ·rcases h2 e he with h | h
     ·exact .inr ⟨e, h, q1, q2⟩
     ·exact absurd q1.symm (h b (by simp)).1
   ·rintro (q | ⟨e, he, q1, q2⟩)
    ·refine .inl fun e he => ?_
     rcases h2 e he with h | h
     ·exact q e h
     ·exact ⟨fun x => (h b (by simp)).1 x.symm, fun x => (h b (by simp)).2 x.symm⟩
    ·exact .inr ⟨e, h1 e he, q1, q2⟩
  have dB' : Diff B := ⟨(List.pairwise_cons.1 dB.n).2, (List.pairwise_cons.1 dB.p).2⟩
  have cA := same_at dA (s := b.1) (p := b.2)
  have cO := same_at dO (s := b.1) (p := b.2)
  simp only [mrg, mrgS, hn]
  by_cases q : SameAt A b.1 b.2
  ·rw [if_pos (cA.2 q), if_pos (cO.2 (hs.2 q))]
   by_cases q2 : nameN A b.1 < A.length
   ·rw [if_pos q2, if_pos q2]
    exact mrg_eq dA dB' dO h1 fun e he => (h2 e he).imp id fun h x hx => h x (by simp [hx])
   ·rw [if_neg q2, if_neg q2]
    have hq : ∀ e ∈ out, e.1 ≠ b.1 ∧ e.2 ≠ b.2 := by
     rcases hs.2 q with h | ⟨e, he, r1, r2⟩
     ·exact h
     ·exact absurd (hn.1 (nameN_lt.2 ⟨e, he, r1⟩)) q2
    refine mrg_eq dA dB' (ins_diff dO hq) (fun e he => mem_insK.2 (.inr (h1 e he))) fun e he => ?_
    rcases mem_insK.1 he with h | h
    ·subst h
     right
     intro x hx
     exact ⟨fun y => (List.pairwise_cons.1 dB.n).1 x hx y.symm, fun y => (List.pairwise_cons.1 dB.p).1 x hx y.symm⟩
    ·exact (h2 e h).imp id fun h x hx => h x (by simp [hx])
  ·rw [if_neg (fun x => q (cA.1 x)), if_neg (fun x => q (hs.1 (cO.1 x)))]
where
 ins_pw {β : Type} {f : Kpt → β} {b : Kpt} : ∀ {X : Lib}, X.Pairwise (fun a b => f a ≠ f b) → (∀ e ∈ X, f e ≠ f b) → (insK b X).Pairwise fun a b => f a ≠ f b
  | [], _, _ => by simp [insK]
  | x :: X, h, hn => by
   have h' := List.pairwise_cons.1 h
   simp only [insK]
   split
   ·refine List.pairwise_cons.2 ⟨?_, ins_pw h'.2 fun e he => hn e (by simp [he])⟩
    intro y hy
    rcases mem_insK.1 hy with e | e
    ·rw [e]; exact hn x (by simp)
    ·exact h'.1 y e
   ·exact List.pairwise_cons.2 ⟨fun y hy => fun e => hn y hy e.symm, h⟩
 ins_diff {b : Kpt} {X : Lib} (d : Diff X) (h : ∀ e ∈ X, e.1 ≠ b.1 ∧ e.2 ≠ b.2) : Diff (insK b X) := ⟨ins_pw d.n fun e he => (h e he).1, ins_pw d.p fun e he => (h e he).2⟩
theorem KeptOk.diff {X : Lib} (ok : KeptOk X) : Diff X := by
 refine ⟨ok.sorted.imp fun h => lexLt_ne h, ?_⟩
 rw [List.pairwise_iff_getElem]
 intro i j hi hj h e
 have hn := (ok.ent j hj).new
 rw [kP_of hj] at hn
 have hl : likeN (X.take j) X[j].2 < (X.take j).length := by
  rw [likeN_lt]
  refine ⟨X[i], ?_, e⟩
  rw [List.mem_take_iff_getElem]
  exact ⟨i, by omega, rfl⟩
 rw [hn, List.length_take] at hl
 omega
noncomputable def withAns (X : Lib) (f : Pan → Int) (c : Int) : List (List UInt8) × Int := if keptOk X then ((X.filter fun k => decide (f k.2 = c)).map (·.1), 0) else ([], 1)
/-- An entry, the block of its breaks and what its slice says of the size. -/
abbrev Row := Kpt × Nat × Nat
def rbr (r : Row) : List Int := r.1.2.2.2
def rowS (r : Row) : Value := sl r.2.1 0 (rbr r).length r.2.2
def rowC (r : Row) : List Value := [S r.1.1, I r.1.2.1, I r.1.2.2.1, rowS r]
def rowB (r : Row) : List Nat := if rbr r = [] then [] else [r.2.1]
structure EntO (h : Heap) (r : Row) : Prop where
 z : r.2.2 = 1 ∨ r.2.1 = 0 ∧ rbr r = []
 m : (rbr r).length ≤ maxLen
 x : ∀ x ∈ rbr r, I64 x
 b : rbr r = [] ∨ h[r.2.1]? = some ⟨ints (rbr r), true⟩
 w : I64 r.1.2.1
 h : I64 r.1.2.2.1
 n : r.1.1.length ≤ maxLen
def rowsC (L : List Row) : List Value := (L.map rowC).flatten
theorem rowsC_len : ∀ L : List Row, (rowsC L).length = L.length * 4
 | [] => rfl
 | r :: L => by
  have := rowsC_len L
  simp only [rowsC, List.map_cons, List.flatten_cons, List.length_append, List.length_cons] at this ⊢
  rw [this]; simp [rowC]; omega
theorem rowsC_append (a b : List Row) : rowsC (a ++ b) = rowsC a ++ rowsC b := by simp [rowsC]
theorem rowsC_cons (r : Row) (b : List Row) : rowsC (r :: b) = rowC r ++ rowsC b := by simp [rowsC]
structure KO (h : Heap) (lo hi b z : Nat) (L : List Row) : Prop where
 z : z = 4 ∨ b = 0 ∧ L = []
 m : L.length ≤ maxLen
 el : ∀ r ∈ L, EntO h r
 blk : L = [] ∨ h[b]? = some ⟨rowsC L, true⟩ ∧ lo ≤ b ∧ b < hi
 nd : (L.map rowB).flatten.Nodup
 rg : ∀ r ∈ L, ∀ c ∈ rowB r, lo ≤ c ∧ c < hi
theorem EntO.ow {h : Heap} {r : Row} (e : EntO h r) : Ow h shKept (rowC r) r.1 (rowB r) := by
 refine ⟨[S r.1.1], [I r.1.2.1, I r.1.2.2.1, rowS r], [], rowB r, rfl, rfl, ⟨rfl, e.n, rfl⟩, [I r.1.2.1], [I r.1.2.2.1, rowS r], [], rowB r, rfl, rfl, ⟨rfl, wf_i64.2 e.w, rfl⟩, [I r.1.2.2.1], [rowS r], [], rowB r, rfl, rfl, ⟨rfl, wf_i64.2 e.h, rfl⟩, ?_⟩
 refine ⟨r.2.1, r.2.2, (rbr r).map fun x => [I x], (rbr r).map fun _ => [], rfl, e.z, e.m, all3_ints h _ e.x, ?_⟩
 by_cases h0 : rbr r = []
 ·exact .inl ⟨h0, by simp [rowB, h0]⟩
 ·exact .inr ⟨h0, by rw [rowB, if_neg h0, nils_flat], by rw [flat_ints]; exact e.b.resolve_left h0⟩
theorem EntO.of {h : Heap} {c : List Value} {k : Kpt} {s : List Nat} (o : Ow h shKept c k s) : ∃ b z, c = rowC (k, b, z) ∧ s = rowB (k, b, z) ∧ EntO h (k, b, z) := by
 obtain ⟨n, W, H, br⟩ := k
 obtain ⟨c1, c2, b1, b2, rfl, rfl, ⟨rfl, w0, rfl⟩, c3, c4, b3, b4, rfl, rfl, ⟨rfl, w1, rfl⟩, c5, c6, b5, b6, rfl, rfl, ⟨rfl, w2, rfl⟩, b, z, css, bss, rfl, hz, hm, h1, h2⟩ := o
 obtain ⟨e1, e2, e3⟩ := All3.ints h1
 refine ⟨b, z, rfl, ?_, hz, hm, e2, ?_, wf_i64.1 w1, wf_i64.1 w2, w0⟩
 ·rcases h2 with ⟨q1, q2⟩ | ⟨q1, q2, q3⟩
  ·have q1' : br = [] := q1
   subst q1'; simp [rowB, rbr, q2]
  ·have q1' : ¬ br = [] := q1
   rw [e3] at q2
   simp [rowB, rbr, q1', q2]
 ·rcases h2 with ⟨q1, q2⟩ | ⟨q1, q2, q3⟩
  ·exact .inl q1
  ·rw [e1] at q3; exact .inr q3
theorem rows_of {h : Heap} : ∀ {css : List (List Value)} {X : Lib} {bss : List (List Nat)}, All3 (fun c y s => Ow h shKept c y s) css X bss → ∃ L : List Row, X = L.map (·.1) ∧ css = L.map rowC ∧ bss = L.map rowB ∧ ∀ r ∈ L, EntO h r
 | [], [], [], _ => ⟨[], rfl, rfl, rfl, by simp⟩
 | c :: css, y :: x, s :: bss, r => by
  obtain ⟨b, z, e1, e2, e3⟩ := EntO.of r.1
  obtain ⟨L, f1, f2, f3, f4⟩ := rows_of r.2
  refine ⟨(y, b, z) :: L, by rw [f1]; rfl, by rw [e1, f2]; rfl, by rw [e2, f3]; rfl, fun q hq => ?_⟩
  rcases List.mem_cons.1 hq with e | e
  ·rw [e]; exact e3
  ·exact f4 q e
 | [], _ :: _, _, r => r.elim
 | [], [], _ :: _, r => r.elim
 | _ :: _, [], _, r => r.elim
 | _ :: _, _ :: _, [], r => r.elim
theorem rows_all {h : Heap} : ∀ {L : List Row}, (∀ r ∈ L, EntO h r) → All3 (fun c y s => Ow h shKept c y s) (L.map rowC) (L.map (·.1)) (L.map rowB)
 | [], _ => trivial
 | r :: L, f => ⟨(f r (by simp)).ow, rows_all fun q hq => f q (by simp [hq])⟩
/-- The list's own block is none of its entries' blocks. -/
theorem rows_nb {h : Heap} {b : Nat} {L : List Row} (el : ∀ r ∈ L, EntO h r) (hb : L = [] ∨ h[b]? = some ⟨rowsC L, true⟩) : ∀ r ∈ L, b ∉ rowB r := by
 intro r hr hm
 unfold rowB at hm
 split at hm
 ·simp at hm
 ·rename_i hne
  simp at hm
  have e1 := (el r hr).b.resolve_left hne
  rw [← hm] at e1
  cases L with
  | nil => simp at hr
  | cons q L =>
   have e2 := hb.resolve_left (by simp)
   rw [e1] at e2
   simp only [Option.some.injEq, Blk.mk.injEq, and_true] at e2
   rw [rowsC_cons] at e2
   cases hx : rbr r with
   | nil => exact hne hx
   | cons a l => rw [hx] at e2; simp [ints, rowC] at e2
theorem Vo.rows {h : Heap} {lo hi : Nat} {v : Value} {X : Lib} (x : Vo h lo hi shKepts v X) : ∃ b z L, v = sl b 0 X.length z ∧ X = L.map (·.1) ∧ KO h lo hi b z L := by
 obtain ⟨cs, bs, ⟨b, z, css, bss, rfl, hz, hm, h1, h2⟩, rfl, nd, hb⟩ := x
 obtain ⟨L, f1, f2, f3, f4⟩ := rows_of h1
 have hl : L = [] ↔ X = [] := by rw [f1]; simp
 refine ⟨b, z, L, rfl, f1, hz.imp id (fun q => ⟨q.1, hl.2 q.2⟩), by have := congrArg List.length f1; simp at this; rw [← this]; exact hm, f4, ?_, ?_, ?_⟩
 ·rcases h2 with ⟨q, _⟩ | ⟨_, q2, q3⟩
  ·exact .inl (hl.2 q)
  ·exact .inr ⟨by rw [f2] at q3; exact q3, hb b (by rw [q2]; simp)⟩
 ·rcases h2 with ⟨q, _⟩ | ⟨_, q2, q3⟩
  ·have := hl.2 q
   subst this; simp
  ·rw [q2] at nd
   rw [← f3]; exact (List.nodup_cons.1 nd).2
 ·intro r hr c hc
  rcases h2 with ⟨q, _⟩ | ⟨_, q2, q3⟩
  ·have := hl.2 q
   subst this; simp at hr
  ·refine hb c ?_
   rw [q2, f3]
   exact List.mem_cons_of_mem _ (List.mem_flatten.2 ⟨_, List.mem_map.2 ⟨r, hr, rfl⟩, hc⟩)
theorem KO.vo {h : Heap} {lo hi b z : Nat} {L : List Row} (k : KO h lo hi b z L) : Vo h lo hi shKepts (sl b 0 L.length z) (L.map (·.1)) := by
 have nb := rows_nb (b := b) k.el (k.blk.imp id fun q => q.1)
 refine ⟨[sl b 0 L.length z], if L = [] then [] else b :: (L.map rowB).flatten, ⟨b, z, L.map rowC, L.map rowB, by simp, k.z.imp id fun q => ⟨q.1, by rw [q.2]; rfl⟩, by rw [List.length_map]; exact k.m, rows_all k.el, ?_⟩, rfl, ?_, ?_⟩
 ·by_cases e : L = []
  ·exact .inl ⟨by rw [e]; rfl, by rw [if_pos e]⟩
  ·exact .inr ⟨by simpa using e, by rw [if_neg e], (k.blk.resolve_left e).1⟩
 ·split
  ·simp
  ·refine List.nodup_cons.2 ⟨fun hm => ?_, k.nd⟩
   obtain ⟨s, hs, hb⟩ := List.mem_flatten.1 hm
   obtain ⟨r, hr, rfl⟩ := List.mem_map.1 hs
   exact nb r hr hb
 ·intro c hc
  split at hc
  ·simp at hc
  ·rename_i e
   rcases List.mem_cons.1 hc with q | q
   ·rw [q]; exact (k.blk.resolve_left e).2
   ·obtain ⟨s, hs, hb⟩ := List.mem_flatten.1 q
    obtain ⟨r, hr, rfl⟩ := List.mem_map.1 hs
    exact k.rg r hr c hb
theorem EntO.frame {h h' : Heap} {r : Row} (e : EntO h r) (f : ∀ c ∈ rowB r, h'[c]? = h[c]?) : EntO h' r := by
 refine ⟨e.z, e.m, e.x, ?_, e.w, e.h, e.n⟩
 by_cases h0 : rbr r = []
 ·exact .inl h0
 ·exact .inr (by rw [f r.2.1 (by rw [rowB, if_neg h0]; simp)]; exact e.b.resolve_left h0)
theorem EntO.lt {h : Heap} {r : Row} (e : EntO h r) : ∀ c ∈ rowB r, c < h.length := by
 intro c hc
 unfold rowB at hc
 split at hc
 ·simp at hc
 ·rename_i h0
  simp at hc; rw [hc]; exact at_lt (e.b.resolve_left h0)
/-- A list of rows that is being made. -/
structure KB (h0 h : Heap) (v : Value) (L : List Row) : Prop where
 b : Buf h0 h v 4 (rowsC L)
 el : ∀ r ∈ L, EntO h r
 nd : (L.map rowB).flatten.Nodup
 rg : ∀ r ∈ L, ∀ c ∈ rowB r, h0.length ≤ c
theorem KB.nil {h0 h : Heap} : KB h0 h (sl 0 0 0 4) [] := ⟨by simpa [rowsC] using Buf.nil, by simp, by simp, by simp⟩
theorem KB.ko {h0 h : Heap} {v : Value} {L : List Row} (k : KB h0 h v L) (hm : L.length ≤ maxLen) : ∃ b, v = sl b 0 L.length 4 ∧ KO h h0.length h.length b 4 L := by
 have hl := rowsC_len L
 rcases k.b with ⟨e1, e2⟩ | ⟨b, n, e1, e2, e3, e4⟩
 ·have : L = [] := by
   rw [e1] at hl; simp at hl; exact List.length_eq_zero_iff.1 (by omega)
  subst this
  exact ⟨0, e2, .inl rfl, hm, k.el, .inl rfl, k.nd, by simp⟩
 ·rw [hl] at e2
  have : n = L.length := by omega
  subst this
  exact ⟨b, e1, .inl rfl, hm, k.el, .inr ⟨e4, e3, at_lt e4⟩, k.nd, fun r hr c hc => ⟨k.rg r hr c hc, (k.el r hr).lt c hc⟩⟩
theorem KB.vo {h0 h : Heap} {v : Value} {L : List Row} (k : KB h0 h v L) (hm : L.length ≤ maxLen) : Vo h h0.length h.length shKepts v (L.map (·.1)) := by
 obtain ⟨b, rfl, ko⟩ := k.ko hm
 exact KO.vo ko
theorem KB.len {h0 h : Heap} {v : Value} {L : List Row} (k : KB h0 h v L) : ∃ b, v = sl b 0 L.length 4 := by
 have hl := rowsC_len L
 rcases k.b with ⟨e1, e2⟩ | ⟨b, n, e1, e2, e3, e4⟩
 ·have : L = [] := by
   rw [e1] at hl; simp at hl; exact List.length_eq_zero_iff.1 (by omega)
  subst this
  exact ⟨0, e2⟩
 ·rw [hl] at e2
  have : n = L.length := by omega
  subst this
  exact ⟨b, e1⟩
theorem kb_snoc {h0 h h1 : Heap} {v s : Value} {L : List Row} {n : List UInt8} {W H : Int} {br : List Int} {K : Value → Heap → Prop} (hp : 0 < h0.length) (kb : KB h0 h v L) (g0 : Grows h0 h) (g1 : Grows h h1) (o : Vo h1 h.length h1.length shPanel (.agg #[I W, I H, s]) ((W, H, br) : Pan)) (hn : n.length ≤ maxLen) (hl : L.length ≤ 1048576)
  (hK : ∀ v' h2 r, Grows h0 h2 → KB h0 h2 v' (L ++ [r]) → r.1 = (n, W, H, br) → K v' h2) :
  bindW (aBuildSlice 4 1 h1 [(0, .agg #[S [], I 0, I 0, sl 0 0 0 0]), (4, .agg #[S n, I W, I H, s])]) fun y h' => bindW (aAppend 4 h' y v) K := by
 have e : aBuildSlice 4 1 h1 [(0, .agg #[S [], I 0, I 0, sl 0 0 0 0]), (4, .agg #[S n, I W, I H, s])] = some (sl h1.length 0 1 4, h1 ++ [⟨[S n, I W, I H, s], true⟩]) := by simp [aBuildSlice]
 rw [e]
 simp only [bindW_some]
 obtain ⟨s', es, w1, w2, o⟩ := o.panel
 simp at es
 subst es
 obtain ⟨b, z, rfl, hz, hm, hx, hb⟩ := o.ints
 obtain ⟨r, hr⟩ : ∃ r : Row, r = ((n, W, H, br), b, z) := ⟨_, rfl⟩
 have hC : rowC r = [S n, I W, I H, sl b 0 br.length z] := by rw [hr]; rfl
 have g1' := g1.push ⟨[S n, I W, I H, sl b 0 br.length z], true⟩
 have nb : ∀ q ∈ L, ∀ c ∈ rowB q, ∀ m, v ≠ sl c 0 m 4 := by
  intro q hq c hc m ev
  obtain ⟨b2, e2⟩ := kb.len
  have hb2 : L = [] ∨ h[b2]? = some ⟨rowsC L, true⟩ := by
   rcases kb.b with ⟨q1, q2⟩ | ⟨b3, n3, q1, q2, q3, q4⟩
   ·left
    have hl := rowsC_len L
    rw [q1] at hl; simp at hl; exact List.length_eq_zero_iff.1 (by omega)
   ·right
    rw [e2] at q1
    simp only [sl, Value.slice.injEq, Option.some.injEq, Addr.mk.injEq] at q1
    rw [q1.1.1]; exact q4
  rw [e2] at ev
  simp only [sl, Value.slice.injEq, Option.some.injEq, Addr.mk.injEq] at ev
  exact rows_nb kb.el hb2 q hq (ev.1.1 ▸ hc)
 refine append_buf hp (g0.trans g1') (kb.b.grow g1') (new := rowC r) ?_ (by omega) (by simp [rowC]) (by simp [rowC]) (by rw [rowsC_len]; simp [rowC, maxSize]; omega) ?_
 ·rw [hC]
  simp [newCells]
  rw [cellsAt_of (k := ⟨[S n, I W, I H, sl b 0 br.length z], true⟩) (by simp) (by simp)]
  simp
 ·intro v' h2 g2 b2 k2
  refine hK v' h2 r g2 ⟨?_, fun q hq => ?_, ?_, fun q hq c hc => ?_⟩ (by rw [hr])
  ·rw [rowsC_append]; simpa [rowsC] using b2
  ·rcases List.mem_append.1 hq with hq | hq
   ·refine (kb.el q hq).frame fun c hc => ?_
    have hlt := (kb.el q hq).lt c hc
    have hg := g1'.look hlt
    have hs : h[c]? = some h[c] := List.getElem?_eq_getElem hlt
    rw [hs] at hg ⊢
    exact k2 c _ hg (nb q hq c hc)
   ·simp at hq; subst hq
    rw [hr]
    refine ⟨hz, hm, hx, ?_, w1, w2, hn⟩
    rcases hb with q | ⟨q1, q2, q3⟩
    ·exact .inl q
    ·right
     refine k2 b _ (push_at q1) fun m ev => ?_
     obtain ⟨b5, e5⟩ := kb.len
     rw [e5] at ev
     simp only [sl, Value.slice.injEq, Option.some.injEq, Addr.mk.injEq] at ev
     have hb5 : b5 < h.length ∨ b5 = 0 := by
      rcases kb.b with ⟨q1, q2⟩ | ⟨b3, n3, q1, q2, q3, q4⟩
      ·right
       rw [e5] at q2
       simp only [sl, Value.slice.injEq, Option.some.injEq, Addr.mk.injEq] at q2
       exact q2.1.1
      ·left
       rw [e5] at q1
       simp only [sl, Value.slice.injEq, Option.some.injEq, Addr.mk.injEq] at q1
       rw [q1.1.1]; exact at_lt q4
     have := g0.le
     omega
  ·rw [List.map_append, List.flatten_append, List.nodup_append]
   refine ⟨kb.nd, ?_, ?_⟩
   ·simp [rowB]; split <;> simp
   ·intro c hc c' hc'
    obtain ⟨t, ht, hct⟩ := List.mem_flatten.1 hc
    obtain ⟨q, hq, rfl⟩ := List.mem_map.1 ht
    have hlt := (kb.el q hq).lt c hct
    simp at hc'
    rw [hr] at hc'
    unfold rowB at hc'
    split at hc'
    ·simp at hc'
    ·rename_i h0
     simp at hc'
     have := (hb.resolve_left h0).2.1
     omega
  ·rcases List.mem_append.1 hq with hq | hq
   ·exact kb.rg q hq c hc
   ·simp at hq; subst hq
    rw [hr] at hc
    unfold rowB at hc
    split at hc
    ·simp at hc
    ·rename_i h0
     simp at hc
     have := (hb.resolve_left h0).2.1
     have := g0.le
     omega
theorem c542 (h : Heap) (hp : 0 < h.length) (b o z : Nat) (X : Lib) (hX : KAt h b o z X) (hl : X.length ≤ 1000) (hs : ∀ i (hi : i < X.length), X[i].2.2.2.length ≤ 1048576) : ACall Gam 542 [sl b o X.length z] h fun r h' => Grows h h' ∧ ∃ L, L.map (·.1) = X ∧ KB h h' r L := by
 refine ACall_intro g542 rfl ?_
 unfold fn542
 simp (disch := omega)
 refine awp_loop (fun k σ h' => Grows h h' ∧ k ≤ X.length ∧ σ 0 = sl b o X.length z ∧ σ 4 = I k ∧ ∃ L, L.map (·.1) = X.take k ∧ KB h h' (σ 3) L) (fun k => X.length - k) 0 ?_ ?_
 ·exact ⟨Grows.refl _, by omega, by simp, by simp, [], by simp, by simpa using KB.nil⟩
 ·rintro k σ h' ⟨g, hk, q0, q4, L, hL, kb⟩
  have hLl : L.length = k := by have := congrArg List.length hL; simp at this; omega
  simp (disch := omega) [q0, q4]
  refine fork_dec (fun hlt => ?_) (fun hge => ?_)
  ·have k1 : k < X.length := by omega
   obtain ⟨s, c, c1, vp, pp, _⟩ := (hX.grow g).cells k1
   have hn : X[k].1.length ≤ maxLen := by
    obtain ⟨_, _, _, _, _, w0⟩ := hX.2 k k1
    rw [maxLen_eq]; exact w0
   have l1 := g.le
   simp (disch := omega) [q0, q4, k1, c1]
   refine callW_of (c453 h' _ X[k].2 (by omega) pp (hs k k1)) ?_
   rintro v2 h2 ⟨g2, o2⟩
   refine ⟨fun _ => g2, ?_⟩
   obtain ⟨s2, rfl, w1, w2, r2⟩ := o2.panel
   simp (disch := omega)
   refine kb_snoc hp kb g g2 o2 hn (by omega) fun v' h3 r g3 kb3 hr => ?_
   simp (disch := omega) [q0, q4, wrap64]
   refine ⟨k + 1, ⟨g3, by omega, by omega, L ++ [r], ?_, kb3⟩, by omega⟩
   have e1 : [r].map (·.1) = [X[k]] := by simp [hr]
   rw [List.map_append, hL, e1, ← List.take_succ_eq_append_getElem k1]
  ·have : k = X.length := by omega
   subst this
   rw [List.take_length] at hL
   obtain ⟨b2, e2⟩ := kb.len
   have kb' := kb
   rw [e2] at kb'
   simp (disch := omega) [e2]
   exact ⟨g, L, hL, kb'⟩
theorem c149 (h : Heap) (hp : 0 < h.length) (b o z : Nat) (X : Lib) (hX : KAt h b o z X) (hl : X.length ≤ 1000) (hs : ∀ i (hi : i < X.length), X[i].2.2.2.length ≤ 1048576) : ACall Gam 149 [sl b o X.length z] h fun r h' => Grows h h' ∧ ∃ L, L.map (·.1) = X ∧ KB h h' r L := by
 refine ACall_intro g149 rfl ?_
 unfold fn149
 simp (disch := omega)
 refine awp_loop (fun k σ h' => Grows h h' ∧ k ≤ X.length ∧ σ 7 = sl b o X.length z ∧ σ 8 = I X.length ∧ σ 9 = I k ∧ ∃ L, L.map (·.1) = X.take k ∧ KB h h' (σ 3) L) (fun k => X.length - k) 0 ?_ ?_
 ·exact ⟨Grows.refl _, by omega, by simp, by simp, by simp, [], by simp, by simpa using KB.nil⟩
 ·rintro k σ h' ⟨g, hk, q7, q8, q9, L, hL, kb⟩
  have hLl : L.length = k := by have := congrArg List.length hL; simp at this; omega
  simp (disch := omega) [q8, q9]
  refine fork_dec (fun hlt => ?_) (fun hge => ?_)
  ·have k1 : k < X.length := by omega
   obtain ⟨s, c, c1, vp, pp, _⟩ := (hX.grow g).cells k1
   have hn : X[k].1.length ≤ maxLen := by
    obtain ⟨_, _, _, _, _, w0⟩ := hX.2 k k1
    rw [maxLen_eq]; exact w0
   have l1 := g.le
   simp (disch := omega) [q7, q9, k1, c]
   refine callW_of (c150 h' _ X[k].2 (by omega) vp (hs k k1)) ?_
   rintro v2 h2 ⟨g2, o2⟩
   try refine ⟨fun e => (by first | exact g2 | cases e), ?_⟩
   obtain ⟨s2, rfl, w1, w2, r2⟩ := o2.panel
   simp (disch := omega)
   refine kb_snoc hp kb g g2 o2 hn (by omega) fun v' h3 r g3 kb3 hr => ?_
   simp (disch := omega) [q7, q8, q9, wrap64]
   refine ⟨k + 1, ⟨g3, by omega, by omega, L ++ [r], ?_, kb3⟩, by omega⟩
   have e1 : [r].map (·.1) = [X[k]] := by simp [hr]
   rw [List.map_append, hL, e1, ← List.take_succ_eq_append_getElem k1]
  ·have : k = X.length := by omega
   subst this
   rw [List.take_length] at hL
   obtain ⟨b2, e2⟩ := kb.len
   have kb' := kb
   rw [e2] at kb'
   simp (disch := omega) [e2]
   exact ⟨g, L, hL, kb'⟩
end Am
