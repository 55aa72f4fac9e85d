/- Contracts: AmY27, AmY28, AmY29, AmY30, AmY31, AmY32, AmY33, AmY34, AmY36, AmY37, AmY38, AmY39, AmY40, AmG4. -/
import Derived.Test.YtbljglfnbjbknaaGreatAmK9
import Derived.Test.YtbljglfnbjbknaaGreatAmK5
import Derived.Test.YtbljglfnbjbknaaGreatAmK3
import Derived.Test.YtbljglfnbjbknaaGreatAmK8
import Derived.Test.YtbljglfnbjbknaaGreatAmK1
import Derived.Test.YtbljglfnbjbknaaGreatAmK7
set_option linter.unusedVariables false
set_option linter.unusedSimpArgs false
set_option maxHeartbeats 4000000
set_option maxRecDepth 40000
namespace Am
open Go
theorem std_get : ∀ k, (hk : k < stdX.length) → stdX[k].1.length ≤ 12 ∧ okP stdX[k].2 = true := by
 intro k hk
 have key : ∀ k ∈ stdX, k.1.length ≤ 12 ∧ okP k.2 = true := by decide
 exact key _ (List.getElem_mem hk)
theorem c132 (h : Heap) (hp : 0 < h.length) : ACall Gam 132 [] h fun r h' => Grows h h' ∧ Vo h' h.length h'.length shKepts r stdK ∧ siz shKepts stdK ≤ 16777216 := by
 refine ACall_intro g132 rfl ?_
 unfold fn132
 rw [awp_seq, awp_reg]
 generalize hK : seqQ Gam _ _ 0 = K
 simp (disch := omega)
 subst hK
 simp only [seqQ_zero]
 rw [awp_seq, awp_reg]
 generalize hK : seqQ Gam _ _ 0 = K
 simp (disch := omega)
 refine callW_of (c177 h 2 1 (by omega) (by omega) hp) ?_
 rintro v0 h0 ⟨g0, o0⟩
 have eP : newP 2 1 = (2, 1, [0]) := rfl
 rw [eP] at o0
 try refine ⟨fun e => (by cases e), ?_⟩
 obtain ⟨s0, rfl, _, _, i0⟩ := o0.panel
 obtain ⟨b0, z0, rfl, hz0, _, _, hb0⟩ := i0.ints
 obtain ⟨kb0, lo0, hi0⟩ := hb0.resolve_left (by simp)
 have st0 := store_one (v := I 1) (o := 0) kb0 (by simp [ints])
 obtain ⟨h00, e00⟩ : ∃ h00, h00 = h0.set b0 ⟨(ints [0]).set 0 (I 1), true⟩ := ⟨_, rfl⟩
 rw [← e00] at st0
 have G00 : Grows h h00 := by rw [e00]; exact g0.put lo0 _
 have l00 : h00.length = h0.length := by rw [e00]; simp
 have kb00 : h00[b0]? = some ⟨ints [1], true⟩ := by rw [e00]; simp [hi0, ints]
 have o00 : Vo h00 h.length h00.length shPanel (.agg #[I 2, I 1, sl b0 0 1 z0]) ((2, 1, [1]) : Pan) := Vo.of_panel (by unfold I64; omega) (by unfold I64; omega) (Vo.of_ints (X := [1]) (hz0.imp id fun q => absurd q.2 (by simp)) (by simp [maxLen_eq]) (by intro x hx; simp at hx; subst hx; unfold I64; omega) (.inr ⟨kb00, lo0, by omega⟩))
 have hz01 : z0 = 1 := by
  rcases hz0 with q | q
  ·exact q
  ·exact absurd q.2 (by simp)
 subst hz01
 simp (disch := omega)
 subst hK
 simp only [seqQ_zero]
 rw [awp_seq, awp_reg]
 generalize hK : seqQ Gam _ _ 0 = K
 simp (disch := omega) [st0]
 subst hK
 simp only [seqQ_zero]
 rw [awp_seq, awp_reg]
 generalize hK : seqQ Gam _ _ 0 = K
 simp (disch := omega)
 subst hK
 simp only [seqQ_zero]
 rw [awp_seq]
 generalize hK : seqQ Gam _ (retQ _ _) = K
 rw [awp_seq, awp_reg]
 generalize hK2 : seqQ Gam _ _ 0 = K2
 obtain ⟨Z, hZ⟩ : ∃ Z, Z = (Value.agg #[S [], I 0, I 0, sl 0 0 0 0, S [], I 0, I 0, sl 0 0 0 0, S [], I 0, I 0, sl 0 0 0 0, S [], I 0, I 0, sl 0 0 0 0, S [], I 0, I 0, sl 0 0 0 0, S [], I 0, I 0, sl 0 0 0 0]) := ⟨_, rfl⟩
 rw [← hZ]
 simp (disch := omega)
 have G0 : Grows h00 h00 := Grows.refl _
 have l0 := G00.le
 refine callW_of (c177 h00 2 1 (by omega) (by omega) (by have := G0.le; omega)) ?_
 rintro v1 h1 ⟨g1, o1⟩
 have eP1 : newP 2 1 = (2, 1, [0]) := rfl
 rw [eP1] at o1
 try refine ⟨fun e => (by cases e), ?_⟩
 have G1 := G0.trans g1
 obtain ⟨s1, rfl, _, _, i1⟩ := o1.panel
 try simp (disch := omega)
 refine callW_of (c177 h1 3 3 (by omega) (by omega) (by have := G1.le; omega)) ?_
 rintro v2 h2 ⟨g2, o2⟩
 have eP2 : newP 3 3 = (3, 3, [0, 0, 0, 0, 0, 0, 0, 0, 0, 0, 0, 0]) := rfl
 rw [eP2] at o2
 try refine ⟨fun e => (by cases e), ?_⟩
 have G2 := G1.trans g2
 obtain ⟨s2, rfl, _, _, i2⟩ := o2.panel
 try simp (disch := omega)
 refine callW_of (c177 h2 4 1 (by omega) (by omega) (by have := G2.le; omega)) ?_
 rintro v3 h3 ⟨g3, o3⟩
 have eP3 : newP 4 1 = (4, 1, [0, 0, 0]) := rfl
 rw [eP3] at o3
 try refine ⟨fun e => (by cases e), ?_⟩
 have G3 := G2.trans g3
 obtain ⟨s3, rfl, _, _, i3⟩ := o3.panel
 try simp (disch := omega)
 refine callW_of (c177 h3 1 1 (by omega) (by omega) (by have := G3.le; omega)) ?_
 rintro v4 h4 ⟨g4, o4⟩
 have eP4 : newP 1 1 = (1, 1, []) := rfl
 rw [eP4] at o4
 try refine ⟨fun e => (by cases e), ?_⟩
 have G4 := G3.trans g4
 obtain ⟨s4, rfl, _, _, i4⟩ := o4.panel
 try simp (disch := omega)
 refine callW_of (c177 h4 2 2 (by omega) (by omega) (by have := G4.le; omega)) ?_
 rintro v5 h5 ⟨g5, o5⟩
 have eP5 : newP 2 2 = (2, 2, [0, 0, 0, 0]) := rfl
 rw [eP5] at o5
 try refine ⟨fun e => (by cases e), ?_⟩
 have G5 := G4.trans g5
 obtain ⟨s5, rfl, _, _, i5⟩ := o5.panel
 try simp (maxSteps := 10000000) (disch := omega)
 have vr1 := (o1.vr.grow (g2.trans (g3.trans (g4.trans g5))))
 have vr2 := (o2.vr.grow (g3.trans (g4.trans g5)))
 have vr3 := (o3.vr.grow (g4.trans g5))
 have vr4 := o4.vr.grow g5
 have vr5 := o5.vr
 have vr6 := o00.vr.grow G5
 subst hZ
 obtain ⟨C, hC⟩ : ∃ C : List Value, C = [S [98, 114, 105, 99, 107], I 2, I 1, s1, S [99, 97, 114, 112, 101, 116], I 3, I 3, s2, S [99, 104, 97, 105, 110], I 4, I 1, s3, S [100, 105, 97, 109, 111, 110, 100], I 1, I 1, s4, S [114, 105, 110, 103, 115], I 2, I 2, s5, S [116, 119, 111], I 2, I 1, sl b0 0 1 1] := ⟨_, rfl⟩
 have hr : ∀ k, (hk : k < stdX.length) → ∃ s, (C.drop (k * 4)).take 4 = [S stdX[k].1, I stdX[k].2.1, I stdX[k].2.2.1, s] ∧ Vr h5 shPanel (.agg #[I stdX[k].2.1, I stdX[k].2.2.1, s]) stdX[k].2 := by
  subst hC
  intro k hk
  match k, hk with
  | 0, _ => exact ⟨s1, rfl, vr1⟩
  | 1, _ => exact ⟨s2, rfl, vr2⟩
  | 2, _ => exact ⟨s3, rfl, vr3⟩
  | 3, _ => exact ⟨s4, rfl, vr4⟩
  | 4, _ => exact ⟨s5, rfl, vr5⟩
  | 5, _ => exact ⟨_, rfl, vr6⟩
  | k + 6, hk => exact absurd hk (by simp [stdX])
 have hCl : C.length = 24 := by rw [hC]; rfl
 refine (show bindW (some (.agg ([S [98, 114, 105, 99, 107], I 2, I 1, s1, S [99, 97, 114, 112, 101, 116], I 3, I 3, s2, S [99, 104, 97, 105, 110], I 4, I 1, s3, S [100, 105, 97, 109, 111, 110, 100], I 1, I 1, s4, S [114, 105, 110, 103, 115], I 2, I 2, s5, S [116, 119, 111], I 2, I 1, sl b0 0 1 1] : List Value).toArray, h5)) _ from ?_)
 rw [← hC]
 simp only [bindW]
 subst hK2
 simp only [seqQ_zero]
 clear hC
 rw [awp_block]
 have hX6 : stdX.length = 6 := rfl
 have G5' := G00.trans G5
 refine awp_loop (fun (k : Nat) σ h' => Grows h5 h' ∧ k ≤ 6 ∧ σ 22 = .agg C.toArray ∧ σ 23 = I k ∧ ∃ L, L.map (·.1) = stdK.take k ∧ KB h5 h' (σ 2) L) (fun (k : Nat) => 6 - k) 0 ?_ ?_
 ·exact ⟨Grows.refl _, by omega, by simp, by simp, [], by simp, by simpa using KB.nil⟩
 ·rintro k σ h' ⟨g, hk, q22, q23, L, hL, kb⟩
  have hLl : L.length = k := by have := congrArg List.length hL; simp [stdK, hX6] at this; omega
  simp (disch := omega) [q22, q23]
  refine fork_dec (fun hlt => ?_) (fun hge => ?_)
  ·have k1 : k < stdX.length := by omega
   obtain ⟨s, ec, vp⟩ := hr k k1
   obtain ⟨hn, ok⟩ := std_get k k1
   have l1 := (G5'.trans g).le
   have le1 : (k + 1) * 4 ≤ C.length := by omega
   have i1 : (k : Int) < 6 := by omega
   have ei : aIndex 1006004 (.agg C.toArray) (I k) = some (.agg #[S stdX[k].1, I stdX[k].2.1, I stdX[k].2.2.1, s]) := by
    have c1 : (1000000 ≤ 1006004 ∧ (0 : Int) ≤ (k : Int) ∧ (k : Int) < (((1006004 - 1000000) / 1000 : Nat) : Int)) := ⟨by omega, by omega, by omega⟩
    show (if 1000000 ≤ 1006004 ∧ (0 : Int) ≤ (k : Int) ∧ (k : Int) < (((1006004 - 1000000) / 1000 : Nat) : Int) then (if 1006004 % 1000 = 0 then C.toArray[(k : Int).toNat]? else if ((k : Int).toNat + 1) * (1006004 % 1000) ≤ C.toArray.size then some (.agg ((C.toArray.toList.drop ((k : Int).toNat * (1006004 % 1000))).take (1006004 % 1000)).toArray) else none) else none) = _
    rw [if_pos c1, if_neg (by omega), if_pos (by simp; omega)]
    simp [ec]
   simp (disch := omega) [q22, q23, ei]
   refine callW_of (c147 h' (by omega) _ _ (vp.grow g) (okP_iff.1 ok)) ?_
   rintro v2 h2 ⟨g2, o2⟩
   try refine ⟨fun e => (by first | exact g2 | cases e), ?_⟩
   obtain ⟨s2, rfl, w1, w2, r2⟩ := o2.panel
   simp (disch := omega)
   refine kb_snoc (by have := G5'.le; omega) kb g g2 o2 (by rw [maxLen_eq]; omega) (by omega) fun v' h3 r g3 kb3 hr => ?_
   simp (disch := omega) [q22, q23, wrap64]
   refine ⟨k + 1, ⟨g3, by omega, by omega, L ++ [r], ?_, kb3⟩, by omega⟩
   have e1 : [r].map (·.1) = [stdK[k]'(by simp [stdK]; omega)] := by
    simp only [List.map_cons, List.map_nil, hr, stdK, List.getElem_map]
    rfl
   rw [List.map_append, hL, e1, ← List.take_succ_eq_append_getElem]
  ·have : k = 6 := by omega
   subst this
   have e6 : stdK.take 6 = stdK := List.take_of_length_le (by simp [stdK, hX6])
   rw [e6] at hL
   have vo := kb.vo (by rw [maxLen_eq]; omega)
   rw [hL] at vo
   subst hK
   simp (disch := omega)
   exact ⟨(G5'.trans g), vo.wide G5'.le (Nat.le_refl _), std_siz⟩
theorem texts_at {h : Heap} {b o k : Nat} {X : List (List UInt8)} (hr : X = [] ∨ cellsAt h b o X.length = some (texts X)) (hk : k < X.length) : cell h b (o + k) = some (S X[k]) := by
 rcases hr with h0 | hr
 ·subst h0; simp at hk
 ·rw [(cell_in (i := k) hr hk).1]; simp [texts, hk]
theorem idx_split : ∀ (s : List UInt8) (c : UInt8) (i : Nat), (idx s c i = -1 ∧ c ∉ s) ∨ ∃ a t, s = a ++ c :: t ∧ c ∉ a ∧ idx s c i = ((i + a.length : Nat) : Int)
 | [], c, i => .inl ⟨rfl, by simp⟩
 | x :: r, c, i => by
  simp only [idx]
  split
  ·rename_i e; exact .inr ⟨[], r, by simp [e], by simp, by simp⟩
  ·rename_i e
   rcases idx_split r c (i + 1) with ⟨h1, h2⟩ | ⟨a, t, h1, h2, h3⟩
   ·exact .inl ⟨h1, by simp only [List.mem_cons, not_or]; exact ⟨fun q => e q.symm, h2⟩⟩
   ·refine .inr ⟨x :: a, t, by simp [h1], ?_, ?_⟩
    ·simp only [List.mem_cons, not_or]; exact ⟨fun q => e q.symm, h2⟩
    ·rw [h3]; simp; omega
theorem no_space {X : Pan} (ok : OkP X) : (32 : UInt8) ∉ pTxt X := by
 rw [pTxt_ok ok]
 have h1 := dgB_toNat ok.w
 have h2 := dgB_toNat ok.h
 have e32 : (32 : UInt8).toNat = 32 := rfl
 intro h
 simp only [List.mem_cons, List.mem_map] at h
 rcases h with h | h | h | h | ⟨x, _, h⟩
 ·rw [← h] at h1; omega
 ·exact absurd h (by decide)
 ·rw [← h] at h2; omega
 ·exact absurd h (by decide)
 ·unfold signB at h; split at h
  ·exact absurd h (by decide)
  ·split at h <;> exact absurd h (by decide)
noncomputable def entO (l : List UInt8) : Option Kpt := if idx l 32 0 < 0 then none else if (readAns (l.drop ((idx l 32 0).toNat + 1))).2 then some (l.take (idx l 32 0).toNat, (readAns (l.drop ((idx l 32 0).toNat + 1))).1) else none
noncomputable def entS (l : List UInt8) : Option Kpt := if (splitS 32 l).length = 2 then (if (readAns (nth (splitS 32 l) 1)).2 then some (nth (splitS 32 l) 0, (readAns (nth (splitS 32 l) 1)).1) else none) else none
theorem entSO (l : List UInt8) : entS l = entO l := by
 rcases idx_split l 32 0 with ⟨h1, h2⟩ | ⟨a, t, h1, h2, h3⟩
 ·have e : splitS 32 l = [l] := by unfold splitS; rw [splitG_none h2]; simp
  unfold entS entO
  rw [e, h1]; simp
 ·have e0 : splitS 32 l = a :: splitS 32 t := by
   unfold splitS; rw [h1, splitG_one h2]; simp
  have e1 : idx l 32 0 = (a.length : Int) := by rw [h3]; simp
  have e2 : l.drop ((idx l 32 0).toNat + 1) = t := by rw [e1, h1]; simp
  have e3 : l.take (idx l 32 0).toNat = a := by rw [e1, h1]; simp
  unfold entS entO
  rw [e2, e3, e0, if_neg (show ¬ idx l 32 0 < 0 by omega)]
  by_cases q : (32 : UInt8) ∈ t
  ·obtain ⟨a', t', h1', h2'⟩ : ∃ a' t', t = a' ++ 32 :: t' ∧ (32 : UInt8) ∉ a' := by
    rcases idx_split t 32 0 with ⟨_, q2⟩ | ⟨a', t', q1, q2, _⟩
    ·exact absurd q q2
    ·exact ⟨a', t', q1, q2⟩
   have e4 : splitS 32 t = a' :: splitS 32 t' := by
    unfold splitS; rw [h1', splitG_one h2']; simp
   have hl := (splitG_len 32 t' []).1
   rw [if_neg (by intro e; rw [e4] at e; simp only [List.length_cons] at e; have q : splitS 32 t' = splitG 32 [] t' := rfl; rw [q] at e; omega), if_neg]
   rcases readAns_cases t with ⟨X, ok, hX, _⟩ | ⟨_, hr⟩
   ·exact absurd (hX ▸ q) (no_space ok)
   ·rw [hr]; simp
  ·have e4 : splitS 32 t = [t] := by unfold splitS; rw [splitG_none q]; simp
   rw [e4]; simp [nth]
theorem splitG_end (b : UInt8) : ∀ (s cur : List UInt8), splitG b cur (s ++ [b]) = splitG b cur s ++ [[]]
 | [], cur => by simp [splitG]
 | c :: r, cur => by
  simp only [List.cons_append, splitG]
  split
  ·rw [splitG_end b r []]; rfl
  ·exact splitG_end b r _
theorem splitG_last {b x : UInt8} (hx : x ≠ b) : ∀ (s cur : List UInt8), ∃ L w, splitG b cur (s ++ [x]) = L ++ [w ++ [x]]
 | [], cur => ⟨[], cur, by simp [splitG, hx]⟩
 | c :: r, cur => by
  simp only [List.cons_append, splitG]
  split
  ·obtain ⟨L, w, h⟩ := splitG_last hx r []
   exact ⟨cur :: L, w, by rw [h]; rfl⟩
  ·exact splitG_last hx r _
def linesP (s : List UInt8) : Option (List (List UInt8)) := if nth (splitS 10 s) ((splitS 10 s).length - 1) = [] then some (splitS 10 s).dropLast else none
theorem lines_nil : linesP [] = some [] := by simp [linesP, splitS, splitG, nth]
theorem lines_end (s : List UInt8) : linesP (s ++ [10]) = some (splitS 10 s) := by
 have e : splitS 10 (s ++ [10]) = splitS 10 s ++ [[]] := splitG_end 10 s []
 unfold linesP
 rw [e]
 simp [nth]
theorem lines_none {s : List UInt8} {x : UInt8} (hx : x ≠ 10) : linesP (s ++ [x]) = none := by
 obtain ⟨L, w, h⟩ := splitG_last hx s []
 have h' : splitS 10 (s ++ [x]) = L ++ [w ++ [x]] := h
 unfold linesP
 rw [h']
 simp [nth]
noncomputable def entsO : List (List UInt8) → Option Lib
 | [] => some []
 | l :: L => match entO l with
  | none => none
  | some e => (entsO L).map (e :: ·)
theorem entsO_snoc : ∀ {L : List (List UInt8)} {X : Lib} {l : List UInt8} {e : Kpt}, entsO L = some X → entO l = some e → entsO (L ++ [l]) = some (X ++ [e])
 | [], X, l, e, h, he => by simp only [entsO, Option.some.injEq] at h; subst h; simp [entsO, he]
 | a :: L, X, l, e, h, he => by
  simp only [entsO] at h
  split at h
  ·cases h
  ·rename_i k hk
   obtain ⟨Y, hY, rfl⟩ := Option.map_eq_some_iff.1 h
   simp only [List.cons_append, entsO, hk, entsO_snoc hY he, Option.map_some]
theorem entsO_none : ∀ {L : List (List UInt8)} {l : List UInt8}, l ∈ L → entO l = none → entsO L = none
 | a :: L, l, h, he => by
  simp only [entsO]
  rcases List.mem_cons.1 h with rfl | h
  ·rw [he]
  ·split
   ·rfl
   ·rw [entsO_none h he]; rfl
theorem entsO_len : ∀ {L : List (List UInt8)} {X : Lib}, entsO L = some X → X.length = L.length
 | [], X, h => by simp only [entsO, Option.some.injEq] at h; subst h; rfl
 | a :: L, X, h => by
  simp only [entsO] at h
  split at h
  ·cases h
  ·obtain ⟨Y, hY, rfl⟩ := Option.map_eq_some_iff.1 h
   simp [entsO_len hY]
noncomputable def readK (s : List UInt8) : Lib × Bool := match linesP s with
 | none => ([], false)
 | some L => if 40 < L.length then ([], false) else match entsO L with
  | none => ([], false)
  | some X => if keptOk X then (X, true) else ([], false)
theorem Buf.texts1 {h0 h : Heap} {v : Value} {L : List (List UInt8)} (x : Buf h0 h v 1 (texts L)) : ∃ b, v = sl b 0 L.length 1 ∧ (L = [] ∨ cellsAt h b 0 L.length = some (texts L)) := by
 have hl : (Am.texts L).length = L.length := by simp [Am.texts]
 rcases x with ⟨e1, rfl⟩ | ⟨b, n, rfl, e2, e3, e4⟩
 ·rw [e1] at hl
  have : L = [] := List.length_eq_zero_iff.1 (by simpa using hl.symm)
  subst this
  exact ⟨0, rfl, .inl rfl⟩
 ·have : n = L.length := by omega
  subst this
  exact ⟨b, rfl, .inr (cellsAt_all e4 hl.symm)⟩
def LinesAt (h : Heap) (s : List UInt8) (r : Value) : Prop := ∃ b n z, r = .tuple #[sl b 0 n z, B (linesP s).isSome] ∧ ∀ L, linesP s = some L → n = L.length ∧ (L = [] ∨ cellsAt h b 0 L.length = some (texts L))
theorem c170 (h : Heap) (hp : 0 < h.length) (s : List UInt8) (hs : s.length ≤ 1048576) : ACall Gam 170 [S s] h fun r h' => Grows h h' ∧ LinesAt h' s r := by
 refine ACall_intro g170 rfl ?_
 unfold fn170
 rcases List.eq_nil_or_concat s with rfl | ⟨t, x, e⟩
 ·simp (disch := omega)
  refine ⟨Grows.refl _, 0, 0, 0, by rw [lines_nil]; rfl, fun L hL => ?_⟩
  rw [lines_nil] at hL
  cases hL
  exact ⟨rfl, .inl rfl⟩
 ·have e : s = t ++ [x] := by rw [e]; simp
  subst e
  have hl : (t ++ [x]).length = t.length + 1 := by simp
  rw [hl] at hs
  have ne : ¬ (t ++ [x] = []) := by simp
  have e2 : ((t.length : Int) + 1) - 1 = (t.length : Nat) := by omega
  have i1 : (t.length : Int) < t.length + 1 := by omega
  by_cases hx : x = 10
  ·subst hx
   have es : aSlice 0 h (S (t ++ [10])) none (some (I (t.length : Nat))) none = some (S t, h) := by
    rw [slice_to (by simp)]; simp
   simp (disch := omega) [wrap64, e2, ne, i1, es]
   refine callW_of (split_ok (.inl rfl) t 10 (by omega) h hp) ?_
   rintro _ h1 ⟨g1, bf⟩
   obtain ⟨b, rfl, hc⟩ := bf.texts1
   try refine ⟨fun e => (by first | exact g1 | cases e), ?_⟩
   simp (disch := omega)
   refine ⟨g1, b, _, 1, by rw [lines_end]; rfl, fun L hL => ?_⟩
   rw [lines_end] at hL
   cases hL
   exact ⟨rfl, hc⟩
  ·have hx' : ¬ ((x.toNat : Int) = 10) := by
    intro e; exact hx (UInt8.toNat_inj.1 (by have : (10 : UInt8).toNat = 10 := rfl; omega))
   have hx'' : ¬ (x.toNat = 10) := by omega
   simp (disch := omega) [wrap64, e2, ne, i1, hx', hx'']
   refine ⟨Grows.refl _, 0, 0, 0, by rw [lines_none hx]; rfl, fun L hL => ?_⟩
   rw [lines_none hx] at hL
   cases hL
/-- The rows' entries are these. -/
def RowsOf (R : List Row) (X : Lib) : Prop := R.map (·.1) = X
theorem RowsOf.snoc {R : List Row} {X : Lib} {r : Row} {k : Kpt} (a : RowsOf R X) (h : r.1 = k) : RowsOf (R ++ [r]) (X ++ [k]) := by
 unfold RowsOf at a ⊢; rw [List.map_append, a]; simp [h]
theorem entO_some {l : List UInt8} {e : Kpt} (h : entO l = some e) : e.1.length ≤ l.length := by
 unfold entO at h
 split at h
 ·cases h
 ·split at h
  ·cases h; simp; omega
  ·cases h
theorem entsO_small : ∀ {L : List (List UInt8)} {X : Lib}, entsO L = some X → (∀ l ∈ L, l.length ≤ 1048576) → ∀ e ∈ X, e.1.length ≤ 1048576
 | [], X, h, _ => by simp only [entsO, Option.some.injEq] at h; subst h; simp
 | a :: L, X, h, hL => by
  simp only [entsO] at h
  split at h
  ·cases h
  ·rename_i k hk
   obtain ⟨Y, hY, rfl⟩ := Option.map_eq_some_iff.1 h
   intro e he
   rcases List.mem_cons.1 he with rfl | he
   ·have := entO_some hk
    have := hL a (by simp); omega
   ·exact entsO_small hY (fun l hl => hL l (by simp [hl])) e he
theorem readK_siz (s : List UInt8) : siz shKepts (readK s).1 ≤ 16777216 := by
 have z0 : siz shKepts ([] : Lib) ≤ 16777216 := by rw [siz_kepts]; simp [sizL]
 unfold readK
 split
 ·exact z0
 ·split
  ·exact z0
  ·split
   ·exact z0
   ·split
    ·rename_i X _ q
     have ok := keptOk_iff.1 q
     have := small_siz (X := X) (n := 40) ok.len ok.small
     simp only; omega
    ·exact z0
theorem lines_small {s : List UInt8} {L : List (List UInt8)} (h : linesP s = some L) : ∀ l ∈ L, l.length ≤ s.length := by
 unfold linesP at h
 split at h
 ·cases h
  intro l hl
  have := splitG_sum 10 s [] l ((List.dropLast_sublist _).subset hl)
  simpa using this
 ·cases h
theorem readK_bad {s : List UInt8} (h : linesP s = none) : readK s = ([], false) := by unfold readK; rw [h]
theorem readK_long {s : List UInt8} {L : List (List UInt8)} (h : linesP s = some L) (hl : 40 < L.length) : readK s = ([], false) := by unfold readK; rw [h]; simp only; rw [if_pos hl]
theorem readK_none {s : List UInt8} {L : List (List UInt8)} (h : linesP s = some L) (he : entsO L = none) : readK s = ([], false) := by
 unfold readK; rw [h]; simp only; rw [he]; split <;> rfl
theorem readK_some {s : List UInt8} {L : List (List UInt8)} {X : Lib} (h : linesP s = some L) (hl : L.length ≤ 40) (he : entsO L = some X) : readK s = if keptOk X then (X, true) else ([], false) := by
 unfold readK; rw [h]; simp only; rw [if_neg (by omega), he]
theorem c121 (h : Heap) (hp : 0 < h.length) (s : List UInt8) (hs : s.length ≤ 1048576) : ACall Gam 121 [S s] h fun r h' => Grows h h' ∧ ∃ r0, r = .tuple #[r0, B (readK s).2] ∧ Vo h' h.length h'.length shKepts r0 (readK s).1 ∧ siz shKepts (readK s).1 ≤ 16777216 := by
 have hsz := readK_siz s
 have vo0 : ∀ {h' : Heap}, Vo h' h.length h'.length shKepts (sl 0 0 0 0) ([] : Lib) := Vo.no_kepts
 refine ACall_intro g121 rfl ?_
 unfold fn121
 simp (disch := omega)
 refine callW_of (c170 h hp s hs) ?_
 rintro _ h1 ⟨g1, b, n, z, rfl, hL⟩
 try refine ⟨fun e => (by first | exact g1 | cases e), ?_⟩
 have l1 := g1.le
 rcases q : linesP s with _ | L
 ·rw [readK_bad q] at hsz ⊢
  simp (disch := omega)
  exact ⟨g1, vo0, hsz⟩
 obtain ⟨rfl, hc⟩ := hL L q
 by_cases q2 : 40 < L.length
 ·rw [readK_long q q2] at hsz ⊢
  have q2' : (40 : Int) < L.length := by omega
  simp (disch := omega) [q2, q2']
  exact ⟨g1, vo0, hsz⟩
 have q2' : ¬ (40 : Int) < L.length := by omega
 have hsm : ∀ l ∈ L, l.length ≤ 1048576 := fun l hl => by have := lines_small q l hl; omega
 simp (disch := omega) [q2, q2']
 have hp1 : 0 < h1.length := by omega
 refine awp_loop (fun (k : Nat) σ h' => k ≤ L.length ∧ Grows h1 h' ∧ σ 25 = sl b 0 L.length z ∧ σ 26 = I L.length ∧ σ 27 = I k ∧ ∃ R X, RowsOf R X ∧ entsO (L.take k) = some X ∧ KB h1 h' (σ 6) R) (fun k => L.length - k) 0 ?_ ?_
 ·exact ⟨by omega, Grows.refl _, by simp, by simp, by simp, [], [], rfl, by simp [entsO], by simpa using KB.nil⟩
 ·rintro k σ h2 ⟨hk, g12, q25, q26, q27, R, X, hR, hX, kb⟩
  have g := g1.trans g12
  have hRl : R.length = k := by
   have h1 := entsO_len hX
   have h2 : _ = _ := congrArg List.length (show R.map (·.1) = X from hR)
   simp at h1 h2; omega
  simp (disch := omega) [q25, q26, q27]
  refine fork_dec (fun hlt => ?_) (fun hge => ?_)
  ·have k1 : k < L.length := by omega
   have hcell := texts_at (hc.imp id g12.cellsAt) k1
   simp only [Nat.zero_add] at hcell
   obtain ⟨l, el⟩ : ∃ l, l = L[k] := ⟨_, rfl⟩
   have hlm : l ∈ L := by rw [el]; exact List.getElem_mem k1
   have hll := hsm l hlm
   rw [← el] at hcell
   obtain ⟨i1, i2, i3⟩ := idx_rng l 32 0
   have l2 := g.le
   have l12 := g12.le
   simp (disch := omega) [q25, q26, q27, k1, hcell]
   refine callW_of (c183 l hll 32 h2) ?_
   rintro _ h3 ⟨rfl, rfl⟩
   try refine ⟨fun e => (by first | exact Grows.refl _ | cases e), ?_⟩
   simp (disch := omega)
   have hbad : entO l = none → readK s = ([], false) := fun e => readK_none q (entsO_none hlm e)
   refine fork_dec (fun hneg => ?_) (fun hpos => ?_)
   ·have := hbad (by unfold entO; rw [if_pos hneg])
    rw [this] at hsz ⊢
    simp (disch := omega)
    exact ⟨g, vo0, hsz⟩
   ·obtain ⟨a, ea⟩ := Int.eq_ofNat_of_zero_le (show 0 ≤ idx l 32 0 by omega)
    obtain ⟨a1, ha1⟩ : ∃ a1, a1 = a + 1 := ⟨_, rfl⟩
    have e1 : (a : Int) + 1 = (a1 : Int) := by omega
    have hent : entO l = if (readAns (l.drop a1)).2 then some (l.take a, (readAns (l.drop a1)).1) else none := by
     unfold entO; rw [ea, if_neg (by omega), ha1]; rfl
    rw [ea] at i2 ⊢
    have s1 := slice_from (h := h3) (s := l) (a := a1) (by omega)
    simp (disch := omega) [e1, s1, wrap64]
    refine callW_of (c122 h3 (by omega) (l.drop a1) (by simp; omega)) ?_
    rintro _ h4 ⟨g4, r0, rfl, o⟩
    try refine ⟨fun e => (by first | exact g4 | cases e), ?_⟩
    have l4 := g4.le
    obtain ⟨P, hP⟩ : ∃ P : Pan, P = (readAns (l.drop a1)).1 := ⟨_, rfl⟩
    rw [← hP] at o hent
    obtain ⟨W, H, br⟩ := P
    have o' := o
    obtain ⟨sv, rfl, w1, w2, o3⟩ := o.panel
    cases qb : (readAns (l.drop a1)).2
    ·rw [qb] at hent
     have := hbad hent
     rw [this] at hsz ⊢
     simp (disch := omega)
     exact ⟨g.trans g4, vo0, hsz⟩
    ·rw [qb] at hent
     have hent : entO l = some (l.take a, (W, H, br)) := hent
     have s2 := slice_to (h := h4) (s := l) (b := a) (by omega)
     simp (disch := omega) [s2]
     refine kb_snoc hp1 kb g12 g4 o' (n := l.take a) (by rw [maxLen_eq, List.length_take]; omega) (by omega) fun v' h5 r g5 kb5 hr => ?_
     simp (disch := omega) [q25, q26, q27, wrap64]
     refine ⟨k + 1, ⟨by omega, g5, by omega, R ++ [r], X ++ [(l.take a, (W, H, br))], hR.snoc hr, ?_, kb5⟩, by omega⟩
     rw [List.take_succ_eq_append_getElem k1, ← el]
     exact entsO_snoc hX hent
  ·have ek : k = L.length := by omega
   rw [ek, List.take_length] at hX
   have kb' := kb.low g1
   obtain ⟨bk, ebk, hK⟩ := kb'.kat (by omega)
   rw [show R.map (·.1) = X from hR] at hK
   have hXl := entsO_len hX
   have hXR : R.length = X.length := by omega
   have cc := c139 h2 (by have := g.le; omega) bk 0 4 X hK fun i hi => entsO_small hX hsm _ (List.getElem_mem hi)
   rw [hXR] at ebk
   simp (disch := omega) [q26, q27, ebk]
   refine callW_of cc ?_
   rintro _ h3 ⟨rfl, g3⟩
   try refine ⟨fun e => (by first | exact g3 | cases e), ?_⟩
   have e := readK_some q (by omega) hX
   cases qk : keptOk X
   ·rw [qk] at e
    rw [show readK s = ([], false) from e] at hsz ⊢
    simp (disch := omega)
    exact ⟨g.trans g3, vo0, hsz⟩
   ·rw [qk] at e
    rw [show readK s = (X, true) from e] at hsz ⊢
    simp (disch := omega) [ebk]
    have vo := (kb'.grow g3).vo (by rw [maxLen_eq]; omega)
    rw [ebk, show R.map (·.1) = X from hR] at vo
    exact ⟨g.trans g3, vo, hsz⟩
theorem c412 (h : Heap) (hp : 0 < h.length) (s : List UInt8) (hs : s.length ≤ 1048576) : ACall Gam 412 [S s] h fun r h' => Grows h h' ∧ ∃ r0, r = .tuple #[r0, B (readK s).2] ∧ Vo h' h.length h'.length shKepts r0 (readK s).1 ∧ siz shKepts (readK s).1 ≤ 16777216 := by
 have hsz := readK_siz s
 have vo0 : ∀ {h' : Heap}, Vo h' h.length h'.length shKepts (sl 0 0 0 0) ([] : Lib) := Vo.no_kepts
 refine ACall_intro g412 rfl ?_
 unfold fn412
 simp (disch := omega)
 refine callW_of (split_ok (.inr rfl) s 10 hs h hp) ?_
 rintro _ h1 ⟨g1, bf⟩
 obtain ⟨b, rfl, hc⟩ := bf.texts1
 try refine ⟨fun e => (by first | exact g1 | cases e), ?_⟩
 have l1 := g1.le
 obtain ⟨w1, w2⟩ := splitG_len 10 s []
 have w1 : 1 ≤ (splitS 10 s).length := w1
 have w2 : (splitS 10 s).length ≤ s.length + 1 := w2
 have hsm0 : ∀ l ∈ splitS 10 s, l.length ≤ 1048576 := fun l hl => by have := splitG_sum 10 s [] l hl; simp at this; omega
 have hlp : linesP s = if nth (splitS 10 s) ((splitS 10 s).length - 1) = [] then some (splitS 10 s).dropLast else none := rfl
 obtain ⟨W, hW⟩ : ∃ W, W = splitS 10 s := ⟨_, rfl⟩
 rw [← hW] at w1 w2 hsm0 hc hlp ⊢
 obtain ⟨n, hn⟩ : ∃ n, W.length = n + 1 := ⟨W.length - 1, by omega⟩
 have cn := texts_at hc (k := n) (by omega)
 have en : nth W (W.length - 1) = W[n] := by rw [show W.length - 1 = n by omega]; exact nth_of (by omega)
 rw [en] at hlp
 rw [hn] at hc ⊢
 have i1 : ((n + 1 : Nat) : Int) - 1 = n := by omega
 have i1' : (n : Int) + 1 - 1 = n := by omega
 have i2 : (n : Int) < (n : Int) + 1 := by omega
 simp only [Nat.zero_add] at cn
 by_cases e1 : W[n] = []
 ·rw [if_pos e1] at hlp
  have cn' := cn
  rw [e1] at cn'
  by_cases e2 : 41 < n + 1
  ·have er := readK_long hlp (by rw [List.length_dropLast]; omega)
   rw [er] at hsz ⊢
   have e2' : (41 : Int) < (n : Int) + 1 := by omega
   simp (disch := omega) [i1', i2, cn', e2', wrap64]
   exact ⟨g1, vo0, hsz⟩
  ·have e2' : ¬ (41 : Int) < (n : Int) + 1 := by omega
   simp (disch := omega) [i1', i2, cn', e2', wrap64]
   obtain ⟨L, hL⟩ : ∃ L, L = W.dropLast := ⟨_, rfl⟩
   rw [← hL] at hlp
   have hLl : L.length = n := by rw [hL, List.length_dropLast]; omega
   have hsm : ∀ l ∈ L, l.length ≤ 1048576 := fun l hl => hsm0 l ((List.dropLast_sublist _).subset (by rw [← hL]; exact hl))
   have hp1 : 0 < h1.length := by omega
   refine awp_loop (fun (k : Nat) σ h' => k ≤ n ∧ Grows h1 h' ∧ σ 4 = sl b 0 (n + 1) 1 ∧ σ 6 = I k ∧ ∃ R X, RowsOf R X ∧ entsO (L.take k) = some X ∧ KB h1 h' (σ 5) R) (fun k => n - k) 0 ?_ ?_
   ·exact ⟨by omega, Grows.refl _, by simp, by simp, [], [], rfl, by simp [entsO], by simpa using KB.nil⟩
   ·rintro k σ h2 ⟨hk, g12, q4, q6, R, X, hR, hX, kb⟩
    have g := g1.trans g12
    have hRl : R.length = k := by
     have h1 := entsO_len hX
     have h2 : _ = _ := congrArg List.length (show R.map (·.1) = X from hR)
     simp at h1 h2; omega
    simp (disch := omega) [q4, q6, i1', wrap64]
    refine fork_dec (fun hlt => ?_) (fun hge => ?_)
    ·have k1 : k < n := by omega
     have k2 : k < L.length := by omega
     have hcell := texts_at ((show W = [] ∨ cellsAt h1 b 0 W.length = some (texts W) by rw [hn]; exact hc).imp id g12.cellsAt) (k := k) (by omega)
     simp only [Nat.zero_add] at hcell
     have eW : W[k] = L[k] := by simp [hL]
     obtain ⟨l, el⟩ : ∃ l, l = L[k] := ⟨_, rfl⟩
     have hlm : l ∈ L := by rw [el]; exact List.getElem_mem k2
     have hll := hsm l hlm
     rw [eW, ← el] at hcell
     have l2 := g.le
     have l12 := g12.le
     have k3 : (k : Int) < (n : Int) + 1 := by omega
     simp (disch := omega) [q4, q6, k1, k3, hcell]
     refine callW_of (split_ok (.inr rfl) l 32 hll h2 (by omega)) ?_
     rintro _ h3 ⟨g3, bf3⟩
     obtain ⟨b3, rfl, hc3⟩ := bf3.texts1
     try refine ⟨fun e => (by first | exact g3 | cases e), ?_⟩
     have l3 := g3.le
     have hent := entSO l
     unfold entS at hent
     obtain ⟨V, hV⟩ : ∃ V, V = splitS 32 l := ⟨_, rfl⟩
     have hVs : ∀ v ∈ V, v.length ≤ l.length := fun v hv => by have := splitG_sum 32 l [] v (by rw [hV] at hv; exact hv); simpa using this
     rw [← hV] at hent hc3 ⊢
     have hbad : entO l = none → readK s = ([], false) := fun e => readK_none hlp (entsO_none hlm e)
     simp (disch := omega)
     by_cases ev : V.length = 2
     ·rw [if_pos ev] at hent
      rw [nth_of (show 1 < V.length by omega), nth_of (show 0 < V.length by omega)] at hent
      have v0 := texts_at hc3 (k := 0) (by omega)
      have v1 := texts_at hc3 (k := 1) (by omega)
      simp only [Nat.zero_add] at v0 v1
      have s0 := hVs _ (List.getElem_mem (show 0 < V.length by omega))
      have s1 := hVs _ (List.getElem_mem (show 1 < V.length by omega))
      obtain ⟨x0, ex0⟩ : ∃ x, x = V[0] := ⟨_, rfl⟩
      obtain ⟨x1, ex1⟩ : ∃ x, x = V[1] := ⟨_, rfl⟩
      rw [← ex0, ← ex1] at hent
      rw [← ex0] at v0 s0
      rw [← ex1] at v1 s1
      have ev' : (V.length : Int) = 2 := by omega
      simp (disch := omega) [ev, ev', v1]
      refine callW_of (c413 h3 (by omega) x1 (by omega)) ?_
      rintro _ h4 ⟨g4, r0, rfl, o⟩
      try refine ⟨fun e => (by first | exact g4 | cases e), ?_⟩
      have l4 := g4.le
      obtain ⟨P, hP⟩ : ∃ P : Pan, P = (readAns x1).1 := ⟨_, rfl⟩
      rw [← hP] at o hent
      obtain ⟨Wd, H, br⟩ := P
      have o' := o.wide (show h2.length ≤ h3.length by omega) (Nat.le_refl _)
      obtain ⟨sv, rfl, _, _, _⟩ := o.panel
      cases qb : (readAns x1).2
      ·rw [qb] at hent
       have := hbad hent.symm
       rw [this] at hsz ⊢
       simp (disch := omega)
       exact ⟨(g.trans g3).trans g4, vo0, hsz⟩
      ·rw [qb] at hent
       have hent : entO l = some (x0, (Wd, H, br)) := hent.symm
       simp (disch := omega) [ev, g4.cell v0]
       refine kb_snoc hp1 kb g12 (g3.trans g4) o' (n := x0) (by rw [maxLen_eq]; omega) (by omega) fun v' h5 r g5 kb5 hr => ?_
       simp (disch := omega) [q4, q6, wrap64]
       refine ⟨k + 1, ⟨by omega, g5, by omega, R ++ [r], X ++ [(x0, (Wd, H, br))], hR.snoc hr, ?_, kb5⟩, by omega⟩
       rw [List.take_succ_eq_append_getElem k2, ← el]
       exact entsO_snoc hX hent
     ·rw [if_neg ev] at hent
      have := hbad hent.symm
      rw [this] at hsz ⊢
      have ev' : ¬ (V.length : Int) = 2 := by omega
      simp (disch := omega) [ev, ev']
      exact ⟨g.trans g3, vo0, hsz⟩
    ·have ek : k = L.length := by omega
     rw [ek, List.take_length] at hX
     have kb' := kb.low g1
     obtain ⟨bk, ebk, hK⟩ := kb'.kat (by omega)
     rw [show R.map (·.1) = X from hR] at hK
     have hXl := entsO_len hX
     have hXR : R.length = X.length := by omega
     have cc := c541 h2 (by have := g.le; omega) bk 0 4 X hK fun i hi => entsO_small hX hsm _ (List.getElem_mem hi)
     rw [hXR] at ebk
     simp (disch := omega) [ebk]
     refine callW_of cc ?_
     rintro _ h3 ⟨rfl, g3⟩
     try refine ⟨fun e => (by first | exact g3 | cases e), ?_⟩
     have e := readK_some hlp (by omega) hX
     cases qk : keptOk X
     ·rw [qk] at e
      rw [show readK s = ([], false) from e] at hsz ⊢
      simp (disch := omega)
      exact ⟨g.trans g3, vo0, hsz⟩
     ·rw [qk] at e
      rw [show readK s = (X, true) from e] at hsz ⊢
      simp (disch := omega) [ebk]
      have vo := (kb'.grow g3).vo (by rw [maxLen_eq]; omega)
      rw [ebk, show R.map (·.1) = X from hR] at vo
      exact ⟨g.trans g3, vo, hsz⟩
 ·rw [if_neg e1] at hlp
  have er := readK_bad hlp
  rw [er] at hsz ⊢
  simp (disch := omega) [i1', i2, cn, e1, wrap64]
  exact ⟨g1, vo0, hsz⟩
theorem pv_dv {br : List Int} (hb : ∀ x ∈ br, 0 ≤ x ∧ x ≤ 2) (i : Nat) : ∀ m j, dv (pv br i (j + m)).toNat m = (pv br i j).toNat
 | 0, j => by rw [dv_zero]; rfl
 | m + 1, j => by
  have ih := pv_dv hb i m (j + 1)
  rw [dv_succ, show j + (m + 1) = j + 1 + m by omega, ih]
  have h1 := (pv_bd hb i j).1
  have h2 := at0_bd hb (i + j)
  simp only [pv]
  omega
theorem pv_digit {br : List Int} (hb : ∀ x ∈ br, 0 ≤ x ∧ x ≤ 2) (i : Nat) {j : Nat} (hj : j < 5) : ((dv (fiveV br i).toNat (4 - j) % 3 : Nat) : Int) = at0 br (i + j) := by
 have e := pv_dv hb i (4 - j) (j + 1)
 rw [show j + 1 + (4 - j) = 5 by omega] at e
 unfold fiveV
 rw [e]
 have h1 := (pv_bd hb i j).1
 have h2 := at0_bd hb (i + j)
 simp only [pv]
 omega
theorem bn_app {a b : List UInt8} {i : Nat} (h : i < a.length) : bn (a ++ b) i = bn a i := by
 unfold bn; rw [List.getD_eq_getElem?_getD, List.getElem?_append_left h, ← List.getD_eq_getElem?_getD]
theorem bn_app2 {a b : List UInt8} {i : Nat} : bn (a ++ b) (a.length + i) = bn b i := by
 unfold bn; rw [List.getD_eq_getElem?_getD, List.getElem?_append_right (by omega), ← List.getD_eq_getElem?_getD]; congr 2; omega
theorem bn_packB {br : List Int} {q i : Nat} (hb : ∀ x ∈ br, 0 ≤ x ∧ x ≤ 2) (h : i < q) : bn (packB br q) i = (fiveV br (5 * i)).toNat := by
 have h1 := pv_le hb (5 * i) 5 (Nat.le_refl _)
 have : (packB br q)[i]? = some (byteI (fiveV br (5 * i))) := by simp [packB, h]
 unfold bn
 rw [List.getD_eq_getElem?_getD, this]
 have h2 := byteI_toNat (x := fiveV br (5 * i)) (by unfold fiveV; omega)
 simp only [Option.getD_some]
 omega
theorem packBody_len {X : Pan} : (packBody X).length = 3 + (X.2.2.length + 4) / 5 := by
 unfold packBody; rw [List.length_append, packB_len]; rfl
theorem packP_len' {X : Pan} : (packP X).length = 5 + (X.2.2.length + 4) / 5 := by
 unfold packP; rw [ended_len, packBody_len]; omega
theorem bn_packP {X : Pan} {i : Nat} (h : i < (packBody X).length) : bn (packP X) i = bn (packBody X) i := by
 unfold packP ended; exact bn_app h
theorem packP_heads {X : Pan} (ok : OkP X) : bn (packP X) 0 = 77 ∧ (bn (packP X) 1 : Int) = X.1 ∧ (bn (packP X) 2 : Int) = X.2.1 := by
 have hl := packBody_len (X := X)
 have hw := ok.w; have hh := ok.h
 rw [bn_packP (by omega), bn_packP (by omega), bn_packP (by omega)]
 have e1 := byteI_toNat (x := X.1) (by omega)
 have e2 := byteI_toNat (x := X.2.1) (by omega)
 refine ⟨rfl, ?_, ?_⟩
 ·show ((byteI X.1).toNat : Int) = _
  exact e1
 ·show ((byteI X.2.1).toNat : Int) = _
  exact e2
theorem unP_pack {X : Pan} (ok : OkP X) : unP (packP X) = X := by
 obtain ⟨h0, h1, h2⟩ := packP_heads ok
 have hl := packBody_len (X := X)
 have hn := ok.n
 obtain ⟨W, H, br⟩ := X
 simp only at h1 h2 hn hl
 unfold unP
 rw [h1, h2]
 refine Prod.ext rfl (Prod.ext rfl ?_)
 simp only
 unfold unB
 apply List.ext_getElem
 ·simp; omega
 ·intro k hk hk'
  have hk2 : k / 5 < (br.length + 4) / 5 := by omega
  simp only [List.getElem_map, List.getElem_range]
  have e : bn (packP (W, H, br)) (3 + k / 5) = (fiveV br (5 * (k / 5))).toNat := by
   rw [bn_packP (by omega)]
   show bn ([77, byteI W, byteI H] ++ packB br ((br.length + 4) / 5)) (3 + k / 5) = _
   have := bn_app2 (a := [77, byteI W, byteI H]) (b := packB br ((br.length + 4) / 5)) (i := k / 5)
   simp only [List.length_cons, List.length_nil] at this
   rw [this]
   exact bn_packB ok.b hk2
  unfold brk
  rw [e, pv_digit ok.b _ (Nat.mod_lt _ (by omega)), show 5 * (k / 5) + k % 5 = k by omega, at0_of hk']
theorem lenOk_pack {X : Pan} (ok : OkP X) : lenOk (packP X) = true := by
 obtain ⟨h0, h1, h2⟩ := packP_heads ok
 have hl := packP_len' (X := X)
 have hn := ok.n
 unfold lenOk
 rw [h1, h2]
 simp only [Bool.and_eq_true, decide_eq_true_eq]
 refine ⟨by omega, okSz_iff.2 ⟨ok.w, ok.h⟩, ?_⟩
 unfold packSize
 omega
theorem unOk_pack {X : Pan} (ok : OkP X) : unOk (packP X) = true := by
 unfold unOk
 rw [lenOk_pack ok, unP_pack ok]; simp
theorem packP_size {X : Pan} (ok : OkP X) : ((packP X).length : Int) = packSize X.1 X.2.1 := by
 have hl := packP_len' (X := X)
 have hn := ok.n
 unfold packSize
 omega
/-- One entry at the head of bytes, and what is behind it; more bytes than the entry needs must be there. -/
def oneP (more : Nat) (r : List UInt8) : Option (Kpt × List UInt8) :=
 if r.length < bn r 0 + 4 + more then none
 else if okSz (bn (r.drop (bn r 0 + 1)) 1) (bn (r.drop (bn r 0 + 1)) 2) = false ∨ ((r.drop (bn r 0 + 1)).length : Int) < packSize (bn (r.drop (bn r 0 + 1)) 1) (bn (r.drop (bn r 0 + 1)) 2) then none
 else if unOk ((r.drop (bn r 0 + 1)).take (packSize (bn (r.drop (bn r 0 + 1)) 1) (bn (r.drop (bn r 0 + 1)) 2)).toNat) then
  some ((((r.take (bn r 0 + 1)).drop 1), unP ((r.drop (bn r 0 + 1)).take (packSize (bn (r.drop (bn r 0 + 1)) 1) (bn (r.drop (bn r 0 + 1)) 2)).toNat)), (r.drop (bn r 0 + 1)).drop (packSize (bn (r.drop (bn r 0 + 1)) 1) (bn (r.drop (bn r 0 + 1)) 2)).toNat)
 else none
def parK (more : Nat) : Nat → List UInt8 → Option (Lib × List UInt8)
 | 0, r => some ([], r)
 | n + 1, r => match oneP more r with
  | none => none
  | some (k, t) => (parK more n t).map fun p => (k :: p.1, p.2)
theorem oneP_pack {more : Nat} {k : Kpt} {r : List UInt8} (ok : OkP k.2) (hn : k.1.length ≤ 12) (hm : more ≤ 1 + r.length) : oneP more (packE k ++ r) = some (k, r) := by
 obtain ⟨n, X⟩ := k
 simp only at ok hn
 have hb : bn (packE (n, X) ++ r) 0 = n.length := by
  rw [bn_app (by simp [packE])]
  have := byteI_toNat (x := (n.length : Int)) (by omega)
  show (byteI (n.length : Int)).toNat = n.length
  omega
 have e0 : packE (n, X) ++ r = byteI n.length :: (n ++ (packP X ++ r)) := by simp [packE]
 have hd : (packE (n, X) ++ r).drop (n.length + 1) = packP X ++ r := by
  rw [e0, List.drop_succ_cons]; simp
 have ht : ((packE (n, X) ++ r).take (n.length + 1)).drop 1 = n := by
  rw [e0, List.take_succ_cons, List.drop_succ_cons]; simp
 have hl := packP_len ok
 have hll : (packE (n, X) ++ r).length = 1 + n.length + (packP X).length + r.length := by
  rw [e0]; simp; omega
 obtain ⟨h0, h1, h2⟩ := packP_heads ok
 have b1 : bn (packP X ++ r) 1 = bn (packP X) 1 := bn_app (by omega)
 have b2 : bn (packP X ++ r) 2 = bn (packP X) 2 := bn_app (by omega)
 have hs := packP_size ok
 have hsz : okSz X.1 X.2.1 = true := okSz_iff.2 ⟨ok.w, ok.h⟩
 have hsn : (packSize X.1 X.2.1).toNat = (packP X).length := by omega
 unfold oneP
 rw [hb, hd, ht, b1, b2, h1, h2, hsn]
 rw [if_neg (by omega), if_neg]
 ·rw [List.take_left', List.drop_left', if_pos (unOk_pack ok), unP_pack ok]
  ·rfl
  ·rfl
 ·rw [hsz, List.length_append]
  rintro (q | q)
  ·cases q
  ·omega
theorem parK_pack {more : Nat} : ∀ (X : Lib) (r : List UInt8), (∀ e ∈ X, OkP e.2 ∧ e.1.length ≤ 12) → more ≤ 1 + r.length → parK more X.length (packBodyK X ++ r) = some (X, r)
 | [], r, _, _ => rfl
 | k :: X, r, h, hm => by
  have e : packBodyK (k :: X) ++ r = packE k ++ (packBodyK X ++ r) := by simp [packBodyK]
  have h1 := h k (by simp)
  rw [e]
  simp only [List.length_cons, parK]
  rw [oneP_pack h1.1 h1.2 (by rw [List.length_append]; omega)]
  simp only
  rw [parK_pack X r (fun e he => h e (by simp [he])) hm]
  rfl
/-- What is read is what was there. -/
theorem oneP_sound {more : Nat} {r t : List UInt8} {k : Kpt} (h : oneP more r = some (k, t)) : r = packE k ++ t ∧ k.1.length ≤ 255 := by
 unfold oneP at h
 split at h
 ·cases h
 ·rename_i hl
  split at h
  ·cases h
  ·rename_i hs
   split at h
   ·rename_i hu
    cases h
    have hlt := bn_lt r 0
    have hne : 0 < r.length := by omega
    obtain ⟨c, r', rfl⟩ : ∃ c r', r = c :: r' := by
     cases r with
     | nil => simp at hne
     | cons c r' => exact ⟨c, r', rfl⟩
    have hc : bn (c :: r') 0 = c.toNat := rfl
    simp only [hc, List.length_cons] at hl hs hu hlt ⊢
    simp only [List.take_succ_cons, List.drop_succ_cons, List.drop_zero] at hu ⊢
    have hpk : packP (unP ((r'.drop c.toNat).take (packSize (bn (r'.drop c.toNat) 1) (bn (r'.drop c.toNat) 2)).toNat)) = (r'.drop c.toNat).take (packSize (bn (r'.drop c.toNat) 1) (bn (r'.drop c.toNat) 2)).toNat := by
     unfold unOk at hu
     simp only [Bool.and_eq_true, decide_eq_true_eq] at hu
     exact hu.2
    have hnl : (r'.take c.toNat).length = c.toNat := by rw [List.length_take]; omega
    refine ⟨?_, by omega⟩
    unfold packE
    simp only
    rw [hpk, hnl]
    have hbyte : byteI (c.toNat : Int) = c := by unfold byteI; simp
    rw [hbyte]
    simp only [List.cons_append, List.append_assoc, List.cons.injEq, true_and]
    rw [List.take_append_drop, List.take_append_drop]
   ·cases h
theorem parK_sound {more : Nat} : ∀ {n : Nat} {r t : List UInt8} {X : Lib}, parK more n r = some (X, t) → r = packBodyK X ++ t ∧ X.length = n
 | 0, r, t, X, h => by
  simp only [parK, Option.some.injEq, Prod.mk.injEq] at h
  obtain ⟨rfl, rfl⟩ := h
  exact ⟨by simp [packBodyK], rfl⟩
 | n + 1, r, t, X, h => by
  simp only [parK] at h
  split at h
  ·cases h
  ·rename_i k t' hk
   obtain ⟨p, hp, e⟩ := Option.map_eq_some_iff.1 h
   obtain ⟨Y, u⟩ := p
   simp only [Prod.mk.injEq] at e
   obtain ⟨rfl, rfl⟩ := e
   obtain ⟨h1, h2⟩ := parK_sound hp
   have h3 := (oneP_sound hk).1
   refine ⟨?_, by simp [h2]⟩
   rw [h3, h1]
   simp [packBodyK]
open Classical in
/-- The library with a packed form. -/
noncomputable def unpackK (s : List UInt8) : Lib × Int := if h : ∃ X, keptOk X = true ∧ packK X = s then (Classical.choose h, 0) else ([], 8)
theorem packK_len {X : Lib} : (packK X).length = 4 + (packBodyK X).length := by unfold packK; rw [ended_len]; simp; omega
theorem KeptOk.pk {X : Lib} (ok : KeptOk X) : ∀ e ∈ X, OkP e.2 ∧ e.1.length ≤ 12 := by
 intro e he
 obtain ⟨i, hi, rfl⟩ := List.getElem_of_mem he
 exact ok.getOk hi
theorem packK_parts {X : Lib} : packK X = [76, byteI X.length] ++ (packBodyK X ++ [byteI (checksum ([76, byteI X.length] ++ packBodyK X) / 256), byteI (checksum ([76, byteI X.length] ++ packBodyK X) % 256)]) := by
 unfold packK ended; simp
theorem bn_packK {X : Lib} (hl : X.length ≤ 40) : bn (packK X) 0 = 76 ∧ bn (packK X) 1 = X.length := by
 rw [packK_parts]
 refine ⟨rfl, ?_⟩
 have := byteI_toNat (x := (X.length : Int)) (by omega)
 show (byteI (X.length : Int)).toNat = X.length
 omega
theorem packK_drop {X : Lib} : (packK X).drop 2 = packBodyK X ++ [byteI (checksum ([76, byteI X.length] ++ packBodyK X) / 256), byteI (checksum ([76, byteI X.length] ++ packBodyK X) % 256)] := by
 rw [packK_parts]; rfl
theorem packK_mid {X : Lib} : ((packK X).take ((packK X).length - 2)).drop 2 = packBodyK X := by
 rw [packK_len]
 have e : packK X = ([76, byteI X.length] ++ packBodyK X) ++ [byteI (checksum ([76, byteI X.length] ++ packBodyK X) / 256), byteI (checksum ([76, byteI X.length] ++ packBodyK X) % 256)] := rfl
 rw [e, List.take_left' (by simp; omega)]
 rfl
/-- The program reads a library back. -/
theorem parK_impl {X : Lib} (ok : KeptOk X) : ∃ t, parK 2 (bn (packK X) 1) ((packK X).drop 2) = some (X, t) := by
 rw [(bn_packK ok.len).2, packK_drop]
 exact ⟨_, parK_pack X _ ok.pk (by simp)⟩
theorem parK_spec {X : Lib} (ok : KeptOk X) : parK 0 (bn (packK X) 1) (((packK X).take ((packK X).length - 2)).drop 2) = some (X, []) := by
 rw [(bn_packK ok.len).2, packK_mid]
 have := parK_pack (more := 0) X [] ok.pk (by simp)
 rw [List.append_nil] at this
 exact this
theorem packK_inj {X Y : Lib} (a : KeptOk X) (b : KeptOk Y) (e : packK X = packK Y) : X = Y := by
 have h1 := parK_spec a
 have h2 := parK_spec b
 rw [e, h2] at h1
 injection h1 with h1
 injection h1 with h1
 exact h1.symm
theorem unpackK_yes {X : Lib} (ok : keptOk X = true) : unpackK (packK X) = (X, 0) := by
 have h : ∃ Y, keptOk Y = true ∧ packK Y = packK X := ⟨X, ok, rfl⟩
 unfold unpackK
 rw [dif_pos h]
 obtain ⟨q1, q2⟩ := Classical.choose_spec h
 rw [packK_inj (keptOk_iff.1 q1) (keptOk_iff.1 ok) q2]
theorem unpackK_no {s : List UInt8} (h : ∀ X, keptOk X = true → packK X ≠ s) : unpackK s = ([], 8) := by
 unfold unpackK
 rw [dif_neg]
 rintro ⟨X, a, b⟩
 exact h X a b
/-- What the reference checks. -/
theorem spec_yes {s : List UInt8} {X : Lib} (h4 : 4 ≤ s.length) (h0 : bn s 0 = 76) (hs : sumOk s = true) (hp : parK 0 (bn s 1) ((s.take (s.length - 2)).drop 2) = some (X, [])) (ok : keptOk X = true) : packK X = s := by
 obtain ⟨h1, h2⟩ := parK_sound hp
 rw [List.append_nil] at h1
 have he := (sum_ended (s := s) (by omega)).2 hs
 have hh : s.take (s.length - 2) = [76, byteI X.length] ++ packBodyK X := by
  obtain ⟨a, b, r, e⟩ : ∃ a b r, s.take (s.length - 2) = a :: b :: r := by
   have hl : (s.take (s.length - 2)).length = s.length - 2 := by rw [List.length_take]; omega
   match q : s.take (s.length - 2), hl with
   | a :: b :: r, _ => exact ⟨a, b, r, rfl⟩
   | [a], hl => simp at hl; omega
   | [], hl => simp at hl; omega
  have g0 : bn s 0 = a.toNat := by
   have : s = s.take (s.length - 2) ++ s.drop (s.length - 2) := (List.take_append_drop _ _).symm
   rw [this, e]; rfl
  have g1 : bn s 1 = b.toNat := by
   have : s = s.take (s.length - 2) ++ s.drop (s.length - 2) := (List.take_append_drop _ _).symm
   rw [this, e]; rfl
  rw [e] at h1 ⊢
  simp only [List.drop_succ_cons, List.drop_zero] at h1
  rw [h1, h2, g1]
  have ea : a = 76 := UInt8.toNat_inj.1 (by rw [← g0, h0]; rfl)
  have eb : byteI (b.toNat : Int) = b := by unfold byteI; simp
  rw [ea, eb]; rfl
 unfold packK
 rw [← hh, he]
theorem unpackK_siz (s : List UInt8) : siz shKepts (unpackK s).1 ≤ 16777216 := by
 by_cases h : ∃ X, keptOk X = true ∧ packK X = s
 ·obtain ⟨X, a, rfl⟩ := h
  rw [unpackK_yes a]
  have ok := keptOk_iff.1 a
  have h1 := ok.pk
  have h2 := ok.len
  have key : ∀ Y : Lib, (∀ e ∈ Y, OkP e.2 ∧ e.1.length ≤ 12) → Y.length + sizL Y ≤ 200 * Y.length := by
   intro Y
   induction Y with
   | nil => intro _; simp [sizL]
   | cons y Y ih =>
    intro hy
    have i1 := ih fun z hz => hy z (by simp [hz])
    obtain ⟨a1, a2⟩ := hy y (by simp)
    have a3 := a1.siz
    have h3 : siz shKept y = y.1.length + y.2.2.2.length := siz_kept _ _ _ _
    have h4 : sizL (y :: Y) = siz shKept y + sizL Y := by simp [sizL]
    rw [h4, h3]
    simp only [List.length_cons]; omega
  have := key X h1
  rw [siz_kepts]; simp only; omega
 ·rw [unpackK_no fun X a b => h ⟨X, a, b⟩, siz_kepts]; simp [sizL]
end Am
