/- Contracts: AmY41, AmY42, AmY43, AmG1, AmG2, AmG5, AmG6, AmS7, AmS8. -/
import Derived.Test.YtbljglfnbjbknaaGreatAmK10
import Derived.Test.YtbljglfnbjbknaaGreatAmK8
import Derived.Test.YtbljglfnbjbknaaGreatAmK3
import Derived.Test.YtbljglfnbjbknaaGreatAmK5
import Derived.Test.YtbljglfnbjbknaaGreatAmK4
import Derived.Test.YtbljglfnbjbknaaGreatAmK2
import Derived.Test.YtbljglfnbjbknaaGreatAmK1
set_option linter.unusedVariables false
set_option linter.unusedSimpArgs false
set_option maxHeartbeats 4000000
set_option maxRecDepth 40000
namespace Am
open Go
theorem oneP_no1 {more : Nat} {r : List UInt8} (h : r.length < bn r 0 + 4 + more) : oneP more r = none := by unfold oneP; rw [if_pos h]
theorem oneP_no2 {more : Nat} {r t : List UInt8} (et : t = r.drop (bn r 0 + 1)) (h : okSz (bn t 1) (bn t 2) = false ∨ (t.length : Int) < packSize (bn t 1) (bn t 2)) : oneP more r = none := by
 subst et
 unfold oneP
 by_cases q : r.length < bn r 0 + 4 + more
 ·rw [if_pos q]
 ·rw [if_neg q, if_pos h]
theorem oneP_no3 {more : Nat} {r t : List UInt8} (et : t = r.drop (bn r 0 + 1)) (h : unOk (t.take (packSize (bn t 1) (bn t 2)).toNat) = false) : oneP more r = none := by
 subst et
 unfold oneP
 by_cases q : r.length < bn r 0 + 4 + more
 ·rw [if_pos q]
 ·rw [if_neg q]
  split
  ·rfl
  ·rw [h]; rfl
theorem oneP_yes {more : Nat} {r t : List UInt8} (et : t = r.drop (bn r 0 + 1)) (h1 : ¬ r.length < bn r 0 + 4 + more) (h2 : ¬ (okSz (bn t 1) (bn t 2) = false ∨ (t.length : Int) < packSize (bn t 1) (bn t 2))) (h3 : unOk (t.take (packSize (bn t 1) (bn t 2)).toNat) = true) :
  oneP more r = some (((r.take (bn r 0 + 1)).drop 1, unP (t.take (packSize (bn t 1) (bn t 2)).toNat)), t.drop (packSize (bn t 1) (bn t 2)).toNat) := by
 subst et
 unfold oneP
 rw [if_neg h1, if_neg h2, if_pos h3]
/-- What one entry gives. -/
def OneR (h h' : Heap) (s : List UInt8) (r : Value) : Prop := (oneP 0 s = none ∧ ∃ a b c d t, r = .tuple #[.agg #[a, b, c, d], S t, B false]) ∨ ∃ n W H br t sv, oneP 0 s = some ((n, W, H, br), t) ∧ r = .tuple #[.agg #[S n, I W, I H, sv], S t, B true] ∧ Vo h' h.length h'.length shPanel (.agg #[I W, I H, sv]) ((W, H, br) : Pan)
theorem c570 (h : Heap) (hp : 0 < h.length) (s : List UInt8) (hs : s.length ≤ 1048576) : ACall Gam 570 [S s] h fun r h' => Grows h h' ∧ OneR h h' s r := by
 refine ACall_intro g570 rfl ?_
 unfold fn570
 have t0 := bn_lt s 0
 by_cases hs0 : s = []
 ·subst hs0
  have e := oneP_no1 (more := 0) (r := []) (by simp)
  simp (disch := omega) [resOf, resAll, resOne, aField]
  exact ⟨Grows.refl _, .inl ⟨e, _, _, _, _, _, rfl⟩⟩
 have hs1 : 0 < s.length := by
  rcases s with _ | ⟨a, s⟩
  ·exact absurd rfl hs0
  ·simp
 obtain ⟨z1, z2⟩ := bn_at hs1
 have i0 : (0 : Int) < s.length := by omega
 by_cases hl : s.length < bn s 0 + 4
 ·have e := oneP_no1 (more := 0) (r := s) (by omega)
  have hl' : (s.length : Int) < (bn s 0 : Int) + 4 := by omega
  simp (disch := omega) [hs0, hs1, i0, z1, z2, hl', wrap64, resOf, resAll, resOne, aField]
  exact ⟨Grows.refl _, .inl ⟨e, _, _, _, _, _, rfl⟩⟩
 have hl' : ¬ (s.length : Int) < (bn s 0 : Int) + 4 := by omega
 obtain ⟨k, hk⟩ : ∃ k, k = bn s 0 + 1 := ⟨_, rfl⟩
 have ek : (bn s 0 : Int) + 1 = (k : Int) := by omega
 have s1 := slice_text (h := h) (s := s) (a := 1) (b := k) (by omega) (by omega)
 have s2 := slice_from (h := h) (s := s) (a := k) (by omega)
 have s1' : aSlice 0 h (S s) (some (I 1)) (some (I k)) none = some (S ((s.take k).drop 1), h) := s1
 obtain ⟨t, ht⟩ : ∃ t, t = s.drop k := ⟨_, rfl⟩
 rw [← ht] at s2
 have htl : t.length = s.length - k := by rw [ht]; simp
 have et : t = s.drop (bn s 0 + 1) := by rw [ht, hk]
 obtain ⟨nm, hnm⟩ : ∃ nm, nm = (s.take k).drop 1 := ⟨_, rfl⟩
 rw [← hnm] at s1'
 have hnl : nm.length ≤ s.length := by rw [hnm]; simp; omega
 have l1 : 1 < t.length := by omega
 have l2 : 2 < t.length := by omega
 obtain ⟨a1, a2⟩ := bn_at l1
 obtain ⟨b1, b2⟩ := bn_at l2
 have t1 := bn_lt t 1
 have t2 := bn_lt t 2
 have i1 : (1 : Int) < t.length := by omega
 have i2 : (2 : Int) < t.length := by omega
 simp (disch := omega) [hs0, hs1, i0, z1, z2, hl', ek, s1', s2, i1, i2, a1, b1, a2, b2, wrap64]
 refine callW_of (c457 (bn t 1) h) ?_
 rintro _ h ⟨rfl, rfl⟩
 try refine ⟨fun e => (by cases e), ?_⟩
 cases q1 : inR (bn t 1) 1 8
 ·have e := oneP_no2 (more := 0) et (.inl (by simp [okSz, q1]))
  simp (disch := omega) [resOf, resAll, resOne, aField]
  exact ⟨Grows.refl _, .inl ⟨e, _, _, _, _, _, rfl⟩⟩
 simp (disch := omega)
 refine callW_of (c457 (bn t 2) h) ?_
 rintro _ h ⟨rfl, rfl⟩
 try refine ⟨fun e => (by cases e), ?_⟩
 cases q2 : inR (bn t 2) 1 8
 ·have e := oneP_no2 (more := 0) et (.inl (by simp [okSz, q2]))
  simp (disch := omega) [resOf, resAll, resOne, aField]
  exact ⟨Grows.refl _, .inl ⟨e, _, _, _, _, _, rfl⟩⟩
 have qW := inR_iff.1 q1
 have qH := inR_iff.1 q2
 have q : okSz (bn t 1) (bn t 2) = true := by simp [okSz, q1, q2]
 have hi := inner_bd qW qH
 simp (disch := omega)
 refine callW_of (c572 (bn t 1) (bn t 2) qW qH h) ?_
 rintro _ h ⟨rfl, rfl⟩
 try refine ⟨fun e => (by cases e), ?_⟩
 by_cases hle : (t.length : Int) < packSize (bn t 1) (bn t 2)
 ·have e := oneP_no2 (more := 0) et (.inr hle)
  simp (disch := omega) [hle, resOf, resAll, resOne, aField]
  exact ⟨Grows.refl _, .inl ⟨e, _, _, _, _, _, rfl⟩⟩
 have hps : packSize (bn t 1) (bn t 2) = 5 + (inner (bn t 1) (bn t 2) + 4) / 5 := rfl
 obtain ⟨p, ep⟩ := Int.eq_ofNat_of_zero_le (show 0 ≤ packSize (bn t 1) (bn t 2) by omega)
 simp (disch := omega) [hle]
 refine callW_of (c572 (bn t 1) (bn t 2) qW qH h) ?_
 rintro _ h ⟨rfl, rfl⟩
 try refine ⟨fun e => (by cases e), ?_⟩
 have h2 : ¬ (okSz (bn t 1) (bn t 2) = false ∨ (t.length : Int) < packSize (bn t 1) (bn t 2)) := by rw [q]; rintro (q | q); cases q; exact hle q
 have no3 := fun e => oneP_no3 (more := 0) et (t := t) e
 have yes := oneP_yes (more := 0) et (by omega) h2
 rw [ep] at hle no3 yes ⊢
 simp only [Int.toNat_natCast] at no3 yes
 have s3 := slice_to (h := h) (s := t) (b := p) (by omega)
 obtain ⟨u, hu⟩ : ∃ u, u = t.take p := ⟨_, rfl⟩
 rw [← hu] at s3 no3 yes
 have hul : u.length ≤ t.length := by rw [hu]; simp; omega
 simp (disch := omega) [s3]
 refine callW_of (c574 h hp u (by omega)) ?_
 rintro _ h1 ⟨g1, r0, rfl, o⟩
 try refine ⟨fun e => (by first | exact g1 | cases e), ?_⟩
 have L1 := g1.le
 by_cases hf : fault u = 0
 ·have huo := (fault_zero u).1 hf
  rw [if_pos hf] at o
  obtain ⟨P, hP⟩ : ∃ P, P = unP u := ⟨_, rfl⟩
  rw [← hP] at o yes
  obtain ⟨W, H, br⟩ := P
  have o' := o
  obtain ⟨sv, rfl, w1, w2, o3⟩ := o.panel
  rw [hf]
  simp (disch := omega)
  refine callW_of (c572 (bn t 1) (bn t 2) qW qH h1) ?_
  rintro _ h1 ⟨rfl, rfl⟩
  try refine ⟨fun e => (by cases e), ?_⟩
  rw [ep]
  have s4 := slice_from (h := h1) (s := t) (a := p) (by omega)
  simp (disch := omega) [s4, resOf, resAll, resOne, aField]
  refine ⟨g1, .inr ⟨nm, W, H, br, t.drop p, sv, ?_, rfl, o'⟩⟩
  rw [yes huo, hnm, hk]
 ·have huo : unOk u = false := by
   cases q : unOk u
   ·rfl
   ·exact absurd ((fault_zero u).2 q) hf
  have e := no3 huo
  obtain ⟨x, y, z, rfl⟩ := o.vr.panel3
  simp (disch := omega) [hf]
  refine callW_of (c572 (bn t 1) (bn t 2) qW qH h1) ?_
  rintro _ h1 ⟨rfl, rfl⟩
  try refine ⟨fun e => (by cases e), ?_⟩
  rw [ep]
  have s4 := slice_from (h := h1) (s := t) (a := p) (by omega)
  simp (disch := omega) [s4, hf, resOf, resAll, resOne, aField]
  exact ⟨g1, .inl ⟨e, _, _, _, _, _, rfl⟩⟩
def Names255 (X : Lib) : Prop := ∀ e ∈ X, e.1.length ≤ 255
def IsS (v : Value) (u : List UInt8) : Prop := v = S u
theorem oneP_len {more : Nat} {r t : List UInt8} {k : Kpt} (h : oneP more r = some (k, t)) : t.length + 5 ≤ r.length ∧ k.1.length ≤ 255 := by
 obtain ⟨h1, h2⟩ := oneP_sound h
 refine ⟨?_, h2⟩
 rw [h1]
 have : 5 ≤ (packP k.2).length := by rw [packP_len']; omega
 simp only [packE, List.length_append, List.length_cons]; omega
theorem parK_snoc {more : Nat} : ∀ {n : Nat} {r u t : List UInt8} {X : Lib} {k : Kpt}, parK more n r = some (X, u) → oneP more u = some (k, t) → parK more (n + 1) r = some (X ++ [k], t)
 | 0, r, u, t, X, k, h, h1 => by
  simp only [parK, Option.some.injEq, Prod.mk.injEq] at h
  obtain ⟨rfl, rfl⟩ := h
  simp [parK, h1]
 | n + 1, r, u, t, X, k, h, h1 => by
  rw [parK] at h ⊢
  split at h
  ·cases h
  ·rename_i a b hk
   obtain ⟨p, hp, e⟩ := Option.map_eq_some_iff.1 h
   obtain ⟨Y, v⟩ := p
   simp only [Prod.mk.injEq] at e
   obtain ⟨rfl, rfl⟩ := e
   try simp only
   rw [parK_snoc hp h1]
   rfl
theorem parK_stop {more : Nat} : ∀ {n m : Nat} {r u : List UInt8} {X : Lib}, parK more n r = some (X, u) → oneP more u = none → n < m → parK more m r = none
 | n, 0, _, _, _, _, _, h => by omega
 | 0, m + 1, r, u, X, h, h1, _ => by
  simp only [parK, Option.some.injEq, Prod.mk.injEq] at h
  obtain ⟨rfl, rfl⟩ := h
  simp [parK, h1]
 | n + 1, m + 1, r, u, X, h, h1, hm => by
  rw [parK] at h ⊢
  split at h
  ·cases h
  ·rename_i a b hk
   obtain ⟨p, hp, e⟩ := Option.map_eq_some_iff.1 h
   obtain ⟨Y, v⟩ := p
   simp only [Prod.mk.injEq] at e
   obtain ⟨rfl, rfl⟩ := e
   try simp only
   rw [parK_stop hp h1 (by omega)]
   rfl
theorem c425 (h : Heap) (hp : 0 < h.length) (s : List UInt8) (hs : s.length ≤ 1048576) : ACall Gam 425 [S s] h fun r h' => Grows h h' ∧ ∃ r0, r = .tuple #[r0, I (unpackK s).2] ∧ Vo h' h.length h'.length shKepts r0 (unpackK s).1 ∧ siz shKepts (unpackK s).1 ≤ 16777216 := by
 have hsz := unpackK_siz s
 have vo0 : ∀ {h' : Heap}, Vo h' h.length h'.length shKepts (sl 0 0 0 0) ([] : Lib) := Vo.no_kepts
 refine ACall_intro g425 rfl ?_
 unfold fn425
 by_cases h4 : s.length < 4
 ·have e : unpackK s = ([], 8) := unpackK_no fun X ok e => by rw [← e, packK_len] at h4; omega
  rw [e] at hsz ⊢
  have h4' : (s.length : Int) < 4 := by omega
  simp (disch := omega) [h4, h4']
  exact ⟨Grows.refl _, vo0, hsz⟩
 have h4' : ¬ (s.length : Int) < 4 := by omega
 obtain ⟨z1, z2⟩ := bn_at (show 0 < s.length by omega)
 obtain ⟨y1, y2⟩ := bn_at (show 1 < s.length by omega)
 have i0 : (0 : Int) < s.length := by omega
 have i0' : 0 < s.length := by omega
 have i1 : (1 : Int) < s.length := by omega
 have i1' : 1 < s.length := by omega
 have t1 := bn_lt s 1
 by_cases h0 : bn s 0 = 76
 rotate_left
 ·have e : unpackK s = ([], 8) := unpackK_no fun X ok e => h0 (by rw [← e]; exact (bn_packK (keptOk_iff.1 ok).len).1)
  rw [e] at hsz ⊢
  have h0' : ¬ (bn s 0 : Int) = 76 := by omega
  simp (disch := omega) [h4, h4', i0, i0', z1, z2, h0, h0']
  exact ⟨Grows.refl _, vo0, hsz⟩
 simp (disch := omega) [h4, h4', i0, i0', z1, z2, h0]
 refine callW_of (c566 h s (by omega) hs) ?_
 rintro _ h ⟨rfl, rfl⟩
 try refine ⟨fun e => (by cases e), ?_⟩
 cases q : sumOk s
 ·have e : unpackK s = ([], 8) := unpackK_no fun X ok e => by
   have := ended_sum ([76, byteI X.length] ++ packBodyK X)
   rw [← e] at q
   unfold packK at q
   rw [q] at this; cases this
  rw [e] at hsz ⊢
  simp (disch := omega)
  exact ⟨Grows.refl _, vo0, hsz⟩
 obtain ⟨m, hm⟩ : ∃ m, m = s.length - 2 := ⟨_, rfl⟩
 have em : (s.length : Int) - 2 = (m : Int) := by omega
 have s1 := slice_text (h := h) (s := s) (a := 2) (b := m) (by omega) (by omega)
 have s1' : aSlice 0 h (S s) (some (I 2)) (some (I m)) none = some (S ((s.take m).drop 2), h) := s1
 obtain ⟨r0, hr0⟩ : ∃ r0, r0 = (s.take m).drop 2 := ⟨_, rfl⟩
 rw [← hr0] at s1'
 have hr0l : r0.length ≤ s.length := by rw [hr0]; simp; omega
 simp (disch := omega) [em, s1', i1, i1', y1, y2, wrap64]
 obtain ⟨n, hn⟩ : ∃ n, n = bn s 1 := ⟨_, rfl⟩
 rw [← hn] at t1 ⊢
 -- what the bytes are, if they are those of a library
 have hpar : ∀ X, keptOk X = true → packK X = s → parK 0 n r0 = some (X, []) := fun X ok e => by
  have := parK_spec (keptOk_iff.1 ok)
  rw [e, ← hm, ← hr0, ← hn] at this
  exact this
 refine awp_loop (fun (k : Nat) σ h' => k ≤ n ∧ Grows h h' ∧ σ 6 = I ((n : Int) - k) ∧ ∃ u R X, IsS (σ 5) u ∧ u.length ≤ r0.length ∧ RowsOf R X ∧ parK 0 k r0 = some (X, u) ∧ Names255 X ∧ KB h h' (σ 4) R) (fun k => n - k) 0 ?_ ?_
 ·exact ⟨by omega, Grows.refl _, by simp, r0, [], [], by simp [IsS], by omega, rfl, rfl, by simp [Names255], by simpa using KB.nil⟩
 ·rintro k σ h2 ⟨hk, g, q6, u, R, X, q5, hul, hR, hX, hsm, kb⟩
  have q5 : σ 5 = S u := q5
  have l2 := g.le
  have hXl := (parK_sound hX).2
  have hRl : R.length = k := by
   have h2 : _ = _ := congrArg List.length (show R.map (·.1) = X from hR)
   simp at h2; omega
  simp (disch := omega) [q6]
  refine fork_dec (fun hlt => ?_) (fun hge => ?_)
  ·have k1 : k < n := by omega
   simp (disch := omega) [q5]
   refine callW_of (c570 h2 (by omega) u (by omega)) ?_
   rintro _ h3 ⟨g3, hone⟩
   have l3 := g3.le
   rcases hone with ⟨e, a, b, c, d, t, rfl⟩ | ⟨nm, W, H, br, t, sv, e, rfl, o⟩
   ·have hno : unpackK s = ([], 8) := unpackK_no fun Y ok eY => by
     have := hpar Y ok eY
     rw [parK_stop hX e k1] at this
     cases this
    rw [hno] at hsz ⊢
    try refine ⟨fun e => (by first | exact g3 | cases e), ?_⟩
    simp (disch := omega)
    exact ⟨g.trans g3, vo0, hsz⟩
   ·try refine ⟨fun e => (by first | exact g3 | cases e), ?_⟩
    have hle := oneP_len e
    simp only at hle
    simp (disch := omega)
    refine kb_snoc hp kb g g3 o (n := nm) (by rw [maxLen_eq]; omega) (by omega) fun v' h5 r g5 kb5 hr => ?_
    simp (disch := omega) [q6, wrap64]
    refine ⟨k + 1, ⟨by omega, g5, by omega, t, rfl, by omega, R ++ [r], X ++ [(nm, (W, H, br))], hR.snoc hr, parK_snoc hX e, ?_, kb5⟩, by omega⟩
    intro e' he'
    rcases List.mem_append.1 he' with he' | he'
    ·exact hsm e' he'
    ·simp at he'; subst he'; exact hle.2
  ·have ek : k = n := by omega
   subst ek
   obtain ⟨bk, ebk, hK⟩ := kb.kat (by omega)
   rw [show R.map (·.1) = X from hR] at hK
   have hXR : R.length = X.length := by omega
   by_cases hu : u = []
   rotate_left
   ·have hno : unpackK s = ([], 8) := unpackK_no fun Y ok eY => by
     have := hpar Y ok eY
     rw [hX] at this
     injection this with this
     injection this with _ this
     exact hu this
    rw [hno] at hsz ⊢
    simp (disch := omega) [q5, hu]
    exact ⟨g, vo0, hsz⟩
   ·have cc := c541 h2 (by omega) bk 0 4 X hK fun i hi => by have := hsm _ (List.getElem_mem hi); omega
    rw [hXR] at ebk
    simp (disch := omega) [q5, hu, ebk]
    refine callW_of cc ?_
    rintro _ h3 ⟨rfl, g3⟩
    try refine ⟨fun e => (by first | exact g3 | cases e), ?_⟩
    subst hu
    cases qk : keptOk X
    ·have hno : unpackK s = ([], 8) := unpackK_no fun Y ok eY => by
      have := hpar Y ok eY
      rw [hX] at this
      injection this with this
      injection this with this _
      rw [this, ok] at qk; cases qk
     rw [hno] at hsz ⊢
     simp (disch := omega)
     exact ⟨g.trans g3, vo0, hsz⟩
    ·have hpk : packK X = s := spec_yes (by omega) h0 q (by rw [← hm, ← hr0, ← hn]; exact hX) qk
     have hyes : unpackK s = (X, 0) := by rw [← hpk]; exact unpackK_yes qk
     rw [hyes] at hsz ⊢
     simp (disch := omega) [ebk]
     have vo := (kb.grow g3).vo (by rw [maxLen_eq]; omega)
     rw [ebk, show R.map (·.1) = X from hR] at vo
     exact ⟨g.trans g3, vo, hsz⟩
def Wide (X : Lib) : Prop := ∀ e ∈ X, e.1.length ≤ 255 ∧ e.2.2.2.length ≤ 128
def IsI (v : Value) (a : Nat) : Prop := v = I a
theorem wide_siz {X : Lib} {n m : Nat} (hl : X.length ≤ n) (hs : ∀ y ∈ X, y.1.length ≤ 255 ∧ y.2.2.2.length ≤ 128) : siz shKepts X ≤ 400 * n := by
 have key : ∀ Y : Lib, (∀ y ∈ Y, y.1.length ≤ 255 ∧ y.2.2.2.length ≤ 128) → Y.length + sizL Y ≤ 400 * Y.length := by
  intro Y
  induction Y with
  | nil => intro _; simp [sizL]
  | cons y Y ih =>
   intro hy
   have h1 := ih fun z hz => hy z (by simp [hz])
   obtain ⟨a, b⟩ := hy y (by simp)
   have h3 : siz shKept y = y.1.length + y.2.2.2.length := siz_kept _ _ _ _
   have h4 : sizL (y :: Y) = siz shKept y + sizL Y := by simp [sizL]
   rw [h4, h3]
   simp only [List.length_cons]; omega
 have := key X hs
 rw [siz_kepts]; omega
theorem unRes_of {u : List UInt8} (h : unOk u = true) : unRes u = unP u ∧ OkP (unP u) := by
 unfold unOk at h
 simp only [Bool.and_eq_true] at h
 have hl := h.1
 unfold unRes
 rw [if_pos hl]
 unfold lenOk at hl
 simp only [Bool.and_eq_true, decide_eq_true_eq] at hl
 exact ⟨rfl, unP_ok hl.2.1⟩
theorem bn_drop (s : List UInt8) (a i : Nat) : bn (s.drop a) i = bn s (a + i) := by
 unfold bn; rw [List.getD_eq_getElem?_getD, List.getElem?_drop, ← List.getD_eq_getElem?_getD]
/-- What the program reads out of bytes. -/
def Unpacked (s : List UInt8) (X : Lib) : Prop := (∃ t, parK 2 (bn s 1) (s.drop 2) = some (X, t)) ∨ (X = [] ∧ ∀ Y, keptOk Y = true → packK Y ≠ s)
theorem c194 (h : Heap) (hp : 0 < h.length) (s : List UInt8) (hs : s.length ≤ 1048576) : ACall Gam 194 [S s] h fun r h' => Grows h h' ∧ ∃ X, Vo h' h.length h'.length shKepts r X ∧ siz shKepts X ≤ 1048576 ∧ Unpacked s X := by
 have vo0 : ∀ {h' : Heap}, Vo h' h.length h'.length shKepts (sl 0 0 0 0) ([] : Lib) := Vo.no_kepts
 have s0 : siz shKepts ([] : Lib) ≤ 1048576 := by rw [siz_kepts]; simp [sizL]
 have out : ∀ {r : Value} {h' : Heap}, r = sl 0 0 0 0 → Grows h h' → (∀ Y, keptOk Y = true → packK Y ≠ s) → Grows h h' ∧ ∃ X, Vo h' h.length h'.length shKepts r X ∧ siz shKepts X ≤ 1048576 ∧ Unpacked s X := by
  rintro r h' rfl g no
  exact ⟨g, [], vo0, s0, .inr ⟨rfl, no⟩⟩
 refine ACall_intro g194 rfl ?_
 unfold fn194
 by_cases h2 : s.length < 2
 ·have h2' : (s.length : Int) < 2 := by omega
  simp (disch := omega) [h2, h2']
  exact out rfl (Grows.refl _) fun X ok e => by rw [← e, packK_len] at h2; omega
 have h2' : ¬ (s.length : Int) < 2 := by omega
 obtain ⟨y1, y2⟩ := bn_at (show 1 < s.length by omega)
 have i1 : (1 : Int) < s.length := by omega
 have i1' : 1 < s.length := by omega
 have t1 := bn_lt s 1
 by_cases h40 : 40 < bn s 1
 ·have h40' : (40 : Int) < (bn s 1 : Int) := by omega
  simp (disch := omega) [h2, h2', i1, i1', y1, y2, h40, h40']
  exact out rfl (Grows.refl _) fun X ok e => by
   have := (bn_packK (keptOk_iff.1 ok).len).2
   have := (keptOk_iff.1 ok).len
   rw [e] at *
   omega
 have h40' : ¬ (40 : Int) < (bn s 1 : Int) := by omega
 simp (disch := omega) [h2, h2', i1, i1', y1, y2, h40, h40']
 obtain ⟨n, hn⟩ : ∃ n, n = bn s 1 := ⟨_, rfl⟩
 rw [← hn] at t1 h40 ⊢
 have hpar : ∀ X, keptOk X = true → packK X = s → ∃ t, parK 2 n (s.drop 2) = some (X, t) := fun X ok e => by
  have := parK_impl (keptOk_iff.1 ok)
  rw [e, ← hn] at this
  exact this
 have outn : ∀ {r : Value} {h' : Heap}, r = sl 0 0 0 0 → Grows h h' → parK 2 n (s.drop 2) = none → Grows h h' ∧ ∃ X, Vo h' h.length h'.length shKepts r X ∧ siz shKepts X ≤ 1048576 ∧ Unpacked s X := fun e1 e2 e3 => out e1 e2 fun Y ok eY => by
  obtain ⟨t, q⟩ := hpar Y ok eY
  rw [e3] at q; cases q
 refine awp_loop (fun (k : Nat) σ h' => k ≤ n ∧ Grows h h' ∧ σ 0 = S s ∧ σ 20 = U n ∧ σ 21 = U k ∧ ∃ (at_ : Nat) (R : List Row) (X : Lib), at_ ≤ s.length ∧ IsI (σ 4) at_ ∧ RowsOf R X ∧ parK 2 k (s.drop 2) = some (X, s.drop at_) ∧ Wide X ∧ KB h h' (σ 3) R) (fun k => n - k) 0 ?_ ?_
 ·exact ⟨by omega, Grows.refl _, by simp, by simp, by simp, 2, [], [], by omega, by simp [IsI], rfl, rfl, by simp [Wide], by simpa using KB.nil⟩
 ·rintro k σ h1 ⟨hk, g, q0, q20, q21, a, R, X, ha, q4, hR, hX, hsm, kb⟩
  have q4 : σ 4 = I a := q4
  have l1 := g.le
  have hXl := (parK_sound hX).2
  have hRl : R.length = k := by
   have h2 : _ = _ := congrArg List.length (show R.map (·.1) = X from hR)
   simp at h2; omega
  simp (disch := omega) [q20, q21]
  refine fork_dec (fun hlt => ?_) (fun hge => ?_)
  ·have k1 : k < n := by omega
   obtain ⟨r, hr⟩ : ∃ r, r = s.drop a := ⟨_, rfl⟩
   rw [← hr] at hX
   have hrl : r.length = s.length - a := by rw [hr, List.length_drop]
   have stop : oneP 2 r = none → parK 2 n (s.drop 2) = none := fun e => parK_stop hX e k1
   by_cases ha2 : s.length ≤ a
   ·have e := oneP_no1 (more := 2) (r := r) (by omega)
    have ha2' : (s.length : Int) ≤ (a : Int) := by omega
    simp (disch := omega) [q0, q4, ha2, ha2']
    exact outn rfl g (stop e)
   have ha2' : ¬ (s.length : Int) ≤ (a : Int) := by omega
   obtain ⟨x1, x2⟩ := bn_at (show a < s.length by omega)
   have ia : (a : Int) < s.length := by omega
   have ia' : a < s.length := by omega
   have tb := bn_lt s a
   have eb : bn r 0 = bn s a := by rw [hr, bn_drop]; rfl
   obtain ⟨f, hf⟩ : ∃ f, f = a + 1 := ⟨_, rfl⟩
   have ef : (a : Int) + 1 = (f : Int) := by omega
   obtain ⟨c, hc⟩ : ∃ c, c = f + bn s a := ⟨_, rfl⟩
   have ec : (f : Int) + (bn s a : Int) = (c : Int) := by omega
   by_cases h5 : s.length < c + 5
   ·have e := oneP_no1 (more := 2) (r := r) (by omega)
    have h5' : (s.length : Int) < (c : Int) + 5 := by omega
    simp (disch := omega) [q0, q4, ha2, ha2', ia, ia', x1, x2, ef, ec, h5, h5', wrap64]
    exact outn rfl g (stop e)
   have h5' : ¬ (s.length : Int) < (c : Int) + 5 := by omega
   obtain ⟨t, ht⟩ : ∃ t, t = s.drop c := ⟨_, rfl⟩
   have htl : t.length = s.length - c := by rw [ht, List.length_drop]
   have et : t = r.drop (bn r 0 + 1) := by rw [eb, ht, hr, List.drop_drop]; congr 1; omega
   have e1 : (c : Int) + 1 = ((c + 1 : Nat) : Int) := by omega
   have e2 : (c : Int) + 2 = ((c + 2 : Nat) : Int) := by omega
   obtain ⟨u1, hu1⟩ : ∃ u, u = c + 1 := ⟨_, rfl⟩
   obtain ⟨u2, hu2⟩ : ∃ u, u = c + 2 := ⟨_, rfl⟩
   rw [← hu1] at e1
   rw [← hu2] at e2
   obtain ⟨a1, a2⟩ := bn_at (show u1 < s.length by omega)
   obtain ⟨b1, b2⟩ := bn_at (show u2 < s.length by omega)
   have j1 : (u1 : Int) < s.length := by omega
   have j1' : u1 < s.length := by omega
   have j2 : (u2 : Int) < s.length := by omega
   have j2' : u2 < s.length := by omega
   have w1 := bn_lt s u1
   have w2 := bn_lt s u2
   have f1 : bn t 1 = bn s u1 := by rw [ht, bn_drop, hu1]
   have f2 : bn t 2 = bn s u2 := by rw [ht, bn_drop, hu2]
   simp (disch := omega) [q0, q4, ha2, ha2', ia, ia', x1, x2, ef, ec, h5, h5', e1, e2, j1, j1', j2, j2', a1, a2, b1, b2, wrap64]
   refine callW_of (c198 (bn s u1) (bn s u2) h1) ?_
   rintro _ h1 ⟨rfl, rfl⟩
   try refine ⟨fun e => (by cases e), ?_⟩
   have no2 := fun e => oneP_no2 (more := 2) et e
   have no3 := fun e => oneP_no3 (more := 2) et e
   have yes := fun e1 e2 => oneP_yes (more := 2) et (by omega) e1 e2
   rw [f1, f2] at no2 no3 yes
   cases q : okSz (bn s u1) (bn s u2)
   ·have e := no2 (.inl q)
    simp (disch := omega)
    exact outn rfl g (stop e)
   obtain ⟨qW, qH⟩ := okSz_iff.1 q
   have hi := inner_bd qW qH
   have hps : packSize (bn s u1) (bn s u2) = 5 + (inner (bn s u1) (bn s u2) + 4) / 5 := rfl
   have s1 := slice_text (h := h1) (s := s) (a := f) (b := c) (by omega) (by omega)
   obtain ⟨nm, hnm⟩ : ∃ nm, nm = (s.take c).drop f := ⟨_, rfl⟩
   rw [← hnm] at s1
   have enm : nm = (r.take (bn r 0 + 1)).drop 1 := by
    rw [hnm, eb, hr, List.take_drop, List.drop_drop]
    congr 2
    omega
   simp (disch := omega) [q0, s1, e1, e2, j1, j1', j2, j2', a1, a2, b1, b2, wrap64]
   refine callW_of (c181 (bn s u1) (bn s u2) qW qH h1) ?_
   rintro _ h1 ⟨rfl, rfl⟩
   try refine ⟨fun e => (by cases e), ?_⟩
   obtain ⟨p, ep⟩ := Int.eq_ofNat_of_zero_le (show 0 ≤ packSize (bn s u1) (bn s u2) by omega)
   rw [ep] at no2 no3 yes ⊢
   simp only [Int.toNat_natCast] at no3 yes
   obtain ⟨en, hen⟩ : ∃ en, en = c + p := ⟨_, rfl⟩
   have een : (c : Int) + (p : Int) = (en : Int) := by omega
   by_cases h6 : s.length < en
   ·have e := no2 (.inr (by omega))
    have h6' : (s.length : Int) < (en : Int) := by omega
    simp (disch := omega) [een, h6, h6', wrap64]
    exact outn rfl g (stop e)
   have h6' : ¬ (s.length : Int) < (en : Int) := by omega
   have s2 := slice_text (h := h1) (s := s) (a := c) (b := en) (by omega) (by omega)
   obtain ⟨u, hu⟩ : ∃ u, u = t.take p := ⟨_, rfl⟩
   have eu : (s.take en).drop c = u := by rw [hu, ht, List.take_drop, hen]
   rw [eu] at s2
   rw [← hu] at no3 yes
   have hul : u.length ≤ s.length := by rw [hu, List.length_take]; omega
   simp (disch := omega) [q0, een, h6, h6', s2, wrap64]
   refine callW_of (c195 h1 (by omega) u (by omega)) ?_
   rintro _ h3 ⟨g3, r0, rfl, o⟩
   try refine ⟨fun e => (by first | exact g3 | cases e), ?_⟩
   have l3 := g3.le
   cases qu : unOk u
   ·have e := no3 qu
    obtain ⟨x, y, z, rfl⟩ := o.vr.panel3
    simp (disch := omega)
    exact outn rfl (g.trans g3) (stop e)
   ·obtain ⟨er, okU⟩ := unRes_of qu
    have e := yes (by rw [q]; rintro (q | q); cases q; omega) qu
    rw [er] at o
    have hsz := okU.siz
    obtain ⟨P, hP⟩ : ∃ P, P = unP u := ⟨_, rfl⟩
    rw [← hP] at o e hsz
    obtain ⟨W, H, br⟩ := P
    have o' := o
    obtain ⟨sv, rfl, _, _, _⟩ := o.panel
    have hle := oneP_len e
    rw [← enm] at e hle
    simp only at hle hsz
    have edr : t.drop p = s.drop en := by rw [ht, List.drop_drop, hen]
    rw [edr] at e
    simp (disch := omega)
    refine kb_snoc hp kb g g3 o' (n := nm) (by rw [maxLen_eq]; omega) (by omega) fun v' h5 rw_ g5 kb5 hrw => ?_
    simp (disch := omega) [q0, q20, q21, wrap8]
    refine ⟨k + 1, ⟨by omega, g5, by omega, en, by omega, rfl, R ++ [rw_], X ++ [(nm, (W, H, br))], hR.snoc hrw, parK_snoc hX e, ?_, kb5⟩, by omega⟩
    intro e' he'
    rcases List.mem_append.1 he' with he' | he'
    ·exact hsm e' he'
    ·simp at he'; subst he'; exact ⟨hle.2, hsz⟩
  ·have ek : k = n := by omega
   subst ek
   obtain ⟨bk, ebk⟩ := kb.len
   have vo := kb.vo (by rw [maxLen_eq]; omega)
   rw [show R.map (·.1) = X from hR] at vo
   rw [ebk] at vo
   have := wide_siz (n := 40) (m := 0) (by omega) hsm
   simp (disch := omega) [ebk]
   exact ⟨g, X, vo, by omega, .inl ⟨_, by rw [← hn]; exact hX⟩⟩
theorem c135 (h : Heap) (hp : 0 < h.length) (s : List UInt8) (hs : s.length ≤ 1048576) : ACall Gam 135 [S s] h fun r h' => Grows h h' ∧ ∃ r0, r = .tuple #[r0, I (unpackK s).2] ∧ Vo h' h.length h'.length shKepts r0 (unpackK s).1 ∧ siz shKepts (unpackK s).1 ≤ 16777216 := by
 have hsz := unpackK_siz s
 have vo0 : ∀ {h' : Heap}, Vo h' h.length h'.length shKepts (sl 0 0 0 0) ([] : Lib) := Vo.no_kepts
 refine ACall_intro g135 rfl ?_
 unfold fn135
 simp (disch := omega)
 refine callW_of (c194 h hp s hs) ?_
 rintro v h1 ⟨g1, X, o, sz, hu⟩
 try refine ⟨fun e => (by first | exact g1 | cases e), ?_⟩
 have l1 := g1.le
 obtain ⟨b, o', z, e, hK⟩ := o.vr.kat
 subst e
 try simp (disch := omega)
 refine callW_of (c106 h1 (by omega) _ X o.vr sz) ?_
 rintro _ h2 ⟨g2, rfl⟩
 try refine ⟨fun e => (by first | exact g2 | cases e), ?_⟩
 have l2 := g2.le
 cases qk : keptOk X
 ·have e1 : packAnsK X = ([], 1) := by unfold packAnsK; rw [qk]; rfl
  have hno : unpackK s = ([], 8) := unpackK_no fun Y ok eY => by
   rcases hu with ⟨t, q⟩ | ⟨_, q⟩
   ·have := parK_impl (keptOk_iff.1 ok)
    rw [eY, q] at this
    obtain ⟨t', this⟩ := this
    injection this with this
    injection this with this _
    rw [this, ok] at qk; cases qk
   ·exact q Y ok eY
  rw [hno] at hsz ⊢
  rw [e1]
  simp (disch := omega)
  exact ⟨g1.trans g2, vo0, hsz⟩
 ·have e1 : packAnsK X = (packK X, 0) := by unfold packAnsK; rw [qk]; rfl
  by_cases es : packK X = s
  ·have hyes : unpackK s = (X, 0) := by rw [← es]; exact unpackK_yes qk
   rw [hyes] at hsz ⊢
   rw [e1, es]
   simp (disch := omega)
   exact ⟨g1.trans g2, (o.grow g2).wide (Nat.le_refl _) (by omega), hsz⟩
  ·have hno : unpackK s = ([], 8) := unpackK_no fun Y ok eY => by
    rcases hu with ⟨t, q⟩ | ⟨_, q⟩
    ·have := parK_impl (keptOk_iff.1 ok)
     rw [eY, q] at this
     obtain ⟨t', this⟩ := this
     injection this with this
     injection this with this _
     rw [this] at es; exact es eY
    ·exact q Y ok eY
   rw [hno] at hsz ⊢
   rw [e1]
   simp (disch := omega) [es]
   exact ⟨g1.trans g2, vo0, hsz⟩
section
variable {α : Type} {f g : α → α} {V : α → Prop} {ix : Nat → α} {n : Nat}
end
section
variable {α : Type} {f g R : α → α} {seg : α → Nat} {V : α → Prop} {N : Nat} {wk : Nat → α}
end
theorem c443 (h : Heap) (b m : Nat) (hs : Src h b m) (hm : m ≤ 10000000) : ACall Gam 443 [pt b 0] h fun r h' => ∃ P : Pan, P.2.2.length ≤ 200 ∧ Mod b (b + 1) h h' ∧ Vo h' h.length h'.length shPanel r P ∧ Src h' b (m + 1100) := by
 have hb : b < h.length := by
  obtain ⟨_, _, _, _, _, _, e, _⟩ := hs
  exact at_lt e
 refine ACall_intro g443 rfl ?_
 unfold fn443
 rw [awp_seq, awp_reg]
 generalize hK : seqQ Gam _ _ 0 = K
 simp (disch := omega)
 subst hK
 simp only [seqQ_zero]
 rw [awp_seq, awp_reg]
 generalize hK : seqQ Gam _ _ 0 = K
 simp (disch := omega)
 refine callW_of (c445s h b m 5 hs (by omega) (by omega)) ?_
 rintro _ h1 ⟨⟨W, H, br⟩, bb, ok, w5, h5, md1, rfl, hbb, lb1, lb2, hs1⟩
 have okw : 1 ≤ W ∧ W ≤ 8 := ok.w
 have okh : 1 ≤ H ∧ H ≤ 8 := ok.h
 have okb : ∀ x ∈ br, 0 ≤ x ∧ x ≤ 2 := ok.b
 have w64 : I64 W := by unfold I64; omega
 have h64 : I64 H := by unfold I64; omega
 have hbb : h1[bb]? = some ⟨ints br, true⟩ := hbb
 have br64 : ∀ x ∈ br, I64 x := fun x hx => by have := okb x hx; unfold I64; omega
 have o1 : Vo h1 h.length h1.length shInts (sl bb 0 br.length 1) br := Vo.of_ints (.inl rfl) (by rw [maxLen_eq]; have := ok_len ok; omega) br64 (.inr ⟨hbb, lb1, lb2⟩)
 have hbl := ok_len ok
 have L1 := md1.1
 have bbb : b < bb := by omega
 simp (disch := omega)
 subst hK
 simp only [seqQ_zero]
 rw [awp_seq]
 generalize hK : seqQ Gam _ _ = K
 have tail : ∀ (σ : Nat → Value) (h3 : Heap) (W H : Int) (br : List Int) (s : Value), σ 3 = .agg #[I W, I H, s] → σ 2 = .agg #[I 0, I 0, sl 0 0 0 0] → I64 W → I64 H → br.length ≤ 200 → Mod b (b + 1) h h3 → Vo h3 h.length h3.length shInts s br → Src h3 b (m + 1100) → K 0 σ h3 := by
  intro σ h3 W H br s q3 q2 w64 h64 hl md ov hs3
  obtain ⟨bb, zz, e, _⟩ := ov.ints
  subst hK
  simp only [seqQ_zero]
  subst e
  simp (disch := omega) [q3, q2, resOf, resAll, resOne, aField]
  exact ⟨W, H, br, hl, md, Vo.of_panel w64 h64 ov, hs3⟩
 clear hK
 rw [awp_seq, awp_reg]
 generalize hA : seqQ Gam _ _ 0 = A
 simp (disch := omega)
 refine callW_of (c7 h1 b _ 20 hs1 (by omega) (by unfold I64; omega)) ?_
 rintro _ h2 ⟨k, rfl, _, k2, md2, l2, hs2⟩
 have o2 := o1.mod md2 (by omega)
 simp (disch := omega)
 subst hA
 simp only [seqQ_zero]
 rw [awp_block]
 have tail' : ∀ (σ : Nat → Value) (h3 : Heap) (W H : Int) (br : List Int) (s : Value), σ 3 = .agg #[I W, I H, s] → σ 2 = .agg #[I 0, I 0, sl 0 0 0 0] → I64 W → I64 H → br.length ≤ 200 → Mod b (b + 1) h h3 → Vo h3 h.length h3.length shInts s br → Src h3 b (m + 1100) → blockQ 0 K 0 σ h3 := by
  intro σ h3 W H br s q3 q2 w64 h64 hl md ov hs3
  rw [blockQ_eq, if_neg (by omega)]
  exact tail σ h3 W H br s q3 q2 w64 h64 hl md ov hs3
 clear tail
 generalize blockQ 0 K = B1 at tail' ⊢
 by_cases e0 : k = 0
 ·subst e0
  simp (disch := omega) [aBuildSlice]
  obtain ⟨h3, e3⟩ : ∃ h3, h3 = h2 ++ [⟨ints [0, 8, 9, -9223372036854775808], true⟩] := ⟨_, rfl⟩
  have g3 : Grows h2 h3 := ⟨_, e3⟩
  simp only [ints, List.map_cons, List.map_nil] at e3
  rw [← e3]
  refine callW_of (c4 h3 b _ h2.length [0, 8, 9, -9223372036854775808] (hs2.grow g3) (by omega) (by rw [e3]; simp [ints]) (by omega) (by simp) (by simp)) ?_
  rintro _ h4 ⟨x, hx', rfl, md4, l4, hs4⟩
  have x64 : I64 x := by simp at hx'; unfold I64; omega
  have L3 := g3.le
  simp (disch := omega)
  exact tail' _ h4 x H br _ (by simp) (by simp) x64 h64 (by omega) (((md1.trans md2).trans g3.mod).trans md4) (((o2.grow g3).mod md4 (by omega)).wide (Nat.le_refl _) (by omega)) (hs4.mono (by omega))
 by_cases e1 : k = 1
 ·subst e1
  have hb2 : h2[bb]? = some ⟨ints br, true⟩ := by rw [md2.2 bb (at_lt hbb) (by omega)]; exact hbb
  have eb : aBuildSlice 1 1 h2 [(0, .agg #[I 0]), (1, I 0)] = some (sl h2.length 0 1 1, h2 ++ [⟨[I 0], true⟩]) := by simp [aBuildSlice]
  simp (disch := omega) [eb]
  obtain ⟨h3, e3⟩ : ∃ h3, h3 = h2 ++ [⟨[I 0], true⟩] := ⟨_, rfl⟩
  have g3 : Grows h2 h3 := ⟨_, e3⟩
  rw [← e3]
  have hb3 := g3.at hb2
  have hn3 : h3[h2.length]? = some ⟨[I 0], true⟩ := by rw [e3]; simp
  have l3 : h3.length = h2.length + 1 := by rw [e3]; simp
  have hbl2 : bb < h2.length := at_lt hb2
  have ea : aAppend 1 h3 (sl h2.length 0 1 1) (sl bb 0 br.length 1) = some (sl h3.length 0 (br.length + 1) 1, h3.set bb ⟨[], false⟩ ++ [⟨ints (br ++ [0]), true⟩]) := by
   have hnew : newCells 1 h3 (sl h2.length 0 1 1) = some [I 0] := by
    simp [newCells]
    rw [cellsAt_of hn3 (by simp)]; simp
   have hold : cellsAt h3 bb 0 (br.length * 1) = some (ints br) := by rw [Nat.mul_one]; exact cellsAt_all hb3 (by simp [ints])
   have hbz : ¬ bb = 0 := by omega
   unfold aAppend
   rw [hnew]
   simp only [hb3, hold]
   rw [if_neg (by omega), if_neg (by simp), if_neg (by simp [maxSize]; omega), if_neg hbz, if_pos (by simp)]
   simp [ints]
  obtain ⟨h4, e4⟩ : ∃ h4, h4 = h3.set bb ⟨[], false⟩ ++ [⟨ints (br ++ [0]), true⟩] := ⟨_, rfl⟩
  rw [← e4] at ea
  have l4 : h4.length = h3.length + 1 := by rw [e4]; simp
  have ho : ∀ c, c < h3.length → c ≠ bb → h4[c]? = h3[c]? := fun c hc hne => by
   rw [e4, List.getElem?_append_left (by simpa using hc)]; exact set_other hne
  have md3 := (md1.trans md2).trans g3.mod
  have md4 : Mod b (b + 1) h h4 := ⟨by have := md3.1; omega, fun c hc hn => by
   rw [ho c (by have := md3.1; omega) (by omega)]
   exact md3.2 c hc hn⟩
  have hs4 : Src h4 b (m + 1100) := ((hs2.grow g3).mono (by omega)).mod (lo := bb) (hi := bb + 1) ⟨by omega, fun c hc hn => ho c hc (by omega)⟩ (by omega)
  have o4 : Vo h4 h.length h4.length shInts (sl h3.length 0 (br ++ [0]).length 1) (br ++ [0]) := Vo.of_ints (.inl rfl) (by rw [maxLen_eq]; simp; omega) (fun x hx => by
   rcases List.mem_append.1 hx with hx | hx
   ·exact br64 x hx
   ·simp at hx; subst hx; unfold I64; omega) (.inr ⟨by rw [e4, List.getElem?_append_right (by simp)]; simp, by have := md3.1; omega, by omega⟩)
  have el : (br ++ [0]).length = br.length + 1 := by simp
  rw [el] at o4
  simp (disch := omega) [ea]
  exact tail' _ h4 W H (br ++ [0]) _ (by simp) (by simp) w64 h64 (by omega) md4 o4 hs4
 by_cases e2 : k = 2
 ·subst e2
  simp (disch := omega)
  refine fork_dec (fun hq => ?_) (fun hq => ?_)
  ·have hq : 0 < br.length := by omega
   have hne : br ≠ [] := by intro e; rw [e] at hq; simp at hq
   have hb2 : h2[bb]? = some ⟨ints br, true⟩ := by rw [md2.2 bb (at_lt hbb) (by omega)]; exact hbb
   simp (disch := omega)
   refine callW_of (c7 h2 b _ br.length hs2 (by omega) (by unfold I64; omega)) ?_
   rintro _ h3 ⟨x, rfl, x1, x2, md3, l3, hs3⟩
   have hx' : x < br.length := by
    by_cases q1 : br.length = 1
    ·have := x1 (by omega); omega
    ·have := x2 (by omega); omega
   have hb3 : h3[bb]? = some ⟨ints br, true⟩ := by rw [md3.2 bb (at_lt hb2) (by omega)]; exact hb2
   simp (disch := omega) [aBuildSlice]
   obtain ⟨h4, e4⟩ : ∃ h4, h4 = h3 ++ [⟨ints [-1, 2, 3], true⟩] := ⟨_, rfl⟩
   have g4 : Grows h3 h4 := ⟨_, e4⟩
   simp only [ints, List.map_cons, List.map_nil] at e4
   rw [← e4]
   refine callW_of (c4 h4 b _ h3.length [-1, 2, 3] (hs3.grow g4) (by omega) (by rw [e4]; simp [ints]) (by omega) (by simp) (by simp)) ?_
   rintro _ h5 ⟨y, hy, rfl, md5, l5, hs5⟩
   have y64 : I64 y := by simp at hy; unfold I64; omega
   have L4 := g4.le
   have hb5 : h5[bb]? = some ⟨ints br, true⟩ := by rw [md5.2 bb (at_lt (g4.at hb3)) (by omega)]; exact g4.at hb3
   have hst := store_int (v := y) hb5 hx'
   obtain ⟨h6, e6⟩ : ∃ h6, h6 = h5.set bb ⟨ints (br.set x y), true⟩ := ⟨_, rfl⟩
   rw [← e6] at hst
   have l6 : h6.length = h5.length := by rw [e6]; simp
   have ho : ∀ c, c ≠ bb → h6[c]? = h5[c]? := fun c hc => by rw [e6]; exact set_other hc
   have md5' := (((md1.trans md2).trans md3).trans g4.mod).trans md5
   have md6 : Mod b (b + 1) h h6 := ⟨by have := md5'.1; omega, fun c hc hn => by rw [ho c (by omega)]; exact md5'.2 c hc hn⟩
   have hs6 : Src h6 b (m + 1100) := (hs5.mono (by omega)).mod (lo := bb) (hi := bb + 1) ⟨by omega, fun c hc hn => ho c (by omega)⟩ (by omega)
   have o6 : Vo h6 h.length h6.length shInts (sl bb 0 (br.set x y).length 1) (br.set x y) := Vo.of_ints (.inl rfl) (by rw [maxLen_eq]; simp; omega) (fun z hz => by
    rcases List.mem_or_eq_of_mem_set hz with hz | hz
    ·exact br64 z hz
    ·rw [hz]; exact y64) (.inr ⟨by rw [e6]; simp [at_lt hb5], lb1, by have := at_lt hb5; omega⟩)
   have el : (br.set x y).length = br.length := by simp
   rw [el] at o6
   have hxl : (x : Int) < br.length := by omega
   simp (disch := omega) [hx', hxl, hst]
   exact tail' _ h6 W H (br.set x y) _ (by simp) (by simp) w64 h64 (by rw [el]; omega) md6 o6 hs6
  ·simp (disch := omega)
   exact tail' _ h2 W H br _ (by simp) (by simp) w64 h64 (by omega) (md1.trans md2) (o2.wide (Nat.le_refl _) (by omega)) (hs2.mono (by omega))
 by_cases e3 : k = 3
 ·subst e3
  simp (disch := omega)
  refine callW_of (c450 h2 8 8 (by omega) (by omega) (by omega)) ?_
  rintro _ h3 ⟨g3, o3⟩
  have L3 := g3.le
  obtain ⟨s', rfl, w64', h64', o3⟩ := o3.panel
  have ol : (List.replicate (inner 8 8).toNat (0 : Int)).length ≤ 200 := by
   have := ok_len (newP_ok (W := 8) (H := 8) (by omega) (by omega))
   omega
  obtain ⟨b3, z3, e3, _⟩ := o3.ints
  subst e3
  simp (disch := omega)
  exact tail' _ h3 8 8 _ _ (by simp) (by simp) w64' h64' ol ((md1.trans md2).trans g3.mod) (o3.wide (by omega) (Nat.le_refl _)) ((hs2.grow g3).mono (by omega))
 have k1 : ((k : Int) = 1) = False := eq_false (by omega)
 have k2' : ((k : Int) = 2) = False := eq_false (by omega)
 have k3 : ((k : Int) = 3) = False := eq_false (by omega)
 simp (disch := omega) [e0, k1, k2', k3]
 exact tail' _ h2 W H br _ (by simp) (by simp) w64 h64 (by omega) (md1.trans md2) (o2.wide (Nat.le_refl _) (by omega)) (hs2.mono (by omega))
theorem text_cells {h : Heap} {b o n z : Nat} {l : List UInt8} (hn : n = l.length) (hc : n = 0 ∨ cellsAt h b o n = some (bytesV l)) : aConv 21 (sl b o n z) h = some (S l, h) := by
 simp only [aConv]
 by_cases h0 : n = 0
 ·subst h0
  have : l = [] := List.length_eq_zero_iff.1 hn.symm
  subst this; simp
 ·simp [h0, hc.resolve_left h0, asInts_bytes]
theorem bytesV_len (l : List UInt8) : (bytesV l).length = l.length := by simp [bytesV]
theorem bytesV_take (l : List UInt8) (n : Nat) : (bytesV l).take n = bytesV (l.take n) := by simp [bytesV, List.map_take]
theorem bytes_part {h : Heap} {b n : Nat} {l : List UInt8} (hb : h[b]? = some ⟨bytesV l, true⟩) (hn : n ≤ l.length) : cellsAt h b 0 n = some (bytesV (l.take n)) := by
 rw [cellsAt_of hb (by simp only; rw [bytesV_len]; omega)]
 simp only [List.drop_zero]
 rw [bytesV_take]
/-- Bytes with their checksum; the bytes may be the head of a longer block. -/
theorem c568p (l m : List UInt8) (hl : l.length ≤ 1048000) (h : Heap) (bb : Nat) (hp : 0 < bb) (hb : h[bb]? = some ⟨bytesV (l ++ m), true⟩) :
  ACall Gam 568 [sl bb 0 l.length 1] h fun r h' => r = S (ended l) ∧ Mod bb (bb + 1) h h' := by
 have hbd := checksum_bd l
 have hpart := bytes_part (n := l.length) hb (by simp)
 rw [List.take_left'] at hpart
 rotate_left
 ·rfl
 refine ACall_intro g568 rfl ?_
 unfold fn568
 have e1 := text_cells (h := h) (b := bb) (o := 0) (z := 1) (l := l) rfl (.inr hpart)
 simp (disch := omega) [e1]
 refine callW_of (c573 l (by omega) h) ?_
 rintro v' h' ⟨rfl, rfl⟩
 try refine ⟨fun e => (by cases e), ?_⟩
 simp (disch := omega) [wrap64, tdiv_pos, tmod_pos]
 rw [two_bytes]
 simp only [bindW_some]
 obtain ⟨c, hc⟩ : ∃ c, c = [byteI (checksum l / 256), byteI (checksum l % 256)] := ⟨_, rfl⟩
 rw [← hc]
 have hcl : c.length = 2 := by rw [hc]; rfl
 obtain ⟨h1, eh1⟩ : ∃ h1, h1 = h' ++ [⟨bytesV c, true⟩] := ⟨_, rfl⟩
 rw [← eh1]
 have hbl := at_lt hb
 have hb1 : h1[bb]? = some ⟨bytesV (l ++ m), true⟩ := by rw [eh1]; exact push_at hb
 have hn1 : h1[h'.length]? = some ⟨bytesV c, true⟩ := by rw [eh1]; simp
 have l1 : h1.length = h'.length + 1 := by rw [eh1]; simp
 have hpart1 := bytes_part (n := l.length) hb1 (by simp)
 rw [List.take_left'] at hpart1
 rotate_left
 ·rfl
 have ea : aAppend 1 h1 (sl h'.length 0 2 1) (sl bb 0 l.length 1) = some (sl h1.length 0 (l.length + 2) 1, h1.set bb ⟨[], false⟩ ++ [⟨bytesV (l ++ c), true⟩]) := by
  have hnew : newCells 1 h1 (sl h'.length 0 2 1) = some (bytesV c) := by
   simp [newCells]
   rw [cellsAt_of hn1 (by simp only; rw [bytesV_len]; omega)]
   simp only [List.drop_zero]
   rw [List.take_of_length_le (by rw [bytesV_len]; omega)]
  have hz : (bytesV c).length = 2 := by rw [bytesV_len, hcl]
  unfold aAppend
  rw [hnew]
  simp only [hb1]
  rw [if_neg (by omega), if_neg (by intro e; rw [e] at hz; simp at hz), if_neg (by simp [maxSize]; omega), if_neg (by omega), if_pos (by simp), Nat.mul_one, hpart1]
  simp [hz, bytesV, hcl]
 obtain ⟨h2, eh2⟩ : ∃ h2, h2 = h1.set bb ⟨[], false⟩ ++ [⟨bytesV (l ++ c), true⟩] := ⟨_, rfl⟩
 rw [← eh2] at ea
 have hn2 : h2[h1.length]? = some ⟨bytesV (l ++ c), true⟩ := by rw [eh2, List.getElem?_append_right (by simp)]; simp
 have e2 := text_cells (h := h2) (b := h1.length) (o := 0) (n := l.length + 2) (z := 1) (l := l ++ c) (by simp [hcl]) (.inr (by
  have := bytes_part (n := l.length + 2) hn2 (by simp [hcl])
  rw [List.take_of_length_le (by simp [hcl])] at this; exact this))
 simp (disch := omega) [ea, e2]
 refine ⟨by rw [hc]; rfl, ?_⟩
 rw [eh2]
 refine ⟨by simp; omega, fun k hk hn => ?_⟩
 rw [List.getElem?_append_left (by simp; omega), set_other (by omega), eh1, List.getElem?_append_left hk]
end Am
