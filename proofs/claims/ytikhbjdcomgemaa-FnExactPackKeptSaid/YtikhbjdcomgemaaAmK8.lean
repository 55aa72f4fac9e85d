/- Contracts: AmY16, AmY17, AmY18, AmY19. -/
import Derived.Test.YtikhbjdcomgemaaAmK7
/-! AmY16 -/
set_option linter.unusedVariables false
set_option linter.unusedSimpArgs false
set_option maxHeartbeats 4000000
set_option maxRecDepth 4000
namespace Am
open Go

def kW (y : Kpt) : Nat := 3 + y.2.2.2.length
def kM (y : Kpt) (k : Nat) : Kpt := (markOf k, ((k + 1 : Nat) : Int), ((k + 2 : Nat) : Int), nums (k + 3) y.2.2.2.length)
def kMs : Lib → Nat → Lib
  | [], _ => []
  | y :: l, k => kM y k :: kMs l (k + kW y)
theorem cnt_kept (y : Kpt) : cnt shKept y = kW y := by
  show 1 + (1 + (1 + (y.2.2.2.map fun _ => 1).sum)) = _
  rw [sum_one]; unfold kW; omega
theorem cvd_kepts (X : Lib) : cvd shKepts X = (X.map kW).sum := by
  show (X.map fun y => cnt shKept y).sum = _
  congr 1
  exact List.map_congr_left fun y _ => cnt_kept y
theorem mkd_kept (y : Kpt) (k : Nat) : mkd shKept y k = kM y k := by
  show (markOf k, ((k + 1 : Nat) : Int), ((k + 1 + 1 : Nat) : Int), mvd shInts y.2.2.2 (k + 1 + 1 + 1)) = _
  rw [mvd_ints]; rfl
theorem mvd_kepts : ∀ (X : Lib) (k : Nat), mvd shKepts X k = kMs X k
  | [], k => rfl
  | y :: X, k => by
    have ih := mvd_kepts X (k + kW y)
    show mkd shKept y k :: mkd.mkL (fun y k => mkd shKept y k) (fun y => cnt shKept y) X (k + cnt shKept y) = _
    rw [mkd_kept, cnt_kept]
    simp only [kMs]
    congr 1
theorem kMs_len : ∀ (X : Lib) (k : Nat), (kMs X k).length = X.length
  | [], _ => rfl
  | y :: X, k => by simp [kMs, kMs_len X]
/-- Where an entry's marks begin. -/
def kPos (X : Lib) (k i : Nat) : Nat := k + ((X.take i).map kW).sum
theorem kPos_zero (X : Lib) (k : Nat) : kPos X k 0 = k := by simp [kPos]
theorem kPos_succ {X : Lib} {k i : Nat} (h : i < X.length) : kPos X k (i + 1) = kPos X k i + kW X[i] := by
  unfold kPos; rw [List.take_succ_eq_append_getElem h, List.map_append, List.sum_append]; simp only [List.map_cons, List.map_nil, List.sum_cons, List.sum_nil]; omega
theorem kPos_end (X : Lib) (k : Nat) : kPos X k X.length = k + cvd shKepts X := by unfold kPos; rw [List.take_length, cvd_kepts]
theorem kPos_le {X : Lib} {k i : Nat} (h : i ≤ X.length) : kPos X k i ≤ k + cvd shKepts X := by
  rw [cvd_kepts]
  unfold kPos
  have : (X.map kW).sum = ((X.take i).map kW).sum + ((X.drop i).map kW).sum := by
    rw [← List.sum_append, ← List.map_append, List.take_append_drop]
  omega
theorem kMs_get : ∀ {X : Lib} {k i : Nat} (h : i < (kMs X k).length), (kMs X k)[i] = kM (X[i]'(by rw [kMs_len] at h; exact h)) (kPos X k i)
  | y :: X, k, 0, h => by simp [kMs, kPos]
  | y :: X, k, i + 1, h => by
    have := kMs_get (X := X) (k := k + kW y) (i := i) (by simpa [kMs] using h)
    simp only [kMs, List.getElem_cons_succ, this]
    congr 1
    simp [kPos]; omega
theorem cvd_le_shKepts (X : shKepts.T) : cvd shKepts X ≤ 4 * siz shKepts X := by
  have key : ∀ Y : Lib, (Y.map kW).sum ≤ 4 * (Y.length + sizL Y) := by
    intro Y
    induction Y with
    | nil => simp
    | cons y Y ih =>
      have h3 : siz shKept y = y.1.length + y.2.2.2.length := siz_kept _ _ _ _
      have h4 : sizL (y :: Y) = siz shKept y + sizL Y := by simp [sizL]
      simp only [List.map_cons, List.sum_cons, List.length_cons, h4, h3, kW]
      omega
  have := key X
  rw [← cvd_kepts] at this
  exact this
theorem digs_len : ∀ (f r : Nat) (acc : List UInt8), (digs f r acc).length ≤ f + acc.length
  | 0, r, acc => by simp [digs]
  | f + 1, r, acc => by
    simp only [digs]; split
    · omega
    · have := digs_len f (r / 10) (UInt8.ofNat (48 + r % 10) :: acc)
      simp only [List.length_cons] at this; omega
theorem mark_len {m : Nat} (h : m ≤ 1099511627776) : (markOf m).length ≤ maxLen := by
  rw [maxLen_eq]
  unfold markOf
  split
  · simp
  · have := digs_len m m []
    simp only [List.length_cons, List.length_nil] at this ⊢; omega
theorem rowsC_set {n : List UInt8} {W H : Int} : ∀ {L : List Row} {i : Nat} (h : i < L.length), (((rowsC L).set (i * 4) (S n)).set (i * 4 + 1) (I W)).set (i * 4 + 2) (I H) = rowsC (L.set i ((n, W, H, rbr L[i]), L[i].2))
  | r :: L, 0, _ => by simp [rowsC, rowC, rowS, rbr]
  | r :: L, i + 1, h => by
    have ih := rowsC_set (n := n) (W := W) (H := H) (L := L) (i := i) (by simpa using h)
    rw [rowsC_cons]
    simp only [List.getElem_cons_succ, List.set_cons_succ]
    rw [rowsC_cons, ← ih]
    have e : ∀ (a : List Value) (j : Nat) (v : Value), (rowC r ++ a).set (j + 4) v = rowC r ++ a.set j v := by
      intro a j v
      rw [List.set_append_right _ _ (by simp [rowC])]
      simp [rowC]
    rw [show (i + 1) * 4 = i * 4 + 4 by omega, e, show i * 4 + 4 + 1 = i * 4 + 1 + 4 by omega, e, show i * 4 + 4 + 2 = i * 4 + 2 + 4 by omega, e]
theorem rowsC_get : ∀ {L : List Row} {i : Nat} (h : i < L.length), ((rowsC L).drop (i * 4)).take 4 = rowC L[i]
  | r :: L, 0, _ => by simp [rowsC_cons, rowC]
  | r :: L, i + 1, h => by
    have := rowsC_get (L := L) (i := i) (by simpa using h)
    rw [rowsC_cons, show (i + 1) * 4 = 4 + i * 4 by omega, List.drop_append, List.drop_eq_nil_of_le (by simp [rowC])]
    simp only [List.getElem_cons_succ]
    rw [← this]
    simp [rowC]
theorem EntO.vo {h : Heap} {r : Row} (e : EntO h r) : ∃ lo hi, Vo h lo hi shInts (rowS r) (rbr r) ∧ (∀ c, lo ≤ c → c < hi → c ∈ rowB r) ∧ (rbr r = [] ∨ lo = r.2.1 ∧ hi = r.2.1 + 1) := by
  by_cases h0 : rbr r = []
  · refine ⟨0, 0, ?_, fun c _ h => by omega, .inl h0⟩
    exact Vo.of_ints e.z e.m e.x (.inl h0)
  · refine ⟨r.2.1, r.2.1 + 1, ?_, fun c h1 h2 => by rw [rowB, if_neg h0]; simp; omega, .inr ⟨rfl, rfl⟩⟩
    exact Vo.of_ints e.z e.m e.x (.inr ⟨e.b.resolve_left h0, by omega, by omega⟩)
theorem c285 : MarkOk 285 shKepts := by
  intro h lo hi v (X : Lib) k hv hk
  obtain ⟨bb, zz, L0, rfl, hX0, K0⟩ := hv.rows
  have hlen : L0.length = X.length := by rw [hX0]; simp
  have hm := K0.m
  rw [maxLen_eq, hlen] at hm
  rw [mvd_kepts]
  refine ACall_intro g285 rfl ?_
  unfold fn285
  simp (disch := omega)
  refine awp_loop (fun i σ h' => i ≤ X.length ∧ Mod lo hi h h' ∧ σ 0 = sl bb 0 X.length zz ∧ σ 1 = I (kPos X k i) ∧ σ 5 = I i ∧ ∃ L, KO h' lo hi bb zz L ∧ L.length = X.length ∧ ∀ j (hj : j < X.length) (hl : j < L.length), L[j].1 = if j < i then kM X[j] (kPos X k j) else X[j]) (fun i => X.length - i) 0 ?_ ?_
  · refine ⟨by omega, Mod.refl _ _ _, by simp, by simp [kPos_zero], by simp, L0, K0, hlen, fun j hj hl => ?_⟩
    subst hX0; simp
  · rintro i σ h' ⟨hi', hmd, q0, q1, q5, L, K, hl, hL⟩
    simp (disch := omega) [q0, q5]
    refine fork_dec (fun hlt => ?_) (fun hge => ?_)
    · have i1 : i < X.length := by omega
      have hple := kPos_le (X := X) (k := k) (show i + 1 ≤ X.length by omega)
      rw [kPos_succ i1] at hple
      have hLi := hL i i1 (by omega)
      rw [if_neg (by omega)] at hLi
      obtain ⟨P, hP⟩ : ∃ P, P = kPos X k i := ⟨_, rfl⟩
      rw [← hP] at q1 hple
      have hkw : kW X[i] = 3 + X[i].2.2.2.length := rfl
      have hPb : P ≤ 1099511627776 := by omega
      simp (disch := omega) [q0, q1, q5, i1]
      refine callW_of (c289 P hPb h') ?_
      rintro _ h1 ⟨rfl, g1⟩
      refine ⟨fun e => (by cases e), ?_⟩
      have hne : L ≠ [] := by intro e; rw [e] at hl; simp at hl; omega
      obtain ⟨kb0, hlo, hhi⟩ := K.blk.resolve_left hne
      have kb1 := g1.at kb0
      have hcl := rowsC_len L
      have st1 := store_one (v := S (markOf P)) (o := i * 4) kb1 (by rw [hcl]; omega)
      obtain ⟨h2, e2⟩ : ∃ h2, h2 = h1.set bb ⟨(rowsC L).set (i * 4) (S (markOf P)), true⟩ := ⟨_, rfl⟩
      rw [← e2] at st1
      have kb2 : h2[bb]? = some ⟨(rowsC L).set (i * 4) (S (markOf P)), true⟩ := by rw [e2]; simp [at_lt kb1]
      have st2 := store_one (v := I ((P : Int) + 1)) (o := i * 4 + 1) kb2 (by rw [List.length_set, hcl]; omega)
      obtain ⟨h3, e3⟩ : ∃ h3, h3 = h2.set bb ⟨((rowsC L).set (i * 4) (S (markOf P))).set (i * 4 + 1) (I ((P : Int) + 1)), true⟩ := ⟨_, rfl⟩
      rw [← e3] at st2
      have kb3 : h3[bb]? = some ⟨((rowsC L).set (i * 4) (S (markOf P))).set (i * 4 + 1) (I ((P : Int) + 1)), true⟩ := by rw [e3]; simp [at_lt kb2]
      have st3 := store_one (v := I ((P : Int) + 2)) (o := i * 4 + 2) kb3 (by rw [List.length_set, List.length_set, hcl]; omega)
      rw [rowsC_set (by omega)] at st3
      obtain ⟨r1, hr1⟩ : ∃ r1 : Row, r1 = ((markOf P, (P : Int) + 1, (P : Int) + 2, rbr L[i]), L[i].2) := ⟨_, rfl⟩
      rw [← hr1] at st3
      obtain ⟨h4, e4⟩ : ∃ h4, h4 = h3.set bb ⟨rowsC (L.set i r1), true⟩ := ⟨_, rfl⟩
      rw [← e4] at st3
      have kb4 : h4[bb]? = some ⟨rowsC (L.set i r1), true⟩ := by rw [e4]; simp [at_lt kb3]
      have oth : ∀ c, c ≠ bb → h4[c]? = h1[c]? := by
        intro c hc
        rw [e4, List.getElem?_set_ne (Ne.symm hc), e3, List.getElem?_set_ne (Ne.symm hc), e2, List.getElem?_set_ne (Ne.symm hc)]
      have l4 : h4.length = h1.length := by rw [e4, e3, e2]; simp
      have nb := rows_nb (b := bb) K.el (.inr kb0)
      have hB1 : rowB r1 = rowB L[i] := by rw [hr1]; rfl
      have hb1 : rbr r1 = rbr L[i] := by rw [hr1]; rfl
      have oth' : ∀ c, c < h'.length → c ≠ bb → h4[c]? = h'[c]? := fun c hc hne => by rw [oth c hne, g1.look hc]
      have iL : i < L.length := by omega
      have eL := K.el _ (List.getElem_mem iL)
      have lt0 := eL.lt
      have mk64 : P + 3 + (rbr L[i]).length ≤ 1099511627776 := by
        have : rbr L[i] = X[i].2.2.2 := by unfold rbr; rw [hLi]
        rw [this]; omega
      have hmlen : (markOf P).length ≤ maxLen := mark_len hPb
      have eR1 : EntO h4 r1 := by
        have e' : EntO h4 L[i] := eL.frame fun c hc => oth' c (lt0 c hc) (fun e => nb _ (List.getElem_mem iL) (e ▸ hc))
        refine ⟨?_, ?_, ?_, ?_, ?_, ?_, ?_⟩
        · rw [hr1]; exact e'.z
        · rw [hb1]; exact e'.m
        · rw [hb1]; exact e'.x
        · rw [hb1, hr1]; exact e'.b
        · rw [hr1]; unfold I64; simp only; omega
        · rw [hr1]; unfold I64; simp only; omega
        · rw [hr1]; exact hmlen
      have K4 : KO h4 lo hi bb zz (L.set i r1) := K.upd iL hB1 eR1 kb4 fun c h1 h2 h3 => oth' c h1 h2
      have gi : (L.set i r1)[i]'(by rw [List.length_set]; exact iL) = r1 := by simp
      obtain ⟨lo2, hi2, vo2, rg2, _⟩ := eR1.vo
      have hrS : rowS r1 = rowS L[i] := by unfold rowS; rw [hb1, hr1]
      have hrl : (rbr r1).length = X[i].2.2.2.length := by rw [hb1]; unfold rbr; rw [hLi]
      have cv : cvd shInts (rbr r1) = (rbr r1).length := cvd_ints _
      have hc := c282 h4 lo2 hi2 (rowS r1) (rbr r1) (P + 3) vo2 (by rw [cv, hrl]; omega)
      rw [mvd_ints, cv] at hc
      have i3 : (P : Int) + 1 + 1 = (P : Int) + 2 := by omega
      have i4 : (P : Int) + 2 + 1 = ((P + 3 : Nat) : Int) := by omega
      have a3 : i * 4 + 1 + 1 = i * 4 + 2 := by omega
      have a4 : i * 4 + 1 + 2 = i * 4 + 3 := by omega
      have cl4 : cell h4 bb (i * 4 + 3) = some (rowS r1) := by
        have h1 := rowsC_get (L := L.set i r1) (i := i) (by rw [List.length_set]; exact iL)
        rw [gi] at h1
        have h2 : cellsAt h4 bb (i * 4) 4 = some (rowC r1) := by
          rw [cellsAt_of kb4 (by simp only; rw [rowsC_len, List.length_set]; omega), h1]
        have := (cell_in (i := 3) h2 (by omega)).1
        rw [this]; rfl
      simp (disch := omega) [cellsOf, st1, st2, st3, wrap64, i3, i4, a3, a4, cl4]
      refine callW_of hc ?_
      rintro _ h5 ⟨rfl, m5, o5⟩
      obtain ⟨r2, hr2⟩ : ∃ r2 : Row, r2 = (kM X[i] P, L[i].2) := ⟨_, rfl⟩
      have hb2 : rbr r2 = nums (P + 3) X[i].2.2.2.length := by rw [hr2]; rfl
      have nl : (nums (P + 3) X[i].2.2.2.length).length = (rbr r1).length := by rw [nums_len, hrl]
      have hrS2 : rowS r2 = rowS r1 := by
        unfold rowS; rw [hb2, nl, hr2, hr1]
      have hrC2 : rowC r2 = rowC r1 := by
        unfold rowC; rw [hrS2, hr2, hr1]
        simp [kM]
      have emp : rbr r2 = [] ↔ rbr r1 = [] := by
        rw [hb2, ← List.length_eq_zero_iff, ← List.length_eq_zero_iff, nl]
      have hB2 : rowB r2 = rowB r1 := by
        unfold rowB
        by_cases q : rbr r1 = []
        · rw [if_pos q, if_pos (emp.2 q)]
        · rw [if_neg q, if_neg (fun x => q (emp.1 x)), hr2, hr1]
      rw [hrl, ← hb2] at o5
      have hm1 : (L.set i r1)[i]'(by rw [List.length_set]; exact iL) ∈ L.set i r1 := List.getElem_mem _
      rw [gi] at hm1
      have nb1 := rows_nb (b := bb) K4.el (.inr kb4) r1 hm1
      have kb5 : h5[bb]? = some ⟨rowsC (L.set i r1), true⟩ := by
        rw [m5.2 bb (at_lt kb4) ?_]; exact kb4
        by_cases q : lo2 ≤ bb ∧ bb < hi2
        · exact absurd (rg2 bb q.1 q.2) nb1
        · omega
      have eR2 : EntO h5 r2 := by
        obtain ⟨b', z', es, hz', hm', hx', hbk'⟩ := o5.ints
        have es' : sl r1.2.1 0 (rbr r1).length r1.2.2 = sl b' 0 (rbr r2).length z' := es
        simp only [sl, Value.slice.injEq, Option.some.injEq, Addr.mk.injEq] at es'
        have eb : r2.2.1 = b' := by rw [← es'.1.1, hr2, hr1]
        have ez : r2.2.2 = z' := by rw [← es'.2.2, hr2, hr1]
        refine ⟨?_, hm', hx', ?_, ?_, ?_, ?_⟩
        · rw [eb, ez]; exact hz'
        · rw [eb]; exact hbk'.imp id fun q => q.1
        · rw [hr2]; unfold kM I64; simp only; omega
        · rw [hr2]; unfold kM I64; simp only; omega
        · rw [hr2]; exact hmlen
      have hset : (L.set i r1).set i r2 = L.set i r2 := by simp
      have hrows : rowsC (L.set i r2) = rowsC (L.set i r1) := by
        rw [← hset]
        unfold rowsC
        rw [set_map_same (f := rowC) (by rw [List.length_set]; exact iL) (by rw [gi]; exact hrC2)]
      have K5 : KO h5 lo hi bb zz (L.set i r2) := by
        rw [← hset]
        refine K4.upd (by rw [List.length_set]; exact iL) (by rw [gi]; exact hB2) eR2 (by rw [hset, hrows]; exact kb5) fun c q1 q2 q3 => ?_
        rw [gi] at q3
        refine m5.2 c q1 ?_
        by_cases q : lo2 ≤ c ∧ c < hi2
        · exact absurd (rg2 c q.1 q.2) q3
        · omega
      have hmod : Mod lo hi h' h5 := by
        refine ⟨by have := g1.le; have := m5.1; omega, fun c hc hn => ?_⟩
        have c1 : c ≠ bb := by omega
        have c4 : h4[c]? = h'[c]? := oth' c hc c1
        rw [m5.2 c (by have := g1.le; omega) ?_, c4]
        by_cases q : lo2 ≤ c ∧ c < hi2
        · have := rg2 c q.1 q.2
          rw [hB1] at this
          have := K.rg _ (List.getElem_mem iL) c this
          omega
        · omega
      refine ⟨fun e => (by cases e), i + 1, ⟨by omega, hmd.trans hmod, ?_, by omega, L.set i r2, K5, by rw [List.length_set]; exact hl, fun j hj hlj => ?_⟩, by omega⟩
      · rw [kPos_succ i1, ← hP, hrl, hkw]; congr 1; omega
      · by_cases e : j = i
        · subst e
          rw [if_pos (by omega)]
          simp only [List.getElem_set_self]
          rw [hr2, hP]
        · rw [List.getElem_set_ne (fun x => e x.symm), hL j hj (by rw [List.length_set] at hlj; exact hlj)]
          by_cases q : j < i
          · rw [if_pos q, if_pos (by omega)]
          · rw [if_neg q, if_neg (by omega)]
    · have e : i = X.length := by omega
      subst e
      simp (disch := omega) [q1]
      refine ⟨?_, hmd, ?_⟩
      · have := kPos_end X k; omega
      · have hv := K.vo
        have : L.map (·.1) = kMs X k := by
          apply List.ext_getElem
          · rw [List.length_map, hl, kMs_len]
          · intro j h1 h2
            rw [List.length_map] at h1
            rw [List.getElem_map, kMs_get, hL j (by omega) h1, if_pos (by omega)]
        rw [this, hl] at hv
        exact hv

theorem c278 : HeldOk 278 shKepts := by
  intro h v (X : Lib) k hv hk
  rw [mvd_kepts] at hv
  obtain ⟨b, o, z, rfl, hX⟩ := hv.kat
  rw [kMs_len]
  have hm := hX.1.1
  rw [maxLen_eq, kMs_len] at hm
  refine ACall_intro g278 rfl ?_
  unfold fn278
  simp (disch := omega)
  refine awp_loop (fun i σ h' => Grows h h' ∧ i ≤ X.length ∧ σ 0 = sl b o X.length z ∧ σ 1 = I (kPos X k i) ∧ σ 5 = I i) (fun i => X.length - i) 0 ?_ ?_
  · exact ⟨Grows.refl _, by omega, by simp, by simp [kPos_zero], by simp⟩
  · rintro i σ h' ⟨g, hi', q0, q1, q5⟩
    simp (disch := omega) [q0, q5]
    refine fork_dec (fun hlt => ?_) (fun hge => ?_)
    · have i1 : i < X.length := by omega
      have i2 : i < (kMs X k).length := by rw [kMs_len]; exact i1
      have hple := kPos_le (X := X) (k := k) (show i + 1 ≤ X.length by omega)
      have hps := kPos_succ (k := k) i1
      rw [hps] at hple
      obtain ⟨P, hP⟩ : ∃ P, P = kPos X k i := ⟨_, rfl⟩
      have hget := kMs_get i2
      rw [← hP] at q1 hple hget hps
      have hkw : kW X[i] = 3 + X[i].2.2.2.length := rfl
      obtain ⟨s, c, c1, _, _, r, _⟩ := hX.cells i2
      rw [hget] at c r
      have c := g.cellsAt c
      have r := r.grow g
      have a0 := (cell_in (i := 0) c (by omega)).1
      have a1 := (cell_in (i := 1) c (by omega)).1
      have a2 := (cell_in (i := 2) c (by omega)).1
      have a3 := (cell_in (i := 3) c (by omega)).1
      simp only [kM] at a0 a1 a2 a3 r
      simp at a0 a1 a2 a3
      simp (disch := omega) [q0, q1, q5, i1, a0]
      refine callW_of (c289 P (by omega) h') ?_
      rintro _ h1 ⟨rfl, g1⟩
      refine ⟨fun _ => g1, ?_⟩
      have a1 := g1.cell a1
      have a2 := g1.cell a2
      have a3 := g1.cell a3
      have i3 : (P : Int) + 1 + 1 = (P : Int) + 2 := by omega
      have i4 : (P : Int) + 2 + 1 = ((P + 3 : Nat) : Int) := by omega
      have b2 : o + i * 4 + 1 + 1 = o + i * 4 + 2 := by omega
      have b3 : o + i * 4 + 1 + 2 = o + i * 4 + 3 := by omega
      have cv : cvd shInts X[i].2.2.2 = X[i].2.2.2.length := cvd_ints _
      have hc := c275 h1 s X[i].2.2.2 (P + 3) (by rw [mvd_ints]; exact r.grow g1) (by rw [cv]; omega)
      rw [cv] at hc
      simp (disch := omega) [q0, q1, q5, i1, a1, a2, a3, wrap64, i3, i4, b2, b3]
      refine callW_of hc ?_
      rintro _ h2 ⟨rfl, g2⟩
      try refine ⟨fun e => (by cases e), ?_⟩
      obtain ⟨m, hmm⟩ : ∃ m, m = P + 3 + X[i].2.2.2.length := ⟨_, rfl⟩
      rw [← hmm]
      simp (disch := omega) [q0, q5, wrap64]
      exact ⟨i + 1, ⟨g.trans (g1.trans g2), by omega, by rw [hps, hkw]; omega, by omega⟩, by omega⟩
    · have e : i = X.length := by omega
      subst e
      have := kPos_end X k
      rw [this] at q1
      simp (disch := omega) [q1]
      exact g
end Am
/-! AmY17 -/
set_option linter.unusedVariables false
set_option linter.unusedSimpArgs false
set_option maxHeartbeats 4000000
set_option maxRecDepth 4000
namespace Am
open Go

/-- A list of rows that is being made. -/
structure KB (h0 h : Heap) (v : Value) (L : List Row) : Prop where
  b : Buf h0 h v 4 (rowsC L)
  el : ∀ r ∈ L, EntO h r
  nd : (L.map rowB).flatten.Nodup
  rg : ∀ r ∈ L, ∀ c ∈ rowB r, h0.length ≤ c
theorem KB.nil {h0 h : Heap} : KB h0 h (sl 0 0 0 4) [] := ⟨by simpa [rowsC] using Buf.nil, by simp, by simp, by simp⟩
theorem KB.ko {h0 h : Heap} {v : Value} {L : List Row} (k : KB h0 h v L) (hm : L.length ≤ maxLen) : ∃ b, v = sl b 0 L.length 4 ∧ KO h h0.length h.length b 4 L := by
  have hl := rowsC_len L
  rcases k.b with ⟨e1, e2⟩ | ⟨b, n, e1, e2, e3, e4⟩
  · have : L = [] := by
      rw [e1] at hl; simp at hl; exact List.length_eq_zero_iff.1 (by omega)
    subst this
    exact ⟨0, e2, .inl rfl, hm, k.el, .inl rfl, k.nd, by simp⟩
  · rw [hl] at e2
    have : n = L.length := by omega
    subst this
    exact ⟨b, e1, .inl rfl, hm, k.el, .inr ⟨e4, e3, at_lt e4⟩, k.nd, fun r hr c hc => ⟨k.rg r hr c hc, (k.el r hr).lt c hc⟩⟩
theorem KB.vo {h0 h : Heap} {v : Value} {L : List Row} (k : KB h0 h v L) (hm : L.length ≤ maxLen) : Vo h h0.length h.length shKepts v (L.map (·.1)) := by
  obtain ⟨b, rfl, ko⟩ := k.ko hm
  exact KO.vo ko
theorem KB.len {h0 h : Heap} {v : Value} {L : List Row} (k : KB h0 h v L) : ∃ b, v = sl b 0 L.length 4 := by
  have hl := rowsC_len L
  rcases k.b with ⟨e1, e2⟩ | ⟨b, n, e1, e2, e3, e4⟩
  · have : L = [] := by
      rw [e1] at hl; simp at hl; exact List.length_eq_zero_iff.1 (by omega)
    subst this
    exact ⟨0, e2⟩
  · rw [hl] at e2
    have : n = L.length := by omega
    subst this
    exact ⟨b, e1⟩
theorem kb_snoc {h0 h h1 : Heap} {v s : Value} {L : List Row} {n : List UInt8} {W H : Int} {br : List Int} {K : Value → Heap → Prop} (hp : 0 < h0.length) (kb : KB h0 h v L) (g0 : Grows h0 h) (g1 : Grows h h1) (o : Vo h1 h.length h1.length shPanel (.agg #[I W, I H, s]) ((W, H, br) : Pan)) (hn : n.length ≤ maxLen) (hl : L.length ≤ 1048576)
    (hK : ∀ v' h2 r, Grows h0 h2 → KB h0 h2 v' (L ++ [r]) → r.1 = (n, W, H, br) → K v' h2) :
    bindW (aBuildSlice 4 1 h1 [(0, .agg #[S [], I 0, I 0, sl 0 0 0 0]), (4, .agg #[S n, I W, I H, s])]) fun y h' => bindW (aAppend 4 h' y v) K := by
  have e : aBuildSlice 4 1 h1 [(0, .agg #[S [], I 0, I 0, sl 0 0 0 0]), (4, .agg #[S n, I W, I H, s])] = some (sl h1.length 0 1 4, h1 ++ [⟨[S n, I W, I H, s], true⟩]) := by simp [aBuildSlice]
  rw [e]
  simp only [bindW_some]
  obtain ⟨s', es, w1, w2, o⟩ := o.panel
  simp at es
  subst es
  obtain ⟨b, z, rfl, hz, hm, hx, hb⟩ := o.ints
  obtain ⟨r, hr⟩ : ∃ r : Row, r = ((n, W, H, br), b, z) := ⟨_, rfl⟩
  have hC : rowC r = [S n, I W, I H, sl b 0 br.length z] := by rw [hr]; rfl
  have g1' := g1.push ⟨[S n, I W, I H, sl b 0 br.length z], true⟩
  have nb : ∀ q ∈ L, ∀ c ∈ rowB q, ∀ m, v ≠ sl c 0 m 4 := by
    intro q hq c hc m ev
    obtain ⟨b2, e2⟩ := kb.len
    have hb2 : L = [] ∨ h[b2]? = some ⟨rowsC L, true⟩ := by
      rcases kb.b with ⟨q1, q2⟩ | ⟨b3, n3, q1, q2, q3, q4⟩
      · left
        have hl := rowsC_len L
        rw [q1] at hl; simp at hl; exact List.length_eq_zero_iff.1 (by omega)
      · right
        rw [e2] at q1
        simp only [sl, Value.slice.injEq, Option.some.injEq, Addr.mk.injEq] at q1
        rw [q1.1.1]; exact q4
    rw [e2] at ev
    simp only [sl, Value.slice.injEq, Option.some.injEq, Addr.mk.injEq] at ev
    exact rows_nb kb.el hb2 q hq (ev.1.1 ▸ hc)
  refine append_buf hp (g0.trans g1') (kb.b.grow g1') (new := rowC r) ?_ (by omega) (by simp [rowC]) (by simp [rowC]) (by rw [rowsC_len]; simp [rowC, maxSize]; omega) ?_
  · rw [hC]
    simp [newCells]
    rw [cellsAt_of (k := ⟨[S n, I W, I H, sl b 0 br.length z], true⟩) (by simp) (by simp)]
    simp
  · intro v' h2 g2 b2 k2
    refine hK v' h2 r g2 ⟨?_, fun q hq => ?_, ?_, fun q hq c hc => ?_⟩ (by rw [hr])
    · rw [rowsC_append]; simpa [rowsC] using b2
    · rcases List.mem_append.1 hq with hq | hq
      · refine (kb.el q hq).frame fun c hc => ?_
        have hlt := (kb.el q hq).lt c hc
        have hg := g1'.look hlt
        have hs : h[c]? = some h[c] := List.getElem?_eq_getElem hlt
        rw [hs] at hg ⊢
        exact k2 c _ hg (nb q hq c hc)
      · simp at hq; subst hq
        rw [hr]
        refine ⟨hz, hm, hx, ?_, w1, w2, hn⟩
        rcases hb with q | ⟨q1, q2, q3⟩
        · exact .inl q
        · right
          refine k2 b _ (push_at q1) fun m ev => ?_
          obtain ⟨b5, e5⟩ := kb.len
          rw [e5] at ev
          simp only [sl, Value.slice.injEq, Option.some.injEq, Addr.mk.injEq] at ev
          have hb5 : b5 < h.length ∨ b5 = 0 := by
            rcases kb.b with ⟨q1, q2⟩ | ⟨b3, n3, q1, q2, q3, q4⟩
            · right
              rw [e5] at q2
              simp only [sl, Value.slice.injEq, Option.some.injEq, Addr.mk.injEq] at q2
              exact q2.1.1
            · left
              rw [e5] at q1
              simp only [sl, Value.slice.injEq, Option.some.injEq, Addr.mk.injEq] at q1
              rw [q1.1.1]; exact at_lt q4
          have := g0.le
          omega
    · rw [List.map_append, List.flatten_append, List.nodup_append]
      refine ⟨kb.nd, ?_, ?_⟩
      · simp [rowB]; split <;> simp
      · intro c hc c' hc'
        obtain ⟨t, ht, hct⟩ := List.mem_flatten.1 hc
        obtain ⟨q, hq, rfl⟩ := List.mem_map.1 ht
        have hlt := (kb.el q hq).lt c hct
        simp at hc'
        rw [hr] at hc'
        unfold rowB at hc'
        split at hc'
        · simp at hc'
        · rename_i h0
          simp at hc'
          have := (hb.resolve_left h0).2.1
          omega
    · rcases List.mem_append.1 hq with hq | hq
      · exact kb.rg q hq c hc
      · simp at hq; subst hq
        rw [hr] at hc
        unfold rowB at hc
        split at hc
        · simp at hc
        · rename_i h0
          simp at hc
          have := (hb.resolve_left h0).2.1
          have := g0.le
          omega
theorem c542 (h : Heap) (hp : 0 < h.length) (b o z : Nat) (X : Lib) (hX : KAt h b o z X) (hl : X.length ≤ 1000) (hs : ∀ i (hi : i < X.length), X[i].2.2.2.length ≤ 1048576) : ACall Gam 542 [sl b o X.length z] h fun r h' => Grows h h' ∧ ∃ L, L.map (·.1) = X ∧ KB h h' r L := by
  refine ACall_intro g542 rfl ?_
  unfold fn542
  simp (disch := omega)
  refine awp_loop (fun k σ h' => Grows h h' ∧ k ≤ X.length ∧ σ 0 = sl b o X.length z ∧ σ 4 = I k ∧ ∃ L, L.map (·.1) = X.take k ∧ KB h h' (σ 3) L) (fun k => X.length - k) 0 ?_ ?_
  · exact ⟨Grows.refl _, by omega, by simp, by simp, [], by simp, by simpa using KB.nil⟩
  · rintro k σ h' ⟨g, hk, q0, q4, L, hL, kb⟩
    have hLl : L.length = k := by have := congrArg List.length hL; simp at this; omega
    simp (disch := omega) [q0, q4]
    refine fork_dec (fun hlt => ?_) (fun hge => ?_)
    · have k1 : k < X.length := by omega
      obtain ⟨s, c, c1, vp, pp, _⟩ := (hX.grow g).cells k1
      have hn : X[k].1.length ≤ maxLen := by
        obtain ⟨_, _, _, _, _, w0⟩ := hX.2 k k1
        rw [maxLen_eq]; exact w0
      have l1 := g.le
      simp (disch := omega) [q0, q4, k1, c1]
      refine callW_of (c453 h' _ X[k].2 (by omega) pp (hs k k1)) ?_
      rintro v2 h2 ⟨g2, o2⟩
      refine ⟨fun _ => g2, ?_⟩
      obtain ⟨s2, rfl, w1, w2, r2⟩ := o2.panel
      simp (disch := omega)
      refine kb_snoc hp kb g g2 o2 hn (by omega) fun v' h3 r g3 kb3 hr => ?_
      simp (disch := omega) [q0, q4, wrap64]
      refine ⟨k + 1, ⟨g3, by omega, by omega, L ++ [r], ?_, kb3⟩, by omega⟩
      have e1 : [r].map (·.1) = [X[k]] := by simp [hr]
      rw [List.map_append, hL, e1, ← List.take_succ_eq_append_getElem k1]
    · have : k = X.length := by omega
      subst this
      rw [List.take_length] at hL
      obtain ⟨b2, e2⟩ := kb.len
      have kb' := kb
      rw [e2] at kb'
      simp (disch := omega) [e2]
      exact ⟨g, L, hL, kb'⟩

theorem c149 (h : Heap) (hp : 0 < h.length) (b o z : Nat) (X : Lib) (hX : KAt h b o z X) (hl : X.length ≤ 1000) (hs : ∀ i (hi : i < X.length), X[i].2.2.2.length ≤ 1048576) : ACall Gam 149 [sl b o X.length z] h fun r h' => Grows h h' ∧ ∃ L, L.map (·.1) = X ∧ KB h h' r L := by
  refine ACall_intro g149 rfl ?_
  unfold fn149
  simp (disch := omega)
  refine awp_loop (fun k σ h' => Grows h h' ∧ k ≤ X.length ∧ σ 7 = sl b o X.length z ∧ σ 8 = I X.length ∧ σ 9 = I k ∧ ∃ L, L.map (·.1) = X.take k ∧ KB h h' (σ 3) L) (fun k => X.length - k) 0 ?_ ?_
  · exact ⟨Grows.refl _, by omega, by simp, by simp, by simp, [], by simp, by simpa using KB.nil⟩
  · rintro k σ h' ⟨g, hk, q7, q8, q9, L, hL, kb⟩
    have hLl : L.length = k := by have := congrArg List.length hL; simp at this; omega
    simp (disch := omega) [q8, q9]
    refine fork_dec (fun hlt => ?_) (fun hge => ?_)
    · have k1 : k < X.length := by omega
      obtain ⟨s, c, c1, vp, pp, _⟩ := (hX.grow g).cells k1
      have hn : X[k].1.length ≤ maxLen := by
        obtain ⟨_, _, _, _, _, w0⟩ := hX.2 k k1
        rw [maxLen_eq]; exact w0
      have l1 := g.le
      simp (disch := omega) [q7, q9, k1, c]
      refine callW_of (c150 h' _ X[k].2 (by omega) vp (hs k k1)) ?_
      rintro v2 h2 ⟨g2, o2⟩
      try refine ⟨fun e => (by first | exact g2 | cases e), ?_⟩
      obtain ⟨s2, rfl, w1, w2, r2⟩ := o2.panel
      simp (disch := omega)
      refine kb_snoc hp kb g g2 o2 hn (by omega) fun v' h3 r g3 kb3 hr => ?_
      simp (disch := omega) [q7, q8, q9, wrap64]
      refine ⟨k + 1, ⟨g3, by omega, by omega, L ++ [r], ?_, kb3⟩, by omega⟩
      have e1 : [r].map (·.1) = [X[k]] := by simp [hr]
      rw [List.map_append, hL, e1, ← List.take_succ_eq_append_getElem k1]
    · have : k = X.length := by omega
      subst this
      rw [List.take_length] at hL
      obtain ⟨b2, e2⟩ := kb.len
      have kb' := kb
      rw [e2] at kb'
      simp (disch := omega) [e2]
      exact ⟨g, L, hL, kb'⟩
end Am
/-! AmY18 -/
set_option linter.unusedVariables false
set_option linter.unusedSimpArgs false
set_option maxHeartbeats 4000000
set_option maxRecDepth 4000
namespace Am
open Go

theorem rowsC_erase (L : List Row) (i : Nat) (hi : i < L.length) : (rowsC L).take (i * 4) ++ (rowsC L).drop ((i + 1) * 4) = rowsC (L.eraseIdx i) := by
  have h1 : L = L.take i ++ L[i] :: L.drop (i + 1) := by rw [← List.drop_eq_getElem_cons hi, List.take_append_drop]
  have e1 : (rowsC (L.take i)).length = i * 4 := by rw [rowsC_len, List.length_take]; congr 1; omega
  have e2 : rowsC L = rowsC (L.take i) ++ (rowC L[i] ++ rowsC (L.drop (i + 1))) := by
    conv => lhs; rw [h1]
    rw [rowsC_append, rowsC_cons]
  have e3 : (rowC L[i]).length = 4 := rfl
  rw [e2, List.take_append_of_le_length (by omega), List.take_of_length_le (by omega), List.drop_append, List.drop_eq_nil_of_le (by omega), List.nil_append, e1, List.drop_append, List.drop_eq_nil_of_le (by omega), e3, show (i + 1) * 4 - i * 4 - 4 = 0 by omega]
  rw [List.eraseIdx_eq_take_drop_succ, rowsC_append]
  simp
theorem flat_sub {α β : Type} (f : α → List β) {a b : List α} (s : List.Sublist a b) : List.Sublist (a.map f).flatten (b.map f).flatten := by
  induction s with
  | slnil => simp
  | cons x s ih => simp only [List.map_cons, List.flatten_cons]; exact ih.trans (List.sublist_append_right _ _)
  | cons_cons x s ih => simp only [List.map_cons, List.flatten_cons]; exact ih.append_left _
theorem c311 (h0 h : Heap) (hp : 0 < h0.length) (g : Grows h0 h) (v : Value) (L : List Row) (kb : KB h0 h v L) (i : Nat) (hi : i < L.length) : ACall Gam 311 [v, I i, I ((i : Int) + 1)] h fun r h' => Grows h0 h' ∧ KB h0 h' r (L.eraseIdx i) := by
  have hl := rowsC_len L
  rcases kb.b with ⟨e1, e2⟩ | ⟨b, n, rfl, e2, e3, e4⟩
  · rw [e1] at hl; simp at hl; omega
  have hn : n = L.length := by rw [hl] at e2; omega
  subst hn
  have hb0 : b ≠ 0 := by omega
  have hd : primDelete 4 [sl b 0 L.length 4, I i, I ((i : Int) + 1)] h = some (sl h.length 0 (L.length - 1) 4, h.set b ⟨[], false⟩ ++ [⟨rowsC (L.eraseIdx i), true⟩]) := by
    have c1 : ¬ (4 = 0 ∨ b = 0 ∨ (i : Int) < 0 ∨ (i : Int) + 1 ≤ i ∨ (L.length : Int) < i + 1) := by omega
    simp only [primDelete, sl]
    rw [if_neg c1]
    simp only [e4]
    rw [if_pos ⟨trivial, trivial⟩, cellsAt_all e4 e2]
    simp only
    rw [show (i : Int).toNat = i by omega, show ((i : Int) + 1).toNat = i + 1 by omega, rowsC_erase L i hi, show i + 1 - i = 1 by omega]
  have nb := rows_nb (b := b) kb.el (.inr e4)
  have hsub : ∀ r ∈ L.eraseIdx i, r ∈ L := fun r hr => List.mem_of_mem_eraseIdx hr
  refine ACall_prim g311 rfl rfl hd ⟨(g.put e3 _).push _, ?_, fun r hr => ?_, ?_, fun r hr => kb.rg r (hsub r hr)⟩
  · refine .inr ⟨h.length, L.length - 1, rfl, ?_, g.le, by simp⟩
    rw [rowsC_len, List.length_eraseIdx_of_lt hi]
  · refine (kb.el r (hsub r hr)).frame fun c hc => ?_
    have hlt := (kb.el r (hsub r hr)).lt c hc
    rw [List.getElem?_append_left (by simpa using hlt), List.getElem?_set_ne (fun e => nb r (hsub r hr) (by rw [e]; exact hc))]
  · exact List.Nodup.sublist (flat_sub rowB (List.eraseIdx_sublist L i)) kb.nd
/-! ### parts of a list put together -/
def KCs (h : Heap) (X : Lib) (cs : List Value) : Prop := cs.length = X.length * 4 ∧ ∀ i (hi : i < X.length), ∃ s, (cs.drop (i * 4)).take 4 = [S X[i].1, I X[i].2.1, I X[i].2.2.1, s] ∧ Vr h shInts s X[i].2.2.2 ∧ I64 X[i].2.1 ∧ I64 X[i].2.2.1 ∧ X[i].1.length ≤ 9223372036854775807
theorem KCs.nil {h : Heap} : KCs h [] [] := ⟨rfl, fun i hi => by simp at hi⟩
theorem KCs.append {h : Heap} {X Y : Lib} {a b : List Value} (x : KCs h X a) (y : KCs h Y b) : KCs h (X ++ Y) (a ++ b) := by
  refine ⟨by rw [List.length_append, List.length_append, x.1, y.1]; omega, fun i hi => ?_⟩
  rw [List.length_append] at hi
  by_cases e : i < X.length
  · obtain ⟨s, c, r⟩ := x.2 i e
    rw [List.getElem_append_left e]
    refine ⟨s, ?_, r⟩
    rw [List.drop_append_of_le_length (by rw [x.1]; omega), List.take_append_of_le_length (by rw [List.length_drop, x.1]; omega), c]
  · obtain ⟨s, c, r⟩ := y.2 (i - X.length) (by omega)
    rw [List.getElem_append_right (by omega)]
    refine ⟨s, ?_, r⟩
    rw [List.drop_append, List.drop_eq_nil_of_le (by rw [x.1]; omega), List.nil_append, x.1, show i * 4 - X.length * 4 = (i - X.length) * 4 by omega, c]
theorem Vr.kat4 {h : Heap} {v : Value} {X : Lib} (x : Vr h shKepts v X) : ∃ b o z, v = sl b o X.length z ∧ KAt h b o z X ∧ (z = 4 ∨ X = []) := by
  have x0 := x
  obtain ⟨b, o, z, rfl, k⟩ := x.kat
  obtain ⟨b', o', z', e, hz', _⟩ := x0.slice
  simp at e
  obtain ⟨⟨rfl, rfl⟩, rfl⟩ := e
  exact ⟨_, _, _, rfl, k, hz'.imp id fun q => q.2⟩
theorem KAt.part {h : Heap} {b o z : Nat} {X : Lib} (x : KAt h b o z X) (hz : z = 4 ∨ X = []) {i j : Nat} (hij : i ≤ j) (hj : j ≤ X.length) : ∃ cs, newCells 4 h (sl b (o + i * z) (j - i) z) = some cs ∧ KCs h ((X.take j).drop i) cs := by
  by_cases e : j - i = 0
  · have : i = j := by omega
    subst this
    refine ⟨[], by simp [newCells], ?_⟩
    rw [List.drop_eq_nil_of_le (by rw [List.length_take]; omega)]
    exact KCs.nil
  · have hz4 : z = 4 := by
      rcases hz with q | q
      · exact q
      · subst q; simp at hj; omega
    subst hz4
    obtain ⟨s, c, _⟩ := x.2 (j - 1) (by omega)
    obtain ⟨k, hk⟩ : ∃ k, h[b]? = some k := by
      unfold cellsAt at c
      cases q : h[b]? with
      | none => simp [q] at c
      | some k => exact ⟨k, rfl⟩
    have hlen : o + (j - 1) * 4 + 4 ≤ k.cells.length := by
      unfold cellsAt at c
      simp only [hk] at c
      split at c
      · assumption
      · cases c
    refine ⟨(k.cells.drop (o + i * 4)).take ((j - i) * 4), ?_, ?_, fun m hm => ?_⟩
    · simp only [newCells, sl]
      rw [if_neg e, cellsAt_of hk (by omega)]
    · rw [List.length_take, List.length_drop, List.length_drop, List.length_take]; omega
    · rw [List.length_drop, List.length_take] at hm
      obtain ⟨s, c, r⟩ := x.2 (i + m) (by omega)
      rw [List.getElem_drop, List.getElem_take]
      refine ⟨s, ?_, r⟩
      have : o + (i + m) * 4 + 4 ≤ k.cells.length := by omega
      rw [cellsAt_of hk (by omega)] at c
      injection c with c
      rw [List.drop_take, List.take_take, List.drop_drop, ← c, show o + i * 4 + m * 4 = o + (i + m) * 4 by omega]
      congr 1; omega
theorem KCs.kat {h h' : Heap} {v : Value} {X : Lib} {cs : List Value} (k : KCs h X cs) (hv : Buf h h' v 4 cs) (g : Grows h h') (hm : X.length ≤ maxLen) : ∃ b, v = sl b 0 X.length 4 ∧ KAt h' b 0 4 X := by
  rcases hv with ⟨e1, e2⟩ | ⟨b, n, e1, e2, e3, e4⟩
  · have hl := k.1
    rw [e1] at hl; simp at hl
    have : X = [] := List.length_eq_zero_iff.1 (by omega)
    subst this
    exact ⟨0, e2, ⟨by simp, .inl rfl⟩, fun i hi => by simp at hi⟩
  · rw [k.1] at e2
    have : n = X.length := by omega
    subst this
    refine ⟨b, e1, ⟨hm, .inl rfl⟩, fun i hi => ?_⟩
    obtain ⟨s, c, r, w⟩ := k.2 i hi
    refine ⟨s, ?_, r.grow g, w⟩
    rw [Nat.zero_add, cellsAt_of e4 (by simp only; rw [k.1]; omega), c]
/-- A part of a list that is there is appended. -/
theorem app_part {h0 h : Heap} {b o z i j o' n' : Nat} {v : Value} {X Y : Lib} {cs : List Value} {K : Value → Heap → Prop} (hp : 0 < h0.length) (g : Grows h0 h) (hv : Buf h0 h v 4 cs) (hX : KCs h0 X cs) (y : KAt h0 b o z Y) (hz : z = 4 ∨ Y = []) (hij : i ≤ j) (hj : j ≤ Y.length) (hl : X.length ≤ 1000) (hl2 : Y.length ≤ 1000) (eo : o' = o + i * z) (en : n' = j - i)
    (hK : ∀ v' h' cs', Grows h0 h' → Buf h0 h' v' 4 cs' → KCs h0 (X ++ (Y.take j).drop i) cs' → K v' h') : bindW (aAppend 4 h (sl b o' n' z) v) K := by
  subst eo; subst en
  obtain ⟨new, hn, hnew⟩ := y.part hz hij hj
  have hn' : newCells 4 h (sl b (o + i * z) (j - i) z) = some new := by
    by_cases e : j - i = 0
    · simp only [newCells, sl, if_pos e] at hn ⊢; exact hn
    · simp only [newCells, sl, if_neg e] at hn ⊢; exact g.cellsAt hn
  have hnl := hnew.1
  rw [List.length_drop, List.length_take] at hnl
  by_cases e : new = []
  · have e1 : aAppend 4 h (sl b (o + i * z) (j - i) z) v = some (v, h) := by
      rcases hv with ⟨_, e2⟩ | ⟨b', n', e2, _⟩
      · rw [e2]; simp only [aAppend, sl]; rw [show newCells 4 h (.slice (some ⟨b, o + i * z, none⟩) (j - i) z) = some new from hn']; simp [e]
      · rw [e2]; simp only [aAppend, sl]; rw [show newCells 4 h (.slice (some ⟨b, o + i * z, none⟩) (j - i) z) = some new from hn']; simp [e]
    rw [e1]
    simp only [bindW_some]
    have := hX.append hnew
    rw [e, List.append_nil] at this
    exact hK v h cs g hv this
  · refine append_buf hp g hv hn' (by omega) e (by omega) (by rw [hX.1, hnl]; simp [maxSize]; omega) fun v' h' g' b' _ => ?_
    exact hK v' h' _ g' b' (hX.append hnew)

theorem erase_parts (X : Lib) (k : Nat) (hk : k < X.length) : (X.take k).drop 0 ++ (X.take X.length).drop (k + 1) = X.eraseIdx k := by
  rw [List.drop_zero, List.take_length, List.eraseIdx_eq_take_drop_succ]
theorem KeptOk.erase_siz {X : Lib} (ok : KeptOk X) (i : Nat) : siz shKepts (X.eraseIdx i) ≤ 16777216 := by
  have key : ∀ Y : Lib, (∀ y ∈ Y, y ∈ X) → sizL Y ≤ 200 * Y.length := by
    intro Y
    induction Y with
    | nil => intro _; simp [sizL]
    | cons y Y ih =>
      intro hy
      have h1 := ih fun z hz => hy z (by simp [hz])
      obtain ⟨j, hj, rfl⟩ := List.getElem_of_mem (hy y (by simp))
      obtain ⟨okp, hn⟩ := ok.getOk hj
      have h128 := okp.siz
      have h3 : siz shKept X[j] = X[j].1.length + X[j].2.2.2.length := siz_kept _ _ _ _
      have h4 : sizL (X[j] :: Y) = siz shKept X[j] + sizL Y := by simp [sizL]
      rw [h4, h3]
      simp only [List.length_cons]; omega
  have hl : (X.eraseIdx i).length ≤ X.length := List.length_eraseIdx_le X i
  have := key (X.eraseIdx i) fun y hy => List.mem_of_mem_eraseIdx hy
  have := ok.len
  rw [siz_kepts]; omega
theorem KeptOk.small {X : Lib} (ok : KeptOk X) : ∀ y ∈ X, y.1.length ≤ 12 ∧ y.2.2.2.length ≤ 128 := by
  intro y hy
  obtain ⟨j, hj, rfl⟩ := List.getElem_of_mem hy
  obtain ⟨okp, hn⟩ := ok.getOk hj
  exact ⟨hn, okp.siz⟩
theorem remove_siz (X : Lib) (s : List UInt8) : siz shKepts (removeAns X s).1 ≤ 16777216 := by
  unfold removeAns
  split
  · rename_i h
    split
    · exact (keptOk_iff.1 h).erase_siz _
    · rw [siz_kepts]; simp [sizL]
  · rw [siz_kepts]; simp [sizL]
theorem Vo.no_kepts {h : Heap} {lo hi : Nat} {z : Nat} : Vo h lo hi shKepts (sl 0 0 0 z) ([] : Lib) := KO.vo (L := []) ⟨.inr ⟨rfl, rfl⟩, by simp, by simp, .inl rfl, by simp, by simp⟩
theorem c124 (h : Heap) (hp : 0 < h.length) (v0 : Value) (X : Lib) (hv0 : Vr h shKepts v0 X) (hs0 : siz shKepts X ≤ 1048576) (s : List UInt8) (hs1 : s.length ≤ 1048576) :
    ACall Gam 124 [v0, S s] h fun r h' => Grows h h' ∧ ∃ r0, r = .tuple #[r0, I (removeAns X s).2] ∧ Vo h' h.length h'.length shKepts r0 (removeAns X s).1 ∧ siz shKepts (removeAns X s).1 ≤ 16777216 := by
  have hsz := remove_siz X s
  obtain ⟨b, o, z, rfl, hX⟩ := hv0.kat
  refine ACall_intro g124 rfl ?_
  unfold fn124
  simp (disch := omega)
  refine callW_of (c168 h hp b o z X hX hs0 s) ?_
  rintro _ h1 ⟨rfl, G1⟩
  have l1 := G1.le
  have hle := nameN_le X s
  cases e1 : keptOk X
  · have e : removeAns X s = ([], 1) := by simp [removeAns, e1]
    rw [e] at hsz ⊢
    simp (disch := omega) [keptIx, resOf, resAll, resOne, aField]
    exact ⟨G1, Vo.no_kepts, hsz⟩
  have ok := keptOk_iff.1 e1
  by_cases e3 : nameN X s < X.length
  · have e : removeAns X s = (X.eraseIdx (nameN X s), 0) := by simp [removeAns, e1, e3]
    rw [e] at hsz ⊢
    have h40 := ok.len
    simp (disch := omega) [keptIx, e3]
    refine callW_of (c149 h1 (by omega) b o z X (hX.grow G1) (by omega) fun i hi => by have := ok.small _ (List.getElem_mem hi); omega) ?_
    rintro v2 h2 ⟨G2, L, hL, kb⟩
    have l2 := G2.le
    have hLl : L.length = X.length := by rw [← hL]; simp
    have kb' : KB h1 h2 v2 L := kb
    simp (disch := omega) [wrap64]
    refine callW_of (c311 h1 h2 (by omega) G2 v2 L kb' (nameN X s) (by omega)) ?_
    rintro v3 h3 ⟨G3, kb3⟩
    have hl3 : (L.eraseIdx (nameN X s)).length ≤ maxLen := by
      have := List.length_eraseIdx_le L (nameN X s)
      rw [maxLen_eq]; omega
    have vo := kb3.vo hl3
    have hm : (L.eraseIdx (nameN X s)).map (·.1) = X.eraseIdx (nameN X s) := by
      rw [← hL, List.eraseIdx_eq_take_drop_succ, List.eraseIdx_eq_take_drop_succ, List.map_append, List.map_take, List.map_drop]
    rw [hm] at vo
    obtain ⟨b3, e3'⟩ := kb3.len
    subst e3'
    simp (disch := omega) [resOf, resAll, resOne, aField]
    exact ⟨G1.trans G3, vo.wide l1 (Nat.le_refl _), hsz⟩
  · have e : removeAns X s = ([], 3) := by simp [removeAns, e1, e3]
    rw [e] at hsz ⊢
    simp (disch := omega) [keptIx, e3, resOf, resAll, resOne, aField]
    exact ⟨G1, Vo.no_kepts, hsz⟩
theorem c415 (h : Heap) (hp : 0 < h.length) (v0 : Value) (X : Lib) (hv0 : Vr h shKepts v0 X) (hs0 : siz shKepts X ≤ 1048576) (s : List UInt8) (hs1 : s.length ≤ 1048576) :
    ACall Gam 415 [v0, S s] h fun r h' => Grows h h' ∧ ∃ r0, r = .tuple #[r0, I (removeAns X s).2] ∧ Vo h' h.length h'.length shKepts r0 (removeAns X s).1 ∧ siz shKepts (removeAns X s).1 ≤ 16777216 := by
  have hsz := remove_siz X s
  obtain ⟨b, o, z, rfl, hX, hz⟩ := hv0.kat4
  refine ACall_intro g415 rfl ?_
  unfold fn415
  simp (disch := omega)
  refine callW_of (c541 h hp b o z X hX fun k hk => KAt.short hs0 hk) ?_
  rintro _ h1 ⟨rfl, G1⟩
  have l1 := G1.le
  have hle := nameN_le X s
  cases e1 : keptOk X
  · have e : removeAns X s = ([], 1) := by simp [removeAns, e1]
    rw [e] at hsz ⊢
    simp (disch := omega) [resOf, resAll, resOne, aField]
    exact ⟨G1, Vo.no_kepts, hsz⟩
  have ok := keptOk_iff.1 e1
  simp (disch := omega)
  refine callW_of (c538 h1 b o z X (hX.grow G1) s) ?_
  rintro _ h1 ⟨rfl, rfl⟩
  by_cases e3 : nameN X s < X.length
  · have e : removeAns X s = (X.eraseIdx (nameN X s), 0) := by simp [removeAns, e1, e3]
    rw [e] at hsz ⊢
    have h40 := ok.len
    obtain ⟨k, hk⟩ : ∃ k, k = nameN X s := ⟨_, rfl⟩
    rw [← hk] at e3 hsz ⊢
    have hz1 : z = 4 ∨ b = 0 := hX.1.2
    have n0 : ¬ ((k : Nat) : Int) < 0 := by omega
    have n1 : (0 : Int) ≤ (k : Int) + 1 := by omega
    have n2 : (k : Int) + 1 ≤ X.length := by omega
    have n3 : k + 1 ≤ X.length := by omega
    have n4 : k ≤ X.length := by omega
    have hX1 := hX.grow G1
    simp (disch := omega) [ix_lt e3, n0, n1, n2, n3, n4, aSlice, bound, hz1, wrap64]
    refine app_part (h0 := h1) (i := 0) (j := k) (X := []) (Y := X) (cs := []) (by omega) (Grows.refl _) Buf.nil KCs.nil hX1 hz (by omega) (by omega) (by simp) (by omega) (by omega) (by omega) fun v2 h2 cs2 G2 B2 C2 => ?_
    have lk : ([] ++ (X.take k).drop 0).length = k := by simp; omega
    try simp (disch := omega) [ix_lt e3, n0, n1, n2, n3, n4, aSlice, bound, hz1, wrap64]
    refine app_part (h0 := h1) (i := k + 1) (j := X.length) (Y := X) (by omega) G2 B2 C2 hX1 hz (by omega) (by omega) (by omega) (by omega) (by omega) (by omega) fun v3 h3 cs3 G3 B3 C3 => ?_
    have em : [] ++ (X.take k).drop 0 ++ (X.take X.length).drop (k + 1) = X.eraseIdx k := by rw [List.nil_append, erase_parts X k e3]
    rw [em] at C3
    have le := List.length_eraseIdx_le X k
    obtain ⟨b4, rfl, hX4⟩ := C3.kat B3 G3 (by rw [maxLen_eq]; omega)
    have l3 := G3.le
    try simp (disch := omega)
    refine callW_of (c542 h3 (by omega) b4 0 4 (X.eraseIdx k) hX4 (by omega) fun i hi => by have := ok.small _ (List.mem_of_mem_eraseIdx (List.getElem_mem hi)); omega) ?_
    rintro v5 h5 ⟨G5, L, hL, kb⟩
    have hLl : L.length ≤ maxLen := by
      have := congrArg List.length hL
      rw [List.length_map] at this
      rw [maxLen_eq]; omega
    have vo := kb.vo hLl
    rw [hL] at vo
    obtain ⟨b5, e5⟩ := kb.len
    subst e5
    simp (disch := omega) [resOf, resAll, resOne, aField]
    exact ⟨G1.trans (G3.trans G5), vo.wide (by omega) (Nat.le_refl _), hsz⟩
  · have e : removeAns X s = ([], 3) := by simp [removeAns, e1, e3]
    rw [e] at hsz ⊢
    simp (disch := omega) [ix_no e3, resOf, resAll, resOne, aField]
    exact ⟨G1, Vo.no_kepts, hsz⟩
end Am
/-! AmY19 -/
set_option linter.unusedVariables false
set_option linter.unusedSimpArgs false
set_option maxHeartbeats 4000000
set_option maxRecDepth 4000
namespace Am
open Go

/-! ### the program: sought by halves, inserted -/
def cmpT (a b : List UInt8) : Int := if lexLt a b = true then -1 else if lexLt b a = true then 1 else 0
theorem c153 (h : Heap) (a b : List UInt8) : ACall Gam 153 [S a, S b] h fun r h' => r = I (cmpT a b) ∧ h' = h := by
  refine ACall_intro g153 rfl ?_
  unfold fn153
  have e := lexLt_not b a
  cases q : lexLt a b
  · rw [q] at e
    simp only [Bool.false_or] at e
    by_cases q2 : a = b
    · simp (disch := omega) [q, q2, cmpT, lexLt_irr]
    · simp (disch := omega) [q, q2, cmpT, e]
  · simp (disch := omega) [q, cmpT]
theorem c201 (h : Heap) (n m : List UInt8) (W H W' H' : Int) (s s' : Value) : ACall Gam 201 [.agg #[S n, I W, I H, s], .agg #[S m, I W', I H', s']] h fun r h' => r = I (cmpT n m) ∧ h' = h := by
  refine ACall_intro g201 rfl ?_
  unfold fn201
  simp (disch := omega)
  refine callW_of (c153 h n m) ?_
  rintro _ h' ⟨rfl, rfl⟩
  simp
theorem c306 (h : Heap) (b o z : Nat) (X : Lib) (hX : KAt h b o z X) (hl : X.length ≤ 1000) (srt : SortK X) (n : List UInt8) (W H : Int) (s : Value) (hn : ∀ y ∈ X, y.1 ≠ n) :
    ACall Gam 306 [sl b o X.length z, .agg #[S n, I W, I H, s], .func (.func 201) #[] #[]] h fun r h' => h' = h ∧ ∃ k c, IsPut X n k ∧ r = .tuple #[I k, B c] := by
  refine ACall_intro g306 rfl ?_
  unfold fn306
  simp (disch := omega)
  refine awp_loop (fun (p : Nat × Nat) σ h' => h' = h ∧ p.1 ≤ p.2 ∧ p.2 ≤ X.length ∧ σ 0 = sl b o X.length z ∧ σ 2 = .func (.func 201) #[] #[] ∧ σ 4 = .agg #[S n, I W, I H, s] ∧ σ 8 = I X.length ∧ σ 9 = I p.1 ∧ σ 10 = I p.2 ∧ (∀ i (hi : i < X.length), i < p.1 → lexLt X[i].1 n = true) ∧ ∀ i (hi : i < X.length), p.2 ≤ i → lexLt n X[i].1 = true) (fun p => p.2 - p.1) (0, X.length) ?_ ?_
  · refine ⟨rfl, by omega, by omega, by simp, by simp, by simp, by simp, by simp, by simp, fun i hi h => by omega, fun i hi h => by omega⟩
  · rintro ⟨i, j⟩ σ h' ⟨rfl, hij, hj, q0, q2, q4, q8, q9, q10, lo, hi⟩
    simp only at hij hj q9 q10 lo hi
    simp (disch := omega) [q9, q10]
    refine fork_dec (fun hlt => ?_) (fun hge => ?_)
    · obtain ⟨m, hm⟩ : ∃ m, m = (i + j) / 2 := ⟨_, rfl⟩
      have em : IntKind.i64.wrap ((IntKind.u64.wrap ((i : Int) + j)).fdiv (2 ^ min 1 IntKind.u64.bits)) = (m : Int) := by
        rw [wrapU (by omega) (by omega)]
        have e2 : ((2 : Int) ^ min 1 IntKind.u64.bits) = 2 := by decide
        rw [e2, Int.fdiv_eq_ediv_of_nonneg _ (by omega), wrap64 (by omega) (by omega)]
        omega
      have m1 : m < X.length := by omega
      obtain ⟨s', c, c1, _⟩ := hX.cells m1
      have hsrt := List.pairwise_iff_getElem.1 srt
      have hmn := hn _ (List.getElem_mem m1)
      simp (disch := omega) [q0, q2, q4, q9, q10, em, m1, c, wrap64]
      refine callW_of (c201 h' X[m].1 n _ _ W H s' s) ?_
      rintro _ h' ⟨rfl, rfl⟩
      cases q : lexLt X[m].1 n
      · have q' := lexLt_or q hmn
        have ec : cmpT X[m].1 n = 1 := by simp [cmpT, q, q']
        simp (disch := omega) [ec, q0, q2, q4, q8, q9, q10, wrap64]
        refine ⟨i, m, ⟨by omega, by omega, by omega, by omega, lo, fun k hk h => ?_⟩, by omega⟩
        by_cases e : k = m
        · subst e; exact q'
        · exact lexLt_trans q' (hsrt m k m1 hk (by omega))
      · have ec : cmpT X[m].1 n = -1 := by simp [cmpT, q]
        simp (disch := omega) [ec, q0, q2, q4, q8, q9, q10, wrap64]
        refine ⟨m + 1, j, ⟨by omega, by omega, by omega, by omega, fun k hk h => ?_, hi⟩, by omega⟩
        by_cases e : k = m
        · subst e; exact q
        · exact lexLt_trans (hsrt k m hk m1 (by omega)) q
    · have : i = j := by omega
      subst this
      have put : IsPut X n i := ⟨hj, fun k hk h => lo k hk h, fun k hk h => hi k hk h⟩
      by_cases e : i < X.length
      · obtain ⟨s', c, _⟩ := hX.cells e
        have e' : (i : Int) < X.length := by omega
        simp (disch := omega) [q0, q2, q4, q8, q9, q10, e, e', c]
        refine callW_of (c201 h' X[i].1 n _ _ W H s' s) ?_
        rintro _ h' ⟨rfl, rfl⟩
        simp (disch := omega) [q0, q2, q4, q8, q9, q10, resOf, resAll, resOne, aField]
        exact ⟨i, put, by by_cases q : cmpT X[i].1 n = 0 <;> simp [q]⟩
      · have e' : ¬ (i : Int) < X.length := by omega
        simp (disch := omega) [q0, q2, q4, q8, q9, q10, e, e', resOf, resAll, resOne, aField]
        exact ⟨i, put, rfl⟩

theorem rowsC_ins (L : List Row) (i : Nat) (hi : i ≤ L.length) (r : Row) : (rowsC L).take (i * 4) ++ (rowC r ++ (rowsC L).drop (i * 4)) = rowsC (L.take i ++ r :: L.drop i) := by
  have e1 : (rowsC (L.take i)).length = i * 4 := by rw [rowsC_len, List.length_take]; congr 1; omega
  have e2 : rowsC L = rowsC (L.take i) ++ rowsC (L.drop i) := by rw [← rowsC_append, List.take_append_drop]
  rw [e2, List.take_append_of_le_length (by omega), List.take_of_length_le (by omega), List.drop_append, List.drop_eq_nil_of_le (by omega), List.nil_append, e1, Nat.sub_self, List.drop_zero, rowsC_append, rowsC_cons]
theorem ins_perm (L : List Row) (i : Nat) (r : Row) : List.Perm (L.take i ++ r :: L.drop i) (r :: L) := by
  have := (List.perm_middle (a := r) (l₁ := L.take i) (l₂ := L.drop i))
  rw [List.take_append_drop] at this
  exact this
theorem c318 (h0 h h1 : Heap) (hp : 0 < h0.length) (g : Grows h0 h) (v : Value) (L : List Row) (kb : KB h0 h v L) (hl : L.length ≤ 1000) (i : Nat) (hi : i ≤ L.length) (r : Row) (G1 : Grows h h1) (er : EntO h r) (hr0 : ∀ c ∈ rowB r, h0.length ≤ c) (hrn : ∀ q ∈ L, ∀ c ∈ rowB q, c ∉ rowB r) (nb : Nat) (hnb : h.length ≤ nb) (hb : h1[nb]? = some ⟨rowC r, true⟩) (hv : ∀ m, v ≠ sl r.2.1 0 m 4 ∨ rbr r = []) :
    ACall Gam 318 [v, I i, sl nb 0 1 4] h1 fun w h' => Grows h0 h' ∧ KB h0 h' w (L.take i ++ r :: L.drop i) ∧ h.length ≤ h'.length ∧ (∃ b2 n2, w = sl b2 0 n2 4 ∧ h.length ≤ b2) ∧ ∀ c, c < h.length → (∀ m, v ≠ sl c 0 m 4) → h'[c]? = h[c]? := by
  have hlen := rowsC_len L
  have hn : newCells 4 h1 (sl nb 0 1 4) = some (rowC r) := by
    simp only [newCells, if_neg (show ¬ (1 : Nat) = 0 by omega)]
    exact cellsAt_all (n := 4) hb rfl
  have perm := ins_perm L i r
  have nd : ((L.take i ++ r :: L.drop i).map rowB).flatten.Nodup := by
    have p2 : List.Perm ((L.take i ++ r :: L.drop i).map rowB).flatten ((r :: L).map rowB).flatten := (perm.map rowB).flatten
    rw [p2.nodup_iff]
    simp only [List.map_cons, List.flatten_cons]
    rw [List.nodup_append]
    refine ⟨by unfold rowB; split <;> simp, kb.nd, fun c hc d hd e => ?_⟩
    obtain ⟨t, ht, hdt⟩ := List.mem_flatten.1 hd
    obtain ⟨q, hq, rfl⟩ := List.mem_map.1 ht
    exact hrn q hq d hdt (e ▸ hc)
  have mem : ∀ q ∈ L.take i ++ r :: L.drop i, q = r ∨ q ∈ L := by
    intro q hq
    have := perm.mem_iff.1 hq
    simpa using this
  have lr : (L.take i ++ r :: L.drop i).length = L.length + 1 := by
    have := perm.length_eq
    simpa using this
  have rg : ∀ q ∈ L.take i ++ r :: L.drop i, ∀ c ∈ rowB q, h0.length ≤ c := by
    intro q hq c hc
    rcases mem q hq with e | e
    · rw [e] at hc; exact hr0 c hc
    · exact kb.rg q e c hc
  have l1 := G1.le
  rcases kb.b with ⟨e1, rfl⟩ | ⟨b, n, rfl, e2, e3, e4⟩
  · have hL : L = [] := by
      rw [e1] at hlen; simp at hlen; exact List.length_eq_zero_iff.1 (by omega)
    subst hL
    have hi0 : i = 0 := by simpa using hi
    subst hi0
    have hx : primInsert 4 [sl 0 0 0 4, I ((0 : Nat) : Int), sl nb 0 1 4] h1 = some (sl h1.length 0 1 4, h1 ++ [⟨rowC r, true⟩]) := by
      simp only [primInsert, sl]
      rw [show newCells 4 h1 (.slice (some ⟨nb, 0, none⟩) 1 4) = some (rowC r) from hn]
      have c1 : ¬ ((4 : Nat) < 2 ∨ (4 : Nat) ≠ 4 ∨ (1 : Nat) = 0 ∨ maxSize < 0 + (rowC r).length ∨ ((0 : Nat) : Int) < 0 ∨ ((0 : Nat) : Int) < ((0 : Nat) : Int) ∨ nb = 0) := by
        simp [maxSize, rowC]
        have := g.le; omega
      simp only
      rw [if_neg c1, if_pos trivial]
    refine ACall_prim g318 rfl rfl hx ⟨(g.trans G1).push _, ⟨.inr ⟨h1.length, 1, rfl, by simp [rowC, rowsC], by have := g.le; omega, by simp [rowsC]⟩, fun q hq => ?_, nd, rg⟩, by simp; omega, ⟨_, _, rfl, by omega⟩, fun c hc _ => by rw [List.getElem?_append_left (by omega), G1.look hc]⟩
    simp at hq; subst hq
    exact er.frame fun c hc => by
      have := er.lt c hc
      rw [List.getElem?_append_left (by omega), G1.look this]
  · have hnn : n = L.length := by rw [hlen] at e2; omega
    subst hnn
    have e4' := G1.at e4
    have hb0 : b ≠ 0 := by omega
    have hbl := at_lt e4
    have hx : primInsert 4 [sl b 0 L.length 4, I i, sl nb 0 1 4] h1 = some (sl h1.length 0 (L.length + 1) 4, h1.set b ⟨[], false⟩ ++ [⟨rowsC (L.take i ++ r :: L.drop i), true⟩]) := by
      simp only [primInsert, sl]
      rw [show newCells 4 h1 (.slice (some ⟨nb, 0, none⟩) 1 4) = some (rowC r) from hn]
      have c1 : ¬ ((4 : Nat) < 2 ∨ (4 : Nat) ≠ 4 ∨ (1 : Nat) = 0 ∨ maxSize < L.length + (rowC r).length ∨ (i : Int) < 0 ∨ (L.length : Int) < (i : Int) ∨ nb = b) := by
        simp [maxSize, rowC]; omega
      simp only
      rw [if_neg c1, if_neg hb0]
      simp only [e4', hb]
      rw [if_pos ⟨trivial, trivial, trivial⟩, cellsAt_all e4' e2]
      simp only
      rw [show (i : Int).toNat = i by omega, rowsC_ins L i hi r]
    have nbb := rows_nb (b := b) kb.el (.inr e4)
    refine ACall_prim g318 rfl rfl hx ⟨((g.trans G1).put e3 _).push _, ⟨.inr ⟨h1.length, L.length + 1, rfl, by rw [rowsC_len, lr], by have := g.le; omega, by simp⟩, fun q hq => ?_, nd, rg⟩, by simp; omega, ⟨_, _, rfl, by omega⟩, fun c hc hcv => by rw [List.getElem?_append_left (by simp; omega), List.getElem?_set_ne (fun e => hcv L.length (by rw [e])), G1.look hc]⟩
    have hne : ∀ c ∈ rowB q, c ≠ b ∧ c < h.length := by
      intro c hc
      rcases mem q hq with e | e
      · subst e
        refine ⟨fun ec => ?_, er.lt c hc⟩
        unfold rowB at hc
        split at hc
        · simp at hc
        · rename_i h5
          simp at hc
          rcases hv L.length with q5 | q5
          · exact q5 (by rw [← hc, ec])
          · exact h5 q5
      · exact ⟨fun ec => nbb q e (ec ▸ hc), (kb.el q e).lt c hc⟩
    have eq0 : EntO h q := by
      rcases mem q hq with e | e
      · rw [e]; exact er
      · exact kb.el q e
    refine eq0.frame fun c hc => ?_
    obtain ⟨n1, n2⟩ := hne c hc
    rw [List.getElem?_append_left (by simp; omega), List.getElem?_set_ne (Ne.symm n1), G1.look n2]
end Am
