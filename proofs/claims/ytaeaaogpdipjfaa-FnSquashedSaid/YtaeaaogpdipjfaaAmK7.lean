/- Contracts: AmY36, AmY37, AmG1, AmG2, AmG5. -/
import Derived.Test.YtaeaaogpdipjfaaAmK6
import Derived.Test.YtaeaaogpdipjfaaAmK3
import Derived.Test.YtaeaaogpdipjfaaAmK5
import Derived.Test.YtaeaaogpdipjfaaAmK4
/-! AmY36 -/
set_option linter.unusedVariables false
set_option linter.unusedSimpArgs false
set_option maxHeartbeats 4000000
set_option maxRecDepth 4000
namespace Am
open Go

/-- The breaks after the first steps from the start. -/
def fwdB (p : List Trip) (c : List Int) (k : Nat) : List Int := (p.take k).foldl (fun b s => b.set s.1.toNat s.2.2) c
theorem fwdB_succ {p : List Trip} {c : List Int} {k : Nat} (h : k < p.length) : fwdB p c (k + 1) = (fwdB p c k).set p[k].1.toNat p[k].2.2 := by
  unfold fwdB
  rw [List.take_succ_eq_append_getElem h, List.foldl_append]
  rfl
theorem runB_all : ∀ {l : List Trip} {br c : List Int}, runB l br = some c → ∀ s ∈ l, okStep br.length s = true
  | [], _, _, _ => by simp
  | s :: l, br, c, h => by
    simp only [runB] at h
    split at h
    · rename_i q
      simp only [Bool.and_eq_true] at q
      intro t ht
      rcases List.mem_cons.1 ht with rfl | ht
      · exact q.1
      · have := runB_all h t ht
        simpa using this
    · cases h
theorem fwdB_ok {p : List Trip} {c : List Int} {n : Nat} (hc : c.length = n) (hc2 : ∀ x ∈ c, 0 ≤ x ∧ x ≤ 2) (hp : ∀ s ∈ p, okStep n s = true) : ∀ k, k ≤ p.length → (fwdB p c k).length = n ∧ ∀ x ∈ fwdB p c k, 0 ≤ x ∧ x ≤ 2
  | 0, _ => by simpa [fwdB] using ⟨hc, hc2⟩
  | k + 1, hk => by
    obtain ⟨h1, h2⟩ := fwdB_ok hc hc2 hp k (by omega)
    rw [fwdB_succ (by omega)]
    refine ⟨by simpa using h1, fun x hx => ?_⟩
    rcases List.mem_or_eq_of_mem_set hx with hx | rfl
    · exact h2 x hx
    · exact (okStep_iff.1 (hp _ (List.getElem_mem _))).2.2.1
noncomputable def alongL (X : Jrn) (k : Nat) : List Int := (List.range k).map fun j => (curveN (X.1.1, X.1.2.1, fwdB X.2.1 (startB X) j) : Int)
theorem alongL_succ (X : Jrn) (k : Nat) : alongL X (k + 1) = alongL X k ++ [(curveN (X.1.1, X.1.2.1, fwdB X.2.1 (startB X) k) : Int)] := by simp [alongL, List.range_succ]
theorem alongL_len (X : Jrn) (k : Nat) : (alongL X k).length = k := by simp [alongL]
noncomputable def alongA (X : Jrn) : List Int × Int := if okJ X then (alongL X (X.2.1.length + 1), 0) else ([], 1)
theorem curvesSt_le {f : Wk → Wk} {seg : Wk → Nat} {wk : Nat → Wk} {N : Nat} : ∀ k, (curvesSt f seg wk N k).2 ≤ k
  | 0 => by simp [curvesSt]
  | k + 1 => by
    have := curvesSt_le (f := f) (seg := seg) (wk := wk) (N := N) k
    simp only [curvesSt]; split
    · omega
    · simp only; omega
theorem curveN_le {X : Pan} (ok : OkP X) : curveN X ≤ 256 := by
  have h1 : curveN X ≤ 4 * X.1.toNat * X.2.1.toNat := curvesSt_le _
  have h2 : 4 * X.1.toNat * X.2.1.toNat ≤ 4 * 8 * 8 := Nat.mul_le_mul (by have := ok.w; omega) (by have := ok.h; omega)
  omega
structure AlongOk (W H : Int) (br : List Int) (p f : List Trip) : Prop where
  ok : ∀ k, k ≤ p.length → OkP (W, H, fwdB p (startB ((W, H, br), p, f)) k)
  st : ∀ k, (h : k < p.length) → (0 ≤ p[k].1 ∧ p[k].1 < (fwdB p (startB ((W, H, br), p, f)) k).length)
  len : ∀ k, k ≤ p.length → (fwdB p (startB ((W, H, br), p, f)) k).length = br.length
  le : p.length ≤ 50
theorem along_ok {W H : Int} {br : List Int} {p f : List Trip} (h : okJ ((W, H, br), p, f) = true) : AlongOk W H br p f := by
  obtain ⟨ok, hle, ⟨fin, hfin⟩, _⟩ := okJ_parts h
  obtain ⟨s1, s2⟩ := startB_ok h
  have hall : ∀ s ∈ p, okStep br.length s = true := fun s hs => runB_all hfin s (by simpa using hs)
  have key := fwdB_ok s1 s2 hall
  refine ⟨fun k hk => ⟨ok.w, ok.h, ?_, (key k hk).2⟩, fun k hk => ?_, fun k hk => (key k hk).1, by omega⟩
  · have := ok.n
    simp only at this ⊢
    rw [(key k hk).1]; exact this
  · rw [(key k (by omega)).1]
    exact (okStep_iff.1 (hall _ (List.getElem_mem hk))).1
theorem along_siz (X : Jrn) : siz shInts (alongA X).1 ≤ 16777216 ∧ ∀ x ∈ (alongA X).1, I64 x := by
  unfold alongA
  split
  · rename_i q
    obtain ⟨⟨W, H, br⟩, p, f⟩ := X
    have A := along_ok q
    constructor
    · rw [siz_ints, alongL_len]; have := A.le; simp only; omega
    · intro x hx
      simp only [alongL, List.mem_map, List.mem_range] at hx
      obtain ⟨j, hj, rfl⟩ := hx
      have := curveN_le (A.ok j (by omega))
      unfold I64; omega
  · constructor
    · rw [siz_ints]; simp
    · simp
theorem Buf.vo_ints {h0 h : Heap} {v : Value} {X : List Int} (x : Buf h0 h v 1 (Am.ints X)) (hm : X.length ≤ maxLen) (hx : ∀ x ∈ X, I64 x) : Vo h h0.length h.length shInts v X := by
  have hl : (Am.ints X).length = X.length := by simp [Am.ints]
  rcases x with ⟨e1, rfl⟩ | ⟨b, n, rfl, e2, e3, e4⟩
  · rw [e1] at hl
    have : X = [] := List.length_eq_zero_iff.1 (by simpa using hl.symm)
    subst this
    exact Vo.of_ints (.inr ⟨rfl, rfl⟩) (by simp [maxLen_eq]) (by simp) (.inl rfl)
  · have : n = X.length := by omega
    subst this
    exact Vo.of_ints (.inl rfl) hm hx (.inr ⟨e4, e3, at_lt e4⟩)
end Am
/-! AmY37 -/
set_option linter.unusedVariables false
set_option linter.unusedSimpArgs false
set_option maxHeartbeats 4000000
set_option maxRecDepth 4000
namespace Am
open Go

theorem trips_cells {h : Heap} {b o k : Nat} {X : List Trip} (hr : X = [] ∨ cellsAt h b o (X.length * 3) = some (trips X)) (hk : k < X.length) : cellsAt h b (o + k * 3) 3 = some [I X[k].1, I X[k].2.1, I X[k].2.2] := by
  rcases hr with h0 | hr
  · subst h0; simp at hk
  · rw [cellsAt_in hr (by omega)]
    congr 1
    have e : trips X = (X.map trip).flatten := rfl
    rw [e]
    exact flat_part (z := 3) (by intro c hc; obtain ⟨y, _, rfl⟩ := List.mem_map.1 hc; rfl) (by simp [hk]; rfl)
theorem c74 (h : Heap) (hp : 0 < h.length) (v0 : Value) (X0 : Jrn) (hv0 : Vr h shJournal v0 X0) (hs0 : siz shJournal X0 ≤ 1048576) :
    ACall Gam 74 [v0] h fun r h' => Grows h h' ∧ ∃ r0, r = .tuple #[r0, I (alongA X0).2] ∧ Vo h' h.length h'.length shInts r0 (alongA X0).1 ∧ siz shInts (alongA X0).1 ≤ 16777216 := by
  obtain ⟨hsz, h64⟩ := along_siz X0
  obtain ⟨⟨W, H, br⟩, p, f⟩ := X0
  have hv0' := hv0
  obtain ⟨s, sp, sf, rfl, w1, w2, r1, r2, r3⟩ := hv0.journal
  have hcp := r2.trips
  obtain ⟨pb, po, pz, rfl, _, hpm, hpx, hpc⟩ := hcp
  refine ACall_intro g74 rfl ?_
  unfold fn74
  simp (disch := omega)
  refine callW_of (c138 h hp _ _ hv0' hs0) ?_
  rintro _ h1 ⟨g1, rfl⟩
  try refine ⟨fun e => (by first | exact g1 | cases e), ?_⟩
  cases q : okJ ((W, H, br), p, f)
  · have e : alongA ((W, H, br), p, f) = ([], 1) := by simp [alongA, q]
    rw [e] at hsz ⊢
    simp (disch := omega)
    exact ⟨g1, Vo.no_ints, hsz⟩
  have e : alongA ((W, H, br), p, f) = (alongL ((W, H, br), p, f) (p.length + 1), 0) := by simp [alongA, q]
  rw [e] at hsz h64 ⊢
  have A := along_ok q
  have hle := A.le
  simp (disch := omega)
  refine callW_of (c22 h1 (pos_of hp g1) _ W H br p f (hv0'.grow g1) q) ?_
  rintro _ h3 ⟨g3, o2⟩
  obtain ⟨so, rfl, _, _, o2⟩ := o2.panel
  obtain ⟨bb, zz, rfl, hz, _, _, hb⟩ := o2.ints
  have l1 := g1.le
  have l3 := g3.le
  obtain ⟨c, ec⟩ : ∃ c, c = startB ((W, H, br), p, f) := ⟨_, rfl⟩
  rw [← ec] at hz hb ⊢
  try refine ⟨fun e => (by cases e), ?_⟩
  obtain ⟨n, en⟩ : ∃ n, n = c.length := ⟨_, rfl⟩
  have en' : n = br.length := by rw [en, ec]; exact (startB_ok q).1
  rw [← en]
  have Aok := A.ok
  have Ast := A.st
  have Aln := A.len
  rw [← ec] at Aok Ast Aln
  rw [← en'] at Aln
  have hz' : ∀ Y : List Int, Y.length = n → (zz = 1 ∨ bb = 0 ∧ Y = []) := fun Y hY => hz.imp id fun e => ⟨e.1, List.length_eq_zero_iff.1 (by rw [hY, en, e.2]; rfl)⟩
  have pp : ∀ {h' : Heap} {k : Nat}, k ≤ p.length → (n = 0 ∨ h'[bb]? = some ⟨ints (fwdB p c k), true⟩) → Vr h' shPanel (.agg #[I W, I H, sl bb 0 n zz]) (W, H, fwdB p c k) := by
    intro h' k hk hB
    have o := Aok k hk
    have hl := Aln k hk
    have vr := Vr.of_ints (h := h') (b := bb) (o := 0) (z := zz) (X := fwdB p c k) (hz' _ hl) (by rw [maxLen_eq, hl]; have := ok_len o; omega) (cur_64 o.b) (hB.imp (fun e => List.length_eq_zero_iff.1 (by omega)) fun e => cellsAt_all e (by simp [ints]))
    rw [hl] at vr
    exact Vr.of_panel w1 w2 vr
  have hb3 : n = 0 ∨ h3[bb]? = some ⟨ints (fwdB p c 0), true⟩ := hb.imp (fun e => by rw [en, e]; rfl) fun e => e.1
  have hbl : n = 0 ∨ h1.length ≤ bb ∧ bb < h3.length := hb.imp (fun e => by rw [en, e]; rfl) fun e => e.2
  simp (disch := omega)
  refine callW_of (c154 h3 (by omega) _ _ (pp (Nat.zero_le _) hb3) (Aok 0 (by omega))) ?_
  rintro _ h4 ⟨g4, rfl⟩
  try refine ⟨fun e => (by first | exact g4 | cases e), ?_⟩
  have l4 := g4.le
  have eb : aBuildSlice 1 1 h4 [(0, .agg #[I 0]), (1, I (curveN (W, H, fwdB p c 0)))] = some (sl h4.length 0 1 1, h4 ++ [⟨[I (curveN (W, H, fwdB p c 0))], true⟩]) := by simp [aBuildSlice]
  rw [eb]
  simp only [bindW_some]
  have g5 : Grows h4 (h4 ++ [⟨[I (curveN (W, H, fwdB p c 0))], true⟩]) := ⟨_, rfl⟩
  have l5 := g5.le
  refine awp_loop (fun (k : Nat) σ h' => k ≤ p.length ∧ Grows h1 h' ∧ h3.length ≤ h'.length ∧ (n = 0 ∨ h'[bb]? = some ⟨ints (fwdB p c k), true⟩) ∧ σ 4 = .agg #[I W, I H, sl bb 0 n zz] ∧ σ 17 = sl pb po p.length pz ∧ σ 18 = I p.length ∧ σ 19 = I k ∧ Buf h3 h' (σ 5) 1 (ints (alongL ((W, H, br), p, f) (k + 1)))) (fun k => p.length - k) 0 ?_ ?_
  · refine ⟨by omega, g3.trans (g4.trans g5), by omega, hb3.imp id (g4.trans g5).at, by simp, by simp, by simp, by simp, .inr ⟨h4.length, 1, by simp, by simp [alongL, ints], l4, by simp [alongL, ints, ec]⟩⟩
  rintro k σ h' ⟨hk, g, hl, hB, q4, q17, q18, q19, bf⟩
  simp (disch := omega) [q18, q19]
  refine fork_dec (fun hlt => ?_) (fun hge => ?_)
  · have k1 : k < p.length := by omega
    obtain ⟨t1, t2⟩ := Ast k k1
    have hlk := Aln k hk
    obtain ⟨t, ht⟩ := Int.eq_ofNat_of_zero_le t1
    obtain ⟨ca, cm, cb⟩ := trips_cell (hpc.imp id (grows_cellsAt (g1.trans g))) k1
    have c3 := trips_cells (hpc.imp id (grows_cellsAt (g1.trans g))) k1
    rw [ht] at t2 ca c3
    have htn : t < (fwdB p c k).length := by omega
    have htn' : t < n := by omega
    have hB1 := hB.resolve_left (by omega)
    obtain ⟨b1, b2⟩ := hbl.resolve_left (by omega)
    have hst := store_int (v := p[k].2.2) hB1 htn
    simp (disch := omega) [q4, q17, q18, q19, k1, c3, hst, htn', wrap64]
    obtain ⟨h6, e6⟩ : ∃ h6, h6 = h'.set bb ⟨ints ((fwdB p c k).set t p[k].2.2), true⟩ := ⟨_, rfl⟩
    rw [← e6]
    have g6 : Grows h1 h6 := by rw [e6]; exact g.put b1 _
    have l6 : h6.length = h'.length := by rw [e6]; simp
    have eset : fwdB p c (k + 1) = (fwdB p c k).set t p[k].2.2 := by rw [fwdB_succ k1, ht]; rfl
    have hB6 : h6[bb]? = some ⟨ints (fwdB p c (k + 1)), true⟩ := by rw [e6, eset]; simp [at_lt hB1]
    have bf6 : Buf h3 h6 (σ 5) 1 (ints (alongL ((W, H, br), p, f) (k + 1))) := by rw [e6]; exact bf.put (by omega)
    refine callW_of (c154 h6 (by omega) _ _ (pp (k := k + 1) (by omega) (.inr hB6)) (Aok (k + 1) (by omega))) ?_
    rintro _ h7 ⟨g7, rfl⟩
    try refine ⟨fun e => (by first | exact g7 | cases e), ?_⟩
    have l7 := g7.le
    have eb : aBuildSlice 1 1 h7 [(0, .agg #[I 0]), (1, I (curveN (W, H, fwdB p c (k + 1))))] = some (sl h7.length 0 1 1, h7 ++ [⟨[I (curveN (W, H, fwdB p c (k + 1)))], true⟩]) := by simp [aBuildSlice]
    rw [eb]
    simp only [bindW_some]
    have bf7 := bf6.grow g7
    have hln : (ints (alongL ((W, H, br), p, f) (k + 1))).length = k + 1 := by simp [ints, alongL_len]
    refine app1 (by omega) (g6.trans g7) (by omega) (by omega) bf7 (by simp) (by omega) (by rw [hln]; simp [maxSize]; omega) fun v6 h8 g8 l8 b8 n8 fr8 => ?_
    have hB8 := fr8 bb _ (g7.at hB6) (bf7.ne (by omega) (by omega))
    simp (disch := omega) [q4, q17, q18, q19, wrap64]
    have hB8' := (List.getElem?_eq_some_iff.1 hB8).2
    refine ⟨k + 1, ⟨by omega, g8, by omega, .inr (by first | exact hB8 | exact hB8' | simpa using hB8'), by omega, ?_⟩, by omega⟩
    rw [alongL_succ]
    simpa [ints, ec] using b8
  · have ek : k = p.length := by omega
    subst ek
    have vo := bf.vo_ints (by rw [maxLen_eq, alongL_len]; omega) h64
    obtain ⟨b9, e9⟩ := bf.sl1
    rw [e9] at vo
    simp (disch := omega) [q18, q19, e9]
    exact ⟨g1.trans g, vo.wide (by omega) (Nat.le_refl _), hsz⟩
end Am
/-! AmG1 -/
set_option linter.unusedVariables false
set_option linter.unusedSimpArgs false
set_option maxHeartbeats 4000000
set_option maxRecDepth 4000
namespace Am
open Go

/-! ### counting -/
open Classical in
noncomputable def ind (p : Prop) : Nat := if p then 1 else 0
theorem ind_yes {p : Prop} (h : p) : ind p = 1 := by unfold ind; exact if_pos h
theorem ind_no {p : Prop} (h : ¬ p) : ind p = 0 := by unfold ind; exact if_neg h
noncomputable def cntP (P : Nat → Prop) : Nat → Nat
  | 0 => 0
  | n + 1 => cntP P n + ind (P n)
theorem cntP_congr {P Q : Nat → Prop} : ∀ {n}, (∀ k, k < n → (P k ↔ Q k)) → cntP P n = cntP Q n
  | 0, _ => rfl
  | n + 1, h => by
    simp only [cntP]
    rw [cntP_congr (n := n) fun k hk => h k (by omega), propext (h n (by omega))]
theorem cntP_one {P Q : Nat → Prop} {m : Nat} : ∀ {n}, (∀ k, k < n → P k → Q k ∨ k = m) → cntP P n ≤ cntP Q n + ind (m < n)
  | 0, _ => Nat.zero_le _
  | n + 1, h => by
    simp only [cntP]
    have ih := cntP_one (P := P) (Q := Q) (m := m) (n := n) fun k hk => h k (by omega)
    have := h n (by omega)
    have i1 : ind (m < n) ≤ ind (m < n + 1) := by
      by_cases q : m < n
      · rw [ind_yes q, ind_yes (show m < n + 1 by omega)]; exact Nat.le_refl _
      · rw [ind_no q]; exact Nat.zero_le _
    by_cases q : P n
    · rw [ind_yes q]
      rcases this q with q' | q'
      · rw [ind_yes q']; omega
      · subst q'
        rw [ind_no (show ¬ n < n by omega)] at ih
        rw [ind_yes (show n < n + 1 by omega)]
        omega
    · rw [ind_no q]
      omega
theorem cntP_two {P : Nat → Prop} : ∀ {n}, cntP (fun j => P (j / 2)) (2 * n) = 2 * cntP P n
  | 0 => rfl
  | n + 1 => by
    rw [show 2 * (n + 1) = 2 * n + 1 + 1 by omega]
    simp only [cntP]
    rw [cntP_two (n := n)]
    have e1 : ind (P (2 * n / 2)) = ind (P n) := by congr; omega
    have e2 : ind (P ((2 * n + 1) / 2)) = ind (P n) := by congr; omega
    rw [e1, e2]; omega
/-! ### classes -/
def leastE (E : Nat → Nat → Prop) (k : Nat) : Prop := ∀ j, j < k → ¬ E j k
noncomputable def cls (E : Nat → Nat → Prop) (n : Nat) : Nat := cntP (leastE E) n
structure EqN (E : Nat → Nat → Prop) (n : Nat) : Prop where
  rf : ∀ k, k < n → E k k
  sm : ∀ j k, j < n → k < n → E j k → E k j
  tr : ∀ i j k, i < n → j < n → k < n → E i j → E j k → E i k
theorem cls_join {E E' : Nat → Nat → Prop} {n x y : Nat} (e : EqN E n) (hx : x < n) (hy : y < n) (h : ∀ j k, j < n → k < n → E' j k → E j k ∨ (E j x ∧ E y k) ∨ (E j y ∧ E x k)) : cls E n ≤ cls E' n + 1 := by
  obtain ⟨a, a1, a2, a3⟩ := least (P := fun k => E k x) x (e.rf x hx)
  obtain ⟨b, b1, b2, b3⟩ := least (P := fun k => E k y) y (e.rf y hy)
  have key : ∀ k, k < n → leastE E k → leastE E' k ∨ k = max a b := by
    intro k hk hl
    by_cases q : leastE E' k
    · exact .inl q
    · right
      simp only [leastE, Classical.not_forall, Classical.not_not] at q
      obtain ⟨j, hj, q⟩ := q
      have is_a : E x k → k = a := by
        intro hxk
        have hak := e.tr a x k (by omega) hx hk a2 hxk
        have h1 : ¬ a < k := fun h => hl a h hak
        have h2 : ¬ k < a := fun h => a3 k h (e.sm x k hx hk hxk)
        omega
      have is_b : E y k → k = b := by
        intro hxk
        have hak := e.tr b y k (by omega) hy hk b2 hxk
        have h1 : ¬ b < k := fun h => hl b h hak
        have h2 : ¬ k < b := fun h => b3 k h (e.sm y k hy hk hxk)
        omega
      rcases h j k (by omega) hk q with q | ⟨q1, q2⟩ | ⟨q1, q2⟩
      · exact absurd q (hl j hj)
      · have := is_b q2
        have h2 : ¬ j < a := fun h => a3 j h q1
        omega
      · have := is_a q2
        have h2 : ¬ j < b := fun h => b3 j h q1
        omega
  have := cntP_one (m := max a b) key
  unfold cls
  have i1 : ind (max a b < n) = 1 := ind_yes (by omega)
  omega

/-! ### one-to-one steps -/
section
variable {α : Type} {f g : α → α} {V : α → Prop} {ix : Nat → α} {n : Nat}
structure Inj (f : α → α) (V : α → Prop) (ix : Nat → α) (n : Nat) : Prop where
  vf : ∀ w, V w → V (f w)
  inj : ∀ w v, V w → V v → f w = f v → w = v
  cov : ∀ w, V w → ∃ j, j < n ∧ ix j = w
  vx : ∀ j, j < n → V (ix j)
def Go1 (f : α → α) (w v : α) : Prop := ∃ i, itW f i w = v
theorem Go1.refl (w : α) : Go1 f w w := ⟨0, rfl⟩
theorem Go1.trans {u v w : α} (x : Go1 f u v) (y : Go1 f v w) : Go1 f u w := by
  obtain ⟨i, rfl⟩ := x
  obtain ⟨j, rfl⟩ := y
  exact ⟨i + j, itW_add i j u⟩
theorem Go1.step {u v : α} (x : Go1 f u v) : Go1 f u (f v) := by
  obtain ⟨i, rfl⟩ := x
  exact ⟨i + 1, rfl⟩
theorem Inj.vi (a : Inj f V ix n) {w : α} (h : V w) : ∀ k, V (itW f k w)
  | 0 => h
  | k + 1 => a.vf _ (a.vi h k)
theorem Inj.injI (a : Inj f V ix n) {u v : α} (h : V u) (h' : V v) : ∀ k, itW f k u = itW f k v → u = v
  | 0, e => e
  | k + 1, e => a.injI h h' k (a.inj _ _ (a.vi h k) (a.vi h' k) e)
theorem Inj.again (a : Inj f V ix n) {w : α} (h : V w) : ∃ p, 0 < p ∧ itW f p w = w := by
  have hc : ∀ i, ∃ j, j < n ∧ ix j = itW f i w := fun i => a.cov _ (a.vi h i)
  obtain ⟨i, j, h1, h2, h3⟩ := pigeon n (fun i => Classical.choose (hc i)) fun i _ => (Classical.choose_spec (hc i)).1
  have e1 := (Classical.choose_spec (hc i)).2
  have e2 := (Classical.choose_spec (hc j)).2
  have h3' : Classical.choose (hc i) = Classical.choose (hc j) := h3
  rw [h3', e2] at e1
  refine ⟨j - i, by omega, ?_⟩
  have : itW f i (itW f (j - i) w) = itW f i w := by
    rw [← itW_add, show j - i + i = j by omega, e1]
  exact a.injI (a.vi h (j - i)) h i this
theorem it_mul {w : α} {p : Nat} (hp : itW f p w = w) : ∀ m, itW f (p * m) w = w
  | 0 => rfl
  | m + 1 => by rw [Nat.mul_succ, itW_add, it_mul hp m, hp]
theorem it_mod {w : α} {p : Nat} (hp : itW f p w = w) (i : Nat) : itW f i w = itW f (i % p) w := by
  have := Nat.div_add_mod i p
  have e : itW f i w = itW f (p * (i / p) + i % p) w := by rw [this]
  rw [e, itW_add, it_mul hp]
theorem Inj.symm (a : Inj f V ix n) {u v : α} (h : V u) (x : Go1 f u v) : Go1 f v u := by
  obtain ⟨i, rfl⟩ := x
  obtain ⟨p, hp, e⟩ := a.again h
  refine ⟨p * i - i, ?_⟩
  have : i ≤ p * i := Nat.le_mul_of_pos_left i hp
  rw [← itW_add, show i + (p * i - i) = p * i by omega, it_mul e]
def relE (f : α → α) (ix : Nat → α) (j k : Nat) : Prop := Go1 f (ix j) (ix k)
theorem Inj.eqn (a : Inj f V ix n) : EqN (relE f ix) n :=
  ⟨fun k _ => Go1.refl _, fun j k hj _ x => a.symm (a.vx j hj) x, fun i j k _ _ _ x y => Go1.trans x y⟩
/-- Two steps exchanged. -/
theorem Inj.swap (a : Inj f V ix n) (b : Inj g V ix n) {u v : α} (hu : V u) (hv : V v) (h1 : g u = f v) (h2 : g v = f u) (h3 : ∀ w, V w → w ≠ u → w ≠ v → g w = f w) : cls (relE f ix) n ≤ cls (relE g ix) n + 1 := by
  obtain ⟨x, hx, ex⟩ := a.cov u hu
  obtain ⟨y, hy, ey⟩ := a.cov v hv
  refine cls_join a.eqn hx hy fun j k hj hk q => ?_
  obtain ⟨i, q⟩ := q
  have key : ∀ i, Go1 f (ix j) (itW g i (ix j)) ∨ (Go1 f (ix j) u ∧ Go1 f v (itW g i (ix j))) ∨ (Go1 f (ix j) v ∧ Go1 f u (itW g i (ix j))) := by
    intro i
    induction i with
    | zero => exact .inl (Go1.refl _)
    | succ i ih =>
      have hz := b.vi (b.vx j hj) i
      simp only [itW]
      generalize itW g i (ix j) = z at ih hz ⊢
      by_cases zu : z = u
      · subst zu
        rw [h1]
        rcases ih with q | ⟨q1, q2⟩ | ⟨q1, q2⟩
        · exact .inr (.inl ⟨q, (Go1.refl v).step⟩)
        · exact .inr (.inl ⟨q1, (Go1.refl v).step⟩)
        · exact .inl q1.step
      · by_cases zv : z = v
        · subst zv
          rw [h2]
          rcases ih with q | ⟨q1, q2⟩ | ⟨q1, q2⟩
          · exact .inr (.inr ⟨q, (Go1.refl u).step⟩)
          · exact .inl q1.step
          · exact .inr (.inr ⟨q1, (Go1.refl u).step⟩)
        · rw [h3 z hz zu zv]
          rcases ih with q | ⟨q1, q2⟩ | ⟨q1, q2⟩
          · exact .inl q.step
          · exact .inr (.inl ⟨q1, q2.step⟩)
          · exact .inr (.inr ⟨q1, q2.step⟩)
  have := key i
  rw [q] at this
  unfold relE
  rw [ex, ey]
  exact this
end

/-! ### walkers -/
section
variable {α : Type} {f g R : α → α} {seg : α → Nat} {V : α → Prop} {N : Nat} {wk : Nat → α}
/-- What the walkers along the segments are. -/
structure Segs (seg : α → Nat) (V : α → Prop) (wk : Nat → α) (N : Nat) : Prop where
  ok : ∀ k, k < N → V (wk k)
  sg : ∀ k, k < N → seg (wk k) = k
def ixW (R : α → α) (wk : Nat → α) (j : Nat) : α := if j % 2 = 0 then wk (j / 2) else R (wk (j / 2))
theorem Walks.sgR (a : Walks f R seg V N) {w : α} (h : V w) : seg (R w) = seg w := (a.sg _ _ (a.vr w h) h).2 (.inr rfl)
theorem ix_seg (a : Walks f R seg V N) (s : Segs seg V wk N) {j : Nat} (hj : j < 2 * N) : seg (ixW R wk j) = j / 2 ∧ V (ixW R wk j) := by
  have h := s.ok (j / 2) (by omega)
  unfold ixW
  split
  · exact ⟨s.sg _ (by omega), h⟩
  · exact ⟨by rw [a.sgR h]; exact s.sg _ (by omega), a.vr _ h⟩
theorem Walks.inj' (a : Walks f R seg V N) (s : Segs seg V wk N) : Inj f V (ixW R wk) (2 * N) := by
  refine ⟨a.vf, fun w v h1 h2 e => a.inj h1 h2 e, fun w h => ?_, fun j hj => (ix_seg a s hj).2⟩
  have hl := a.lt w h
  have hk := s.ok _ hl
  rcases (a.sg _ _ h hk).1 (s.sg _ hl).symm with q | q
  · refine ⟨2 * seg w, by omega, ?_⟩
    unfold ixW
    rw [if_pos (by omega), show 2 * seg w / 2 = seg w by omega]; exact q.symm
  · refine ⟨2 * seg w + 1, by omega, ?_⟩
    unfold ixW
    rw [if_neg (by omega), show (2 * seg w + 1) / 2 = seg w by omega]; exact q.symm
/-- A segment is met from a segment. -/
def meets (f : α → α) (seg : α → Nat) (wk : Nat → α) (t s : Nat) : Prop := ∃ i, seg (itW f i (wk t)) = s
theorem Walks.mirror (a : Walks f R seg V N) (s : Segs seg V wk N) {w v : α} (h : V w) (x : Go1 f w v) : Go1 f (R w) (R v) := by
  obtain ⟨i, rfl⟩ := x
  exact (a.inj' s).symm (a.vr _ (a.vi h i)) ⟨i, a.back h i⟩
theorem Walks.leastW (a : Walks f R seg V N) (s : Segs seg V wk N) {j : Nat} (hj : j < 2 * N) : leastE (relE f (ixW R wk)) j ↔ leastE (meets f seg wk) (j / 2) := by
  obtain ⟨sj, vj⟩ := ix_seg a s hj
  constructor
  · rintro hl t ht ⟨i, e⟩
    have vt := s.ok t (by omega)
    have ix2 : ixW R wk (2 * t) = wk t := by unfold ixW; rw [if_pos (by omega), show 2 * t / 2 = t by omega]
    have ix3 : ixW R wk (2 * t + 1) = R (wk t) := by unfold ixW; rw [if_neg (by omega), show (2 * t + 1) / 2 = t by omega]
    rw [← sj] at e
    rcases (a.sg _ _ (a.vi vt i) vj).1 e with q | q
    · exact hl (2 * t) (by omega) ⟨i, by rw [ix2]; exact q⟩
    · refine hl (2 * t + 1) (by omega) ?_
      have := a.mirror s vt ⟨i, q⟩
      rw [a.rr] at this
      unfold relE
      rw [ix3]; exact this
  · rintro hl m hm ⟨i, e⟩
    obtain ⟨sm, vm⟩ := ix_seg a s (show m < 2 * N by omega)
    by_cases q : m / 2 < j / 2
    · have vt := s.ok (m / 2) (by omega)
      refine hl (m / 2) q ?_
      by_cases q2 : m % 2 = 0
      · have : ixW R wk m = wk (m / 2) := by unfold ixW; rw [if_pos q2]
        rw [this] at e
        exact ⟨i, by rw [e, sj]⟩
      · have : ixW R wk m = R (wk (m / 2)) := by unfold ixW; rw [if_neg q2]
        have mir := a.mirror s vm ⟨i, e⟩
        rw [this, a.rr] at mir
        obtain ⟨i', e'⟩ := mir
        exact ⟨i', by rw [e', a.sgR vj, sj]⟩
    · have e1 : m % 2 = 0 := by omega
      have e2 : j % 2 = 1 := by omega
      have e3 : m / 2 = j / 2 := by omega
      have i1 : ixW R wk m = wk (j / 2) := by unfold ixW; rw [if_pos e1, e3]
      have i2 : ixW R wk j = R (wk (j / 2)) := by unfold ixW; rw [if_neg (by omega)]
      rw [i1, i2] at e
      exact a.never (s.ok _ (by omega)) i e
theorem Walks.cls_two (a : Walks f R seg V N) (s : Segs seg V wk N) : cls (relE f (ixW R wk)) (2 * N) = 2 * cntP (leastE (meets f seg wk)) N := by
  rw [← cntP_two]
  exact cntP_congr fun j hj => a.leastW s hj
theorem Walks.meets_trans (a : Walks f R seg V N) (s : Segs seg V wk N) {t k u : Nat} (ht : t < N) (hk : k < N) (x : meets f seg wk t k) (y : meets f seg wk k u) : meets f seg wk t u := by
  obtain ⟨i, e⟩ := x
  obtain ⟨i', e'⟩ := y
  have vk := s.ok k hk
  have vt := s.ok t ht
  rw [← s.sg k hk] at e
  rcases (a.sg _ _ (a.vi vt i) vk).1 e with q | q
  · exact ⟨i + i', by rw [itW_add, q]; exact e'⟩
  · have := a.mirror s vk ⟨i', rfl⟩
    rw [← q] at this
    obtain ⟨i2, e2⟩ := this
    exact ⟨i + i2, by rw [itW_add, e2, a.sgR (a.vi vk i'), e']⟩
/-- The number of curves is the number of least segments. -/
theorem Walks.count (a : Walks f R seg V N) (s : Segs seg V wk N) : ∀ k, k ≤ N → (∀ u, u < N → (0 ≤ at0 (curvesSt f seg wk N k).1 u ↔ ∃ t, t < k ∧ meets f seg wk t u)) ∧ (curvesSt f seg wk N k).2 = cntP (leastE (meets f seg wk)) k
  | 0, _ => by
    refine ⟨fun u hu => ?_, rfl⟩
    simp [curvesSt, at0, List.getD_eq_getElem?_getD, List.getElem?_replicate, hu]
  | k + 1, hk => by
    obtain ⟨h1, h2⟩ := a.count s k (by omega)
    have hl := (a.st s.ok k (by omega)).1
    have own := h1 k (by omega)
    simp only [curvesSt, cntP]
    split
    · rename_i q
      obtain ⟨t, ht, m⟩ := own.1 q
      refine ⟨fun u hu => ?_, ?_⟩
      · rw [h1 u hu]
        constructor
        · rintro ⟨t', a1, a2⟩; exact ⟨t', by omega, a2⟩
        · rintro ⟨t', a1, a2⟩
          by_cases e : t' = k
          · subst e; exact ⟨t, ht, a.meets_trans s (by omega) (by omega) m a2⟩
          · exact ⟨t', by omega, a2⟩
      · rw [h2, ind_no (fun l => l t ht m)]; rfl
    · rename_i q
      have vk := s.ok k (by omega)
      obtain ⟨p1, p2, p3, p4⟩ := a.per vk
      refine ⟨fun u hu => ?_, ?_⟩
      · simp only
        rw [paint_at (by omega)]
        have e : (∃ j, j < perW f (wk k) ∧ seg (itW f j (wk k)) = u) ↔ meets f seg wk k u := by
          constructor
          · rintro ⟨j, _, e⟩; exact ⟨j, e⟩
          · rintro ⟨j, e⟩
            exact ⟨j % perW f (wk k), Nat.mod_lt _ p1, by rw [← it_mod p3]; exact e⟩
        by_cases m : ∃ j, j < perW f (wk k) ∧ seg (itW f j (wk k)) = u
        · rw [if_pos m]
          exact ⟨fun _ => ⟨k, by omega, e.1 m⟩, fun _ => by omega⟩
        · rw [if_neg m, h1 u hu]
          constructor
          · rintro ⟨t', a1, a2⟩; exact ⟨t', by omega, a2⟩
          · rintro ⟨t', a1, a2⟩
            by_cases e' : t' = k
            · subst e'; exact absurd (e.2 a2) m
            · exact ⟨t', by omega, a2⟩
      · simp only
        rw [h2, ind_yes]
        intro t ht m
        exact q (own.2 ⟨t, ht, m⟩)
/-- Two pairs of steps exchanged: the number of curves changes by at most one. -/
theorem Walks.near (a : Walks f R seg V N) (b : Walks g R seg V N) (s : Segs seg V wk N) {w1 w2 w3 w4 : α} (v1 : V w1) (v2 : V w2) (v3 : V w3) (v4 : V w4)
    (n13 : w1 ≠ w3) (n14 : w1 ≠ w4) (n23 : w2 ≠ w3) (n24 : w2 ≠ w4)
    (h1 : g w1 = f w2) (h2 : g w2 = f w1) (h3 : g w3 = f w4) (h4 : g w4 = f w3) (ho : ∀ w, V w → w ≠ w1 → w ≠ w2 → w ≠ w3 → w ≠ w4 → g w = f w) :
    (curvesSt f seg wk N N).2 ≤ (curvesSt g seg wk N N).2 + 1 := by
  classical
  rw [(a.count s N (Nat.le_refl _)).2, (b.count s N (Nat.le_refl _)).2]
  have ca := a.cls_two s
  have cb := b.cls_two s
  have ia := a.inj' s
  have ib := b.inj' s
  obtain ⟨m, hm⟩ : ∃ m : α → α, m = fun w => if w = w1 then f w2 else if w = w2 then f w1 else f w := ⟨_, rfl⟩
  have m1 : m w1 = f w2 := by rw [hm]; simp
  have m2 : m w2 = f w1 := by
    rw [hm]; simp only
    split
    · rename_i e; rw [e]
    · simp
  have m3 : ∀ w, w ≠ w1 → w ≠ w2 → m w = f w := fun w e1 e2 => by rw [hm]; simp [e1, e2]
  have im : Inj m V (ixW R wk) (2 * N) := by
    refine ⟨fun w h => ?_, fun w v hw hv e => ?_, ia.cov, ia.vx⟩
    · by_cases e1 : w = w1
      · rw [e1, m1]; exact a.vf _ v2
      · by_cases e2 : w = w2
        · rw [e2, m2]; exact a.vf _ v1
        · rw [m3 w e1 e2]; exact a.vf _ h
    · by_cases e1 : w = w1
      · by_cases e2 : v = w1
        · rw [e1, e2]
        · by_cases e3 : v = w2
          · rw [e1, e3, m1, m2] at e
            have := a.inj v2 v1 e
            rw [e1, e3, this]
          · rw [e1, m1, m3 v e2 e3] at e
            exact absurd (a.inj v2 hv e).symm e3
      · by_cases e1' : w = w2
        · by_cases e2 : v = w1
          · rw [e1', e2, m1, m2] at e
            have := a.inj v1 v2 e
            rw [e1', e2, this]
          · by_cases e3 : v = w2
            · rw [e1', e3]
            · rw [e1', m2, m3 v e2 e3] at e
              exact absurd (a.inj v1 hv e).symm e2
        · rw [m3 w e1 e1'] at e
          by_cases e2 : v = w1
          · rw [e2, m1] at e
            exact absurd (a.inj hw v2 e) e1'
          · by_cases e3 : v = w2
            · rw [e3, m2] at e
              exact absurd (a.inj hw v1 e) e1
            · rw [m3 v e2 e3] at e
              exact a.inj hw hv e
  have s1 := ia.swap im v1 v2 m1 m2 (fun w _ e1 e2 => m3 w e1 e2)
  have s2 := im.swap ib v3 v4 (by rw [h3, m3 w4 (Ne.symm n14) (Ne.symm n24)]) (by rw [h4, m3 w3 (Ne.symm n13) (Ne.symm n23)]) (fun w hw e3 e4 => by
    by_cases e1 : w = w1
    · rw [e1, m1, h1]
    · by_cases e2 : w = w2
      · rw [e2, m2, h2]
      · rw [m3 w e1 e2]; exact ho w hw e1 e2 e3 e4)
  omega
end
end Am
/-! AmG2 -/
set_option linter.unusedVariables false
set_option linter.unusedSimpArgs false
set_option maxHeartbeats 4000000
set_option maxRecDepth 4000
namespace Am
open Go

theorem num_pt {W H x y : Nat} (hx : 1 ≤ x ∧ x < 2 * W) (hy : 1 ≤ y ∧ y < 2 * H) (hp : (x + y) % 2 = 1) : IsPt W H (numP W x y) x y := by
  refine ⟨hy.1, hy.2, ?_, ?_, ?_⟩
  · unfold numP; omega
  · rw [rowN_succ hy.1]; unfold numP; omega
  · unfold numP; omega
theorem numP_inj {W H x y x' y' : Nat} (hx : 1 ≤ x ∧ x < 2 * W) (hy : 1 ≤ y ∧ y < 2 * H) (hp : (x + y) % 2 = 1) (hx' : 1 ≤ x' ∧ x' < 2 * W) (hy' : 1 ≤ y' ∧ y' < 2 * H) (hp' : (x' + y') % 2 = 1) (e : numP W x y = numP W x' y') : x = x' ∧ y = y' :=
  IsPt.uniq (num_pt hx hy hp) (e ▸ num_pt hx' hy' hp')
theorem segs {W H : Nat} (h1 : 1 ≤ H) : Segs (segW H) (OkW W H) (wkW H) (4 * W * H) := ⟨fun k hk => wkW_ok h1 hk, fun k hk => wkW_seg (W := W) h1 hk⟩
/-- The walker that goes to a point in a direction. -/
def toW (x y dx dy : Int) : Wk := (x - dx, y - dy, dx, dy)
theorem toW_ok {W H x y : Nat} {dx dy : Int} (hx : 1 ≤ x ∧ x < 2 * W) (hy : 1 ≤ y ∧ y < 2 * H) (hp : (x + y) % 2 = 1) (d1 : dx = 1 ∨ dx = -1) (d2 : dy = 1 ∨ dy = -1) : OkW W H (toW x y dx dy) := by
  refine ⟨d1, d2, ?_, ?_, ?_, ?_, ?_⟩ <;> simp only [toW] <;> omega
theorem toW_step {W H x y : Nat} {br : List Int} {dx dy : Int} (hx : 1 ≤ x ∧ x < 2 * W) (hy : 1 ≤ y ∧ y < 2 * H) :
    stepW W H br (toW x y dx dy) = ((x : Int), (y : Int), if at0 br (numP W x y) = 1 then -dx else dx, if at0 br (numP W x y) = 2 then -dy else dy) := by
  have e1 : (x : Int) - dx + dx = x := by omega
  have e2 : (y : Int) - dy + dy = y := by omega
  have ek : kindW W H br x y = at0 br (numP W x y) := by
    unfold kindW; rw [if_neg (by unfold edgeW; omega)]; simp
  have n1 : ¬ (x : Int) = 0 := by omega
  have n2 : ¬ (x : Int) = 2 * W := by omega
  have n3 : ¬ (y : Int) = 0 := by omega
  have n4 : ¬ (y : Int) = 2 * H := by omega
  unfold stepW toW
  simp only [e1, e2, ek, n1, n2, n3, n4, false_or]
theorem step_same {W H x y : Nat} {br : List Int} {k : Int} (hx : 1 ≤ x ∧ x < 2 * W) (hy : 1 ≤ y ∧ y < 2 * H) (hp : (x + y) % 2 = 1) {w : Wk} (hw : OkW W H w) (hn : ∀ dx dy : Int, (dx = 1 ∨ dx = -1) → (dy = 1 ∨ dy = -1) → w ≠ toW x y dx dy) :
    stepW W H (br.set (numP W x y) k) w = stepW W H br w := by
  obtain ⟨a, b, dx, dy⟩ := w
  have hne : ¬ (a + dx = x ∧ b + dy = y) := by
    rintro ⟨e1, e2⟩
    refine hn dx dy hw.dx hw.dy ?_
    simp only [toW, Prod.mk.injEq, and_true]
    omega
  have ek : kindW W H (br.set (numP W x y) k) (a + dx) (b + dy) = kindW W H br (a + dx) (b + dy) := by
    unfold kindW
    split
    · rfl
    · rename_i he
      unfold edgeW at he
      have q1 := hw.nx; have q2 := hw.ny; have q3 := hw.p; have q4 := hw.dx; have q5 := hw.dy
      simp only at q1 q2 q3 q4 q5
      obtain ⟨x', ex⟩ := Int.eq_ofNat_of_zero_le q1.1
      obtain ⟨y', ey⟩ := Int.eq_ofNat_of_zero_le q2.1
      rw [ex] at he hne q1 ⊢
      rw [ey] at he hne q2 ⊢
      simp only [Int.toNat_natCast]
      have hnn : numP W x y ≠ numP W x' y' := by
        intro e
        have := numP_inj (H := H) hx hy hp (x' := x') (y' := y') (by omega) (by omega) (by omega) e
        omega
      unfold at0
      rw [List.getD_eq_getElem?_getD, List.getElem?_set_ne (by simpa using hnn), ← List.getD_eq_getElem?_getD]
  unfold stepW
  simp only [ek]
theorem at0_put {br : List Int} {t : Nat} {k : Int} (ht : t < br.length) : at0 (br.set t k) t = k := by
  unfold at0; rw [List.getD_eq_getElem?_getD, List.getElem?_set_self ht]; rfl
theorem toW_ne {x y dx dy dx' dy' : Int} (h : dx ≠ dx' ∨ dy ≠ dy') : toW x y dx dy ≠ toW x y dx' dy' := by
  intro e
  simp only [toW, Prod.mk.injEq] at e
  omega
/-- One way: no more than one curve is lost. -/
theorem curve_near {W H x y : Nat} {br br' : List Int} {k k' : Int} (w1 : 1 ≤ W) (h1 : 1 ≤ H) (hx : 1 ≤ x ∧ x < 2 * W) (hy : 1 ≤ y ∧ y < 2 * H) (hp : (x + y) % 2 = 1)
    (e1 : at0 br (numP W x y) = k) (e2 : at0 br' (numP W x y) = k') (hk : 0 ≤ k ∧ k ≤ 2) (hk' : 0 ≤ k' ∧ k' ≤ 2)
    (ho : ∀ w, OkW W H w → (∀ dx dy : Int, (dx = 1 ∨ dx = -1) → (dy = 1 ∨ dy = -1) → w ≠ toW x y dx dy) → stepW W H br' w = stepW W H br w) :
    curveN ((W : Int), (H : Int), br) ≤ curveN ((W : Int), (H : Int), br') + 1 := by
  have a := walks (br := br) w1 h1
  have b := walks (br := br') w1 h1
  have v : ∀ dx dy : Int, (dx = 1 ∨ dx = -1) → (dy = 1 ∨ dy = -1) → OkW W H (toW x y dx dy) := fun dx dy d1 d2 => toW_ok hx hy hp d1 d2
  have sf : ∀ dx dy : Int, stepW W H br (toW x y dx dy) = ((x : Int), (y : Int), if k = 1 then -dx else dx, if k = 2 then -dy else dy) := fun dx dy => by rw [toW_step hx hy, e1]
  have sg : ∀ dx dy : Int, stepW W H br' (toW x y dx dy) = ((x : Int), (y : Int), if k' = 1 then -dx else dx, if k' = 2 then -dy else dy) := fun dx dy => by rw [toW_step hx hy, e2]
  have all : ∀ w, OkW W H w → w ≠ toW x y 1 1 → w ≠ toW x y 1 (-1) → w ≠ toW x y (-1) 1 → w ≠ toW x y (-1) (-1) → stepW W H br' w = stepW W H br w := by
    intro w hw n1 n2 n3 n4
    refine ho w hw fun dx dy d1 d2 => ?_
    rcases d1 with rfl | rfl <;> rcases d2 with rfl | rfl <;> assumption
  have i1 : (1 : Int) = 1 ∨ (1 : Int) = -1 := .inl rfl
  have i2 : (-1 : Int) = 1 ∨ (-1 : Int) = -1 := .inr rfl
  show (curvesSt (stepW W H br) (segW H) (wkW H) (4 * W * H) (4 * W * H)).2 ≤ (curvesSt (stepW W H br') (segW H) (wkW H) (4 * W * H) (4 * W * H)).2 + 1
  by_cases same : k = k'
  · have : stepW W H br' = stepW W H br ∨ True := .inr trivial
    -- the steps are the same everywhere
    have eq : ∀ w, OkW W H w → stepW W H br' w = stepW W H br w := by
      intro w hw
      by_cases q : ∃ dx dy : Int, (dx = 1 ∨ dx = -1) ∧ (dy = 1 ∨ dy = -1) ∧ w = toW x y dx dy
      · obtain ⟨dx, dy, d1, d2, rfl⟩ := q
        rw [sf, sg, same]
      · refine ho w hw fun dx dy d1 d2 e => q ⟨dx, dy, d1, d2, e⟩
    refine a.near b (segs h1) (v 1 1 i1 i1) (v 1 1 i1 i1) (v (-1) 1 i2 i1) (v (-1) 1 i2 i1) (toW_ne (by omega)) (toW_ne (by omega)) (toW_ne (by omega)) (toW_ne (by omega)) (eq _ (v _ _ i1 i1)) (eq _ (v _ _ i1 i1)) (eq _ (v _ _ i2 i1)) (eq _ (v _ _ i2 i1)) fun w hw _ _ _ _ => eq w hw
  · by_cases fx : (k = 1 ∨ k' = 1)
    · by_cases fy : (k = 2 ∨ k' = 2)
      · have kk : k = 1 ∧ k' = 2 ∨ k = 2 ∧ k' = 1 := by omega
        refine a.near b (segs h1) (v 1 1 i1 i1) (v (-1) (-1) i2 i2) (v 1 (-1) i1 i2) (v (-1) 1 i2 i1) (toW_ne (by omega)) (toW_ne (by omega)) (toW_ne (by omega)) (toW_ne (by omega)) ?_ ?_ ?_ ?_ fun w hw n1 n2 n3 n4 => all w hw n1 n3 n4 n2
        all_goals rw [sf, sg]; rcases kk with ⟨rfl, rfl⟩ | ⟨rfl, rfl⟩ <;> simp
      · have kk : k = 0 ∧ k' = 1 ∨ k = 1 ∧ k' = 0 := by omega
        refine a.near b (segs h1) (v 1 1 i1 i1) (v (-1) 1 i2 i1) (v 1 (-1) i1 i2) (v (-1) (-1) i2 i2) (toW_ne (by omega)) (toW_ne (by omega)) (toW_ne (by omega)) (toW_ne (by omega)) ?_ ?_ ?_ ?_ fun w hw n1 n2 n3 n4 => all w hw n1 n3 n2 n4
        all_goals rw [sf, sg]; rcases kk with ⟨rfl, rfl⟩ | ⟨rfl, rfl⟩ <;> simp
    · have kk : k = 0 ∧ k' = 2 ∨ k = 2 ∧ k' = 0 := by omega
      refine a.near b (segs h1) (v 1 1 i1 i1) (v 1 (-1) i1 i2) (v (-1) 1 i2 i1) (v (-1) (-1) i2 i2) (toW_ne (by omega)) (toW_ne (by omega)) (toW_ne (by omega)) (toW_ne (by omega)) ?_ ?_ ?_ ?_ fun w hw n1 n2 n3 n4 => all w hw n1 n2 n3 n4
      all_goals rw [sf, sg]; rcases kk with ⟨rfl, rfl⟩ | ⟨rfl, rfl⟩ <;> simp
theorem pt_ex {W H : Nat} : ∀ k, k < rowN W (2 * H) → ∃ x y, IsPt W H k x y := by
  intro k hk
  obtain ⟨m, hm, hP, hl⟩ := least (P := fun y => k < rowN W y) (2 * H) hk
  have m0 : m ≠ 0 := by rintro rfl; simp [rowN] at hP
  have m1 : m ≠ 1 := by rintro rfl; simp [rowN] at hP
  have h2 := hl (m - 1) (by omega)
  refine ⟨2 * (k - rowN W (m - 1)) + 1 + (m - 1) % 2, m - 1, by omega, by omega, by omega, ?_, rfl⟩
  rw [show m - 1 + 1 = m by omega]; exact hP
theorem pt_num {W H k x y : Nat} (a : IsPt W H k x y) : numP W x y = k := by
  have := a.x; have := a.lo
  unfold numP; omega
/-- Another break at a point: the number of curves changes by at most one. -/
theorem curve_set {X : Pan} (ok : OkP X) {t : Nat} {k : Int} (ht : t < X.2.2.length) (hk : 0 ≤ k ∧ k ≤ 2) :
    curveN X ≤ curveN (X.1, X.2.1, X.2.2.set t k) + 1 ∧ curveN (X.1, X.2.1, X.2.2.set t k) ≤ curveN X + 1 := by
  obtain ⟨W, H, br⟩ := X
  have hW := ok.w
  have hH := ok.h
  have hrow := ok.row
  have hb := ok.b
  simp only at hW hH ht hrow hb ⊢
  obtain ⟨W, rfl⟩ := Int.eq_ofNat_of_zero_le (show 0 ≤ W by omega)
  obtain ⟨H, rfl⟩ := Int.eq_ofNat_of_zero_le (show 0 ≤ H by omega)
  simp only [Int.toNat_natCast] at hrow
  obtain ⟨x, y, pt⟩ := pt_ex (W := W) (H := H) t (by omega)
  have bd := pt.bd
  have hx : 1 ≤ x ∧ x < 2 * W := ⟨bd.1, bd.2.1⟩
  have hy : 1 ≤ y ∧ y < 2 * H := ⟨pt.y1, pt.y2⟩
  have en := pt_num pt
  subst en
  have ks := at0_put (k := k) ht
  have k0 := at0_rng hb (numP W x y)
  refine ⟨curve_near (by omega) (by omega) hx hy bd.2.2 rfl ks k0 hk fun w hw hn => step_same hx hy bd.2.2 hw hn, curve_near (by omega) (by omega) hx hy bd.2.2 ks rfl hk k0 fun w hw hn => (step_same hx hy bd.2.2 hw hn).symm⟩
end Am
/-! AmG5 -/
set_option linter.unusedVariables false
set_option linter.unusedSimpArgs false
set_option maxHeartbeats 4000000
set_option maxRecDepth 4000
namespace Am
open Go

theorem ham_set {a b : List Int} {i : Nat} {v : Int} : ∀ n, (dpre a b n).length ≤ (dpre a (b.set i v) n).length + if i < n then 1 else 0
  | 0 => by simp [dpre]
  | n + 1 => by
    have ih := ham_set (a := a) (b := b) (i := i) (v := v) n
    rw [dpre_succ, dpre_succ, List.length_append, List.length_append]
    by_cases e : i = n
    · subst e
      rw [if_neg (by omega)] at ih
      rw [if_pos (show i < i + 1 by omega)]
      have : (if at0 a i = at0 b i then [] else [((i : Int), at0 a i, at0 b i)]).length ≤ 1 := by split <;> simp
      omega
    · have e' : at0 (b.set i v) n = at0 b n := by
        unfold at0; rw [List.getD_eq_getElem?_getD, List.getElem?_set_ne e, ← List.getD_eq_getElem?_getD]
      rw [e']
      generalize (if at0 a n = at0 b n then [] else [((n : Int), at0 a n, at0 b n)]).length = q
      by_cases hi : i < n
      · rw [if_pos hi] at ih
        rw [if_pos (by omega)]; omega
      · rw [if_neg hi] at ih
        rw [if_neg (by omega)]; omega
theorem dpre_same (a : List Int) : ∀ n, dpre a a n = []
  | 0 => rfl
  | n + 1 => by rw [dpre_succ, dpre_same a n]; simp
theorem ham_run {c : List Int} {n : Nat} : ∀ {l : List Trip} {b : List Int}, runB l b = some c → (dpre c b n).length ≤ l.length
  | [], b, h => by
    simp only [runB, Option.some.injEq] at h
    subst h; rw [dpre_same]; simp
  | s :: l, b, h => by
    obtain ⟨g1, g2, g3⟩ := runB_cons h
    have ih := ham_run (n := n) g3
    have := ham_set (a := c) (b := b) (i := s.1.toNat) (v := s.2.1) n
    simp only [List.length_cons]
    split at this <;> omega
/-- Differences undone from the last one on. -/
theorem runB_dpre {st br : List Int} (hl : st.length = br.length) (hs : ∀ x ∈ st, 0 ≤ x ∧ x ≤ 2) (hb : ∀ x ∈ br, 0 ≤ x ∧ x ≤ 2) :
    ∀ k, k ≤ br.length → ∀ x : List Int, x.length = br.length → (∀ i, i < k → at0 x i = at0 br i) → (∀ i, k ≤ i → i < br.length → at0 x i = at0 st i) → runB (dpre st br k).reverse x = some st
  | 0, _, x, h1, _, h3 => by
    simp only [dpre, List.range_zero, List.flatMap_nil, List.reverse_nil, runB, Option.some.injEq]
    apply List.ext_getElem (by omega)
    intro i hi hi'
    have := h3 i (by omega) (by omega)
    rw [at0_of hi, at0_of hi'] at this
    exact this
  | k + 1, hk, x, h1, h2, h3 => by
    rw [dpre_succ]
    by_cases e : at0 st k = at0 br k
    · rw [if_pos e, List.append_nil]
      refine runB_dpre hl hs hb k (by omega) x h1 (fun i hi => h2 i (by omega)) fun i hi hi' => ?_
      by_cases q : i = k
      · subst q; rw [h2 i (by omega), e]
      · exact h3 i (by omega) hi'
    · rw [if_neg e, List.reverse_append]
      simp only [List.reverse_cons, List.reverse_nil, List.nil_append, List.singleton_append]
      have a1 := at0_rng hs k
      have a2 := at0_rng hb k
      refine runB_mk ?_ ?_ ?_
      · rw [okStep_iff]
        refine ⟨?_, a1, a2, e⟩
        simp only
        omega
      · simp only [Int.toNat_natCast]; exact h2 k (by omega)
      · simp only [Int.toNat_natCast]
        refine runB_dpre hl hs hb k (by omega) _ (by simpa using h1) (fun i hi => ?_) fun i hi hi' => ?_
        · unfold at0
          rw [List.getD_eq_getElem?_getD, List.getElem?_set_ne (by omega), ← List.getD_eq_getElem?_getD]
          exact h2 i (by omega)
        · by_cases q : i = k
          · subst q; exact at0_set (by omega)
          · unfold at0
            rw [List.getD_eq_getElem?_getD, List.getElem?_set_ne (by omega), ← List.getD_eq_getElem?_getD]
            exact h3 i (by omega) hi'
theorem runB_fwd : ∀ {l : List Trip} {b c : List Int}, runB l b = some c → l.reverse.foldl (fun b s => b.set s.1.toNat s.2.2) c = b
  | [], b, c, h => by
    simp only [runB, Option.some.injEq] at h
    subst h; rfl
  | s :: l, b, c, h => by
    obtain ⟨g1, g2, g3⟩ := runB_cons h
    have ih := runB_fwd g3
    rw [List.reverse_cons, List.foldl_append, ih]
    simp only [List.foldl_cons, List.foldl_nil]
    have := step_bd g1
    rw [List.set_set, ← g2, set_at0 this.1]
structure SqOk (W H : Int) (br : List Int) (p f : List Trip) : Prop where
  ok : okJ ((W, H, br), dpre (startB ((W, H, br), p, f)) br br.length, []) = true
  len : (dpre (startB ((W, H, br), p, f)) br br.length).length ≤ p.length
  st : startB ((W, H, br), dpre (startB ((W, H, br), p, f)) br br.length, []) = startB ((W, H, br), p, f)
  fin : fwdB p (startB ((W, H, br), p, f)) p.length = br
theorem sq_ok {W H : Int} {br : List Int} {p f : List Trip} (h : okJ ((W, H, br), p, f) = true) : SqOk W H br p f := by
  obtain ⟨ok, hle, ⟨c, hc⟩, _⟩ := okJ_parts h
  obtain ⟨s1, s2⟩ := startB_ok h
  have es : startB ((W, H, br), p, f) = c := by
    show (runB p.reverse br).getD [] = c
    rw [hc]; rfl
  rw [es] at s1 s2
  have hr := runB_dpre s1 s2 ok.b br.length (Nat.le_refl _) br rfl (fun i _ => rfl) (fun i h1 h2 => by omega)
  have hl : (dpre c br br.length).length ≤ p.length := by
    have := ham_run (n := br.length) hc
    simpa using this
  refine ⟨?_, by rw [es]; exact hl, ?_, ?_⟩
  · rw [es, okJ_iff]
    refine ⟨okP_iff.2 ok, ?_, ⟨c, hr⟩, br, rfl⟩
    simp only [List.length_nil]
    omega
  · rw [es]
    show (runB (dpre c br br.length).reverse br).getD [] = c
    rw [hr]; rfl
  · rw [es]
    unfold fwdB
    rw [List.take_length]
    have := runB_fwd hc
    simpa using this
theorem along_near {W H : Int} {br : List Int} {p f : List Trip} (h : okJ ((W, H, br), p, f) = true) {k : Nat} (hk : k < p.length) :
    curveN (W, H, fwdB p (startB ((W, H, br), p, f)) k) ≤ curveN (W, H, fwdB p (startB ((W, H, br), p, f)) (k + 1)) + 1 ∧ curveN (W, H, fwdB p (startB ((W, H, br), p, f)) (k + 1)) ≤ curveN (W, H, fwdB p (startB ((W, H, br), p, f)) k) + 1 := by
  have A := along_ok h
  obtain ⟨ok, hle, ⟨c, hc⟩, _⟩ := okJ_parts h
  have hs : okStep br.length p[k] = true := runB_all hc _ (by simp)
  have h1 := A.st k hk
  have h2 := (okStep_iff.1 hs).2.2.1
  rw [fwdB_succ hk]
  exact curve_set (X := (W, H, fwdB p (startB ((W, H, br), p, f)) k)) (A.ok k (by omega)) (t := p[k].1.toNat) (by simp only; omega) h2
noncomputable def curveA (X : Pan) : Int × Int := if okP X then ((curveN X : Int), 0) else (0, 1)
theorem c340 (h : Heap) (hp : 0 < h.length) (v : Value) (X : Pan) (hv : Vr h shPanel v X) (hs : siz shPanel X ≤ 1048576) : ACall Gam 340 [v] h fun r h' => Grows h h' ∧ r = .tuple #[I (curveA X).1, I (curveA X).2] := by
  obtain ⟨W, H, br⟩ := X
  obtain ⟨s, rfl, w1, w2, r⟩ := hv.panel
  refine ACall_intro g340 rfl ?_
  unfold fn340
  simp (disch := omega)
  obtain ⟨h1, e1⟩ : ∃ h1, h1 = h ++ [⟨[I W, I H, s], true⟩] := ⟨_, rfl⟩
  have g1 : Grows h h1 := ⟨_, e1⟩
  have kb : h1[h.length]? = some ⟨[I W, I H, s], true⟩ := by rw [e1]; simp
  rw [← e1]
  have pp := PtP.at kb (r.grow g1) w1 w2
  have l1 := g1.le
  refine callW_of (c452 _ (W, H, br) h1 pp) ?_
  rintro _ h1 ⟨rfl, rfl⟩
  try refine ⟨fun e => (by cases e), ?_⟩
  cases q : okP (W, H, br)
  · have e : curveA (W, H, br) = (0, 1) := by unfold curveA; rw [q]; rfl
    rw [e]
    simp (disch := omega)
    exact g1
  · have e : curveA (W, H, br) = ((curveN (W, H, br) : Int), 0) := by unfold curveA; rw [q]; rfl
    rw [e]
    simp (disch := omega)
    refine callW_of (c465 h1 (by omega) _ _ pp (okP_iff.1 q)) ?_
    rintro _ h2 ⟨g2, rfl⟩
    try refine ⟨fun e => (by first | exact g2 | cases e), ?_⟩
    simp (disch := omega)
    exact g1.trans g2
end Am
