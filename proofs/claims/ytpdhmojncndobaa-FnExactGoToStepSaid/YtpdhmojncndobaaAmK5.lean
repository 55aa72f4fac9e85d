/- Contracts: AmP15, AmD1, AmD2, AmD3, AmJ1, AmJ2. -/
import Derived.Test.YtpdhmojncndobaaAmK4
import Derived.Test.YtpdhmojncndobaaAmK3
import Derived.Test.YtpdhmojncndobaaAmK2
import Derived.Test.YtpdhmojncndobaaAmK1
/-! AmP15 -/
set_option linter.unusedVariables false
set_option linter.unusedSimpArgs false
set_option linter.unusedSectionVars false
set_option maxHeartbeats 4000000
set_option maxRecDepth 4000
namespace Am
open Go

noncomputable def joinF (aW bW H : Nat) (a b : List Int) (i : Nat) : Int :=
  if (thePt (aW + bW) H i).1 = 2 * aW then 1 else if (thePt (aW + bW) H i).1 < 2 * aW then at0 a (numP aW (thePt (aW + bW) H i).1 (thePt (aW + bW) H i).2) else at0 b (numP bW ((thePt (aW + bW) H i).1 - 2 * aW) (thePt (aW + bW) H i).2)
noncomputable def joinP (X Y : Pan) : Pan := (X.1 + Y.1, X.2.1, (List.range (rowN (X.1.toNat + Y.1.toNat) (2 * X.2.1.toNat))).map (joinF X.1.toNat Y.1.toNat X.2.1.toNat X.2.2 Y.2.2))
noncomputable def joinAns (X Y : Pan) : Pan × Int := if okP X && okP Y then (if X.2.1 = Y.2.1 then (if X.1 + Y.1 ≤ 8 then (joinP X Y, 0) else ((0, 0, []), 5)) else ((0, 0, []), 6)) else ((0, 0, []), 1)
theorem join_siz (X Y : Pan) : siz shPanel (joinAns X Y).1 ≤ 16777216 := by
  unfold joinAns
  split
  · rename_i hok
    simp only [Bool.and_eq_true] at hok
    have o1 := okP_iff.1 hok.1
    have o2 := okP_iff.1 hok.2
    have a1 := o1.w; have a2 := o1.h; have a3 := o2.w
    split
    · split
      · rename_i hle
        show siz shPanel (_, _, _) ≤ _
        rw [siz_panel]
        simp only [List.length_map, List.length_range]
        have := rowN_le (W := X.1.toNat + Y.1.toNat) (by omega) (y := 2 * X.2.1.toNat) (by omega)
        omega
      · rw [siz_panel]; simp
    · rw [siz_panel]; simp
  · rw [siz_panel]; simp

/-- The uprights that have been put in. -/
noncomputable def upP (W H c m : Nat) (j : Nat) : Bool := decide ((thePt W H j).1 = 2 * c ∧ (thePt W H j).2 < 2 * m + 1)
theorem upP_zero {W H c j : Nat} (w1 : 1 ≤ W) (h1 : 1 ≤ H) (hj : j < rowN W (2 * H)) : upP W H c 0 j = false := by
  obtain ⟨x, y, hP⟩ := IsPt.ex w1 h1 hj
  unfold upP
  rw [thePt_eq hP, decide_eq_false_iff_not]
  have := hP.y1
  simp only; omega
theorem upP_step {W H c m j : Nat} (w1 : 1 ≤ W) (h1 : 1 ≤ H) (hc : 1 ≤ c ∧ c < W) (hm : 2 * m + 1 < 2 * H) (hj : j < rowN W (2 * H)) : upP W H c (m + 1) j = (upP W H c m j || j == numP W (2 * c) (2 * m + 1)) := by
  obtain ⟨x, y, hP⟩ := IsPt.ex w1 h1 hj
  unfold upP
  rw [thePt_eq hP, Bool.eq_iff_iff]
  simp only [decide_eq_true_eq, Bool.or_eq_true, beq_iff_eq]
  obtain ⟨q1, q2, q3⟩ := hP.bd
  constructor
  · rintro ⟨a1, a2⟩
    by_cases e : y < 2 * m + 1
    · exact .inl ⟨a1, e⟩
    · right
      rw [← hP.num]
      congr 1; omega
  · rintro (⟨a1, a2⟩ | a)
    · exact ⟨a1, by omega⟩
    · have hN := numP_pt (W := W) (H := H) (x := 2 * c) (y := 2 * m + 1) (by omega) (by omega) (by omega)
      rw [← a] at hN
      obtain ⟨u1, u2⟩ := hP.uniq hN
      omega
section
variable {aW bW H : Nat} {a b : List Int} (w1 : 1 ≤ aW) (w2 : 1 ≤ bW) (h1 : 1 ≤ H)
include w1 w2 h1
theorem join_up {m : Nat} (hm : 2 * m + 1 < 2 * H) : joinF aW bW H a b (numP (aW + bW) (2 * aW) (2 * m + 1)) = 1 := by
  have hN := numP_pt (W := aW + bW) (H := H) (x := 2 * aW) (y := 2 * m + 1) (by omega) (by omega) (by omega)
  unfold joinF
  rw [thePt_eq hN, if_pos rfl]
theorem join_a : Fits (joinF aW bW H a b) (aW + bW) aW H 0 0 a := by
  intro k px py hpt hk
  obtain ⟨d1, d2, d3⟩ := hpt.bd
  have d4 := hpt.y1
  have d5 := hpt.y2
  have hN := numP_pt (W := aW + bW) (H := H) (x := px + 2 * 0) (y := py + 2 * 0) (by omega) (by omega) (by omega)
  unfold joinF
  rw [thePt_eq hN]
  simp only [Nat.mul_zero, Nat.add_zero]
  rw [if_neg (by omega), if_pos (by omega), hpt.num]
theorem join_b : Fits (joinF aW bW H a b) (aW + bW) bW H aW 0 b := by
  intro k px py hpt hk
  obtain ⟨d1, d2, d3⟩ := hpt.bd
  have d4 := hpt.y1
  have d5 := hpt.y2
  have hN := numP_pt (W := aW + bW) (H := H) (x := px + 2 * aW) (y := py + 2 * 0) (by omega) (by omega) (by omega)
  unfold joinF
  rw [thePt_eq hN]
  simp only [Nat.mul_zero, Nat.add_zero]
  rw [if_neg (by omega), if_neg (by omega), Nat.add_sub_cancel, hpt.num]
theorem join_cover {j : Nat} (hj : j < rowN (aW + bW) (2 * H)) : (upP (aW + bW) H aW H j || (inPart (aW + bW) H aW H 0 0 (rowN aW (2 * H)) j || inPart (aW + bW) H bW H aW 0 (rowN bW (2 * H)) j)) = true := by
  obtain ⟨x, y, hP⟩ := IsPt.ex (W := aW + bW) (by omega) h1 hj
  obtain ⟨q1, q2, q3⟩ := hP.bd
  have q4 := hP.y1
  have q5 := hP.y2
  unfold upP inPart
  rw [thePt_eq hP]
  simp only [Bool.or_eq_true, decide_eq_true_eq]
  by_cases e1 : x = 2 * aW
  · exact .inl ⟨e1, by omega⟩
  · right
    by_cases e2 : x < 2 * aW
    · left
      have := numP_lt (W := aW) (H := H) (x := x) (y := y) (by omega) (by omega) (by omega)
      exact ⟨by omega, by omega, by omega, by omega, by simpa using this⟩
    · right
      have := numP_lt (W := bW) (H := H) (x := x - 2 * aW) (y := y) (by omega) (by omega) (by omega)
      exact ⟨by omega, by omega, by omega, by omega, by simpa using this⟩
end
theorem joinF_rng {aW bW H : Nat} {a b : List Int} (ha : ∀ x ∈ a, 0 ≤ x ∧ x ≤ 2) (hb : ∀ x ∈ b, 0 ≤ x ∧ x ≤ 2) (k : Nat) : 0 ≤ joinF aW bW H a b k ∧ joinF aW bW H a b k ≤ 2 := by
  unfold joinF
  split
  · omega
  · split
    · exact at0_rng ha _
    · exact at0_rng hb _
theorem rowN_pos {W H : Nat} (w2 : 2 ≤ W) (h1 : 1 ≤ H) : 0 < rowN W (2 * H) := by
  have h := rowN_mono (W := W) (show 2 ≤ 2 * H by omega)
  have e : rowN W 2 = W - 1 := by
    show rowN W (1 + 1) = _
    rw [rowN_succ (Nat.le_refl 1)]; simp [rowN]
  omega

end Am
/-! AmD1 -/
set_option linter.unusedVariables false
set_option linter.unusedSimpArgs false
set_option maxHeartbeats 4000000
set_option maxRecDepth 20000
namespace Am
open Go

/-- The digits of a number; none for 0. -/
def decN (n : Nat) : List UInt8 := if h : n = 0 then [] else decN (n / 10) ++ [UInt8.ofNat (48 + n % 10)]
termination_by n
decreasing_by omega
theorem decN_zero : decN 0 = [] := by unfold decN; simp
theorem decN_pos {n : Nat} (h : n ≠ 0) : decN n = decN (n / 10) ++ [UInt8.ofNat (48 + n % 10)] := by
  rw [decN]; rw [dif_neg h]
theorem decN_len (k : Nat) : ∀ n, n < 10 ^ k → (decN n).length ≤ k := by
  induction k with
  | zero => intro n hn; have : n = 0 := by simpa using hn
            subst this; simp [decN_zero]
  | succ k ih =>
    intro n hn
    by_cases h0 : n = 0
    · subst h0; simp [decN_zero]
    · rw [decN_pos h0]
      have := ih (n / 10) (by rw [Nat.pow_succ] at hn; omega)
      simp; omega
theorem decN_pos_len {n : Nat} (h : n ≠ 0) : 0 < (decN n).length := by rw [decN_pos h]; simp
def decS (n : Int) : List UInt8 := if n = 0 then [48] else if n < 0 then 45 :: decN n.natAbs else decN n.natAbs
theorem decN_len64 {n : Int} (hn : I64 n) : (decN n.natAbs).length ≤ 19 := by
  unfold I64 at hn
  have e : 10 ^ 19 = 10000000000000000000 := by decide
  exact decN_len 19 _ (by omega)
theorem decS_len {n : Int} (hn : I64 n) : 1 ≤ (decS n).length ∧ (decS n).length ≤ 20 := by
  have := decN_len64 hn
  unfold decS
  split
  · simp
  · have h0 := decN_pos_len (n := n.natAbs) (by omega)
    split
    · simp; omega
    · omega
theorem wrapU {n : Int} (a : 0 ≤ n) (b : n < 18446744073709551616) : IntKind.u64.wrap n = n := wrap_unsigned (M := 18446744073709551616) rfl (by decide) a b
theorem wrapU_neg {n : Int} (a : -9223372036854775808 ≤ n) (b : n < 0) : IntKind.u64.wrap n = n + 18446744073709551616 := by
  unfold IntKind.wrap
  have hs : IntKind.u64.signed = false := rfl
  have hM : (2 : Int) ^ IntKind.u64.bits = 18446744073709551616 := by decide
  simp only [hs, hM, Bool.false_and, Bool.false_eq_true, if_false]
  rw [← Int.add_emod_right]
  exact Int.emod_eq_of_lt (by omega) (by omega)
theorem wrapU_sub {n : Int} (a : -9223372036854775808 ≤ n) (b : n < 0) : IntKind.u64.wrap (0 - IntKind.u64.wrap n) = -n := by
  rw [wrapU_neg a b]
  unfold IntKind.wrap
  have hs : IntKind.u64.signed = false := rfl
  have hM : (2 : Int) ^ IntKind.u64.bits = 18446744073709551616 := by decide
  simp only [hs, hM, Bool.false_and, Bool.false_eq_true, if_false]
  have : 0 - (n + 18446744073709551616) = -n - 18446744073709551616 := by omega
  rw [this, ← Int.add_emod_right, Int.sub_add_cancel]
  exact Int.emod_eq_of_lt (by omega) (by omega)

/-- A byte before what there is. -/
theorem push_front {h h' : Heap} {v : Value} {l : List UInt8} {x : Int} {c : UInt8} {K : Value → Heap → Prop} (hp : 0 < h.length) (hl : l.length ≤ 1048576) (hg : Grows h h') (hv : Buf h h' v 1 (bytesV l)) (hx : x = c.toNat)
    (hK : ∀ v' h'', Grows h h'' → Buf h h'' v' 1 (bytesV (c :: l)) → K v' h'') :
    bindW (aBuildSlice 1 1 h' [(0, Value.agg #[U 0]), (1, U x)]) fun y h'' => bindW (aAppend 1 h'' v y) K := by
  subst hx
  have e : aBuildSlice 1 1 h' [(0, Value.agg #[U 0]), (1, U (c.toNat : Int))] = some (sl h'.length 0 1 1, h' ++ [⟨bytesV [c], true⟩]) := by simp [aBuildSlice, bytesV]
  rw [e]
  simp only [bindW_some]
  have hb : Buf h (h' ++ [⟨bytesV [c], true⟩]) (sl h'.length 0 1 1) 1 (bytesV [c]) := .inr ⟨h'.length, 1, rfl, by simp [bytesV], hg.le, by simp⟩
  have hn : newCells 1 (h' ++ [⟨bytesV [c], true⟩]) v = some (bytesV l) := by
    obtain ⟨b, o, n, rfl, hn, hr⟩ := (hv.grow (⟨_, rfl⟩ : Grows h' (h' ++ [⟨bytesV [c], true⟩]))).reads
    by_cases h0 : n = 0
    · subst h0
      have : l = [] := by simp [bytesV] at hn; simpa using hn.symm
      subst this; simp [newCells, bytesV]
    · have := hr.resolve_left h0
      simp only [newCells, h0, if_false]
      exact this
  by_cases h0 : l = []
  · subst h0
    have : aAppend 1 (h' ++ [⟨bytesV [c], true⟩]) v (sl h'.length 0 1 1) = some (sl h'.length 0 1 1, h' ++ [⟨bytesV [c], true⟩]) := by
      simp only [aAppend, hn]
      simp [bytesV]
    rw [this]
    exact hK _ _ (hg.push _) hb
  · refine append_buf hp (hg.push _) hb hn (by omega) (by simpa [bytesV] using h0) (by simp) (by simp [bytesV, maxSize]; omega) ?_
    intro v' h'' g1 b1 _
    exact hK v' h'' g1 (by simpa [bytesV] using b1)

theorem dig_eq {r : Int} (h : I64 r) : (0 ≤ r → IntKind.u8.wrap (IntKind.i64.wrap (48 + r.tmod 10)) = ((UInt8.ofNat (48 + r.natAbs % 10)).toNat : Int)) ∧ (r < 0 → IntKind.u8.wrap (IntKind.i64.wrap (48 + (0 - r.tmod 10))) = ((UInt8.ofNat (48 + r.natAbs % 10)).toNat : Int)) := by
  unfold I64 at h
  have e : ((UInt8.ofNat (48 + r.natAbs % 10)).toNat : Int) = 48 + (r.natAbs : Int) % 10 := by
    rw [UInt8.toNat_ofNat']
    omega
  rw [e]
  constructor
  · intro h0
    rw [tmod_pos h0, wrap64 (by omega) (by omega), wrap8 (by omega) (by omega)]
    omega
  · intro h0
    have : r.tmod 10 = -((r.natAbs : Int) % 10) := by
      have e : r = -(r.natAbs : Int) := by omega
      rw [e, Int.neg_tmod, tmod_pos (by omega)]
      omega
    rw [this, wrap64 (by omega) (by omega), wrap8 (by omega) (by omega)]
    omega
theorem quo_eq {r : Int} : (r.tdiv 10).natAbs = r.natAbs / 10 := by
  rw [Int.natAbs_tdiv]; rfl

theorem dec_next {m : Nat} {l acc : List UInt8} (h : decN m ++ acc = l) (h0 : m ≠ 0) : decN (m / 10) ++ (UInt8.ofNat (48 + m % 10) :: acc) = l := by
  rw [← h, decN_pos h0]; simp
theorem c437 (n : Int) (hn : I64 n) (h : Heap) (hp : 0 < h.length) : ACall Gam 437 [I n] h fun r h' => r = S (decS n) ∧ Grows h h' := by
  have hl := decN_len64 hn
  have hn' := hn
  unfold I64 at hn'
  refine ACall_intro g437 rfl ?_
  unfold fn437
  simp (disch := omega)
  refine awp_loop (fun (r : Int) σ h' => I64 r ∧ Grows h h' ∧ σ 0 = I n ∧ σ 4 = I r ∧ ∃ acc, decN r.natAbs ++ acc = decN n.natAbs ∧ Buf h h' (σ 3) 1 (bytesV acc)) (fun r => r.natAbs) n ?_ ?_
  · exact ⟨hn, Grows.refl _, by simp, by simp, [], by simp, by simpa [bytesV] using Buf.nil⟩
  · rintro r σ h' ⟨hr, hg, p0, p4, acc, he, p3⟩
    have hla : (decN r.natAbs).length + acc.length ≤ 19 := by
      have := congrArg List.length he
      rw [List.length_append] at this; omega
    simp (disch := omega) [p4]
    refine fork_dec (fun h0 => ?_) (fun hne => ?_)
    · subst h0
      simp only [Int.natAbs_zero, decN_zero, List.nil_append] at he
      subst he
      have htb := text_buf p3
      obtain ⟨b, o, k, hk, hkn, hrd⟩ := p3.reads
      have hkn' : k = (decN n.natAbs).length := by simpa [bytesV] using hkn
      simp (disch := omega) [hk, p0]
      refine fork_dec (fun hz => ?_) (fun hz => ?_)
      · have : n = 0 := by
          false_or_by_contra
          have := decN_pos_len (n := n.natAbs) (by omega)
          omega
        subst this
        simp (disch := omega) [decS, hg]
      · have hn0 : n ≠ 0 := by
          intro e; subst e; simp [decN_zero] at hkn'; omega
        simp (disch := omega) [hk, p0]
        rw [hk] at htb
        refine fork_dec (fun hz => ?_) (fun hz => ?_)
        · simp (disch := omega) [hk, p0, htb]
          rw [if_pos (by omega)]
          simp [decS, hn0, hz, hg]
        · simp (disch := omega) [hk, p0, htb, decS, hn0, hz, hg]
    · have hr' := hr
      unfold I64 at hr'
      have hm : r.natAbs ≠ 0 := by omega
      have hnx := dec_next he hm
      have hq := quo_eq (r := r)
      obtain ⟨d1, d2⟩ := dig_eq hr
      have hdec : (r.tdiv 10).natAbs < r.natAbs := by omega
      have hi : I64 (r.tdiv 10) := by unfold I64; omega
      have hw : IntKind.i64.wrap (r.tdiv 10) = r.tdiv 10 := wrap64 (by unfold I64 at hi; omega) (by unfold I64 at hi; omega)
      simp (disch := omega) [p4]
      refine fork_dec (fun hlt => ?_) (fun hge => ?_)
      · simp (disch := omega) [p4]
        have hr0 : r < 0 := by
          false_or_by_contra
          rw [tmod_pos (by omega)] at hlt
          omega
        have ha : (r.tmod 10).natAbs = r.natAbs % 10 := Int.natAbs_tmod r 10
        refine push_front (c := UInt8.ofNat (48 + r.natAbs % 10)) hp (by omega) hg p3 (by rw [← d2 hr0, Int.zero_sub, wrap64 (n := -r.tmod 10) (by omega) (by omega)]) ?_
        intro v' h'' g1 b1
        simp (disch := omega) [p4, hw]
        exact ⟨_, ⟨hi, g1, p0, rfl, _, by rw [hq]; exact hnx, b1⟩, by omega⟩
      · simp (disch := omega) [p4]
        have ha : (r.tmod 10).natAbs = r.natAbs % 10 := Int.natAbs_tmod r 10
        have hd : 0 ≤ r ∨ r.tmod 10 = 0 := by
          by_cases h0 : 0 ≤ r
          · exact .inl h0
          · right
            have e : r = -(r.natAbs : Int) := by omega
            rw [e, Int.neg_tmod, tmod_pos (by omega)] at hge ⊢
            omega
        refine push_front (c := UInt8.ofNat (48 + r.natAbs % 10)) hp (by omega) hg p3 (by
          rcases hd with h0 | h0
          · exact d1 h0
          · by_cases h1 : 0 ≤ r
            · exact d1 h1
            · rw [← d2 (by omega), h0]; rfl) ?_
        intro v' h'' g1 b1
        simp (disch := omega) [p4, hw]
        exact ⟨_, ⟨hi, g1, p0, rfl, _, by rw [hq]; exact hnx, b1⟩, by omega⟩

theorem drop_set (l : List UInt8) (k : Nat) (c : UInt8) (hk : k < l.length) : (l.set k c).drop k = c :: l.drop (k + 1) := by
  rw [List.set_eq_take_append_cons_drop, if_pos hk, List.drop_append_of_le_length (by simp; omega), List.drop_of_length_le (by simp; omega)]
  simp
theorem bytesV_set (l : List UInt8) (k : Nat) (c : UInt8) : (bytesV l).set k (U c.toNat) = bytesV (l.set k c) := by simp [bytesV, List.map_set]
theorem c75 (n : Int) (hn : I64 n) (h : Heap) (hp : 0 < h.length) : ACall Gam 75 [I n] h fun r h' => r = S (decS n) ∧ Grows h h' := by
  have hl := decN_len64 hn
  have hn' := hn
  unfold I64 at hn'
  refine ACall_intro g75 rfl ?_
  unfold fn75
  simp (disch := omega)
  refine fork_dec (fun h0 => ?_) (fun h0 => ?_)
  · subst h0
    simp [decS, Grows.refl]
  have hst : storeAt (h ++ [⟨[U 0, U 0, U 0, U 0, U 0, U 0, U 0, U 0, U 0, U 0, U 0, U 0, U 0, U 0, U 0, U 0, U 0, U 0, U 0, U 0], true⟩]) h.length 0 [U 0, U 0, U 0, U 0, U 0, U 0, U 0, U 0, U 0, U 0, U 0, U 0, U 0, U 0, U 0, U 0, U 0, U 0, U 0, U 0] = some (h ++ [⟨bytesV (List.replicate 20 0), true⟩]) := by
    simp [storeAt, splice, bytesV]
  simp (disch := omega) [hst]
  obtain ⟨h1, e1⟩ : ∃ h1, h1 = h ++ [⟨bytesV (List.replicate 20 0), true⟩] := ⟨_, rfl⟩
  have er : (List.replicate 20 (0 : UInt8)) = [0, 0, 0, 0, 0, 0, 0, 0, 0, 0, 0, 0, 0, 0, 0, 0, 0, 0, 0, 0] := rfl
  rw [er] at e1
  rw [← e1]
  have g1 : Grows h h1 := ⟨_, e1⟩
  have k1 : h1[h.length]? = some ⟨bytesV (List.replicate 20 0), true⟩ := by rw [e1, er]; simp
  generalize hK : seqQ Gam _ (retQ _ _) = K
  have main : ∀ σ, σ 0 = I n → σ 3 = pt h.length 0 → σ 4 = I 20 → σ 5 = .int .u64 n.natAbs → K 0 σ h1 := by
    intro σ p0 p3 p4 p5
    subst hK
    simp only [seqQ_zero]
    simp (disch := omega)
    refine awp_loop (fun (r : Nat) σ h' => Grows h h' ∧ r ≤ 9223372036854775808 ∧ σ 0 = I n ∧ σ 3 = pt h.length 0 ∧ σ 5 = .int .u64 r ∧ ∃ (arr : List UInt8) (a : Nat), σ 4 = I a ∧ arr.length = 20 ∧ h'[h.length]? = some ⟨bytesV arr, true⟩ ∧ decN r ++ arr.drop a = decN n.natAbs ∧ a ≤ 20) (fun r => r) n.natAbs ?_ ?_
    · exact ⟨g1, by omega, p0, p3, p5, _, 20, p4, by simp, k1, by simp, by omega⟩
    · rintro r σ h' ⟨hg, hr, p0, p3, p5, arr, a, p4, ha, hb, he, ha20⟩
      have hla : (decN r).length + (20 - a) ≤ 19 := by
        have := congrArg List.length he
        rw [List.length_append, List.length_drop, ha] at this; omega
      simp (disch := omega) [p5]
      refine fork_dec (fun hgt => ?_) (fun hle => ?_)
      · have hm : r ≠ 0 := by omega
        have := decN_pos_len hm
        have hnx := dec_next he hm
        obtain ⟨a, rfl⟩ : ∃ a', a = a' + 1 := ⟨a - 1, by omega⟩
        have hw : IntKind.u8.wrap (IntKind.u64.wrap (48 + (r : Int) % 10)) = ((UInt8.ofNat (48 + r % 10)).toNat : Int) := by
          rw [wrapU (by omega) (by omega), wrap8 (by omega) (by omega), UInt8.toNat_ofNat']
          omega
        obtain ⟨d, hd⟩ : ∃ d : UInt8, d = UInt8.ofNat (48 + r % 10) := ⟨_, rfl⟩
        rw [← hd] at hw hnx
        have hq : IntKind.u64.wrap ((r : Int) / 10) = ((r / 10 : Nat) : Int) := by
          rw [wrapU (by omega) (by omega)]; omega
        have hs : storeAt h' h.length a [U (d.toNat : Int)] = some (h'.set h.length ⟨bytesV (arr.set a d), true⟩) := by
          rw [store_one hb (by simp [bytesV]; omega), bytesV_set]
        have ea : (a : Int) + 1 - 1 = a := by omega
        have la : (a : Int) < 20 := by omega
        simp (disch := omega) [p3, p4, p5, ea, wrap64, tmod_pos, tdiv_pos, hw, la, hs, hq]
        exact ⟨r / 10, ⟨hg.put (Nat.le_refl _) _, by omega, p0, by omega, arr.set a d, a, rfl, by simpa using ha, by simp [at_lt hb], by rw [drop_set _ _ _ (by omega)]; exact hnx, by omega⟩, by omega⟩
      · have : r = 0 := by omega
        subst this
        rw [decN_zero, List.nil_append] at he
        simp (disch := omega) [p0]
        have fin : ∀ (h' : Heap) (arr : List UInt8) (a : Nat) (σ : Nat → Value), arr.length = 20 → a < 20 → h'[h.length]? = some ⟨bytesV arr, true⟩ → arr.drop a = decS n → aSlice 1020001 h' (pt h.length 0) (some (I a)) none none = some (sl h.length a (20 - a) 1, h') ∧ aConv 21 (sl h.length a (20 - a) 1) h' = some (S (decS n), h') := by
          intro h' arr a σ l1 l2 hb he
          constructor
          · simp [aSlice, bound, arrOk, hb, bytesV, l1, l2, show h.length ≠ 0 by omega]
          · have hc : cellsAt h' h.length a (20 - a) = some (bytesV (decS n)) := by
              rw [cellsAt_of hb (by simp [bytesV]; omega), ← he]
              simp [bytesV, List.map_drop, List.take_of_length_le, l1]
            simp [aConv, hc, asInts_bytes, show ¬ 20 - a = 0 by omega]
        have hdl := decN_pos_len (n := n.natAbs) (by omega)
        refine fork_dec (fun hneg => ?_) (fun hpos => ?_)
        · obtain ⟨a, rfl⟩ : ∃ a', a = a' + 1 := ⟨a - 1, by omega⟩
          have hs : storeAt h' h.length a [U 45] = some (h'.set h.length ⟨bytesV (arr.set a 45), true⟩) := by
            rw [← bytesV_set, ← store_one hb (by simp [bytesV]; omega)]; rfl
          have ea : (a : Int) + 1 - 1 = a := by omega
          have la : a < 20 := by
            have := congrArg List.length he
            rw [List.length_drop, ha] at this; omega
          obtain ⟨f1, f2⟩ := fin (h'.set h.length ⟨bytesV (arr.set a 45), true⟩) (arr.set a 45) a σ (by simpa using ha) la (by simp [at_lt hb]) (by rw [drop_set _ _ _ (by omega), he]; simp [decS, h0, hneg])
          have la' : (a : Int) < 20 := by omega
          simp (disch := omega) [p0, p3, p4, ea, wrap64, la', hs, f1, f2]
          exact hg.put (Nat.le_refl _) _
        · have la : a < 20 := by
            have := congrArg List.length he
            rw [List.length_drop, ha] at this; omega
          obtain ⟨f1, f2⟩ := fin h' arr a σ ha la hb (by rw [he]; simp [decS, h0, hpos])
          simp (disch := omega) [p0, p3, p4, f1, f2]
          exact hg
  refine fork_dec (fun hneg => ?_) (fun hpos => ?_)
  · simp (disch := omega)
    refine main _ (by simp) (by simp) (by simp) ?_
    rw [← Int.zero_sub, wrapU_sub (by omega) (by omega)]
    have : ((n.natAbs : Nat) : Int) = -n := by omega
    simp [this]
  · simp (disch := omega)
    refine main _ (by simp) (by simp) (by simp) ?_
    rw [wrapU (by omega) (by omega)]
    have : ((n.natAbs : Nat) : Int) = n := by omega
    simp [this]
end Am
/-! AmD2 -/
set_option linter.unusedVariables false
set_option linter.unusedSimpArgs false
set_option maxHeartbeats 4000000
set_option maxRecDepth 4000
namespace Am
open Go

/-- Texts with a text between them. -/
def joinS (sep : List UInt8) : List (List UInt8) → List UInt8
  | [] => []
  | a :: r => a ++ r.flatMap fun x => sep ++ x
theorem joinS_snoc (sep : List UInt8) (l : List (List UInt8)) (x : List UInt8) : joinS sep (l ++ [x]) = if l = [] then x else joinS sep l ++ sep ++ x := by
  cases l with
  | nil => simp [joinS]
  | cons a r => simp [joinS]
theorem joinS_take (sep : List UInt8) (l : List (List UInt8)) (k : Nat) (hk : k < l.length) : joinS sep (l.take (k + 1)) = joinS sep (l.take k) ++ (if 0 < k then sep else []) ++ l[k] := by
  rw [List.take_succ_eq_append_getElem hk, joinS_snoc]
  by_cases h0 : k = 0
  · subst h0; simp [joinS]
  · have h1 : l.take k ≠ [] := by
      intro e; have := congrArg List.length e; rw [List.length_take, List.length_nil] at this; omega
    rw [if_neg h1, if_pos (by omega)]
theorem joinS_mono (sep : List UInt8) (l : List (List UInt8)) (k : Nat) : (joinS sep (l.take k)).length ≤ (joinS sep l).length := by
  by_cases hk : k < l.length
  · suffices h : ∀ j, k + j ≤ l.length → (joinS sep (l.take k)).length ≤ (joinS sep (l.take (k + j))).length by
      have := h (l.length - k) (by omega)
      rwa [show k + (l.length - k) = l.length by omega, List.take_length] at this
    intro j
    induction j with
    | zero => intro _; exact Nat.le_refl _
    | succ j ih =>
      intro hj
      have := joinS_take sep l (k + j) (by omega)
      rw [show k + (j + 1) = k + j + 1 by omega, this]
      have := ih (by omega)
      simp; omega
  · rw [List.take_of_length_le (by omega)]; exact Nat.le_refl _

def okT (t : Trip) : Bool := inR t.1 0 111 && (okBr t.2.1 && okBr t.2.2)
def okD (X : List Trip) : Bool := X.all okT && decide (X.length ≤ 112)
def signB (b : Int) : UInt8 := if b = 1 then 124 else if b = 2 then 45 else 43
def wordT (t : Trip) : List UInt8 := decS t.1 ++ [signB t.2.1, signB t.2.2]
def diffT (X : List Trip) : List UInt8 := joinS [32] (X.map wordT)
def diffText (X : List Trip) : List UInt8 := if okD X then diffT X else []

theorem all_take {X : List Trip} {k : Nat} (hk : k < X.length) (h : (X.take k).all okT = true) (h1 : okT X[k] = true) : (X.take (k + 1)).all okT = true := by
  rw [List.take_succ_eq_append_getElem hk, List.all_append, h]; simpa using h1
theorem all_not {X : List Trip} {k : Nat} (hk : k < X.length) (h1 : okT X[k] = false) : okD X = false := by
  unfold okD
  have : X.all okT = false := by
    rw [List.all_eq_false]
    exact ⟨_, List.getElem_mem hk, by simp [h1]⟩
  rw [this]; rfl

theorem c550 (h : Heap) (v : Value) (X : List Trip) (hv : Vr h shTrips v X) (hs : X.length ≤ 2097152) : ACall Gam 550 [v] h fun r h' => r = B (okD X) ∧ h' = h := by
  obtain ⟨bb, o, zz, rfl, hzz, hm, hx, hc⟩ := hv.trips
  refine ACall_intro g550 rfl ?_
  unfold fn550
  simp (disch := omega)
  refine awp_loop (fun k σ h' => k ≤ X.length ∧ h' = h ∧ (X.take k).all okT = true ∧ σ 0 = sl bb o X.length zz ∧ σ 3 = I k) (fun k => X.length - k) 0 ?_ ?_
  · simp
  · rintro k σ h' ⟨hk, rfl, ha, p0, p3⟩
    simp (disch := omega) [p0, p3]
    refine fork_dec (fun hlt => ?_) (fun hge => ?_)
    · have k1 : k < X.length := by omega
      obtain ⟨q1, q2, q3⟩ := trips_cell hc k1
      have hnot := fun e => all_not k1 e
      have hyes := fun e => all_take k1 ha e
      unfold okT at hnot hyes
      simp (disch := omega) [p0, p3, k1, q1, q2, q3]
      refine callW_of (c432 _ _ _ _) ?_
      rintro _ h' ⟨rfl, rfl⟩
      cases e1 : inR X[k].1 0 111
      · rw [e1] at hnot
        simp (disch := omega) [hnot rfl]
      simp (disch := omega) [p0, p3, k1, q1, q2, q3]
      refine callW_of (c449 _ _) ?_
      rintro _ h' ⟨rfl, rfl⟩
      cases e2 : okBr X[k].2.1
      · rw [e1, e2] at hnot
        simp (disch := omega) [hnot rfl]
      simp (disch := omega) [p0, p3, k1, q1, q2, q3]
      refine callW_of (c449 _ _) ?_
      rintro _ h' ⟨rfl, rfl⟩
      cases e3 : okBr X[k].2.2
      · rw [e1, e2, e3] at hnot
        simp (disch := omega) [hnot rfl]
      rw [e1, e2, e3] at hyes
      simp (disch := omega) [p0, p3, wrap64]
      exact ⟨k + 1, ⟨by omega, by simpa [okT] using hyes rfl, by omega⟩, by omega⟩
    · have : k = X.length := by omega
      subst this
      rw [List.take_length] at ha
      simp (disch := omega) [p0, okD, ha]
      try omega

theorem trip_load {h : Heap} {b o k : Nat} {X : List Trip} (hr : X = [] ∨ cellsAt h b o (X.length * 3) = some (trips X)) (hk : k < X.length) : cellsAt h b (o + k * 3) 3 = some [I X[k].1, I X[k].2.1, I X[k].2.2] := by
  rcases hr with h0 | hr
  · subst h0; simp at hk
  · have h1 := cellsAt_in (i := k * 3) (m := 3) hr (by omega)
    rw [h1]
    congr 1
    have hx := trips_get X k hk
    have hl := trips_len X
    apply List.ext_getElem?
    intro i
    by_cases h3 : i < 3
    · rw [List.getElem?_take_of_lt h3, List.getElem?_drop]
      rcases (by omega : i = 0 ∨ i = 1 ∨ i = 2) with e | e | e <;> subst e
      · rw [show k * 3 + 0 = 3 * k by omega, hx.1]; rfl
      · rw [show k * 3 + 1 = 3 * k + 1 by omega, hx.2.1]; rfl
      · rw [show k * 3 + 2 = 3 * k + 2 by omega, hx.2.2]; rfl
    · rw [List.getElem?_eq_none (by simp; omega), List.getElem?_eq_none (by simp; omega)]
theorem c197 (h : Heap) (v : Value) (X : List Trip) (hv : Vr h shTrips v X) (hs : X.length ≤ 1048576) : ACall Gam 197 [v] h fun r h' => r = B (okD X) ∧ h' = h := by
  obtain ⟨bb, o, zz, rfl, hzz, hm, hx, hc⟩ := hv.trips
  refine ACall_intro g197 rfl ?_
  unfold fn197
  simp (disch := omega)
  refine awp_loop (fun k σ h' => k ≤ X.length ∧ h' = h ∧ (X.take k).all okT = true ∧ σ 0 = sl bb o X.length zz ∧ σ 5 = sl bb o X.length zz ∧ σ 6 = I X.length ∧ σ 7 = I k) (fun k => X.length - k) 0 ?_ ?_
  · simp
  · rintro k σ h' ⟨hk, rfl, ha, p0, p5, p6, p7⟩
    simp (disch := omega) [p6, p7]
    refine fork_dec (fun hlt => ?_) (fun hge => ?_)
    · have k1 : k < X.length := by omega
      have q := trip_load hc k1
      have hnot := fun e => all_not k1 e
      have hyes := fun e => all_take k1 ha e
      unfold okT at hnot hyes
      simp (disch := omega) [p5, p6, p7, k1, q]
      refine callW_of (c164 _ _ _ _) ?_
      rintro _ h' ⟨rfl, rfl⟩
      cases e1 : inR X[k].1 0 111
      · rw [e1] at hnot
        simp (disch := omega) [hnot rfl]
      simp (disch := omega)
      refine callW_of (c196 _ _) ?_
      rintro _ h' ⟨rfl, rfl⟩
      cases e2 : okBr X[k].2.1
      · rw [e1, e2] at hnot
        simp (disch := omega) [hnot rfl]
      simp (disch := omega)
      refine callW_of (c196 _ _) ?_
      rintro _ h' ⟨rfl, rfl⟩
      cases e3 : okBr X[k].2.2
      · rw [e1, e2, e3] at hnot
        simp (disch := omega) [hnot rfl]
      rw [e1, e2, e3] at hyes
      simp (disch := omega) [p0, p5, p6, p7, wrap64]
      exact ⟨k + 1, ⟨by omega, by simpa [okT] using hyes rfl, by omega⟩, by omega⟩
    · have : k = X.length := by omega
      subst this
      rw [List.take_length] at ha
      simp (disch := omega) [p0, okD, ha]
      try omega

theorem c470 (b : Int) (h : Heap) : ACall Gam 470 [I b] h fun r h' => r = U (signB b).toNat ∧ h' = h := by
  refine ACall_intro g470 rfl ?_
  unfold fn470
  simp (disch := omega)
  refine fork_dec (fun h1 => ?_) (fun h1 => ?_)
  · simp [signB, h1]
  · simp (disch := omega)
    refine fork_dec (fun h2 => ?_) (fun h2 => ?_)
    · simp [signB, h1, h2]
    · simp [signB, h1, h2]
/-- A text is appended to bytes. -/
theorem append_text {h h' : Heap} {v : Value} {l xs : List UInt8} {K : Value → Heap → Prop} (hp : 0 < h.length) (hl : l.length + xs.length ≤ 1048576) (hg : Grows h h') (hv : Buf h h' v 1 (bytesV l)) (hne : xs ≠ [])
    (hK : ∀ v' h'', Grows h h'' → Buf h h'' v' 1 (bytesV (l ++ xs)) → K v' h'') : bindW (aAppend 1 h' (S xs) v) K := by
  refine append_buf hp hg hv (new := bytesV xs) (by simp [newCells, bytesV]) (by omega) (by simpa [bytesV] using hne) (by simp [bytesV]) (by simp [bytesV, maxSize]; omega) ?_
  intro v' h'' g1 b1 _
  exact hK v' h'' g1 (by simpa [bytesV] using b1)
theorem wordT_len {t : Trip} (h : I64 t.1) : (wordT t).length ≤ 22 := by
  have := decS_len h
  simp [wordT]; omega
theorem diffT_step {X : List Trip} {k : Nat} (hk : k < X.length) : diffT (X.take (k + 1)) = diffT (X.take k) ++ (if 0 < k then [32] else []) ++ wordT X[k] := by
  unfold diffT
  have h2 : k < (X.map wordT).length := by simpa using hk
  rw [List.map_take, List.map_take, joinS_take _ _ _ h2]
  simp
theorem diffT_len {X : List Trip} (hx : ∀ x ∈ X, T64 x) (k : Nat) (hk : k ≤ X.length) : (diffT (X.take k)).length ≤ 23 * k := by
  induction k with
  | zero => simp [diffT, joinS]
  | succ k ih =>
    have := ih (by omega)
    rw [diffT_step (by omega)]
    have hw := wordT_len (t := X[k]) (hx _ (List.getElem_mem _)).1
    simp only [List.length_append]
    split <;> simp <;> omega
end Am
/-! AmD3 -/
set_option linter.unusedVariables false
set_option linter.unusedSimpArgs false
set_option maxHeartbeats 4000000
set_option maxRecDepth 4000
namespace Am
open Go

/-- A text is appended to texts. -/
theorem append_word {h h' : Heap} {v : Value} {l : List (List UInt8)} {x : List UInt8} {K : Value → Heap → Prop} (hp : 0 < h.length) (hl : l.length ≤ 1048576) (hg : Grows h h') (hv : Buf h h' v 1 (texts l))
    (hK : ∀ v' h'', Grows h h'' → Buf h h'' v' 1 (texts (l ++ [x])) → K v' h'') :
    bindW (aBuildSlice 1 1 h' [(0, .agg #[S []]), (1, S x)]) fun y h'' => bindW (aAppend 1 h'' y v) K := by
  have e : aBuildSlice 1 1 h' [(0, .agg #[S []]), (1, S x)] = some (sl h'.length 0 1 1, h' ++ [⟨[S x], true⟩]) := by simp [aBuildSlice]
  rw [e]
  simp only [bindW_some]
  refine append_buf hp (hg.push _) (hv.grow ⟨_, rfl⟩) (new := [S x]) ?_ (by omega) (by simp) (by simp) (by simp [texts, maxSize]; omega) ?_
  · simp [newCells]
    rw [cellsAt_of (k := ⟨[S x], true⟩) (by simp) (by simp)]
    simp
  · intro v' h'' g1 b1 _
    exact hK v' h'' g1 (by rw [texts_append]; exact b1)
theorem mark_slice {h : Heap} {a : Int} (ha : okBr a = true) : aSlice 0 h (S [43, 124, 45]) (some (I a)) (some (I (a + 1))) none = some (S [signB a], h) := by
  have hr : a = 0 ∨ a = 1 ∨ a = 2 := by unfold okBr inR at ha; simp at ha; omega
  rcases hr with e | e | e <;> subst e <;> simp [aSlice, bound, signB, ByteArray.size]
theorem okD_iff {X : List Trip} : okD X = true ↔ (∀ t ∈ X, okT t = true) ∧ X.length ≤ 112 := by simp [okD, -Prod.forall]
theorem diffText_len {X : List Trip} (hx : ∀ x ∈ X, T64 x) : (diffText X).length ≤ 2600 := by
  unfold diffText
  split
  · rename_i ok
    have hl := (okD_iff.1 ok).2
    have := diffT_len hx X.length (Nat.le_refl _)
    rw [List.take_length] at this; omega
  · simp

end Am
/-! AmJ1 -/
set_option linter.unusedVariables false
set_option linter.unusedSimpArgs false
set_option maxHeartbeats 4000000
set_option maxRecDepth 4000
namespace Am
open Go

/-- A step fits a panel with n points. -/
def okStep (n : Nat) (s : Trip) : Bool := inR s.1 0 ((n : Int) - 1) && (okBr s.2.1 && (okBr s.2.2 && !decide (s.2.1 = s.2.2)))
theorem okStep_iff {n : Nat} {s : Trip} : okStep n s = true ↔ (0 ≤ s.1 ∧ s.1 < n) ∧ (0 ≤ s.2.1 ∧ s.2.1 ≤ 2) ∧ (0 ≤ s.2.2 ∧ s.2.2 ≤ 2) ∧ s.2.1 ≠ s.2.2 := by
  simp only [okStep, okBr, Bool.and_eq_true, inR_iff, Bool.not_eq_true', decide_eq_false_iff_not]
  omega
/-- Steps undone, the last one first: none if one does not fit. -/
def runB : List Trip → List Int → Option (List Int)
  | [], br => some br
  | s :: l, br => if okStep br.length s && decide (at0 br s.1.toNat = s.2.2) then runB l (br.set s.1.toNat s.2.1) else none
/-- Steps made. -/
def runF : List Trip → List Int → Option (List Int)
  | [], br => some br
  | s :: l, br => if okStep br.length s && decide (at0 br s.1.toNat = s.2.1) then runF l (br.set s.1.toNat s.2.2) else none
def okJ (X : Jrn) : Bool := okP X.1 && (decide (X.2.1.length + X.2.2.length ≤ 50) && ((runB X.2.1.reverse X.1.2.2).isSome && (runF X.2.2 X.1.2.2).isSome))

theorem c163 (a : Int) (n : Nat) (hn : n ≤ maxLen) (h : Heap) : ACall Gam 163 [I a, I n] h fun v h' => v = B (inR a 0 ((n : Int) - 1)) ∧ h' = h := by
  rw [maxLen_eq] at hn
  refine ACall_intro g163 rfl ?_
  unfold fn163
  simp (disch := omega) [wrap64]
  refine callW_of (c164 a 0 ((n : Int) - 1) h) ?_
  rintro v h' ⟨rfl, rfl⟩
  simp

theorem c199 (h : Heap) (W H : Int) (b o n z : Nat) (s : Trip) (hn : n ≤ maxLen) : ACall Gam 199 [.agg #[I W, I H, sl b o n z], .agg #[I s.1, I s.2.1, I s.2.2]] h fun r h' => r = B (okStep n s) ∧ h' = h := by
  refine ACall_intro g199 rfl ?_
  unfold fn199
  simp (disch := omega)
  refine callW_of (c163 s.1 n hn h) ?_
  rintro v h' ⟨rfl, rfl⟩
  cases h1 : inR s.1 0 ((n : Int) - 1)
  · simp [okStep, h1]
  simp (disch := omega)
  refine callW_of (c196 s.2.1 h') ?_
  rintro v h' ⟨rfl, rfl⟩
  cases h2 : okBr s.2.1
  · simp [okStep, h1, h2]
  simp (disch := omega)
  refine callW_of (c196 s.2.2 h') ?_
  rintro v h' ⟨rfl, rfl⟩
  cases h3 : okBr s.2.2
  · simp [okStep, h1, h2, h3]
  simp (disch := omega) [okStep, h1, h2, h3]

theorem c562 (h : Heap) (pb po : Nat) (b o n z : Nat) (s : Trip) (hn : n ≤ maxLen) (hc : cell h pb (po + 2) = some (sl b o n z)) : ACall Gam 562 [pt pb po, .agg #[I s.1, I s.2.1, I s.2.2]] h fun r h' => r = B (okStep n s) ∧ h' = h := by
  have hn' := hn
  rw [maxLen_eq] at hn'
  refine ACall_intro g562 rfl ?_
  unfold fn562
  simp (disch := omega) [hc, wrap64]
  refine callW_of (c432 s.1 0 ((n : Int) - 1) h) ?_
  rintro v h' ⟨rfl, rfl⟩
  cases h1 : inR s.1 0 ((n : Int) - 1)
  · simp [okStep, h1]
  simp (disch := omega)
  refine callW_of (c449 s.2.1 h') ?_
  rintro v h' ⟨rfl, rfl⟩
  cases h2 : okBr s.2.1
  · simp [okStep, h1, h2]
  simp (disch := omega)
  refine callW_of (c449 s.2.2 h') ?_
  rintro v h' ⟨rfl, rfl⟩
  cases h3 : okBr s.2.2
  · simp [okStep, h1, h2, h3]
  simp (disch := omega) [okStep, h1, h2, h3]

/-- A number written in a block of numbers. -/
theorem ints_set (l : List Int) (k : Nat) (v : Int) : (ints l).set k (I v) = ints (l.set k v) := by simp [ints, List.map_set]
theorem store_int {h : Heap} {b k : Nat} {l : List Int} {v : Int} (hb : h[b]? = some ⟨ints l, true⟩) (hk : k < l.length) : storeAt h b k [I v] = some (h.set b ⟨ints (l.set k v), true⟩) := by
  rw [store_one hb (by simp [ints]; exact hk), ints_set]
theorem cell_int {h : Heap} {b k : Nat} {l : List Int} {r : Bool} (hb : h[b]? = some ⟨ints l, r⟩) (hk : k < l.length) : cell h b k = some (I (at0 l k)) := by
  rw [at0_of hk]
  exact cell_of hb (by simp [ints, hk])
theorem ok_len {W H : Int} {br : List Int} (ok : OkP (W, H, br)) : br.length ≤ 112 := by
  have := inner_bd (a := W) (b := H) ok.w ok.h
  have := ok.n
  simp only at this
  omega
theorem storeAt_whole {h : Heap} {b : Nat} {cs ds : List Value} (hb : h[b]? = some ⟨ds, true⟩) (hl : cs.length = ds.length) : storeAt h b 0 cs = some (h.set b ⟨cs, true⟩) := by
  unfold storeAt
  simp only [hb]
  rw [if_pos ⟨trivial, by omega⟩]
  simp [hl]
/-- A clone's slice. -/
theorem own_slice {h : Heap} {lo hi : Nat} {v : Value} {X : List Int} (x : Vo h lo hi shInts v X) : ∃ b z, v = sl b 0 X.length z ∧ (X.length = 0 ∨ h[b]? = some ⟨ints X, true⟩ ∧ lo ≤ b ∧ b < hi) := by
  obtain ⟨b, z, e, _, _, _, hc⟩ := x.ints
  exact ⟨b, z, e, hc.imp (fun e => by rw [e]; rfl) id⟩
/-- A pointer to a journal. -/
def PtJ (h : Heap) (v : Value) (X : Jrn) : Prop := ∃ b o s sp sf, v = pt b o ∧ cellsAt h b o 5 = some [I X.1.1, I X.1.2.1, s, sp, sf] ∧ Vr h shInts s X.1.2.2 ∧ Vr h shTrips sp X.2.1 ∧ Vr h shTrips sf X.2.2 ∧ I64 X.1.1 ∧ I64 X.1.2.1
theorem PtJ.grow {h h' : Heap} {v : Value} {X : Jrn} (x : PtJ h v X) (g : Grows h h') : PtJ h' v X := by
  obtain ⟨b, o, s, sp, sf, e, h1, h2, h3, h4, h5⟩ := x
  exact ⟨b, o, s, sp, sf, e, g.cellsAt h1, h2.grow g, h3.grow g, h4.grow g, h5⟩
theorem PtJ.of {h : Heap} {b : Nat} {W H : Int} {s sp sf : Value} {br : List Int} {p f : List Trip} {r : Bool} (hb : h[b]? = some ⟨[I W, I H, s, sp, sf], r⟩) (h1 : Vr h shInts s br) (h2 : Vr h shTrips sp p) (h3 : Vr h shTrips sf f) (w1 : I64 W) (w2 : I64 H) : PtJ h (pt b 0) ((W, H, br), p, f) :=
  ⟨b, 0, s, sp, sf, rfl, cellsAt_all hb rfl, h1, h2, h3, w1, w2⟩
theorem PtJ.panel {h : Heap} {b o : Nat} {X : Jrn} (x : PtJ h (pt b o) X) : PtP h (pt b o) X.1 := by
  obtain ⟨b, o, s, sp, sf, e, h1, h2, h3, h4, w1, w2⟩ := x
  injection e with e; injection e with e; injection e with e1 e2; subst e1; subst e2
  have k0 := (cell_in (i := 0) h1 (by omega)).1
  have k1 := (cell_in (i := 1) h1 (by omega)).1
  have k2 := (cell_in (i := 2) h1 (by omega)).1
  exact ⟨_, _, s, rfl, by simpa using k0, by simpa using k1, by simpa using k2, h2, w1, w2⟩

theorem c138 (h : Heap) (hp : 0 < h.length) (v0 : Value) (X0 : Jrn) (hv0 : Vr h shJournal v0 X0) (hs0 : siz shJournal X0 ≤ 1048576) :
    ACall Gam 138 [v0] h fun r h' => Grows h h' ∧ r = B (okJ X0) := by
  obtain ⟨⟨W, H, br⟩, p, f⟩ := X0
  rw [siz_journal] at hs0
  obtain ⟨s, sp, sf, rfl, w1, w2, r1, r2, r3⟩ := hv0.journal
  have rp : Vr h shPanel (.agg #[I W, I H, s]) (W, H, br) := Vr.of_panel w1 w2 r1
  obtain ⟨pb, po, pz, rfl, hpm, hpe⟩ := trips_at r2
  obtain ⟨fb, fo, fz, rfl, hfm, hfe⟩ := trips_at r3
  rw [maxLen_eq] at hpm hfm
  refine ACall_intro g138 rfl ?_
  unfold fn138
  simp (disch := omega)
  refine callW_of (c140 _ _ h rp) ?_
  rintro _ h1 ⟨rfl, rfl⟩
  cases q : okP (W, H, br)
  · simp [okJ, q]
    exact Grows.refl _
  have ok := okP_iff.1 q
  have hbl := ok_len ok
  simp (disch := omega) [wrap64]
  refine fork_dec (fun hgt => ?_) (fun hle => ?_)
  · have : ¬ p.length + f.length ≤ 50 := by omega
    simp [okJ, q, this]
    exact Grows.refl _
  have hle : p.length + f.length ≤ 50 := by omega
  have eJ : okJ ((W, H, br), p, f) = ((runB p.reverse br).isSome && (runF f br).isSome) := by simp [okJ, q, hle]
  rw [eJ]
  simp (disch := omega)
  refine callW_of (c150 h1 _ _ hp rp (by simp only; omega)) ?_
  rintro _ h2 ⟨g2, o2⟩
  obtain ⟨so, rfl, _, _, o2⟩ := o2.panel
  obtain ⟨bb, zz, rfl, hb⟩ := own_slice o2
  obtain ⟨n, hn⟩ : ∃ n, n = br.length := ⟨_, rfl⟩
  rw [← hn] at hb ⊢
  simp (disch := omega) [wrap64]
  refine awp_loop (fun (k : Nat) σ h' => k ≤ p.length ∧ Grows h1 h' ∧ σ 1 = .agg #[I W, I H, s, sl pb po p.length pz, sl fb fo f.length fz] ∧ σ 3 = .agg #[I W, I H, sl bb 0 n zz] ∧ σ 4 = I ((p.length : Int) - 1 - k) ∧
    ∃ cur : List Int, cur.length = n ∧ runB (p.reverse.drop k) cur = runB p.reverse br ∧ (n = 0 ∨ h'[bb]? = some ⟨ints cur, true⟩ ∧ h1.length ≤ bb)) (fun k => p.length - k) 0 ?_ ?_
  · refine ⟨by omega, g2, by simp, by simp, by simp, br, hn.symm, by simp, hb.imp id fun e => ⟨e.1, e.2.1⟩⟩
  rintro k σ h' ⟨hk, hg, q1, q3, q4, cur, hcl, hrun, hb⟩
  simp (disch := omega) [q4]
  refine fork_dec (fun hlt => ?_) (fun hge => ?_)
  · have k1 : k < p.length := by omega
    obtain ⟨j, hj⟩ : ∃ j, j = p.length - 1 - k := ⟨_, rfl⟩
    have j1 : j < p.length := by omega
    have ej : (p.length : Int) - 1 - k = (j : Int) := by omega
    have hd : p.reverse.drop k = p[j] :: p.reverse.drop (k + 1) := by
      rw [List.drop_eq_getElem_cons (by simpa using k1)]
      congr 1
      rw [List.getElem_reverse]
      congr 1
      omega
    rw [hd] at hrun
    have hcell := grows_cellsAt hg (hpe j j1)
    rw [ej] at q4
    obtain ⟨⟨t1, t2, t3⟩, ht⟩ : ∃ t, t = p[j] := ⟨_, rfl⟩
    rw [← ht] at hrun hcell
    simp only [runB, hcl] at hrun
    simp (disch := omega) [q1, q3, q4, j1, hcell, trip]
    refine callW_of (c199 h' W H bb 0 n zz (t1, t2, t3) (by rw [maxLen_eq]; omega)) ?_
    rintro _ h' ⟨rfl, rfl⟩
    cases hs : okStep n (t1, t2, t3)
    · simp only [hs, Bool.false_and, Bool.false_eq_true, if_false] at hrun
      simp [← hrun]
      exact hg
    have hso := okStep_iff.1 hs
    simp only at hso
    have hne : n ≠ 0 := by omega
    obtain ⟨hb1, hb2⟩ := hb.resolve_left hne
    obtain ⟨t, rfl⟩ := Int.eq_ofNat_of_zero_le hso.1.1
    have htn : t < cur.length := by omega
    have htn' : t < n := by omega
    have hci := cell_int hb1 htn
    simp only [hs, Bool.true_and, Int.toNat_natCast] at hrun
    simp (disch := omega) [q1, q3, q4, hci, htn']
    refine fork_dec (fun he => ?_) (fun he => ?_)
    · simp only [he, decide_true, if_true] at hrun
      have hst := store_int (v := t2) hb1 htn
      simp (disch := omega) [q1, q3, q4, hst, htn', wrap64]
      refine ⟨k + 1, ⟨by omega, hg.put hb2 _, by omega, cur.set t t2, by simpa using hcl, hrun, .inr ⟨by simp [at_lt hb1], hb2⟩⟩, by omega⟩
    · simp only [he, decide_false, Bool.false_eq_true, if_false] at hrun
      simp [← hrun]
      exact hg
  have hkp : k = p.length := by omega
  rw [List.drop_of_length_le (by simp; omega)] at hrun
  simp only [runB] at hrun
  rw [← hrun]
  simp (disch := omega) [q1, q3]
  refine callW_of (c150 h' _ _ (pos_of hp hg) (rp.grow hg) (by simp only; omega)) ?_
  rintro _ h3 ⟨g3, o3⟩
  obtain ⟨so, rfl, _, _, o3⟩ := o3.panel
  obtain ⟨bb, zz, rfl, hb⟩ := own_slice o3
  rw [← hn] at hb ⊢
  simp (disch := omega) [wrap64, q1, q3]
  refine awp_loop (fun (k : Nat) σ h' => k ≤ f.length ∧ Grows h1 h' ∧ σ 3 = .agg #[I W, I H, sl bb 0 n zz] ∧ σ 64 = sl fb fo f.length fz ∧ σ 65 = I f.length ∧ σ 66 = I k ∧
    ∃ cur : List Int, cur.length = n ∧ runF (f.drop k) cur = runF f br ∧ (n = 0 ∨ h'[bb]? = some ⟨ints cur, true⟩ ∧ h1.length ≤ bb)) (fun k => f.length - k) 0 ?_ ?_
  · refine ⟨by omega, hg.trans g3, by simp, by simp, by simp, by simp, br, hn.symm, by simp, hb.imp id fun e => ⟨e.1, by have := hg.le; omega⟩⟩
  rintro k σ h' ⟨hk, hg, q3, q64, q65, q66, cur, hcl, hrun, hb⟩
  simp (disch := omega) [q65, q66]
  refine fork_dec (fun hlt => ?_) (fun hge => ?_)
  · have k1 : k < f.length := by omega
    rw [List.drop_eq_getElem_cons k1] at hrun
    have hcell := grows_cellsAt hg (hfe k k1)
    obtain ⟨⟨t1, t2, t3⟩, ht⟩ : ∃ t, t = f[k] := ⟨_, rfl⟩
    rw [← ht] at hrun hcell
    simp only [runF, hcl] at hrun
    simp (disch := omega) [q3, q64, q66, k1, hcell, trip]
    refine callW_of (c199 h' W H bb 0 n zz (t1, t2, t3) (by rw [maxLen_eq]; omega)) ?_
    rintro _ h' ⟨rfl, rfl⟩
    cases hs : okStep n (t1, t2, t3)
    · simp only [hs, Bool.false_and, Bool.false_eq_true, if_false] at hrun
      simp [← hrun]
      exact hg
    have hso := okStep_iff.1 hs
    simp only at hso
    have hne : n ≠ 0 := by omega
    obtain ⟨hb1, hb2⟩ := hb.resolve_left hne
    obtain ⟨t, rfl⟩ := Int.eq_ofNat_of_zero_le hso.1.1
    have htn : t < cur.length := by omega
    have htn' : t < n := by omega
    have hci := cell_int hb1 htn
    simp only [hs, Bool.true_and, Int.toNat_natCast] at hrun
    simp (disch := omega) [q3, hci, htn']
    refine fork_dec (fun he => ?_) (fun he => ?_)
    · simp only [he, decide_true, if_true] at hrun
      have hst := store_int (v := t3) hb1 htn
      simp (disch := omega) [q3, q64, q65, q66, hst, htn', wrap64]
      refine ⟨k + 1, ⟨by omega, hg.put hb2 _, by omega, cur.set t t3, by simpa using hcl, hrun, .inr ⟨by simp [at_lt hb1], hb2⟩⟩, by omega⟩
    · simp only [he, decide_false, Bool.false_eq_true, if_false] at hrun
      simp [← hrun]
      exact hg
  have hkp : k = f.length := by omega
  rw [List.drop_of_length_le (by omega)] at hrun
  simp only [runF] at hrun
  simp [← hrun]
  exact hg
end Am
/-! AmJ2 -/
set_option linter.unusedVariables false
set_option linter.unusedSimpArgs false
set_option maxHeartbeats 4000000
set_option maxRecDepth 4000
namespace Am
open Go

theorem c558 (h : Heap) (hp : 0 < h.length) (v0 : Value) (X0 : Jrn) (hv0 : PtJ h v0 X0) (hs0 : siz shJournal X0 ≤ 1048576) :
    ACall Gam 558 [v0] h fun r h' => Grows h h' ∧ r = B (okJ X0) := by
  have hv0' := hv0
  obtain ⟨⟨W, H, br⟩, p, f⟩ := X0
  rw [siz_journal] at hs0
  obtain ⟨jb, jo, s, sp, sf, rfl, hc, r1, r2, r3, w1, w2⟩ := hv0
  obtain ⟨pb, po, pz, rfl, hpm, hpe⟩ := trips_at r2
  obtain ⟨fb, fo, fz, rfl, hfm, hfe⟩ := trips_at r3
  rw [maxLen_eq] at hpm hfm
  have k3 : cell h jb (jo + 3) = _ := (cell_in (i := 3) hc (by omega)).1
  have k4 : cell h jb (jo + 4) = _ := (cell_in (i := 4) hc (by omega)).1
  simp at k3 k4
  have hpt := hv0'.panel
  simp only at hpt
  refine ACall_intro g558 rfl ?_
  unfold fn558
  simp (disch := omega)
  refine callW_of (c452 _ _ h hpt) ?_
  rintro _ h1 ⟨rfl, rfl⟩
  cases q : okP (W, H, br)
  · simp [okJ, q]
    exact Grows.refl _
  have ok := okP_iff.1 q
  have hbl := ok_len ok
  simp (disch := omega) [k3, k4, wrap64]
  refine fork_dec (fun hgt => ?_) (fun hle => ?_)
  · have : ¬ p.length + f.length ≤ 50 := by omega
    simp [okJ, q, this]
    exact Grows.refl _
  have hle : p.length + f.length ≤ 50 := by omega
  have eJ : okJ ((W, H, br), p, f) = ((runB p.reverse br).isSome && (runF f br).isSome) := by simp [okJ, q, hle]
  rw [eJ]
  simp (disch := omega)
  refine callW_of (c453 h1 _ _ hp hpt (by simp only; omega)) ?_
  rintro _ h2 ⟨g2, o2⟩
  obtain ⟨so, rfl, _, _, o2⟩ := o2.panel
  obtain ⟨bb, zz, rfl, hb⟩ := own_slice o2
  obtain ⟨n, hn⟩ : ∃ n, n = br.length := ⟨_, rfl⟩
  rw [← hn] at hb ⊢
  have hsb : storeAt (h2 ++ [⟨[I 0, I 0, sl 0 0 0 0], true⟩]) h2.length 0 [I W, I H, sl bb 0 n zz] = some (h2 ++ [⟨[I W, I H, sl bb 0 n zz], true⟩]) := store_box rfl
  simp (disch := omega) [hsb]
  obtain ⟨h3, e3⟩ : ∃ h3, h3 = h2 ++ [⟨[I W, I H, sl bb 0 n zz], true⟩] := ⟨_, rfl⟩
  rw [← e3]
  have g3 : Grows h2 h3 := ⟨_, e3⟩
  have l3 : h3.length = h2.length + 1 := by rw [e3]; simp
  have b3 : h3[h2.length]? = some ⟨[I W, I H, sl bb 0 n zz], true⟩ := by rw [e3]; simp
  have G3 := g2.trans g3
  have c3 := G3.cell k3
  have l2 := g2.le
  simp (disch := omega) [c3, wrap64]
  refine awp_loop (fun (k : Nat) σ h' => k ≤ p.length ∧ Grows h1 h' ∧ h'[h2.length]? = some ⟨[I W, I H, sl bb 0 n zz], true⟩ ∧ σ 0 = pt jb jo ∧ σ 3 = pt h2.length 0 ∧ σ 4 = I ((p.length : Int) - 1 - k) ∧
    ∃ cur : List Int, cur.length = n ∧ runB (p.reverse.drop k) cur = runB p.reverse br ∧ (n = 0 ∨ h'[bb]? = some ⟨ints cur, true⟩ ∧ h1.length ≤ bb ∧ bb < h2.length)) (fun k => p.length - k) 0 ?_ ?_
  · refine ⟨by omega, G3, b3, by simp, by simp, by simp, br, hn.symm, by simp, hb.imp id fun e => ⟨g3.at e.1, e.2⟩⟩
  rintro k σ h' ⟨hk, hg, hkb, q0, q3, q4, cur, hcl, hrun, hb⟩
  simp (disch := omega) [q4]
  refine fork_dec (fun hlt => ?_) (fun hge => ?_)
  · have k1 : k < p.length := by omega
    obtain ⟨j, hj⟩ : ∃ j, j = p.length - 1 - k := ⟨_, rfl⟩
    have j1 : j < p.length := by omega
    have ej : (p.length : Int) - 1 - k = (j : Int) := by omega
    have hd : p.reverse.drop k = p[j] :: p.reverse.drop (k + 1) := by
      rw [List.drop_eq_getElem_cons (by simpa using k1)]
      congr 1
      rw [List.getElem_reverse]
      congr 1
      omega
    rw [hd] at hrun
    have hcell := grows_cellsAt hg (hpe j j1)
    have c3 := hg.cell k3
    have cl2 : cell h' h2.length 2 = some (sl bb 0 n zz) := by simp [cell, hkb]
    rw [ej] at q4
    obtain ⟨⟨t1, t2, t3⟩, ht⟩ : ∃ t, t = p[j] := ⟨_, rfl⟩
    rw [← ht] at hrun hcell
    simp only [runB, hcl] at hrun
    simp (disch := omega) [q0, q3, q4, j1, c3, hcell, trip]
    refine callW_of (c562 h' h2.length 0 bb 0 n zz (t1, t2, t3) (by rw [maxLen_eq]; omega) cl2) ?_
    rintro _ h' ⟨rfl, rfl⟩
    cases hs : okStep n (t1, t2, t3)
    · simp only [hs, Bool.false_and, Bool.false_eq_true, if_false] at hrun
      simp [← hrun]
      exact hg
    have hso := okStep_iff.1 hs
    simp only at hso
    have hne : n ≠ 0 := by omega
    obtain ⟨hb1, hb2⟩ := hb.resolve_left hne
    obtain ⟨t, rfl⟩ := Int.eq_ofNat_of_zero_le hso.1.1
    have htn : t < cur.length := by omega
    have htn' : t < n := by omega
    have hci := cell_int hb1 htn
    simp only [hs, Bool.true_and, Int.toNat_natCast] at hrun
    simp (disch := omega) [q0, q3, q4, cl2, hci, htn']
    refine fork_dec (fun he => ?_) (fun he => ?_)
    · simp only [he, decide_true, if_true] at hrun
      have hst := store_int (v := t2) hb1 htn
      simp (disch := omega) [q0, q3, q4, cl2, hst, htn', wrap64]
      refine ⟨k + 1, ⟨by omega, hg.put hb2.1 _, by first | exact hkb | (rw [List.getElem?_set_ne (by omega)]; exact hkb), by omega, cur.set t t2, by simpa using hcl, hrun, .inr ⟨by simp [at_lt hb1], hb2⟩⟩, by omega⟩
    · simp only [he, decide_false, Bool.false_eq_true, if_false] at hrun
      simp [← hrun]
      exact hg
  have hkp : k = p.length := by omega
  rw [List.drop_of_length_le (by simp; omega)] at hrun
  simp only [runB] at hrun
  rw [← hrun]
  simp (disch := omega) [q0, q3]
  refine callW_of (c453 h' _ _ (pos_of hp hg) (hpt.grow hg) (by simp only; omega)) ?_
  rintro _ h4 ⟨g4, o4⟩
  obtain ⟨so, rfl, _, _, o4⟩ := o4.panel
  obtain ⟨bb, zz, rfl, hb⟩ := own_slice o4
  rw [← hn] at hb ⊢
  have b4 := g4.at hkb
  have hst := storeAt_whole (cs := [I W, I H, sl bb 0 n zz]) b4 rfl
  simp (disch := omega) [q0, q3, hst]
  obtain ⟨h5, e5⟩ : ∃ h5, h5 = h4.set h2.length ⟨[I W, I H, sl bb 0 n zz], true⟩ := ⟨_, rfl⟩
  rw [← e5]
  have b5 : h5[h2.length]? = some ⟨[I W, I H, sl bb 0 n zz], true⟩ := by rw [e5]; simp [at_lt b4]
  have G5 : Grows h1 h5 := by rw [e5]; exact (hg.trans g4).put l2 _
  have l4 := at_lt hkb
  refine awp_loop (fun (k : Nat) σ h' => k ≤ f.length ∧ Grows h1 h' ∧ h'[h2.length]? = some ⟨[I W, I H, sl bb 0 n zz], true⟩ ∧ σ 0 = pt jb jo ∧ σ 3 = pt h2.length 0 ∧ σ 6 = I k ∧
    ∃ cur : List Int, cur.length = n ∧ runF (f.drop k) cur = runF f br ∧ (n = 0 ∨ h'[bb]? = some ⟨ints cur, true⟩ ∧ h1.length ≤ bb ∧ h2.length ≠ bb)) (fun k => f.length - k) 0 ?_ ?_
  · refine ⟨by omega, G5, b5, by simp [q0], by simp [q3], by simp, br, hn.symm, by simp, hb.imp id fun e => ⟨?_, by have := hg.le; omega, by omega⟩⟩
    rw [e5, List.getElem?_set_ne (by omega)]; exact e.1
  rintro k σ h' ⟨hk, hg, hkb, q0, q3, q6, cur, hcl, hrun, hb⟩
  have c4 := hg.cell k4
  simp (disch := omega) [q0, q6, c4]
  refine fork_dec (fun hlt => ?_) (fun hge => ?_)
  · have k1 : k < f.length := by omega
    rw [List.drop_eq_getElem_cons k1] at hrun
    have hcell := grows_cellsAt hg (hfe k k1)
    have cl2 : cell h' h2.length 2 = some (sl bb 0 n zz) := by simp [cell, hkb]
    obtain ⟨⟨t1, t2, t3⟩, ht⟩ : ∃ t, t = f[k] := ⟨_, rfl⟩
    rw [← ht] at hrun hcell
    simp only [runF, hcl] at hrun
    simp (disch := omega) [q0, q3, q6, k1, c4, hcell, trip]
    refine callW_of (c562 h' h2.length 0 bb 0 n zz (t1, t2, t3) (by rw [maxLen_eq]; omega) cl2) ?_
    rintro _ h' ⟨rfl, rfl⟩
    cases hs : okStep n (t1, t2, t3)
    · simp only [hs, Bool.false_and, Bool.false_eq_true, if_false] at hrun
      simp [← hrun]
      exact hg
    have hso := okStep_iff.1 hs
    simp only at hso
    have hne : n ≠ 0 := by omega
    obtain ⟨hb1, hb2⟩ := hb.resolve_left hne
    obtain ⟨t, rfl⟩ := Int.eq_ofNat_of_zero_le hso.1.1
    have htn : t < cur.length := by omega
    have htn' : t < n := by omega
    have hci := cell_int hb1 htn
    simp only [hs, Bool.true_and, Int.toNat_natCast] at hrun
    simp (disch := omega) [q0, q3, q6, cl2, hci, htn']
    refine fork_dec (fun he => ?_) (fun he => ?_)
    · simp only [he, decide_true, if_true] at hrun
      have hst := store_int (v := t3) hb1 htn
      simp (disch := omega) [q0, q3, q6, cl2, hst, htn', wrap64]
      refine ⟨k + 1, ⟨by omega, hg.put hb2.1 _, by first | exact hkb | (rw [List.getElem?_set_ne (fun e => hb2.2 e.symm)]; exact hkb), by omega, cur.set t t3, by simpa using hcl, hrun, .inr ⟨by simp [at_lt hb1], hb2⟩⟩, by omega⟩
    · simp only [he, decide_false, Bool.false_eq_true, if_false] at hrun
      simp [← hrun]
      exact hg
  have hkp : k = f.length := by omega
  rw [List.drop_of_length_le (by omega)] at hrun
  simp only [runF] at hrun
  simp [← hrun]
  exact hg
end Am
