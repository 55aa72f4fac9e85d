/- Contracts: numbers as texts. -/
import Derived.Test.YtljclhpcpjkihaaAmP2
set_option linter.unusedVariables false
set_option linter.unusedSimpArgs false
set_option maxHeartbeats 4000000
set_option maxRecDepth 20000
namespace Am
open Go

/-- The digits of a number; none for 0. -/
def decN (n : Nat) : List UInt8 := if h : n = 0 then [] else decN (n / 10) ++ [UInt8.ofNat (48 + n % 10)]
termination_by n
decreasing_by omega
theorem decN_zero : decN 0 = [] := by unfold decN; simp
theorem decN_pos {n : Nat} (h : n ≠ 0) : decN n = decN (n / 10) ++ [UInt8.ofNat (48 + n % 10)] := by
  rw [decN]; rw [dif_neg h]
theorem decN_len (k : Nat) : ∀ n, n < 10 ^ k → (decN n).length ≤ k := by
  induction k with
  | zero => intro n hn; have : n = 0 := by simpa using hn
            subst this; simp [decN_zero]
  | succ k ih =>
    intro n hn
    by_cases h0 : n = 0
    · subst h0; simp [decN_zero]
    · rw [decN_pos h0]
      have := ih (n / 10) (by rw [Nat.pow_succ] at hn; omega)
      simp; omega
theorem decN_pos_len {n : Nat} (h : n ≠ 0) : 0 < (decN n).length := by rw [decN_pos h]; simp
def decS (n : Int) : List UInt8 := if n = 0 then [48] else if n < 0 then 45 :: decN n.natAbs else decN n.natAbs
theorem decN_len64 {n : Int} (hn : I64 n) : (decN n.natAbs).length ≤ 19 := by
  unfold I64 at hn
  have e : 10 ^ 19 = 10000000000000000000 := by decide
  exact decN_len 19 _ (by omega)
theorem decS_len {n : Int} (hn : I64 n) : 1 ≤ (decS n).length ∧ (decS n).length ≤ 20 := by
  have := decN_len64 hn
  unfold decS
  split
  · simp
  · have h0 := decN_pos_len (n := n.natAbs) (by omega)
    split
    · simp; omega
    · omega
theorem wrapU {n : Int} (a : 0 ≤ n) (b : n < 18446744073709551616) : IntKind.u64.wrap n = n := wrap_unsigned (M := 18446744073709551616) rfl (by decide) a b
theorem wrapU_neg {n : Int} (a : -9223372036854775808 ≤ n) (b : n < 0) : IntKind.u64.wrap n = n + 18446744073709551616 := by
  unfold IntKind.wrap
  have hs : IntKind.u64.signed = false := rfl
  have hM : (2 : Int) ^ IntKind.u64.bits = 18446744073709551616 := by decide
  simp only [hs, hM, Bool.false_and, Bool.false_eq_true, if_false]
  rw [← Int.add_emod_right]
  exact Int.emod_eq_of_lt (by omega) (by omega)
theorem wrapU_sub {n : Int} (a : -9223372036854775808 ≤ n) (b : n < 0) : IntKind.u64.wrap (0 - IntKind.u64.wrap n) = -n := by
  rw [wrapU_neg a b]
  unfold IntKind.wrap
  have hs : IntKind.u64.signed = false := rfl
  have hM : (2 : Int) ^ IntKind.u64.bits = 18446744073709551616 := by decide
  simp only [hs, hM, Bool.false_and, Bool.false_eq_true, if_false]
  have : 0 - (n + 18446744073709551616) = -n - 18446744073709551616 := by omega
  rw [this, ← Int.add_emod_right, Int.sub_add_cancel]
  exact Int.emod_eq_of_lt (by omega) (by omega)

/-- A byte before what there is. -/
theorem push_front {h h' : Heap} {v : Value} {l : List UInt8} {x : Int} {c : UInt8} {K : Value → Heap → Prop} (hp : 0 < h.length) (hl : l.length ≤ 1048576) (hg : Grows h h') (hv : Buf h h' v 1 (bytesV l)) (hx : x = c.toNat)
    (hK : ∀ v' h'', Grows h h'' → Buf h h'' v' 1 (bytesV (c :: l)) → K v' h'') :
    bindW (aBuildSlice 1 1 h' [(0, Value.agg #[U 0]), (1, U x)]) fun y h'' => bindW (aAppend 1 h'' v y) K := by
  subst hx
  have e : aBuildSlice 1 1 h' [(0, Value.agg #[U 0]), (1, U (c.toNat : Int))] = some (sl h'.length 0 1 1, h' ++ [⟨bytesV [c], true⟩]) := by simp [aBuildSlice, bytesV]
  rw [e]
  simp only [bindW_some]
  have hb : Buf h (h' ++ [⟨bytesV [c], true⟩]) (sl h'.length 0 1 1) 1 (bytesV [c]) := .inr ⟨h'.length, 1, rfl, by simp [bytesV], hg.le, by simp⟩
  have hn : newCells 1 (h' ++ [⟨bytesV [c], true⟩]) v = some (bytesV l) := by
    obtain ⟨b, o, n, rfl, hn, hr⟩ := (hv.grow (⟨_, rfl⟩ : Grows h' (h' ++ [⟨bytesV [c], true⟩]))).reads
    by_cases h0 : n = 0
    · subst h0
      have : l = [] := by simp [bytesV] at hn; simpa using hn.symm
      subst this; simp [newCells, bytesV]
    · have := hr.resolve_left h0
      simp only [newCells, h0, if_false]
      exact this
  by_cases h0 : l = []
  · subst h0
    have : aAppend 1 (h' ++ [⟨bytesV [c], true⟩]) v (sl h'.length 0 1 1) = some (sl h'.length 0 1 1, h' ++ [⟨bytesV [c], true⟩]) := by
      simp only [aAppend, hn]
      simp [bytesV]
    rw [this]
    exact hK _ _ (hg.push _) hb
  · refine append_buf hp (hg.push _) hb hn (by omega) (by simpa [bytesV] using h0) (by simp) (by simp [bytesV, maxSize]; omega) ?_
    intro v' h'' g1 b1 _
    exact hK v' h'' g1 (by simpa [bytesV] using b1)

theorem dig_eq {r : Int} (h : I64 r) : (0 ≤ r → IntKind.u8.wrap (IntKind.i64.wrap (48 + r.tmod 10)) = ((UInt8.ofNat (48 + r.natAbs % 10)).toNat : Int)) ∧ (r < 0 → IntKind.u8.wrap (IntKind.i64.wrap (48 + (0 - r.tmod 10))) = ((UInt8.ofNat (48 + r.natAbs % 10)).toNat : Int)) := by
  unfold I64 at h
  have e : ((UInt8.ofNat (48 + r.natAbs % 10)).toNat : Int) = 48 + (r.natAbs : Int) % 10 := by
    rw [UInt8.toNat_ofNat']
    omega
  rw [e]
  constructor
  · intro h0
    rw [tmod_pos h0, wrap64 (by omega) (by omega), wrap8 (by omega) (by omega)]
    omega
  · intro h0
    have : r.tmod 10 = -((r.natAbs : Int) % 10) := by
      have e : r = -(r.natAbs : Int) := by omega
      rw [e, Int.neg_tmod, tmod_pos (by omega)]
      omega
    rw [this, wrap64 (by omega) (by omega), wrap8 (by omega) (by omega)]
    omega
theorem quo_eq {r : Int} : (r.tdiv 10).natAbs = r.natAbs / 10 := by
  rw [Int.natAbs_tdiv]; rfl

theorem dec_next {m : Nat} {l acc : List UInt8} (h : decN m ++ acc = l) (h0 : m ≠ 0) : decN (m / 10) ++ (UInt8.ofNat (48 + m % 10) :: acc) = l := by
  rw [← h, decN_pos h0]; simp
theorem c437 (n : Int) (hn : I64 n) (h : Heap) (hp : 0 < h.length) : ACall Gam 437 [I n] h fun r h' => r = S (decS n) ∧ Grows h h' := by
  have hl := decN_len64 hn
  have hn' := hn
  unfold I64 at hn'
  refine ACall_intro g437 rfl ?_
  unfold fn437
  simp (disch := omega)
  refine awp_loop (fun (r : Int) σ h' => I64 r ∧ Grows h h' ∧ σ 0 = I n ∧ σ 4 = I r ∧ ∃ acc, decN r.natAbs ++ acc = decN n.natAbs ∧ Buf h h' (σ 3) 1 (bytesV acc)) (fun r => r.natAbs) n ?_ ?_
  · exact ⟨hn, Grows.refl _, by simp, by simp, [], by simp, by simpa [bytesV] using Buf.nil⟩
  · rintro r σ h' ⟨hr, hg, p0, p4, acc, he, p3⟩
    have hla : (decN r.natAbs).length + acc.length ≤ 19 := by
      have := congrArg List.length he
      rw [List.length_append] at this; omega
    simp (disch := omega) [p4]
    refine fork_dec (fun h0 => ?_) (fun hne => ?_)
    · subst h0
      simp only [Int.natAbs_zero, decN_zero, List.nil_append] at he
      subst he
      have htb := text_buf p3
      obtain ⟨b, o, k, hk, hkn, hrd⟩ := p3.reads
      have hkn' : k = (decN n.natAbs).length := by simpa [bytesV] using hkn
      simp (disch := omega) [hk, p0]
      refine fork_dec (fun hz => ?_) (fun hz => ?_)
      · have : n = 0 := by
          false_or_by_contra
          have := decN_pos_len (n := n.natAbs) (by omega)
          omega
        subst this
        simp (disch := omega) [decS, hg]
      · have hn0 : n ≠ 0 := by
          intro e; subst e; simp [decN_zero] at hkn'; omega
        simp (disch := omega) [hk, p0]
        rw [hk] at htb
        refine fork_dec (fun hz => ?_) (fun hz => ?_)
        · simp (disch := omega) [hk, p0, htb]
          rw [if_pos (by omega)]
          simp [decS, hn0, hz, hg]
        · simp (disch := omega) [hk, p0, htb, decS, hn0, hz, hg]
    · have hr' := hr
      unfold I64 at hr'
      have hm : r.natAbs ≠ 0 := by omega
      have hnx := dec_next he hm
      have hq := quo_eq (r := r)
      obtain ⟨d1, d2⟩ := dig_eq hr
      have hdec : (r.tdiv 10).natAbs < r.natAbs := by omega
      have hi : I64 (r.tdiv 10) := by unfold I64; omega
      have hw : IntKind.i64.wrap (r.tdiv 10) = r.tdiv 10 := wrap64 (by unfold I64 at hi; omega) (by unfold I64 at hi; omega)
      simp (disch := omega) [p4]
      refine fork_dec (fun hlt => ?_) (fun hge => ?_)
      · simp (disch := omega) [p4]
        have hr0 : r < 0 := by
          false_or_by_contra
          rw [tmod_pos (by omega)] at hlt
          omega
        have ha : (r.tmod 10).natAbs = r.natAbs % 10 := Int.natAbs_tmod r 10
        refine push_front (c := UInt8.ofNat (48 + r.natAbs % 10)) hp (by omega) hg p3 (by rw [← d2 hr0, Int.zero_sub, wrap64 (n := -r.tmod 10) (by omega) (by omega)]) ?_
        intro v' h'' g1 b1
        simp (disch := omega) [p4, hw]
        exact ⟨_, ⟨hi, g1, p0, rfl, _, by rw [hq]; exact hnx, b1⟩, by omega⟩
      · simp (disch := omega) [p4]
        have ha : (r.tmod 10).natAbs = r.natAbs % 10 := Int.natAbs_tmod r 10
        have hd : 0 ≤ r ∨ r.tmod 10 = 0 := by
          by_cases h0 : 0 ≤ r
          · exact .inl h0
          · right
            have e : r = -(r.natAbs : Int) := by omega
            rw [e, Int.neg_tmod, tmod_pos (by omega)] at hge ⊢
            omega
        refine push_front (c := UInt8.ofNat (48 + r.natAbs % 10)) hp (by omega) hg p3 (by
          rcases hd with h0 | h0
          · exact d1 h0
          · by_cases h1 : 0 ≤ r
            · exact d1 h1
            · rw [← d2 (by omega), h0]; rfl) ?_
        intro v' h'' g1 b1
        simp (disch := omega) [p4, hw]
        exact ⟨_, ⟨hi, g1, p0, rfl, _, by rw [hq]; exact hnx, b1⟩, by omega⟩

theorem drop_set (l : List UInt8) (k : Nat) (c : UInt8) (hk : k < l.length) : (l.set k c).drop k = c :: l.drop (k + 1) := by
  rw [List.set_eq_take_append_cons_drop, if_pos hk, List.drop_append_of_le_length (by simp; omega), List.drop_of_length_le (by simp; omega)]
  simp
theorem bytesV_set (l : List UInt8) (k : Nat) (c : UInt8) : (bytesV l).set k (U c.toNat) = bytesV (l.set k c) := by simp [bytesV, List.map_set]
theorem c75 (n : Int) (hn : I64 n) (h : Heap) (hp : 0 < h.length) : ACall Gam 75 [I n] h fun r h' => r = S (decS n) ∧ Grows h h' := by
  have hl := decN_len64 hn
  have hn' := hn
  unfold I64 at hn'
  refine ACall_intro g75 rfl ?_
  unfold fn75
  simp (disch := omega)
  refine fork_dec (fun h0 => ?_) (fun h0 => ?_)
  · subst h0
    simp [decS, Grows.refl]
  have hst : storeAt (h ++ [⟨[U 0, U 0, U 0, U 0, U 0, U 0, U 0, U 0, U 0, U 0, U 0, U 0, U 0, U 0, U 0, U 0, U 0, U 0, U 0, U 0], true⟩]) h.length 0 [U 0, U 0, U 0, U 0, U 0, U 0, U 0, U 0, U 0, U 0, U 0, U 0, U 0, U 0, U 0, U 0, U 0, U 0, U 0, U 0] = some (h ++ [⟨bytesV (List.replicate 20 0), true⟩]) := by
    simp [storeAt, splice, bytesV]
  simp (disch := omega) [hst]
  obtain ⟨h1, e1⟩ : ∃ h1, h1 = h ++ [⟨bytesV (List.replicate 20 0), true⟩] := ⟨_, rfl⟩
  have er : (List.replicate 20 (0 : UInt8)) = [0, 0, 0, 0, 0, 0, 0, 0, 0, 0, 0, 0, 0, 0, 0, 0, 0, 0, 0, 0] := rfl
  rw [er] at e1
  rw [← e1]
  have g1 : Grows h h1 := ⟨_, e1⟩
  have k1 : h1[h.length]? = some ⟨bytesV (List.replicate 20 0), true⟩ := by rw [e1, er]; simp
  generalize hK : seqQ Gam _ (retQ _ _) = K
  have main : ∀ σ, σ 0 = I n → σ 3 = pt h.length 0 → σ 4 = I 20 → σ 5 = .int .u64 n.natAbs → K 0 σ h1 := by
    intro σ p0 p3 p4 p5
    subst hK
    simp only [seqQ_zero]
    simp (disch := omega)
    refine awp_loop (fun (r : Nat) σ h' => Grows h h' ∧ r ≤ 9223372036854775808 ∧ σ 0 = I n ∧ σ 3 = pt h.length 0 ∧ σ 5 = .int .u64 r ∧ ∃ (arr : List UInt8) (a : Nat), σ 4 = I a ∧ arr.length = 20 ∧ h'[h.length]? = some ⟨bytesV arr, true⟩ ∧ decN r ++ arr.drop a = decN n.natAbs ∧ a ≤ 20) (fun r => r) n.natAbs ?_ ?_
    · exact ⟨g1, by omega, p0, p3, p5, _, 20, p4, by simp, k1, by simp, by omega⟩
    · rintro r σ h' ⟨hg, hr, p0, p3, p5, arr, a, p4, ha, hb, he, ha20⟩
      have hla : (decN r).length + (20 - a) ≤ 19 := by
        have := congrArg List.length he
        rw [List.length_append, List.length_drop, ha] at this; omega
      simp (disch := omega) [p5]
      refine fork_dec (fun hgt => ?_) (fun hle => ?_)
      · have hm : r ≠ 0 := by omega
        have := decN_pos_len hm
        have hnx := dec_next he hm
        obtain ⟨a, rfl⟩ : ∃ a', a = a' + 1 := ⟨a - 1, by omega⟩
        have hw : IntKind.u8.wrap (IntKind.u64.wrap (48 + (r : Int) % 10)) = ((UInt8.ofNat (48 + r % 10)).toNat : Int) := by
          rw [wrapU (by omega) (by omega), wrap8 (by omega) (by omega), UInt8.toNat_ofNat']
          omega
        obtain ⟨d, hd⟩ : ∃ d : UInt8, d = UInt8.ofNat (48 + r % 10) := ⟨_, rfl⟩
        rw [← hd] at hw hnx
        have hq : IntKind.u64.wrap ((r : Int) / 10) = ((r / 10 : Nat) : Int) := by
          rw [wrapU (by omega) (by omega)]; omega
        have hs : storeAt h' h.length a [U (d.toNat : Int)] = some (h'.set h.length ⟨bytesV (arr.set a d), true⟩) := by
          rw [store_one hb (by simp [bytesV]; omega), bytesV_set]
        have ea : (a : Int) + 1 - 1 = a := by omega
        have la : (a : Int) < 20 := by omega
        simp (disch := omega) [p3, p4, p5, ea, wrap64, tmod_pos, tdiv_pos, hw, la, hs, hq]
        exact ⟨r / 10, ⟨hg.put (Nat.le_refl _) _, by omega, p0, by omega, arr.set a d, a, rfl, by simpa using ha, by simp [at_lt hb], by rw [drop_set _ _ _ (by omega)]; exact hnx, by omega⟩, by omega⟩
      · have : r = 0 := by omega
        subst this
        rw [decN_zero, List.nil_append] at he
        simp (disch := omega) [p0]
        have fin : ∀ (h' : Heap) (arr : List UInt8) (a : Nat) (σ : Nat → Value), arr.length = 20 → a < 20 → h'[h.length]? = some ⟨bytesV arr, true⟩ → arr.drop a = decS n → aSlice 1020001 h' (pt h.length 0) (some (I a)) none none = some (sl h.length a (20 - a) 1, h') ∧ aConv 21 (sl h.length a (20 - a) 1) h' = some (S (decS n), h') := by
          intro h' arr a σ l1 l2 hb he
          constructor
          · simp [aSlice, bound, arrOk, hb, bytesV, l1, l2, show h.length ≠ 0 by omega]
          · have hc : cellsAt h' h.length a (20 - a) = some (bytesV (decS n)) := by
              rw [cellsAt_of hb (by simp [bytesV]; omega), ← he]
              simp [bytesV, List.map_drop, List.take_of_length_le, l1]
            simp [aConv, hc, asInts_bytes, show ¬ 20 - a = 0 by omega]
        have hdl := decN_pos_len (n := n.natAbs) (by omega)
        refine fork_dec (fun hneg => ?_) (fun hpos => ?_)
        · obtain ⟨a, rfl⟩ : ∃ a', a = a' + 1 := ⟨a - 1, by omega⟩
          have hs : storeAt h' h.length a [U 45] = some (h'.set h.length ⟨bytesV (arr.set a 45), true⟩) := by
            rw [← bytesV_set, ← store_one hb (by simp [bytesV]; omega)]; rfl
          have ea : (a : Int) + 1 - 1 = a := by omega
          have la : a < 20 := by
            have := congrArg List.length he
            rw [List.length_drop, ha] at this; omega
          obtain ⟨f1, f2⟩ := fin (h'.set h.length ⟨bytesV (arr.set a 45), true⟩) (arr.set a 45) a σ (by simpa using ha) la (by simp [at_lt hb]) (by rw [drop_set _ _ _ (by omega), he]; simp [decS, h0, hneg])
          have la' : (a : Int) < 20 := by omega
          simp (disch := omega) [p0, p3, p4, ea, wrap64, la', hs, f1, f2]
          exact hg.put (Nat.le_refl _) _
        · have la : a < 20 := by
            have := congrArg List.length he
            rw [List.length_drop, ha] at this; omega
          obtain ⟨f1, f2⟩ := fin h' arr a σ ha la hb (by rw [he]; simp [decS, h0, hpos])
          simp (disch := omega) [p0, p3, p4, f1, f2]
          exact hg
  refine fork_dec (fun hneg => ?_) (fun hpos => ?_)
  · simp (disch := omega)
    refine main _ (by simp) (by simp) (by simp) ?_
    rw [← Int.zero_sub, wrapU_sub (by omega) (by omega)]
    have : ((n.natAbs : Nat) : Int) = -n := by omega
    simp [this]
  · simp (disch := omega)
    refine main _ (by simp) (by simp) (by simp) ?_
    rw [wrapU (by omega) (by omega)]
    have : ((n.natAbs : Nat) : Int) = n := by omega
    simp [this]
end Am
