/- Contracts: AmJ8, AmE1, AmW1, AmW2, AmW3, AmW4, AmW5, AmJ9, AmJ10, AmJ11, AmJ12, AmJ13, AmJ14, AmJ15, AmS1, AmS2, AmS3, AmS4, AmS5, AmS6, AmY1. -/
import Derived.Test.YtbljglfnbjbknaaGreatAmK2
import Derived.Test.YtbljglfnbjbknaaGreatAmK1
set_option linter.unusedVariables false
set_option linter.unusedSimpArgs false
set_option maxHeartbeats 4000000
set_option maxRecDepth 40000
namespace Am
open Go
theorem slice_text {h : Heap} {s : List UInt8} {a b : Nat} (h1 : a ≤ b) (h2 : b ≤ s.length) : aSlice 0 h (S s) (some (I a)) (some (I b)) none = some (S ((s.take b).drop a), h) := by
 simp [aSlice, bound, ByteArray.size]
 omega
theorem slice_from {h : Heap} {s : List UInt8} {a : Nat} (h1 : a ≤ s.length) : aSlice 0 h (S s) (some (I a)) none none = some (S (s.drop a), h) := by
 simp [aSlice, bound, ByteArray.size, h1]
def splitG (b : UInt8) (cur : List UInt8) : List UInt8 → List (List UInt8)
 | [] => [cur]
 | c :: r => if c = b then cur :: splitG b [] r else splitG b (cur ++ [c]) r
def splitS (b : UInt8) (s : List UInt8) : List (List UInt8) := splitG b [] s
theorem splitG_len (b : UInt8) : ∀ (s cur : List UInt8), 1 ≤ (splitG b cur s).length ∧ (splitG b cur s).length ≤ s.length + 1
 | [], cur => by simp [splitG]
 | c :: r, cur => by
  simp only [splitG]
  split
  ·have := splitG_len b r []
   simp; omega
  ·have := splitG_len b r (cur ++ [c])
   simp; omega
theorem splitG_sum (b : UInt8) : ∀ (s cur : List UInt8), ∀ w ∈ splitG b cur s, w.length ≤ cur.length + s.length
 | [], cur, w, hw => by simp [splitG] at hw; subst hw; simp
 | c :: r, cur, w, hw => by
  simp only [splitG] at hw
  split at hw
  ·rcases List.mem_cons.1 hw with rfl | hw
   ·simp
   ·have := splitG_sum b r [] w hw
    simp at this ⊢; omega
  ·have := splitG_sum b r (cur ++ [c]) w hw
   simp at this ⊢; omega
theorem u8_eq {a b : UInt8} : ((a.toNat : Int) = (b.toNat : Int)) ↔ a = b := by
 constructor
 ·intro h; exact UInt8.toNat_inj.1 (by omega)
 ·rintro rfl; rfl
theorem take_drop_snoc {α : Type} {s : List α} {f i : Nat} (h1 : f ≤ i) (h2 : i < s.length) : (s.take (i + 1)).drop f = (s.take i).drop f ++ [s[i]] := by
 rw [List.take_succ_eq_append_getElem h2, List.drop_append_of_le_length (by simp; omega)]
theorem split_ok {f : Nat} (hf : f = 189 ∨ f = 441) (s : List UInt8) (b : UInt8) (hs : s.length ≤ 1048576) (h : Heap) (hp : 0 < h.length) : ACall Gam f [S s, U b.toNat] h fun r h' => Grows h h' ∧ Buf h h' r 1 (texts (splitS b s)) := by
 rcases hf with rfl | rfl
 ·refine ACall_intro g189 rfl ?_
  unfold fn189
  simp (disch := omega)
  refine awp_loop (fun (i : Nat) σ h' => i ≤ s.length ∧ Grows h h' ∧ σ 0 = S s ∧ σ 1 = U b.toNat ∧ σ 10 = I s.length ∧ σ 11 = I i ∧ ∃ (from_ : Nat) (done : List (List UInt8)), from_ ≤ i ∧ done.length ≤ i ∧ σ 6 = I from_ ∧ Buf h h' (σ 5) 1 (texts done) ∧ done ++ splitG b ((s.take i).drop from_) (s.drop i) = splitS b s) (fun i => s.length - i) 0 ?_ ?_
  ·exact ⟨by omega, Grows.refl _, by simp, by simp, by simp, by simp, 0, [], by omega, by simp, by simp, by simp; exact Buf.nil, by simp [splitS]⟩
  rintro i σ h' ⟨hi, hg, q0, q1, q10, q11, fr, done, hfi, hdl, q6, hB, hd⟩
  simp (disch := omega) [q10, q11]
  refine fork_dec (fun hlt => ?_) (fun hge => ?_)
  ·have i1 : i < s.length := by omega
   rw [List.drop_eq_getElem_cons i1] at hd
   simp only [splitG] at hd
   simp (disch := omega) [q0, q1, q11, i1]
   refine fork_dec (fun he => ?_) (fun he => ?_)
   ·rw [u8_eq] at he
    rw [if_pos he] at hd
    have hsl := slice_text (h := h') hfi (show i ≤ s.length by omega)
    simp (disch := omega) [q0, q6, hsl]
    refine append_word hp (by omega) hg hB fun v' h'' g1 b1 => ?_
    simp (disch := omega) [q0, q1, q10, q11, wrap64]
    refine ⟨i + 1, ⟨by omega, g1, by omega, i + 1, by omega, done ++ [(s.take i).drop fr], by simpa using hdl, by omega, b1, ?_⟩, by omega⟩
    ·have : (s.take (i + 1)).drop (i + 1) = [] := List.drop_eq_nil_of_le (by simp; omega)
     rw [this]
     simpa using hd
   ·rw [u8_eq] at he
    rw [if_neg he] at hd
    simp (disch := omega) [q0, q1, q10, q11, wrap64]
    refine ⟨i + 1, ⟨by omega, hg, by omega, fr, by omega, done, by omega, q6, hB, ?_⟩, by omega⟩
    ·rw [take_drop_snoc hfi i1]; exact hd
  ·have hin : i = s.length := by omega
   subst hin
   rw [List.drop_length, List.take_length] at hd
   simp only [splitG] at hd
   have hsl := slice_from (h := h') hfi
   simp (disch := omega) [q0, q6, hsl]
   refine append_word hp (by omega) hg hB fun v' h'' g1 b1 => ?_
   rw [hd] at b1
   obtain ⟨rb, rn, ry, e⟩ : ∃ b n y, v' = sl b 0 n y := by
    rcases b1 with ⟨_, e⟩ | ⟨b, n, e, _⟩
    ·exact ⟨0, 0, 1, e⟩
    ·exact ⟨b, n, 1, e⟩
   subst e
   try simp (disch := omega)
   exact ⟨g1, b1⟩
 ·refine ACall_intro g441 rfl ?_
  unfold fn441
  simp (disch := omega)
  refine awp_loop (fun (i : Nat) σ h' => i ≤ s.length ∧ Grows h h' ∧ σ 0 = S s ∧ σ 1 = U b.toNat ∧ σ 7 = I i ∧ ∃ (from_ : Nat) (done : List (List UInt8)), from_ ≤ i ∧ done.length ≤ i ∧ σ 6 = I from_ ∧ Buf h h' (σ 5) 1 (texts done) ∧ done ++ splitG b ((s.take i).drop from_) (s.drop i) = splitS b s) (fun i => s.length - i) 0 ?_ ?_
  ·exact ⟨by omega, Grows.refl _, by simp, by simp, by simp, 0, [], by omega, by simp, by simp, by simp; exact Buf.nil, by simp [splitS]⟩
  rintro i σ h' ⟨hi, hg, q0, q1, q7, fr, done, hfi, hdl, q6, hB, hd⟩
  simp (disch := omega) [q0, q7]
  refine fork_dec (fun hlt => ?_) (fun hge => ?_)
  ·have i1 : i < s.length := by omega
   rw [List.drop_eq_getElem_cons i1] at hd
   simp only [splitG] at hd
   simp (disch := omega) [q0, q1, q7, i1]
   refine fork_dec (fun he => ?_) (fun he => ?_)
   ·rw [u8_eq] at he
    rw [if_pos he] at hd
    have hsl := slice_text (h := h') hfi (show i ≤ s.length by omega)
    simp (disch := omega) [q0, q6, q7, hsl]
    refine append_word hp (by omega) hg hB fun v' h'' g1 b1 => ?_
    simp (disch := omega) [q0, q1, q7, wrap64]
    refine ⟨i + 1, ⟨by omega, g1, by omega, i + 1, by omega, done ++ [(s.take i).drop fr], by simpa using hdl, by omega, b1, ?_⟩, by omega⟩
    ·have : (s.take (i + 1)).drop (i + 1) = [] := List.drop_eq_nil_of_le (by simp; omega)
     rw [this]
     simpa using hd
   ·rw [u8_eq] at he
    rw [if_neg he] at hd
    simp (disch := omega) [q0, q1, q7, wrap64]
    refine ⟨i + 1, ⟨by omega, hg, by omega, fr, by omega, done, by omega, q6, hB, ?_⟩, by omega⟩
    ·rw [take_drop_snoc hfi i1]; exact hd
  ·have hin : i = s.length := by omega
   subst hin
   rw [List.drop_length, List.take_length] at hd
   simp only [splitG] at hd
   have hsl := slice_from (h := h') hfi
   simp (disch := omega) [q0, q6, hsl]
   refine append_word hp (by omega) hg hB fun v' h'' g1 b1 => ?_
   rw [hd] at b1
   obtain ⟨rb, rn, ry, e⟩ : ∃ b n y, v' = sl b 0 n y := by
    rcases b1 with ⟨_, e⟩ | ⟨b, n, e, _⟩
    ·exact ⟨0, 0, 1, e⟩
    ·exact ⟨b, n, 1, e⟩
   subst e
   try simp (disch := omega)
   exact ⟨g1, b1⟩
def kindB (c : UInt8) : Int := if c = 43 then 0 else if c = 124 then 1 else if c = 45 then 2 else -1
theorem kindB_rng (c : UInt8) : -1 ≤ kindB c ∧ kindB c ≤ 2 := by unfold kindB; split <;> (try split) <;> (try split) <;> omega
theorem c467 (c : UInt8) (h : Heap) : ACall Gam 467 [U c.toNat] h fun r h' => r = I (kindB c) ∧ h' = h := by
 have e1 : (c.toNat : Int) = 43 ↔ c = 43 := u8_eq (b := 43)
 have e2 : (c.toNat : Int) = 124 ↔ c = 124 := u8_eq (b := 124)
 have e3 : (c.toNat : Int) = 45 ↔ c = 45 := u8_eq (b := 45)
 refine ACall_intro g467 rfl ?_
 unfold fn467
 simp (disch := omega) [e1]
 refine fork_dec (fun h1 => ?_) (fun h1 => ?_)
 ·simp [kindB, h1]
 simp (disch := omega) [e2]
 refine fork_dec (fun h2 => ?_) (fun h2 => ?_)
 ·simp [kindB, h2]
 simp (disch := omega) [e3]
 refine fork_dec (fun h3 => ?_) (fun h3 => ?_)
 ·simp [kindB, h3]
 simp [kindB, h1, h2, h3]
def dgs (s : List UInt8) : List UInt8 := if s.head? = some 45 then s.drop 1 else s
def isDig (c : UInt8) : Bool := decide ((48 : Int) ≤ c.toNat) && decide ((c.toNat : Int) ≤ 57)
def valN (l : List UInt8) : Nat := l.foldl (fun n c => 10 * n + (c.toNat - 48)) 0
def rdV (s : List UInt8) : Int := if (dgs s).length < s.length then -(valN (dgs s) : Int) else valN (dgs s)
def rdOk (s : List UInt8) : Bool := decide (1 ≤ (dgs s).length) && (decide ((dgs s).length ≤ 18) && ((dgs s).all isDig && decide (decS (rdV s) = s)))
def rdDec (s : List UInt8) : Int × Bool := if rdOk s then (rdV s, true) else (0, false)
theorem valN_snoc (l : List UInt8) (c : UInt8) : valN (l ++ [c]) = 10 * valN l + (c.toNat - 48) := by simp [valN]
theorem valN_take {l : List UInt8} {k : Nat} (hk : k < l.length) : valN (l.take (k + 1)) = 10 * valN (l.take k) + (l[k].toNat - 48) := by
 rw [List.take_succ_eq_append_getElem hk, valN_snoc]
theorem valN_lt {l : List UInt8} (k : Nat) (hk : k ≤ l.length) (ha : (l.take k).all isDig = true) : valN (l.take k) + 1 ≤ 10 ^ k := by
 induction k with
 | zero => simp [valN]
 | succ k ih =>
  have k1 : k < l.length := by omega
  rw [List.take_succ_eq_append_getElem k1, List.all_append, Bool.and_eq_true] at ha
  have := ih (by omega) ha.1
  rw [valN_take k1, Nat.pow_succ]
  have h2 := ha.2
  simp [isDig] at h2
  omega
theorem valN_bd {l : List UInt8} {k : Nat} (hk : k ≤ l.length) (hl : l.length ≤ 18) (ha : (l.take k).all isDig = true) : valN (l.take k) ≤ 999999999999999999 := by
 have h1 := valN_lt k hk ha
 have h2 : 10 ^ k ≤ 10 ^ 18 := Nat.pow_le_pow_right (by omega) (by omega)
 have h3 : (10 : Nat) ^ 18 = 1000000000000000000 := by decide
 omega
theorem valN_bd' {l : List UInt8} {k : Nat} (hk : k < l.length) (hl : l.length ≤ 18) (ha : (l.take k).all isDig = true) : valN (l.take k) ≤ 99999999999999999 := by
 have h1 := valN_lt k (by omega) ha
 have h2 : 10 ^ k ≤ 10 ^ 17 := Nat.pow_le_pow_right (by omega) (by omega)
 have h3 : (10 : Nat) ^ 17 = 100000000000000000 := by decide
 omega
theorem dgs_len (s : List UInt8) : (dgs s).length ≤ s.length ∧ s.length ≤ (dgs s).length + 1 := by
 unfold dgs
 split
 ·simp; omega
 ·omega
theorem rdDec_64 (s : List UInt8) : I64 (rdDec s).1 := by
 unfold rdDec
 split
 ·rename_i h
  simp only [rdOk, Bool.and_eq_true, decide_eq_true_eq] at h
  have := valN_bd (l := dgs s) (k := (dgs s).length) (Nat.le_refl _) h.2.1 (by rw [List.take_length]; exact h.2.2.1)
  rw [List.take_length] at this
  simp only [rdV]
  unfold I64
  split <;> omega
 ·unfold I64; omega
theorem all_take_dig {l : List UInt8} {k : Nat} (hk : k < l.length) (h : (l.take k).all isDig = true) (h1 : isDig l[k] = true) : (l.take (k + 1)).all isDig = true := by
 rw [List.take_succ_eq_append_getElem hk, List.all_append]; simp [h, h1]
theorem all_dig_not {l : List UInt8} {k : Nat} (hk : k < l.length) (h1 : isDig l[k] = false) : l.all isDig = false := by
 rw [List.all_eq_false]
 exact ⟨l[k], List.getElem_mem hk, by simp [h1]⟩
theorem dgs_first {s : List UInt8} : (∃ h : 0 < s.length, s[0] = 45) ∧ dgs s = s.drop 1 ∨ (∀ h : 0 < s.length, s[0] ≠ 45) ∧ dgs s = s := by
 cases s with
 | nil => right; exact ⟨by simp, rfl⟩
 | cons c r =>
  by_cases h : c = 45
  ·left; subst h; exact ⟨⟨by simp, rfl⟩, rfl⟩
  ·right; exact ⟨fun _ => h, by simp [dgs, h]⟩
theorem c438 (c : UInt8) (h : Heap) : ACall Gam 438 [U c.toNat] h fun r h' => r = B (isDig c) ∧ h' = h := by
 refine ACall_intro g438 rfl ?_
 unfold fn438
 simp (disch := omega)
 refine fork_dec (fun h1 => ?_) (fun h1 => ?_)
 ·simp (disch := omega) [isDig, h1]
 ·simp (disch := omega) [isDig, h1]
theorem c439 (s : List UInt8) (hs : s.length ≤ 1048576) (h : Heap) (hp : 0 < h.length) : ACall Gam 439 [S s] h fun r h' => Grows h h' ∧ r = .tuple #[I (rdDec s).1, B (rdDec s).2] := by
 have hd := dgs_len s
 refine ACall_intro g439 rfl ?_
 unfold fn439
 rw [awp_seq, awp_reg]
 generalize hK : seqQ Gam _ _ 0 = K
 simp (disch := omega)
 subst hK
 simp only [seqQ_zero]
 rw [awp_seq, awp_reg]
 generalize hK : seqQ Gam _ _ 0 = K
 simp (disch := omega)
 subst hK
 simp only [seqQ_zero]
 rw [awp_seq]
 generalize hK : seqQ Gam _ _ = K
 have key : ∀ σ, σ 0 = S s → σ 4 = S (dgs s) → σ 2 = I 0 → σ 3 = B false → K 0 σ h := by
  intro σ q0 q4 q2 q3
  subst hK
  simp only [seqQ_zero]
  rw [awp_seq]
  generalize hK : seqQ Gam _ _ = K
  simp (disch := omega) [q0, q4]
  refine fork_dec (fun h1 => ?_) (fun h1 => ?_)
  ·have e : rdDec s = (0, false) := by
    have : ¬ 1 ≤ (dgs s).length := by omega
    simp [rdDec, rdOk, this]
   subst hK
   rw [e]
   simp (disch := omega) [h1]
   exact Grows.refl _
  simp (disch := omega) [h1, q0, q4]
  refine fork_dec (fun h2 => ?_) (fun h2 => ?_)
  ·have e : rdDec s = (0, false) := by
    have : ¬ (dgs s).length ≤ 18 := by omega
    simp [rdDec, rdOk, this]
   subst hK
   rw [e]
   simp (disch := omega)
   exact Grows.refl _
  simp (disch := omega)
  subst hK
  simp only [seqQ_zero]
  rw [awp_seq, awp_reg]
  generalize hK : seqQ Gam _ _ 0 = K
  simp (disch := omega)
  subst hK
  simp only [seqQ_zero]
  rw [awp_seq]
  generalize hK : seqQ Gam _ _ = K
  simp (disch := omega) [q4]
  obtain ⟨d, hdd⟩ : ∃ d, d = dgs s := ⟨_, rfl⟩
  rw [← hdd] at hd q4 h1 h2 ⊢
  refine awp_loop (fun (k : Nat) σ' h' => k ≤ d.length ∧ h' = h ∧ σ' 0 = S s ∧ σ' 4 = S d ∧ σ' 2 = I 0 ∧ σ' 3 = B false ∧ σ' 5 = I (valN (d.take k)) ∧ σ' 6 = I k ∧ (d.take k).all isDig = true) (fun k => d.length - k) 0 ?_ ?_
  ·exact ⟨by omega, rfl, by simp [q0], by simp [q4], by simp [q2], by simp [q3], by simp [valN], by simp, by simp⟩
  rintro k σ' h' ⟨hk, rfl, p0, p4, p2, p3, p5, p6, hall⟩
  simp (disch := omega) [p4, p6]
  refine fork_dec (fun hlt => ?_) (fun hge => ?_)
  ·have k1 : k < d.length := by omega
   have hv := valN_bd' k1 (by omega) hall
   simp (disch := omega) [p0, p2, p3, p4, p5, p6, k1]
   refine callW_of (c438 d[k] _) ?_
   rintro _ h1 ⟨rfl, rfl⟩
   cases hd1 : isDig d[k]
   ·have e : rdDec s = (0, false) := by simp [rdDec, rdOk, ← hdd, all_dig_not k1 hd1]
    subst hK
    rw [e]
    simp (disch := omega)
    exact Grows.refl _
   have hdg := hd1
   simp [isDig] at hdg
   simp (disch := omega) [p0, p2, p3, p4, p5, p6, k1, wrap64, wrap8]
   refine ⟨k + 1, ⟨by omega, ?_, by omega, List.all_eq_true.1 (all_take_dig k1 hall hd1)⟩, by omega⟩
   rw [valN_take k1]; omega
  ·have hkn : k = d.length := by omega
   subst hkn
   have hv := valN_bd (by omega) (by omega) hall
   rw [List.take_length] at hall hv p5
   simp (disch := omega)
   subst hK
   simp only [seqQ_zero]
   rw [awp_seq]
   generalize hK : seqQ Gam _ _ = K
   have key2 : ∀ σ, σ 0 = S s → σ 5 = I (rdV s) → σ 2 = I 0 → σ 3 = B false → K 0 σ h' := by
    intro σ r0 r5 r2 r3
    have hb : I64 (rdV s) := by
     unfold rdV I64
     rw [← hdd]
     split <;> omega
    subst hK
    simp only [seqQ_zero]
    simp (disch := omega) [r0, r5]
    refine callW_of (c437 (rdV s) hb _ hp) ?_
    rintro _ h2 ⟨rfl, g2⟩
    simp (disch := omega) [r0]
    refine fork_dec (fun he => ?_) (fun he => ?_)
    ·have e : rdDec s = (rdV s, true) := by
      simp [rdDec, rdOk, ← hdd, hall, he]
      omega
     rw [e]
     simp (disch := omega) [r5]
     exact g2
    ·have e : rdDec s = (0, false) := by simp [rdDec, rdOk, he]
     rw [e]
     simp (disch := omega)
     exact g2
   simp (disch := omega) [p0, p4]
   refine fork_dec (fun hlt => ?_) (fun hlt => ?_)
   ·have e : rdV s = -(valN d : Int) := by unfold rdV; rw [← hdd, if_pos (by omega)]
    simp (disch := omega) [p5, wrap64]
    exact key2 _ (by simp [p0]) (by simp [e]) (by simp [p2]) (by simp [p3])
   ·have e : rdV s = (valN d : Int) := by unfold rdV; rw [← hdd, if_neg (by omega)]
    simp (disch := omega)
    exact key2 _ (by simp [p0]) (by simp [p5, e]) (by simp [p2]) (by simp [p3])
 rcases dgs_first (s := s) with ⟨⟨hpos, h45⟩, e⟩ | ⟨hno, e⟩
 ·have hsl := slice_from (h := h) (s := s) (a := 1) (by omega)
  have e45 : (s[0].toNat : Int) = 45 := by rw [h45]; rfl
  have hne0 : ¬ s = [] := by intro x; rw [x] at hpos; simp at hpos
  simp (disch := omega) [hpos, e45, hne0]
  rw [show ((1 : Nat) : Int) = 1 from rfl] at hsl
  simp (disch := omega) [hsl]
  exact key _ (by simp) (by simp [e]) (by simp) (by simp)
 ·by_cases hpos : 0 < s.length
  ·have hne : ¬ (s[0].toNat : Int) = 45 := fun x => hno hpos (u8_eq (b := 45) |>.1 x)
   have hne0 : ¬ s = [] := by intro x; rw [x] at hpos; simp at hpos
   simp (disch := omega) [hpos, hne, hne0]
   exact key _ (by simp) (by simp [e]) (by simp) (by simp)
  ·have hs0 : s = [] := List.length_eq_zero_iff.1 (by omega)
   simp (disch := omega) [hs0]
   have e2 : dgs s = [] := by rw [e, hs0]
   exact key _ (by simp [hs0]) (by simp [e2]) (by simp) (by simp)
def at8 (s : List UInt8) (i : Nat) : UInt8 := s.getD i 0
theorem at8_eq {s : List UInt8} {i : Nat} (h : i < s.length) : s[i] = at8 s i := by simp [at8, h]
theorem at8_of {s : List UInt8} {i : Nat} (h : i < s.length) : s[i]? = some (at8 s i) := by simp [at8, h]
theorem kindB_64 (c : UInt8) : I64 (kindB c) := by have := kindB_rng c; unfold I64; omega
@[simp high] theorem add_str {n : Nat} {a b : List UInt8} (h : a.length + b.length ≤ 4611686018427387904) : aBin .add n (S a) (S b) = some (S (a ++ b)) := by
 simp [h]
theorem okP_set {W H : Int} {br : List Int} {k : Nat} {v : Int} (h : okP (W, H, br) = true) (hv : 0 ≤ v ∧ v ≤ 2) : okP (W, H, br.set k v) = true := by
 rw [okP_iff] at h ⊢
 refine ⟨h.w, h.h, by simpa using h.n, fun x hx => ?_⟩
 rcases List.mem_or_eq_of_mem_set hx with hx | rfl
 ·exact h.b x hx
 ·exact hv
/-- A source in a box of our own: its code lies behind it, and it has given at most m bytes. -/
def Src (h : Heap) (b m : Nat) : Prop := ∃ (cb co n z a : Nat) (s : Int), h[b]? = some ⟨[sl cb co n z, I a, .int .u64 s], true⟩ ∧ a ≤ m ∧ 0 ≤ s ∧ s < 18446744073709551616 ∧ (n = 0 ∨ cb < b) ∧ n ≤ 9223372036854775807 ∧ ∀ i, i < n → ∃ x : Nat, cell h cb (co + i) = some (.int .u8 x) ∧ x < 256
theorem Src.mono {h : Heap} {b m m' : Nat} (x : Src h b m) (hm : m ≤ m') : Src h b m' := by
 obtain ⟨cb, co, n, z, a, s, h1, h2, h3⟩ := x
 exact ⟨cb, co, n, z, a, s, h1, by omega, h3⟩
theorem Src.mod {h h' : Heap} {b m lo hi : Nat} (x : Src h b m) (md : Mod lo hi h h') (hb : b < lo) : Src h' b m := by
 obtain ⟨cb, co, n, z, a, s, h1, h2, h3, h4, h5, h6, h7⟩ := x
 have hl := at_lt h1
 refine ⟨cb, co, n, z, a, s, by rw [md.2 b hl (.inl hb)]; exact h1, h2, h3, h4, h5, h6, fun i hi => ?_⟩
 obtain ⟨x, e1, e2⟩ := h7 i hi
 exact ⟨x, by unfold cell at e1 ⊢; rw [md.2 cb (by omega) (.inl (by omega))]; exact e1, e2⟩
theorem Src.grow {h h' : Heap} {b m : Nat} (x : Src h b m) (g : Grows h h') : Src h' b m := by
 obtain ⟨cb, co, n, z, a, s, h1, h2, h3, h4, h5, h6, h7⟩ := x
 have hl := at_lt h1
 refine ⟨cb, co, n, z, a, s, by rw [g.look hl]; exact h1, h2, h3, h4, h5, h6, fun i hi => ?_⟩
 obtain ⟨x, e1, e2⟩ := h7 i hi
 exact ⟨x, g.cell e1, e2⟩
theorem wrap_u64 (n : Int) : 0 ≤ IntKind.u64.wrap n ∧ IntKind.u64.wrap n < 18446744073709551616 := by
 simp only [IntKind.wrap, IntKind.signed, IntKind.bits]
 have h1 := Int.emod_nonneg n (show (2 ^ 64 : Int) ≠ 0 by decide)
 have h2 := Int.emod_lt_of_pos n (show (0 : Int) < 2 ^ 64 by decide)
 simp at *
 omega
theorem wrapUs {n : Int} (h1 : 0 ≤ n) (h2 : n < 18446744073709551616) : IntKind.u64.wrap n = n := wrap_unsigned (M := 18446744073709551616) rfl (by decide) h1 h2
theorem and_255 (a : Int) : ∃ x : Nat, bitsOp .u64 (· &&& ·) a 255 = .int .u64 x ∧ x < 256 := by
 obtain ⟨x, hx⟩ : ∃ x : Nat, x = (BitVec.ofInt 64 a &&& BitVec.ofInt 64 255).toNat := ⟨_, rfl⟩
 have hb : x < 256 := by
  rw [hx, BitVec.toNat_and]
  have : (BitVec.ofInt 64 255).toNat = 255 := by decide
  rw [this]
  have := @Nat.and_le_right (BitVec.ofInt 64 a).toNat 255
  omega
 refine ⟨x, ?_, hb⟩
 show Value.int .u64 (IntKind.u64.wrap ((BitVec.ofInt 64 a &&& BitVec.ofInt 64 255).toNat : Int)) = _
 rw [← hx, wrapUs (by omega) (by omega)]
theorem c5 (h : Heap) (b m : Nat) (hs : Src h b m) (hm : m ≤ 1099511627776) : ACall Gam 5 [pt b 0] h fun r h' => ∃ x : Nat, r = I x ∧ x < 256 ∧ Mod b (b + 1) h h' ∧ h'.length = h.length ∧ Src h' b (m + 1) := by
 obtain ⟨cb, co, n, z, a, s, h1, h2, h3, h4, h5, h6, h7⟩ := hs
 have hl := at_lt h1
 have k0 : cell h b 0 = some (sl cb co n z) := by simp [cell, h1]
 have k1 : cell h b 1 = some (I a) := by simp [cell, h1]
 have k2 : cell h b 2 = some (.int .u64 s) := by simp [cell, h1]
 refine ACall_intro g5 rfl ?_
 unfold fn5
 rw [awp_seq, awp_reg]
 generalize hK : seqQ Gam _ _ 0 = K
 simp (disch := omega)
 subst hK
 simp only [seqQ_zero]
 rw [awp_seq, awp_reg]
 generalize hK : seqQ Gam _ _ 0 = K
 simp (disch := omega)
 subst hK
 simp only [seqQ_zero]
 rw [awp_seq]
 generalize hK : seqQ Gam _ _ = K
 have step : ∀ (σ : Nat → Value) (x : Nat), x < 256 → σ 0 = pt b 0 → σ 3 = I x → K 0 σ h := by
  intro σ x hx q0 q3
  subst hK
  simp only [seqQ_zero]
  rw [awp_seq, awp_reg]
  generalize hK : seqQ Gam _ _ 0 = K
  have s1 := store_one (v := I ((a : Int) + 1)) (o := 1) h1 (by simp)
  obtain ⟨h', eh⟩ : ∃ h', h' = h.set b ⟨[sl cb co n z, I ((a : Int) + 1), .int .u64 s], true⟩ := ⟨_, rfl⟩
  simp only [List.set_cons_succ, List.set_cons_zero, ← eh] at s1
  simp (disch := omega) [q0, k1, s1, wrap64]
  subst hK
  simp only [seqQ_zero]
  have hb' : h'[b]? = some ⟨[sl cb co n z, I ((a : Int) + 1), .int .u64 s], true⟩ := by rw [eh]; simp [hl]
  have k0 : cell h' b 0 = some (sl cb co n z) := by simp [cell, hb']
  have k1 : cell h' b 1 = some (I ((a : Int) + 1)) := by simp [cell, hb']
  have k2 : cell h' b 2 = some (.int .u64 s) := by simp [cell, hb']
  rw [awp_seq, awp_reg]
  generalize hK : seqQ Gam _ _ 0 = K
  simp (disch := omega) [q0, q3, k2]
  obtain ⟨t, ht⟩ : ∃ t, t = IntKind.u64.wrap (IntKind.u64.wrap (IntKind.u64.wrap (s * 6364136223846793005) + IntKind.u64.wrap ↑x) + 1442695040888963407) := ⟨_, rfl⟩
  have tb := wrap_u64 (IntKind.u64.wrap (IntKind.u64.wrap (s * 6364136223846793005) + IntKind.u64.wrap ↑x) + 1442695040888963407)
  rw [← ht] at tb ⊢
  have s2 := store_one (v := .int .u64 t) (o := 2) hb' (by simp)
  obtain ⟨h2', eh2⟩ : ∃ h2', h2' = h'.set b ⟨[sl cb co n z, I ((a : Int) + 1), .int .u64 t], true⟩ := ⟨_, rfl⟩
  simp only [List.set_cons_succ, List.set_cons_zero, ← eh2] at s2
  rw [s2]
  have hb2 : h2'[b]? = some ⟨[sl cb co n z, I ((a : Int) + 1), .int .u64 t], true⟩ := by rw [eh2]; simp [at_lt hb']
  have k0 : cell h2' b 0 = some (sl cb co n z) := by simp [cell, hb2]
  have k1 : cell h2' b 1 = some (I ((a : Int) + 1)) := by simp [cell, hb2]
  have k2 : cell h2' b 2 = some (.int .u64 t) := by simp [cell, hb2]
  have hl2 : h2'.length = h.length := by rw [eh2, eh]; simp
  have ho : ∀ c, c ≠ b → h2'[c]? = h[c]? := fun c hc => by rw [eh2, set_other hc, eh, set_other hc]
  have md : Mod b (b + 1) h h2' := ⟨by omega, fun c hc hn => ho c (by omega)⟩
  have src : Src h2' b (m + 1) := ⟨cb, co, n, z, a + 1, t, by rw [hb2]; rfl, by omega, tb.1, tb.2, h5, h6, fun i hi => by
   obtain ⟨x, e1, e2⟩ := h7 i hi
   exact ⟨x, by unfold cell at e1 ⊢; rw [ho cb (by omega)]; exact e1, e2⟩⟩
  simp (disch := omega)
  subst hK
  simp only [seqQ_zero]
  rw [awp_seq]
  generalize hK : seqQ Gam _ _ = K
  simp (disch := omega) [q0, k0, k1]
  refine fork_dec (fun h3 => ?_) (fun h3 => ?_)
  ·subst hK
   simp (disch := omega) [q3]
   exact ⟨x, rfl, hx, md, hl2, src⟩
  ·simp (disch := omega)
   subst hK
   simp only [seqQ_zero]
   obtain ⟨y, ey, hy⟩ := and_255 (t.fdiv (2 ^ min 40 IntKind.u64.bits))
   simp (disch := omega) [q0, k2, ey, wrap64]
   exact ⟨y, rfl, hy, md, hl2, src⟩
 simp (disch := omega) [k0, k1]
 refine fork_dec (fun h3 => ?_) (fun h3 => ?_)
 ·obtain ⟨x, e1, e2⟩ := h7 a (by omega)
  simp (disch := omega) [k0, k1, e1, h3, wrap64]
  exact step _ x e2 (by simp) (by simp)
 ·simp (disch := omega)
  exact step _ 0 (by omega) (by simp) (by simp)
/-- What a draw leaves: a number from 0 to n - 1. -/
theorem c7 (h : Heap) (b m : Nat) (n : Int) (hs : Src h b m) (hm : m ≤ 1000000000) (hn : I64 n) : ACall Gam 7 [pt b 0, I n] h fun r h' => ∃ x : Nat, r = I x ∧ (n ≤ 1 → x = 0) ∧ (1 < n → (x : Int) < n) ∧ Mod b (b + 1) h h' ∧ h'.length = h.length ∧ Src h' b (m + 2) := by
 refine ACall_intro g7 rfl ?_
 unfold fn7
 rw [awp_seq, awp_reg]
 generalize hK : seqQ Gam _ _ 0 = K
 simp (disch := omega)
 subst hK
 simp only [seqQ_zero]
 rw [awp_seq]
 generalize hK : seqQ Gam _ _ = K
 simp (disch := omega)
 refine fork_dec (fun h1 => ?_) (fun h1 => ?_)
 ·subst hK
  simp (disch := omega)
  exact ⟨0, rfl, fun _ => rfl, fun h => by omega, Mod.refl _ _ _, hs.mono (by omega)⟩
 simp (disch := omega)
 subst hK
 simp only [seqQ_zero]
 rw [awp_seq, awp_reg]
 generalize hK : seqQ Gam _ _ 0 = K
 simp (disch := omega)
 refine callW_of (c5 h b m hs (by omega)) ?_
 rintro _ h2 ⟨x, rfl, hx, md, hl, hs2⟩
 simp (disch := omega)
 subst hK
 simp only [seqQ_zero]
 rw [awp_seq]
 generalize hK : seqQ Gam _ _ = K
 have fin : ∀ (σ : Nat → Value) (h' : Heap) (y : Nat), σ 1 = I n → σ 5 = I y → y < 100000 → Mod b (b + 1) h h' → h'.length = h.length → Src h' b (m + 2) → K 0 σ h' := by
  intro σ h' y q1 q5 hy md hl hs'
  subst hK
  simp only [seqQ_zero]
  obtain ⟨nn, rfl⟩ := Int.eq_ofNat_of_zero_le (show 0 ≤ n by omega)
  have e : (y : Int).tmod nn = ((y % nn : Nat) : Int) := by rw [tmod_pos (by omega), Int.natCast_emod]
  have hn0 : nn ≠ 0 := by omega
  have lt := Nat.mod_lt y (show 0 < nn by omega)
  obtain ⟨r, hr⟩ : ∃ r, r = y % nn := ⟨_, rfl⟩
  rw [← hr] at e lt
  simp (disch := omega) [q1, q5, e, hn0]
  exact ⟨r, rfl, by omega, by omega, md, hl, hs'⟩
 simp (disch := omega)
 refine fork_dec (fun h3 => ?_) (fun h3 => ?_)
 ·simp (disch := omega) [wrap64]
  refine callW_of (c5 h2 b (m + 1) hs2 (by omega)) ?_
  rintro _ h4 ⟨y, rfl, hy, md2, hl2, hs4⟩
  simp (disch := omega) [wrap64]
  exact fin _ h4 (x * 256 + y) (by simp) (by simp) (by omega) (md.trans md2) (by omega) (hs4.mono (by omega))
 ·simp (disch := omega)
  exact fin _ h2 x (by simp) (by simp) (by omega) md hl (hs2.mono (by omega))
theorem c6 (h : Heap) (b m : Nat) (n : Int) (hs : Src h b m) (hm : m ≤ 1000000000) (hn : I64 n) : ACall Gam 6 [pt b 0, I n] h fun r h' => ∃ x : Bool, r = B x ∧ Mod b (b + 1) h h' ∧ h'.length = h.length ∧ Src h' b (m + 2) := by
 refine ACall_intro g6 rfl ?_
 unfold fn6
 simp (disch := omega)
 refine callW_of (c7 h b m n hs hm hn) ?_
 rintro _ h2 ⟨x, rfl, _, _, md, hl, hs2⟩
 simp (disch := omega)
 exact ⟨by omega, md, hl, hs2⟩
def shBytes : Shp := .slice (.int .u8)
theorem byte_at {h : Heap} {v : Value} {X : List Int} (hv : Vr h shBytes v X) : ∃ b o z, v = sl b o X.length z ∧ X.length ≤ 9223372036854775807 ∧ ∀ i, i < X.length → ∃ x : Nat, cell h b (o + i) = some (.int .u8 x) ∧ x < 256 := by
 obtain ⟨b, o, z, rfl, hz, hm, hel⟩ := hv.slice
 refine ⟨b, o, z, rfl, by rw [← maxLen_eq]; exact hm, fun i hi => ?_⟩
 obtain ⟨c, hc, ⟨rfl, w⟩⟩ := hel i hi
 have e := (cell_in (i := 0) hc (by simp [Shp.n])).1
 have w' : 0 ≤ X[i] ∧ X[i] < 256 := by
  simp [Lit.wf, IntKind.min, IntKind.max, IntKind.signed, IntKind.bits] at w
  omega
 refine ⟨X[i].toNat, ?_, by omega⟩
 simp only [Shp.n, Nat.mul_one, Nat.add_zero] at e
 rw [e, Int.toNat_of_nonneg w'.1]
 rfl
theorem c431 (h : Heap) (v : Value) (X : List Int) (hv : Vr h shBytes v X) : ACall Gam 431 [v] h fun r h' => r = pt h.length 0 ∧ Grows h h' ∧ h'.length = h.length + 1 ∧ Src h' h.length 0 := by
 obtain ⟨b, o, z, rfl, hm, hel⟩ := byte_at hv
 refine ACall_intro g431 rfl ?_
 unfold fn431
 simp (disch := omega)
 refine ⟨⟨_, rfl⟩, b, o, X.length, z, 0, 0, by simp, by omega, by omega, by omega, ?_, hm, fun i hi => ?_⟩
 ·by_cases h0 : X.length = 0
  ·exact .inl h0
  ·obtain ⟨x, e, _⟩ := hel 0 (by omega)
   right
   unfold cell at e
   cases hk : h[b]? with
   | none => rw [hk] at e; simp at e
   | some k => exact at_lt hk
 ·obtain ⟨x, e1, e2⟩ := hel i hi
  exact ⟨x, Grows.cell ⟨_, rfl⟩ e1, e2⟩
def IntsAt (h : Heap) (b : Nat) (l : List Int) : Prop := h[b]? = some ⟨ints l, true⟩
theorem c450s (h : Heap) (W H : Int) (hW : 1 ≤ W ∧ W ≤ 8) (hH : 1 ≤ H ∧ H ≤ 8) : ACall Gam 450 [I W, I H] h fun r h' => r = .agg #[I W, I H, sl h.length 0 (inner W H).toNat 1] ∧ h' = h ++ [⟨ints (List.replicate (inner W H).toNat 0), true⟩] := by
 have hi := inner_bd hW hH
 refine ACall_intro g450 rfl ?_
 unfold fn450
 simp (disch := omega)
 refine callW_of (c448 W H hW hH h) ?_
 rintro v' h' ⟨rfl, rfl⟩
 simp (disch := omega) [aMake, maxSize]
 rw [if_pos (by omega)]
 simp (disch := omega) [resOf_box, aField]
 simp [reps, ints]
/-- A valid panel drawn, in memory of its own behind the source; its row is a block of its own. -/
theorem c445s (h : Heap) (b m : Nat) (n : Int) (hs : Src h b m) (hm : m ≤ 100000000) (hn : 1 ≤ n ∧ n ≤ 8) : ACall Gam 445 [pt b 0, I n] h fun r h' => ∃ (P : Pan) (bb : Nat), OkP P ∧ P.1 ≤ n ∧ P.2.1 ≤ n ∧ Mod b (b + 1) h h' ∧ r = .agg #[I P.1, I P.2.1, sl bb 0 P.2.2.length 1] ∧ IntsAt h' bb P.2.2 ∧ h.length ≤ bb ∧ bb < h'.length ∧ Src h' b (m + 1000) := by
 refine ACall_intro g445 rfl ?_
 unfold fn445
 rw [awp_seq, awp_reg]
 generalize hK : seqQ Gam _ _ 0 = K
 simp (disch := omega)
 subst hK
 simp only [seqQ_zero]
 rw [awp_seq, awp_reg]
 generalize hK : seqQ Gam _ _ 0 = K
 simp (disch := omega)
 refine callW_of (c7 h b m n hs (by omega) (by unfold I64; omega)) ?_
 rintro _ h1 ⟨w, rfl, w1, w2, md1, l1, hs1⟩
 simp (disch := omega) [wrap64]
 subst hK
 simp only [seqQ_zero]
 rw [awp_seq, awp_reg]
 generalize hK : seqQ Gam _ _ 0 = K
 simp (disch := omega)
 refine callW_of (c7 h1 b _ n hs1 (by omega) (by unfold I64; omega)) ?_
 rintro _ h2 ⟨v, rfl, v1, v2, md2, l2, hs2⟩
 have hp : 0 < h2.length := by
  obtain ⟨_, _, _, _, _, _, e, _⟩ := hs2
  have := at_lt e; omega
 have hb2 : b < h2.length := by
  obtain ⟨_, _, _, _, _, _, e, _⟩ := hs2
  exact at_lt e
 simp (disch := omega) [wrap64]
 refine callW_of (c450s h2 (1 + w) (1 + v) (by omega) (by omega)) ?_
 rintro _ h3 ⟨rfl, e3⟩
 have g3 : Grows h2 h3 := ⟨_, e3⟩
 have hs3 := hs2.grow g3
 refine ⟨fun e => (by cases e), ?_⟩
 have ok0 := newP_ok (W := 1 + w) (H := 1 + v) (by omega) (by omega)
 have hl0 : (inner (1 + w) (1 + v)).toNat = (List.replicate (inner (1 + w) (1 + v)).toNat (0 : Int)).length := by simp
 rw [hl0]
 obtain ⟨br0, hbr0⟩ : ∃ br0, br0 = List.replicate (inner (1 + w) (1 + v)).toNat (0 : Int) := ⟨_, rfl⟩
 unfold newP at ok0
 rw [← hbr0] at ok0 e3 ⊢
 obtain ⟨b3, hb30⟩ : ∃ b3, b3 = h2.length := ⟨_, rfl⟩
 have hb3 : h3[b3]? = some ⟨ints br0, true⟩ := by rw [e3, hb30]; simp
 rw [← hb30]
 have hn0 := ok_len ok0
 have L3 : h3.length = h2.length + 1 := by rw [e3]; simp
 have MD3 : Mod b (b + 1) h h3 := (md1.trans md2).trans (g3.mod)
 simp (disch := omega)
 subst hK
 simp only [seqQ_zero]
 rw [awp_seq, awp_reg]
 generalize hK : seqQ Gam _ _ 0 = K
 simp (disch := omega)
 refine callW_of (c7 h3 b _ 4 hs3 (by omega) (by unfold I64; omega)) ?_
 rintro _ h4 ⟨some', rfl, _, so2, md4, l4, hs4⟩
 simp (disch := omega)
 subst hK
 simp only [seqQ_zero]
 rw [awp_seq]
 generalize hK : seqQ Gam _ _ = K
 simp (disch := omega)
 have hb4 : h4[b3]? = some ⟨ints br0, true⟩ := by rw [md4.2 b3 (at_lt hb3) (by omega)]; exact hb3
 have hlb : h.length ≤ b3 := by have := md1.1; omega
 refine awp_loop (fun (i : Nat) σ h' => i ≤ br0.length ∧ Mod b (b + 1) h h' ∧ h4.length ≤ h'.length ∧ σ 0 = pt b 0 ∧ σ 4 = .agg #[I 0, I 0, sl 0 0 0 0] ∧ σ 6 = .agg #[I (1 + w), I (1 + v), sl b3 0 br0.length 1] ∧ σ 7 = I some' ∧ σ 8 = I i ∧ Src h' b (m + 6 + 4 * i) ∧ ∃ br : List Int, br.length = br0.length ∧ OkP (1 + w, 1 + v, br) ∧ IntsAt h' b3 br) (fun i => br0.length - i) 0 ?_ ?_
 ·refine ⟨by omega, MD3.trans md4, by omega, by simp, by simp, by simp, by simp, by simp, hs4, br0, rfl, ok0, hb4⟩
 ·rintro i σ h' ⟨hi, md, hle, q0, q4, q6, q7, q8, hs', br, hbl, okb, hb'⟩
  simp (disch := omega) [q6, q8]
  refine fork_dec (fun hlt => ?_) (fun hge => ?_)
  ·have hlt : i < br0.length := by omega
   have hbb : h'[b3]? = some ⟨ints br, true⟩ := hb'
   simp (disch := omega) [q0, q6, q7, q8]
   refine callW_of (c7 h' b _ 4 hs' (by omega) (by unfold I64; omega)) ?_
   rintro _ h5 ⟨x, rfl, _, _, md5, l5, hs5⟩
   have hb5 : h5[b3]? = some ⟨ints br, true⟩ := by
    rw [md5.2 b3 (at_lt hbb) (by omega)]; exact hbb
   simp (disch := omega) [q0, q6, q7, q8]
   refine fork_dec (fun h6 => ?_) (fun h6 => ?_)
   ·simp (disch := omega) [q0, q6, q7, q8]
    refine callW_of (c7 h5 b _ 2 hs5 (by omega) (by unfold I64; omega)) ?_
    rintro _ h7 ⟨y, rfl, _, y2, md7, l7, hs7⟩
    have hb7 : h7[b3]? = some ⟨ints br, true⟩ := by
     rw [md7.2 b3 (at_lt hb5) (by omega)]; exact hb5
    have hst := store_int (v := 1 + (y : Int)) hb7 (show i < br.length by omega)
    have hb2' : b < b3 := by omega
    have hil : (i : Int) < br0.length := by omega
    obtain ⟨h8, e8⟩ : ∃ h8, h8 = h7.set b3 ⟨ints (br.set i (1 + (y : Int))), true⟩ := ⟨_, rfl⟩
    rw [← e8] at hst
    have l8 : h8.length = h7.length := by rw [e8]; simp
    have o8 : ∀ c, c ≠ b3 → h8[c]? = h7[c]? := fun c hc => by rw [e8]; exact set_other hc
    have mm := (md.trans md5).trans md7
    have m8 : Mod b (b + 1) h h8 := ⟨by have := mm.1; omega, fun c hc hn => by rw [o8 c (by omega)]; exact mm.2 c hc hn⟩
    have hs8 : Src h8 b (m + 6 + 4 * (i + 1)) := (hs7.mono (by omega)).mod (lo := b3) (hi := b3 + 1) ⟨by omega, fun c hc hn => o8 c (by omega)⟩ (by omega)
    have hb8 : h8[b3]? = some ⟨ints (br.set i (1 + (y : Int))), true⟩ := by rw [e8]; simp [at_lt hb7]
    have ok8 : OkP (1 + w, 1 + v, br.set i (1 + (y : Int))) := okP_iff.1 (okP_set (okP_iff.2 okb) (by omega))
    simp (disch := omega) [q0, q6, q7, q8, wrap64, hlt, hst]
    exact ⟨i + 1, ⟨by omega, m8, by omega, q4, by omega, hs8, br.set i (1 + (y : Int)), by simpa using hbl, ok8, hb8⟩, by omega⟩
   ·simp (disch := omega) [q0, q6, q7, q8, wrap64]
    exact ⟨i + 1, ⟨by omega, md.trans md5, by omega, q4, by omega, hs5.mono (by omega), br, hbl, okb, hb5⟩, by omega⟩
  ·subst hK
   simp (disch := omega) [q4, q6, resOf, resAll, resOne, aField]
   refine ⟨1 + w, 1 + v, br, okb, by omega, by omega, md, ?_⟩
   first
    | exact ⟨b3, by simp [hbl], hb', hlb, at_lt hb', hs'.mono (by omega)⟩
    | (rw [← hbl]; exact ⟨hb', hlb, at_lt hb', hs'.mono (by omega)⟩)
/-- A valid panel drawn, in memory of its own behind the source. -/
theorem c445 (h : Heap) (b m : Nat) (n : Int) (hs : Src h b m) (hm : m ≤ 100000000) (hn : 1 ≤ n ∧ n ≤ 8) : ACall Gam 445 [pt b 0, I n] h fun r h' => ∃ P : Pan, OkP P ∧ P.1 ≤ n ∧ P.2.1 ≤ n ∧ Mod b (b + 1) h h' ∧ Vo h' h.length h'.length shPanel r P ∧ Src h' b (m + 1000) := by
 refine (c445s h b m n hs hm hn).mono ?_
 rintro r h' ⟨P, bb, ok, p1, p2, md, rfl, hb, l1, l2, hs'⟩
 obtain ⟨W, H, br⟩ := P
 have o1 : 1 ≤ W ∧ W ≤ 8 := ok.w
 have o2 : 1 ≤ H ∧ H ≤ 8 := ok.h
 have ol := ok_len ok
 refine ⟨_, ok, p1, p2, md, ?_, hs'⟩
 exact Vo.of_panel (W := W) (H := H) (br := br) (by unfold I64; omega) (by unfold I64; omega) (Vo.of_ints (.inl rfl) (by rw [maxLen_eq]; show br.length ≤ _; omega) (fun x hx => by have := ok.b x hx; unfold I64; omega) (.inr ⟨hb, l1, l2⟩))
theorem c4 (h : Heap) (b m lb : Nat) (L : List Int) (hs : Src h b m) (hm : m ≤ 100000000) (hl : h[lb]? = some ⟨ints L, true⟩) (hne : lb ≠ b) (h0 : 0 < L.length) (h1 : L.length ≤ 200) :
  ACall Gam 4 [pt b 0, sl lb 0 L.length 1] h fun r h' => ∃ x ∈ L, r = I x ∧ Mod b (b + 1) h h' ∧ h'.length = h.length ∧ Src h' b (m + 2) := by
 refine ACall_intro g4 rfl ?_
 unfold fn4
 rw [awp_seq, awp_reg]
 generalize hK : seqQ Gam _ _ 0 = K
 simp (disch := omega)
 subst hK
 simp only [seqQ_zero]
 rw [awp_seq, awp_reg]
 generalize hK : seqQ Gam _ _ 0 = K
 simp (disch := omega)
 refine callW_of (c7 h b m L.length hs (by omega) (by unfold I64; omega)) ?_
 rintro _ h2 ⟨k, rfl, k1, k2, md, l2, hs2⟩
 have hk : k < L.length := by
  by_cases e : L.length = 1
  ·have := k1 (by omega); omega
  ·have := k2 (by omega); omega
 have hb2 : h2[lb]? = some ⟨ints L, true⟩ := by rw [md.2 lb (at_lt hl) (by omega)]; exact hl
 have cb := cell_int hb2 hk
 simp (disch := omega) [hk, cb]
 subst hK
 simp only [seqQ_zero]
 simp (disch := omega)
 exact ⟨at0 L k, by rw [at0_of hk]; exact List.getElem_mem hk, rfl, md, l2, hs2⟩
theorem c8 (h : Heap) (b m lb : Nat) (L : List (List UInt8)) (hs : Src h b m) (hm : m ≤ 100000000) (hl : h[lb]? = some ⟨L.map S, true⟩) (hne : lb ≠ b) (h0 : 0 < L.length) (h1 : L.length ≤ 200) :
  ACall Gam 8 [pt b 0, sl lb 0 L.length 1] h fun r h' => ∃ x ∈ L, r = S x ∧ Mod b (b + 1) h h' ∧ h'.length = h.length ∧ Src h' b (m + 2) := by
 refine ACall_intro g8 rfl ?_
 unfold fn8
 rw [awp_seq, awp_reg]
 generalize hK : seqQ Gam _ _ 0 = K
 simp (disch := omega)
 subst hK
 simp only [seqQ_zero]
 rw [awp_seq, awp_reg]
 generalize hK : seqQ Gam _ _ 0 = K
 simp (disch := omega)
 refine callW_of (c7 h b m L.length hs (by omega) (by unfold I64; omega)) ?_
 rintro _ h2 ⟨k, rfl, k1, k2, md, l2, hs2⟩
 have hk : k < L.length := by
  by_cases e : L.length = 1
  ·have := k1 (by omega); omega
  ·have := k2 (by omega); omega
 have hb2 : h2[lb]? = some ⟨L.map S, true⟩ := by rw [md.2 lb (at_lt hl) (by omega)]; exact hl
 have cb : cell h2 lb k = some (S L[k]) := cell_of hb2 (by simp [hk])
 simp (disch := omega) [hk, cb]
 subst hK
 simp only [seqQ_zero]
 simp (disch := omega)
 exact ⟨L[k], List.getElem_mem hk, rfl, md, l2, hs2⟩
theorem c269 (h : Heap) (v : Value) (X : List Int) (hv : Vr h shBytes v X) : ACall Gam 269 [v] h fun r h' => r = B (decide (4096 < X.length)) ∧ h' = h := by
 obtain ⟨b, o, z, rfl, hm, _⟩ := byte_at hv
 refine ACall_intro g269 rfl ?_
 unfold fn269
 simp (disch := omega)
 omega
/-- Where a symmetry moves a point. -/
def mapX (W H x y s : Nat) : Nat :=
 let x1 := if 4 ≤ s then y else x
 let w := if 4 ≤ s then H else W
 if s % 2 = 1 then 2 * w - x1 else x1
def mapY (W H x y s : Nat) : Nat :=
 let y1 := if 4 ≤ s then x else y
 let h := if 4 ≤ s then W else H
 if s / 2 % 2 = 1 then 2 * h - y1 else y1
def mapW (W H s : Nat) : Nat := if 4 ≤ s then H else W
def mapH (W H s : Nat) : Nat := if 4 ≤ s then W else H
theorem map_pt {W H x y s : Nat} (hx : 1 ≤ x ∧ x < 2 * W) (hy : 1 ≤ y ∧ y < 2 * H) (hp : (x + y) % 2 = 1) :
  (1 ≤ mapX W H x y s ∧ mapX W H x y s < 2 * mapW W H s) ∧ (1 ≤ mapY W H x y s ∧ mapY W H x y s < 2 * mapH W H s) ∧ (mapX W H x y s + mapY W H x y s) % 2 = 1 := by
 simp only [mapX, mapY, mapW, mapH]
 by_cases a : 4 ≤ s <;> by_cases b : s % 2 = 1 <;> by_cases c : s / 2 % 2 = 1 <;> simp only [a, b, c, if_true, if_false] <;> omega
/-- A break as a symmetry moves it. -/
def kindM (k : Int) (s : Nat) : Int := if 4 ≤ s ∧ k ≠ 0 then 3 - k else k
theorem kindM_rng {k : Int} {s : Nat} (h : 0 ≤ k ∧ k ≤ 2) : 0 ≤ kindM k s ∧ kindM k s ≤ 2 := by
 unfold kindM; split <;> omega
noncomputable def idxM (W H s k : Nat) : Nat := numP (mapW W H s) (mapX W H (thePt W H k).1 (thePt W H k).2 s) (mapY W H (thePt W H k).1 (thePt W H k).2 s)
noncomputable def mapSt (W H s : Nat) (br : List Int) : Nat → List Int
 | 0 => List.replicate (rowN (mapW W H s) (2 * mapH W H s)) 0
 | k + 1 => (mapSt W H s br k).set (idxM W H s k) (kindM (at0 br k) s)
theorem mapSt_len {W H s : Nat} {br : List Int} : ∀ k, (mapSt W H s br k).length = rowN (mapW W H s) (2 * mapH W H s)
 | 0 => by simp [mapSt]
 | k + 1 => by simp [mapSt, mapSt_len k]
theorem mapSt_rng {W H s : Nat} {br : List Int} (hb : ∀ x ∈ br, 0 ≤ x ∧ x ≤ 2) : ∀ k, ∀ x ∈ mapSt W H s br k, 0 ≤ x ∧ x ≤ 2
 | 0 => by intro x hx; simp [mapSt] at hx; omega
 | k + 1 => by
  intro x hx
  rcases List.mem_or_eq_of_mem_set hx with e | e
  ·exact mapSt_rng hb k x e
  ·rw [e]; exact kindM_rng (at0_rng hb k)
theorem mapSt_none {W H : Nat} {br : List Int} (w1 : 1 ≤ W) (h1 : 1 ≤ H) (hl : br.length = rowN W (2 * H)) : ∀ k, k ≤ rowN W (2 * H) → mapSt W H 0 br k = br.take k ++ List.replicate (rowN W (2 * H) - k) 0
 | 0, _ => by simp [mapSt, mapW, mapH]
 | k + 1, hk => by
  obtain ⟨x, y, hP⟩ := IsPt.ex w1 h1 (show k < rowN W (2 * H) by omega)
  have e := thePt_eq hP
  have ei : idxM W H 0 k = k := by
   unfold idxM; rw [e]; simp [mapX, mapY, mapW, hP.num]
  have ek : k < br.length := by omega
  rw [mapSt, mapSt_none w1 h1 hl k (by omega), ei]
  have : kindM (at0 br k) 0 = br[k] := by simp [kindM, at0_of ek]
  rw [this, List.set_append_right _ _ (by rw [List.length_take]; omega), List.length_take, show k - min k br.length = 0 by omega, show rowN W (2 * H) - k = (rowN W (2 * H) - (k + 1)) + 1 by omega, List.replicate_succ, List.set_cons_zero, List.take_succ_eq_append_getElem ek, List.append_assoc]
  rfl
noncomputable def mapP (X : Pan) (s : Nat) : Pan := ((mapW X.1.toNat X.2.1.toNat s : Nat), (mapH X.1.toNat X.2.1.toNat s : Nat), mapSt X.1.toNat X.2.1.toNat s X.2.2 X.2.2.length)
theorem OkP.row {X : Pan} (ok : OkP X) : X.2.2.length = rowN X.1.toNat (2 * X.2.1.toNat) := by
 have h1 := ok.w; have h2 := ok.h; have h3 := ok.n
 have := rowN_end (W := X.1.toNat) (by omega) (H := X.2.1.toNat) (by omega) (by omega) (by omega)
 rw [Int.toNat_of_nonneg (by omega), Int.toNat_of_nonneg (by omega)] at this
 unfold inner at h3
 omega
theorem mapP_none {X : Pan} (ok : OkP X) : mapP X 0 = X := by
 have h1 := ok.w; have h2 := ok.h
 have hr := ok.row
 obtain ⟨W, H, br⟩ := X
 simp only [mapP] at *
 rw [hr, mapSt_none (by omega) (by omega) hr _ (Nat.le_refl _), ← hr]
 simp [mapW, mapH]
 omega
theorem mapP_ok {X : Pan} (ok : OkP X) (s : Nat) : OkP (mapP X s) := by
 have h1 := ok.w; have h2 := ok.h
 refine ⟨?_, ?_, ?_, ?_⟩
 ·simp only [mapP, mapW]; split <;> omega
 ·simp only [mapP, mapH]; split <;> omega
 ·simp only [mapP, mapSt_len]
  have a : 1 ≤ mapW X.1.toNat X.2.1.toNat s ∧ mapW X.1.toNat X.2.1.toNat s < 9 := by unfold mapW; split <;> omega
  have b : 1 ≤ mapH X.1.toNat X.2.1.toNat s ∧ mapH X.1.toNat X.2.1.toNat s < 9 := by unfold mapH; split <;> omega
  have := rowN_end a.2 b.2 a.1 b.1
  unfold inner
  rw [this]
 ·exact mapSt_rng ok.b _
def cmpI (a b : Int) : Int := if a < b then -1 else if b < a then 1 else 0
def cmpL : List Int → List Int → Int
 | [], [] => 0
 | [], _ :: _ => -1
 | _ :: _, [] => 1
 | a :: l, b :: m => if cmpI a b = 0 then cmpL l m else cmpI a b
def cmpP (X Y : Pan) : Int := if cmpI X.1 Y.1 ≠ 0 then cmpI X.1 Y.1 else if cmpI X.2.1 Y.2.1 ≠ 0 then cmpI X.2.1 Y.2.1 else cmpL X.2.2 Y.2.2
theorem cmpI_same {a b : Int} (h : a = b) : cmpI a b = 0 := by unfold cmpI; rw [if_neg (by omega), if_neg (by omega)]
theorem cmpI_zero {a b : Int} : cmpI a b = 0 ↔ a = b := by
 unfold cmpI; split
 ·constructor <;> intro h <;> omega
 ·split
  ·constructor <;> intro h <;> omega
  ·constructor <;> intro h <;> omega
/-- Lists that agree up to a place. -/
theorem cmpL_drop : ∀ {X Y : List Int} {k : Nat}, X.take k = Y.take k → k ≤ X.length → k ≤ Y.length → cmpL X Y = cmpL (X.drop k) (Y.drop k)
 | X, Y, 0, _, _, _ => by simp
 | [], Y, k + 1, _, h, _ => by simp at h
 | _ :: _, [], k + 1, _, _, h => by simp at h
 | a :: l, b :: m, k + 1, ht, h1, h2 => by
  simp only [List.take_succ_cons, List.cons.injEq] at ht
  simp only [List.drop_succ_cons, cmpL, ht.1, cmpI_same rfl, if_true]
  exact cmpL_drop ht.2 (by simpa using h1) (by simpa using h2)
theorem cmpL_at {X Y : List Int} {k : Nat} (ht : X.take k = Y.take k) (h1 : k < X.length) (h2 : k < Y.length) (hne : X[k] ≠ Y[k]) : cmpL X Y = cmpI X[k] Y[k] := by
 rw [cmpL_drop ht (by omega) (by omega), List.drop_eq_getElem_cons h1, List.drop_eq_getElem_cons h2, cmpL, if_neg (by rw [cmpI_zero]; exact hne)]
theorem cmpL_end {X Y : List Int} {k : Nat} (ht : X.take k = Y.take k) (h1 : k ≤ X.length) (h2 : k ≤ Y.length) (he : k = X.length ∨ k = Y.length) : cmpL X Y = cmpI X.length Y.length := by
 rw [cmpL_drop ht h1 h2]
 by_cases e1 : k = X.length
 ·by_cases e2 : k = Y.length
  ·rw [List.drop_eq_nil_of_le (by omega), List.drop_eq_nil_of_le (by omega), cmpL, cmpI_same (by omega)]
  ·rw [List.drop_eq_nil_of_le (as := X) (by omega), List.drop_eq_getElem_cons (l := Y) (by omega), cmpL]
   unfold cmpI; rw [if_pos (by omega)]
 ·rw [List.drop_eq_nil_of_le (as := Y) (by omega), List.drop_eq_getElem_cons (l := X) (by omega), cmpL]
  unfold cmpI; rw [if_neg (by omega), if_pos (by omega)]
noncomputable def canonF (X : Pan) : Nat → Pan
 | 0 => X
 | s + 1 => if cmpP (mapP X (s + 1)) (canonF X s) < 0 then mapP X (s + 1) else canonF X s
noncomputable def canonP (X : Pan) : Pan := canonF X 7
theorem canonF_ok {X : Pan} (ok : OkP X) : ∀ s, OkP (canonF X s)
 | 0 => ok
 | s + 1 => by
  simp only [canonF]; split
  ·exact mapP_ok ok _
  ·exact canonF_ok ok s
theorem canonP_ok {X : Pan} (ok : OkP X) : OkP (canonP X) := canonF_ok ok 7
theorem OkP.siz {X : Pan} (ok : OkP X) : X.2.2.length ≤ 128 := by
 have h1 := ok.w; have h2 := ok.h
 rw [ok.row]
 exact rowN_le (by omega) (by omega)
end Am
