/- Contracts: AmW2, AmW3, AmW4, AmY1, AmY7, AmY2. -/
import Derived.Test.YtikhbjdcomgemaaAmK4
import Derived.Test.YtikhbjdcomgemaaAmK3
/-! AmW2 -/
set_option linter.unusedVariables false
set_option linter.unusedSimpArgs false
set_option maxHeartbeats 4000000
set_option maxRecDepth 4000
namespace Am
open Go

def dgs (s : List UInt8) : List UInt8 := if s.head? = some 45 then s.drop 1 else s
def isDig (c : UInt8) : Bool := decide ((48 : Int) ≤ c.toNat) && decide ((c.toNat : Int) ≤ 57)
def valN (l : List UInt8) : Nat := l.foldl (fun n c => 10 * n + (c.toNat - 48)) 0
def rdV (s : List UInt8) : Int := if (dgs s).length < s.length then -(valN (dgs s) : Int) else valN (dgs s)
def rdOk (s : List UInt8) : Bool := decide (1 ≤ (dgs s).length) && (decide ((dgs s).length ≤ 18) && ((dgs s).all isDig && decide (decS (rdV s) = s)))
def rdDec (s : List UInt8) : Int × Bool := if rdOk s then (rdV s, true) else (0, false)
theorem valN_snoc (l : List UInt8) (c : UInt8) : valN (l ++ [c]) = 10 * valN l + (c.toNat - 48) := by simp [valN]
theorem valN_take {l : List UInt8} {k : Nat} (hk : k < l.length) : valN (l.take (k + 1)) = 10 * valN (l.take k) + (l[k].toNat - 48) := by
  rw [List.take_succ_eq_append_getElem hk, valN_snoc]
theorem valN_lt {l : List UInt8} (k : Nat) (hk : k ≤ l.length) (ha : (l.take k).all isDig = true) : valN (l.take k) + 1 ≤ 10 ^ k := by
  induction k with
  | zero => simp [valN]
  | succ k ih =>
    have k1 : k < l.length := by omega
    rw [List.take_succ_eq_append_getElem k1, List.all_append, Bool.and_eq_true] at ha
    have := ih (by omega) ha.1
    rw [valN_take k1, Nat.pow_succ]
    have h2 := ha.2
    simp [isDig] at h2
    omega
theorem valN_bd {l : List UInt8} {k : Nat} (hk : k ≤ l.length) (hl : l.length ≤ 18) (ha : (l.take k).all isDig = true) : valN (l.take k) ≤ 999999999999999999 := by
  have h1 := valN_lt k hk ha
  have h2 : 10 ^ k ≤ 10 ^ 18 := Nat.pow_le_pow_right (by omega) (by omega)
  have h3 : (10 : Nat) ^ 18 = 1000000000000000000 := by decide
  omega
theorem valN_bd' {l : List UInt8} {k : Nat} (hk : k < l.length) (hl : l.length ≤ 18) (ha : (l.take k).all isDig = true) : valN (l.take k) ≤ 99999999999999999 := by
  have h1 := valN_lt k (by omega) ha
  have h2 : 10 ^ k ≤ 10 ^ 17 := Nat.pow_le_pow_right (by omega) (by omega)
  have h3 : (10 : Nat) ^ 17 = 100000000000000000 := by decide
  omega
theorem dgs_len (s : List UInt8) : (dgs s).length ≤ s.length ∧ s.length ≤ (dgs s).length + 1 := by
  unfold dgs
  split
  · simp; omega
  · omega
theorem rdDec_64 (s : List UInt8) : I64 (rdDec s).1 := by
  unfold rdDec
  split
  · rename_i h
    simp only [rdOk, Bool.and_eq_true, decide_eq_true_eq] at h
    have := valN_bd (l := dgs s) (k := (dgs s).length) (Nat.le_refl _) h.2.1 (by rw [List.take_length]; exact h.2.2.1)
    rw [List.take_length] at this
    simp only [rdV]
    unfold I64
    split <;> omega
  · unfold I64; omega
theorem all_take_dig {l : List UInt8} {k : Nat} (hk : k < l.length) (h : (l.take k).all isDig = true) (h1 : isDig l[k] = true) : (l.take (k + 1)).all isDig = true := by
  rw [List.take_succ_eq_append_getElem hk, List.all_append]; simp [h, h1]
theorem all_dig_not {l : List UInt8} {k : Nat} (hk : k < l.length) (h1 : isDig l[k] = false) : l.all isDig = false := by
  rw [List.all_eq_false]
  exact ⟨l[k], List.getElem_mem hk, by simp [h1]⟩
theorem dgs_first {s : List UInt8} : (∃ h : 0 < s.length, s[0] = 45) ∧ dgs s = s.drop 1 ∨ (∀ h : 0 < s.length, s[0] ≠ 45) ∧ dgs s = s := by
  cases s with
  | nil => right; exact ⟨by simp, rfl⟩
  | cons c r =>
    by_cases h : c = 45
    · left; subst h; exact ⟨⟨by simp, rfl⟩, rfl⟩
    · right; exact ⟨fun _ => h, by simp [dgs, h]⟩

theorem c438 (c : UInt8) (h : Heap) : ACall Gam 438 [U c.toNat] h fun r h' => r = B (isDig c) ∧ h' = h := by
  refine ACall_intro g438 rfl ?_
  unfold fn438
  simp (disch := omega)
  refine fork_dec (fun h1 => ?_) (fun h1 => ?_)
  · simp (disch := omega) [isDig, h1]
  · simp (disch := omega) [isDig, h1]

theorem c118 (s : List UInt8) (hs : s.length ≤ 1048576) (h : Heap) (hp : 0 < h.length) : ACall Gam 118 [S s] h fun r h' => Grows h h' ∧ r = .tuple #[I (rdDec s).1, B (rdDec s).2] := by
  have hd := dgs_len s
  refine ACall_intro g118 rfl ?_
  unfold fn118
  rw [awp_seq, awp_reg]
  generalize hK : seqQ Gam _ _ 0 = K
  simp (disch := omega)
  subst hK
  simp only [seqQ_zero]
  rw [awp_seq, awp_reg]
  generalize hK : seqQ Gam _ _ 0 = K
  simp (disch := omega)
  subst hK
  simp only [seqQ_zero]
  rw [awp_seq]
  generalize hK : seqQ Gam _ _ = K
  have key : ∀ σ, σ 0 = S s → σ 4 = S (dgs s) → σ 2 = I 0 → σ 3 = B false → K 0 σ h := by
    intro σ q0 q4 q2 q3
    subst hK
    simp only [seqQ_zero]
    rw [awp_seq]
    generalize hK : seqQ Gam _ _ = K
    simp (disch := omega) [q0, q4]
    refine fork_dec (fun h1 => ?_) (fun h1 => ?_)
    · have e : rdDec s = (0, false) := by
        have : ¬ 1 ≤ (dgs s).length := by omega
        simp [rdDec, rdOk, this]
      subst hK
      rw [e]
      simp (disch := omega) [h1]
      exact Grows.refl _
    simp (disch := omega) [h1, q0, q4]
    refine fork_dec (fun h2 => ?_) (fun h2 => ?_)
    · have e : rdDec s = (0, false) := by
        have : ¬ (dgs s).length ≤ 18 := by omega
        simp [rdDec, rdOk, this]
      subst hK
      rw [e]
      simp (disch := omega)
      exact Grows.refl _
    simp (disch := omega)
    subst hK
    simp only [seqQ_zero]
    rw [awp_seq, awp_reg]
    generalize hK : seqQ Gam _ _ 0 = K
    simp (disch := omega)
    subst hK
    simp only [seqQ_zero]
    rw [awp_seq]
    generalize hK : seqQ Gam _ _ = K
    simp (disch := omega) [q4]
    obtain ⟨d, hdd⟩ : ∃ d, d = dgs s := ⟨_, rfl⟩
    rw [← hdd] at hd q4 h1 h2 ⊢
    refine awp_loop (fun (k : Nat) σ' h' => k ≤ d.length ∧ h' = h ∧ σ' 0 = S s ∧ σ' 4 = S d ∧ σ' 2 = I 0 ∧ σ' 3 = B false ∧ σ' 5 = I (valN (d.take k)) ∧ σ' 27 = I d.length ∧ σ' 28 = I k ∧ (d.take k).all isDig = true) (fun k => d.length - k) 0 ?_ ?_
    · exact ⟨by omega, rfl, by simp [q0], by simp [q4], by simp [q2], by simp [q3], by simp [valN], by simp [q4], by simp, by simp⟩
    rintro k σ' h' ⟨hk, rfl, p0, p4, p2, p3, p5, p27, p28, hall⟩
    simp (disch := omega) [p4, p27, p28]
    refine fork_dec (fun hlt => ?_) (fun hge => ?_)
    · have k1 : k < d.length := by omega
      have hv := valN_bd' k1 (by omega) hall
      simp (disch := omega) [p0, p2, p3, p4, p5, p27, p28, k1]
      refine fork_dec (fun h3 => ?_) (fun h3 => ?_)
      · have hn : isDig d[k] = false := by
          have : ¬ (48 : Int) ≤ d[k].toNat := by omega
          simp [isDig, this]
        have e : rdDec s = (0, false) := by simp [rdDec, rdOk, ← hdd, all_dig_not k1 hn]
        subst hK
        rw [e]
        simp (disch := omega) [h3]
        exact Grows.refl _
      simp (disch := omega) [h3, p0, p2, p3, p4, p5, p27, p28, k1]
      refine fork_dec (fun h4 => ?_) (fun h4 => ?_)
      · have hn : isDig d[k] = false := by
          have : ¬ (d[k].toNat : Int) ≤ 57 := by omega
          simp [isDig, this]
        have e : rdDec s = (0, false) := by simp [rdDec, rdOk, ← hdd, all_dig_not k1 hn]
        subst hK
        rw [e]
        simp (disch := omega)
        exact Grows.refl _
      have hd1 : isDig d[k] = true := by simp [isDig]; omega
      simp (disch := omega) [p0, p2, p3, p4, p5, p27, p28, k1, wrap64, wrap8]
      refine ⟨k + 1, ⟨by omega, ?_, by omega, List.all_eq_true.1 (all_take_dig k1 hall hd1)⟩, by omega⟩
      rw [valN_take k1]; omega
    · have hkn : k = d.length := by omega
      subst hkn
      have hv := valN_bd (by omega) (by omega) hall
      rw [List.take_length] at hall hv p5
      simp (disch := omega)
      subst hK
      simp only [seqQ_zero]
      rw [awp_seq]
      generalize hK : seqQ Gam _ _ = K
      have key2 : ∀ σ, σ 0 = S s → σ 5 = I (rdV s) → σ 2 = I 0 → σ 3 = B false → K 0 σ h' := by
        intro σ r0 r5 r2 r3
        have hb : I64 (rdV s) := by
          unfold rdV I64
          rw [← hdd]
          split <;> omega
        subst hK
        simp only [seqQ_zero]
        simp (disch := omega) [r0, r5]
        refine callW_of (c75 (rdV s) hb _ hp) ?_
        rintro _ h2 ⟨rfl, g2⟩
        simp (disch := omega) [r0]
        refine fork_dec (fun he => ?_) (fun he => ?_)
        · have e : rdDec s = (rdV s, true) := by
            simp [rdDec, rdOk, ← hdd, hall, he]
            omega
          rw [e]
          simp (disch := omega) [r5]
          exact g2
        · have e : rdDec s = (0, false) := by simp [rdDec, rdOk, he]
          rw [e]
          simp (disch := omega)
          exact g2
      simp (disch := omega) [p0, p4]
      refine fork_dec (fun hlt => ?_) (fun hlt => ?_)
      · have e : rdV s = -(valN d : Int) := by unfold rdV; rw [← hdd, if_pos (by omega)]
        simp (disch := omega) [p5, wrap64]
        exact key2 _ (by simp [p0]) (by simp [e]) (by simp [p2]) (by simp [p3])
      · have e : rdV s = (valN d : Int) := by unfold rdV; rw [← hdd, if_neg (by omega)]
        simp (disch := omega)
        exact key2 _ (by simp [p0]) (by simp [p5, e]) (by simp [p2]) (by simp [p3])
  rcases dgs_first (s := s) with ⟨⟨hpos, h45⟩, e⟩ | ⟨hno, e⟩
  · have hsl := slice_from (h := h) (s := s) (a := 1) (by omega)
    have e45 : (s[0].toNat : Int) = 45 := by rw [h45]; rfl
    simp (disch := omega) [hpos, e45]
    rw [show ((1 : Nat) : Int) = 1 from rfl] at hsl
    simp (disch := omega) [hsl]
    exact key _ (by simp) (by simp [e]) (by simp) (by simp)
  · by_cases hpos : 0 < s.length
    · have hne : ¬ (s[0].toNat : Int) = 45 := fun x => hno hpos (u8_eq (b := 45) |>.1 x)
      simp (disch := omega) [hpos, hne]
      exact key _ (by simp) (by simp [e]) (by simp) (by simp)
    · simp (disch := omega) [hpos]
      exact key _ (by simp) (by simp [e]) (by simp) (by simp)


theorem c439 (s : List UInt8) (hs : s.length ≤ 1048576) (h : Heap) (hp : 0 < h.length) : ACall Gam 439 [S s] h fun r h' => Grows h h' ∧ r = .tuple #[I (rdDec s).1, B (rdDec s).2] := by
  have hd := dgs_len s
  refine ACall_intro g439 rfl ?_
  unfold fn439
  rw [awp_seq, awp_reg]
  generalize hK : seqQ Gam _ _ 0 = K
  simp (disch := omega)
  subst hK
  simp only [seqQ_zero]
  rw [awp_seq, awp_reg]
  generalize hK : seqQ Gam _ _ 0 = K
  simp (disch := omega)
  subst hK
  simp only [seqQ_zero]
  rw [awp_seq]
  generalize hK : seqQ Gam _ _ = K
  have key : ∀ σ, σ 0 = S s → σ 4 = S (dgs s) → σ 2 = I 0 → σ 3 = B false → K 0 σ h := by
    intro σ q0 q4 q2 q3
    subst hK
    simp only [seqQ_zero]
    rw [awp_seq]
    generalize hK : seqQ Gam _ _ = K
    simp (disch := omega) [q0, q4]
    refine fork_dec (fun h1 => ?_) (fun h1 => ?_)
    · have e : rdDec s = (0, false) := by
        have : ¬ 1 ≤ (dgs s).length := by omega
        simp [rdDec, rdOk, this]
      subst hK
      rw [e]
      simp (disch := omega) [h1]
      exact Grows.refl _
    simp (disch := omega) [h1, q0, q4]
    refine fork_dec (fun h2 => ?_) (fun h2 => ?_)
    · have e : rdDec s = (0, false) := by
        have : ¬ (dgs s).length ≤ 18 := by omega
        simp [rdDec, rdOk, this]
      subst hK
      rw [e]
      simp (disch := omega)
      exact Grows.refl _
    simp (disch := omega)
    subst hK
    simp only [seqQ_zero]
    rw [awp_seq, awp_reg]
    generalize hK : seqQ Gam _ _ 0 = K
    simp (disch := omega)
    subst hK
    simp only [seqQ_zero]
    rw [awp_seq]
    generalize hK : seqQ Gam _ _ = K
    simp (disch := omega) [q4]
    obtain ⟨d, hdd⟩ : ∃ d, d = dgs s := ⟨_, rfl⟩
    rw [← hdd] at hd q4 h1 h2 ⊢
    refine awp_loop (fun (k : Nat) σ' h' => k ≤ d.length ∧ h' = h ∧ σ' 0 = S s ∧ σ' 4 = S d ∧ σ' 2 = I 0 ∧ σ' 3 = B false ∧ σ' 5 = I (valN (d.take k)) ∧ σ' 6 = I k ∧ (d.take k).all isDig = true) (fun k => d.length - k) 0 ?_ ?_
    · exact ⟨by omega, rfl, by simp [q0], by simp [q4], by simp [q2], by simp [q3], by simp [valN], by simp, by simp⟩
    rintro k σ' h' ⟨hk, rfl, p0, p4, p2, p3, p5, p6, hall⟩
    simp (disch := omega) [p4, p6]
    refine fork_dec (fun hlt => ?_) (fun hge => ?_)
    · have k1 : k < d.length := by omega
      have hv := valN_bd' k1 (by omega) hall
      simp (disch := omega) [p0, p2, p3, p4, p5, p6, k1]
      refine callW_of (c438 d[k] _) ?_
      rintro _ h1 ⟨rfl, rfl⟩
      cases hd1 : isDig d[k]
      · have e : rdDec s = (0, false) := by simp [rdDec, rdOk, ← hdd, all_dig_not k1 hd1]
        subst hK
        rw [e]
        simp (disch := omega)
        exact Grows.refl _
      have hdg := hd1
      simp [isDig] at hdg
      simp (disch := omega) [p0, p2, p3, p4, p5, p6, k1, wrap64, wrap8]
      refine ⟨k + 1, ⟨by omega, ?_, by omega, List.all_eq_true.1 (all_take_dig k1 hall hd1)⟩, by omega⟩
      rw [valN_take k1]; omega
    · have hkn : k = d.length := by omega
      subst hkn
      have hv := valN_bd (by omega) (by omega) hall
      rw [List.take_length] at hall hv p5
      simp (disch := omega)
      subst hK
      simp only [seqQ_zero]
      rw [awp_seq]
      generalize hK : seqQ Gam _ _ = K
      have key2 : ∀ σ, σ 0 = S s → σ 5 = I (rdV s) → σ 2 = I 0 → σ 3 = B false → K 0 σ h' := by
        intro σ r0 r5 r2 r3
        have hb : I64 (rdV s) := by
          unfold rdV I64
          rw [← hdd]
          split <;> omega
        subst hK
        simp only [seqQ_zero]
        simp (disch := omega) [r0, r5]
        refine callW_of (c437 (rdV s) hb _ hp) ?_
        rintro _ h2 ⟨rfl, g2⟩
        simp (disch := omega) [r0]
        refine fork_dec (fun he => ?_) (fun he => ?_)
        · have e : rdDec s = (rdV s, true) := by
            simp [rdDec, rdOk, ← hdd, hall, he]
            omega
          rw [e]
          simp (disch := omega) [r5]
          exact g2
        · have e : rdDec s = (0, false) := by simp [rdDec, rdOk, he]
          rw [e]
          simp (disch := omega)
          exact g2
      simp (disch := omega) [p0, p4]
      refine fork_dec (fun hlt => ?_) (fun hlt => ?_)
      · have e : rdV s = -(valN d : Int) := by unfold rdV; rw [← hdd, if_pos (by omega)]
        simp (disch := omega) [p5, wrap64]
        exact key2 _ (by simp [p0]) (by simp [e]) (by simp [p2]) (by simp [p3])
      · have e : rdV s = (valN d : Int) := by unfold rdV; rw [← hdd, if_neg (by omega)]
        simp (disch := omega)
        exact key2 _ (by simp [p0]) (by simp [p5, e]) (by simp [p2]) (by simp [p3])
  rcases dgs_first (s := s) with ⟨⟨hpos, h45⟩, e⟩ | ⟨hno, e⟩
  · have hsl := slice_from (h := h) (s := s) (a := 1) (by omega)
    have e45 : (s[0].toNat : Int) = 45 := by rw [h45]; rfl
    have hne0 : ¬ s = [] := by intro x; rw [x] at hpos; simp at hpos
    simp (disch := omega) [hpos, e45, hne0]
    rw [show ((1 : Nat) : Int) = 1 from rfl] at hsl
    simp (disch := omega) [hsl]
    exact key _ (by simp) (by simp [e]) (by simp) (by simp)
  · by_cases hpos : 0 < s.length
    · have hne : ¬ (s[0].toNat : Int) = 45 := fun x => hno hpos (u8_eq (b := 45) |>.1 x)
      have hne0 : ¬ s = [] := by intro x; rw [x] at hpos; simp at hpos
      simp (disch := omega) [hpos, hne, hne0]
      exact key _ (by simp) (by simp [e]) (by simp) (by simp)
    · have hs0 : s = [] := List.length_eq_zero_iff.1 (by omega)
      simp (disch := omega) [hs0]
      have e2 : dgs s = [] := by rw [e, hs0]
      exact key _ (by simp [hs0]) (by simp [e2]) (by simp) (by simp)

end Am
/-! AmW3 -/
set_option linter.unusedVariables false
set_option linter.unusedSimpArgs false
set_option maxHeartbeats 4000000
set_option maxRecDepth 4000
namespace Am
open Go

def at8 (s : List UInt8) (i : Nat) : UInt8 := s.getD i 0
theorem at8_eq {s : List UInt8} {i : Nat} (h : i < s.length) : s[i] = at8 s i := by simp [at8, h]
theorem at8_of {s : List UInt8} {i : Nat} (h : i < s.length) : s[i]? = some (at8 s i) := by simp [at8, h]
def parseW (w : List UInt8) : Option Trip := if w.length < 3 then none else if (rdDec (w.take (w.length - 2))).2 then some ((rdDec (w.take (w.length - 2))).1, kindB (at8 w (w.length - 2)), kindB (at8 w (w.length - 1))) else none
def parseL : List (List UInt8) → List Trip → Option (List Trip)
  | [], acc => some acc
  | w :: r, acc => match parseW w with
    | none => none
    | some t => parseL r (acc ++ [t])
def AllT (l : List Trip) : Prop := ∀ x ∈ l, T64 x
theorem AllT.snoc {l : List Trip} {t : Trip} (h : AllT l) (ht : T64 t) : AllT (l ++ [t]) := by
  intro x hx
  rcases List.mem_append.1 hx with hx | hx
  · exact h x hx
  · rw [List.mem_singleton.1 hx]; exact ht
def rdRes (o : Option (List Trip)) : List Trip × Bool := match o with
  | none => ([], false)
  | some l => if okD l then (l, true) else ([], false)
def rdAns (s : List UInt8) : List Trip × Bool := if s = [] then ([], true) else rdRes (parseL (splitS 32 s) [])
theorem kindB_64 (c : UInt8) : I64 (kindB c) := by have := kindB_rng c; unfold I64; omega
end Am
/-! AmW4 -/
set_option linter.unusedVariables false
set_option linter.unusedSimpArgs false
set_option maxHeartbeats 4000000
set_option maxRecDepth 4000
namespace Am
open Go

end Am
/-! AmY1 -/
set_option linter.unusedVariables false
set_option linter.unusedSimpArgs false
set_option maxHeartbeats 4000000
set_option maxRecDepth 4000
namespace Am
open Go

/-- Where a symmetry moves a point. -/
def mapX (W H x y s : Nat) : Nat :=
  let x1 := if 4 ≤ s then y else x
  let w := if 4 ≤ s then H else W
  if s % 2 = 1 then 2 * w - x1 else x1
def mapY (W H x y s : Nat) : Nat :=
  let y1 := if 4 ≤ s then x else y
  let h := if 4 ≤ s then W else H
  if s / 2 % 2 = 1 then 2 * h - y1 else y1
def mapW (W H s : Nat) : Nat := if 4 ≤ s then H else W
def mapH (W H s : Nat) : Nat := if 4 ≤ s then W else H
theorem map_pt {W H x y s : Nat} (hx : 1 ≤ x ∧ x < 2 * W) (hy : 1 ≤ y ∧ y < 2 * H) (hp : (x + y) % 2 = 1) :
    (1 ≤ mapX W H x y s ∧ mapX W H x y s < 2 * mapW W H s) ∧ (1 ≤ mapY W H x y s ∧ mapY W H x y s < 2 * mapH W H s) ∧ (mapX W H x y s + mapY W H x y s) % 2 = 1 := by
  simp only [mapX, mapY, mapW, mapH]
  by_cases a : 4 ≤ s <;> by_cases b : s % 2 = 1 <;> by_cases c : s / 2 % 2 = 1 <;> simp only [a, b, c, if_true, if_false] <;> omega
/-- A break as a symmetry moves it. -/
def kindM (k : Int) (s : Nat) : Int := if 4 ≤ s ∧ k ≠ 0 then 3 - k else k
theorem kindM_rng {k : Int} {s : Nat} (h : 0 ≤ k ∧ k ≤ 2) : 0 ≤ kindM k s ∧ kindM k s ≤ 2 := by
  unfold kindM; split <;> omega
noncomputable def idxM (W H s k : Nat) : Nat := numP (mapW W H s) (mapX W H (thePt W H k).1 (thePt W H k).2 s) (mapY W H (thePt W H k).1 (thePt W H k).2 s)
noncomputable def mapSt (W H s : Nat) (br : List Int) : Nat → List Int
  | 0 => List.replicate (rowN (mapW W H s) (2 * mapH W H s)) 0
  | k + 1 => (mapSt W H s br k).set (idxM W H s k) (kindM (at0 br k) s)
theorem mapSt_len {W H s : Nat} {br : List Int} : ∀ k, (mapSt W H s br k).length = rowN (mapW W H s) (2 * mapH W H s)
  | 0 => by simp [mapSt]
  | k + 1 => by simp [mapSt, mapSt_len k]
theorem mapSt_rng {W H s : Nat} {br : List Int} (hb : ∀ x ∈ br, 0 ≤ x ∧ x ≤ 2) : ∀ k, ∀ x ∈ mapSt W H s br k, 0 ≤ x ∧ x ≤ 2
  | 0 => by intro x hx; simp [mapSt] at hx; omega
  | k + 1 => by
    intro x hx
    rcases List.mem_or_eq_of_mem_set hx with e | e
    · exact mapSt_rng hb k x e
    · rw [e]; exact kindM_rng (at0_rng hb k)
theorem mapSt_none {W H : Nat} {br : List Int} (w1 : 1 ≤ W) (h1 : 1 ≤ H) (hl : br.length = rowN W (2 * H)) : ∀ k, k ≤ rowN W (2 * H) → mapSt W H 0 br k = br.take k ++ List.replicate (rowN W (2 * H) - k) 0
  | 0, _ => by simp [mapSt, mapW, mapH]
  | k + 1, hk => by
    obtain ⟨x, y, hP⟩ := IsPt.ex w1 h1 (show k < rowN W (2 * H) by omega)
    have e := thePt_eq hP
    have ei : idxM W H 0 k = k := by
      unfold idxM; rw [e]; simp [mapX, mapY, mapW, hP.num]
    have ek : k < br.length := by omega
    rw [mapSt, mapSt_none w1 h1 hl k (by omega), ei]
    have : kindM (at0 br k) 0 = br[k] := by simp [kindM, at0_of ek]
    rw [this, List.set_append_right _ _ (by rw [List.length_take]; omega), List.length_take, show k - min k br.length = 0 by omega, show rowN W (2 * H) - k = (rowN W (2 * H) - (k + 1)) + 1 by omega, List.replicate_succ, List.set_cons_zero, List.take_succ_eq_append_getElem ek, List.append_assoc]
    rfl
noncomputable def mapP (X : Pan) (s : Nat) : Pan := ((mapW X.1.toNat X.2.1.toNat s : Nat), (mapH X.1.toNat X.2.1.toNat s : Nat), mapSt X.1.toNat X.2.1.toNat s X.2.2 X.2.2.length)
theorem OkP.row {X : Pan} (ok : OkP X) : X.2.2.length = rowN X.1.toNat (2 * X.2.1.toNat) := by
  have h1 := ok.w; have h2 := ok.h; have h3 := ok.n
  have := rowN_end (W := X.1.toNat) (by omega) (H := X.2.1.toNat) (by omega) (by omega) (by omega)
  rw [Int.toNat_of_nonneg (by omega), Int.toNat_of_nonneg (by omega)] at this
  unfold inner at h3
  omega
theorem mapP_none {X : Pan} (ok : OkP X) : mapP X 0 = X := by
  have h1 := ok.w; have h2 := ok.h
  have hr := ok.row
  obtain ⟨W, H, br⟩ := X
  simp only [mapP] at *
  rw [hr, mapSt_none (by omega) (by omega) hr _ (Nat.le_refl _), ← hr]
  simp [mapW, mapH]
  omega
/-! ### the order of panels -/
def cmpI (a b : Int) : Int := if a < b then -1 else if b < a then 1 else 0
def cmpL : List Int → List Int → Int
  | [], [] => 0
  | [], _ :: _ => -1
  | _ :: _, [] => 1
  | a :: l, b :: m => if cmpI a b = 0 then cmpL l m else cmpI a b
def cmpP (X Y : Pan) : Int := if cmpI X.1 Y.1 ≠ 0 then cmpI X.1 Y.1 else if cmpI X.2.1 Y.2.1 ≠ 0 then cmpI X.2.1 Y.2.1 else cmpL X.2.2 Y.2.2
theorem cmpI_same {a b : Int} (h : a = b) : cmpI a b = 0 := by unfold cmpI; rw [if_neg (by omega), if_neg (by omega)]
theorem cmpI_zero {a b : Int} : cmpI a b = 0 ↔ a = b := by
  unfold cmpI; split
  · constructor <;> intro h <;> omega
  · split
    · constructor <;> intro h <;> omega
    · constructor <;> intro h <;> omega
/-- Lists that agree up to a place. -/
theorem cmpL_drop : ∀ {X Y : List Int} {k : Nat}, X.take k = Y.take k → k ≤ X.length → k ≤ Y.length → cmpL X Y = cmpL (X.drop k) (Y.drop k)
  | X, Y, 0, _, _, _ => by simp
  | [], Y, k + 1, _, h, _ => by simp at h
  | _ :: _, [], k + 1, _, _, h => by simp at h
  | a :: l, b :: m, k + 1, ht, h1, h2 => by
    simp only [List.take_succ_cons, List.cons.injEq] at ht
    simp only [List.drop_succ_cons, cmpL, ht.1, cmpI_same rfl, if_true]
    exact cmpL_drop ht.2 (by simpa using h1) (by simpa using h2)
theorem cmpL_at {X Y : List Int} {k : Nat} (ht : X.take k = Y.take k) (h1 : k < X.length) (h2 : k < Y.length) (hne : X[k] ≠ Y[k]) : cmpL X Y = cmpI X[k] Y[k] := by
  rw [cmpL_drop ht (by omega) (by omega), List.drop_eq_getElem_cons h1, List.drop_eq_getElem_cons h2, cmpL, if_neg (by rw [cmpI_zero]; exact hne)]
theorem cmpL_end {X Y : List Int} {k : Nat} (ht : X.take k = Y.take k) (h1 : k ≤ X.length) (h2 : k ≤ Y.length) (he : k = X.length ∨ k = Y.length) : cmpL X Y = cmpI X.length Y.length := by
  rw [cmpL_drop ht h1 h2]
  by_cases e1 : k = X.length
  · by_cases e2 : k = Y.length
    · rw [List.drop_eq_nil_of_le (by omega), List.drop_eq_nil_of_le (by omega), cmpL, cmpI_same (by omega)]
    · rw [List.drop_eq_nil_of_le (as := X) (by omega), List.drop_eq_getElem_cons (l := Y) (by omega), cmpL]
      unfold cmpI; rw [if_pos (by omega)]
  · rw [List.drop_eq_nil_of_le (as := Y) (by omega), List.drop_eq_getElem_cons (l := X) (by omega), cmpL]
    unfold cmpI; rw [if_neg (by omega), if_pos (by omega)]

noncomputable def canonF (X : Pan) : Nat → Pan
  | 0 => X
  | s + 1 => if cmpP (mapP X (s + 1)) (canonF X s) < 0 then mapP X (s + 1) else canonF X s
noncomputable def canonP (X : Pan) : Pan := canonF X 7
theorem OkP.siz {X : Pan} (ok : OkP X) : X.2.2.length ≤ 128 := by
  have h1 := ok.w; have h2 := ok.h
  rw [ok.row]
  exact rowN_le (by omega) (by omega)
end Am
/-! AmY7 -/
set_option linter.unusedVariables false
set_option linter.unusedSimpArgs false
set_option maxHeartbeats 4000000
set_option maxRecDepth 4000
namespace Am
open Go

section
variable {α : Type} (f R : α → α) (seg : α → Nat) (V : α → Prop) (N : Nat)
def itW (f : α → α) : Nat → α → α
  | 0, w => w
  | k + 1, w => f (itW f k w)
theorem itW_add {f : α → α} (i j : Nat) (w : α) : itW f (i + j) w = itW f j (itW f i w) := by
  induction j with
  | zero => rfl
  | succ j ih => rw [← Nat.add_assoc]; simp only [itW]; rw [ih]
/-- What makes the curves of walkers closed. -/
structure Walks : Prop where
  vf : ∀ w, V w → V (f w)
  vr : ∀ w, V w → V (R w)
  rr : ∀ w, R (R w) = w
  fr : ∀ w, V w → f (R (f w)) = R w
  ne : ∀ w, V w → f w ≠ R w
  nr : ∀ w, V w → R w ≠ w
  sg : ∀ w v, V w → V v → (seg w = seg v ↔ w = v ∨ w = R v)
  lt : ∀ w, V w → seg w < N
variable {f R seg V N}
theorem Walks.vi (a : Walks f R seg V N) {w : α} (h : V w) : ∀ k, V (itW f k w)
  | 0 => h
  | k + 1 => a.vf _ (a.vi h k)
theorem Walks.inj (a : Walks f R seg V N) {w v : α} (h1 : V w) (h2 : V v) (e : f w = f v) : w = v := by
  have e1 := a.fr w h1
  have e2 := a.fr v h2
  rw [e, e2] at e1
  rw [← a.rr w, ← e1, a.rr]
/-- A walker turned back walks back. -/
theorem Walks.back (a : Walks f R seg V N) {w : α} (h : V w) : ∀ k, itW f k (R (itW f k w)) = R w
  | 0 => rfl
  | k + 1 => by
    have e := a.fr _ (a.vi h k)
    have := a.back h k
    rw [show k + 1 = 1 + k by omega, itW_add, Nat.add_comm]
    simp only [itW]
    rw [e]; exact this
theorem Walks.injI (a : Walks f R seg V N) {u v : α} (h : V u) (h' : V v) : ∀ k, itW f k u = itW f k v → u = v
  | 0, e => e
  | k + 1, e => a.injI h h' k (a.inj (a.vi h k) (a.vi h' k) e)
theorem Walks.never (a : Walks f R seg V N) {w : α} (h : V w) (m : Nat) : itW f m w ≠ R w := by
  intro e
  rcases Nat.mod_two_eq_zero_or_one m with hm | hm
  · obtain ⟨k, rfl⟩ : ∃ k, m = k + k := ⟨m / 2, by omega⟩
    rw [itW_add] at e
    have hb := a.back h k
    rw [← e] at hb
    have := a.injI (a.vr _ (a.vi h k)) (a.vi h k) k hb
    exact a.nr _ (a.vi h k) this
  · obtain ⟨k, rfl⟩ : ∃ k, m = k + 1 + k := ⟨m / 2, by omega⟩
    rw [itW_add] at e
    have hb := a.back h k
    rw [← e] at hb
    have := a.injI (a.vr _ (a.vi h k)) (a.vi h (k + 1)) k hb
    exact a.ne _ (a.vi h k) this.symm
theorem Walks.same (a : Walks f R seg V N) {w : α} (h : V w) {i j : Nat} (hij : i ≤ j) (e : seg (itW f i w) = seg (itW f j w)) : itW f (j - i) w = w := by
  have hi := a.vi h i
  have hj := a.vi h j
  rcases (a.sg _ _ hj hi).1 e.symm with q | q
  · have : itW f i (itW f (j - i) w) = itW f i w := by
      rw [← itW_add, show j - i + i = j by omega, q]
    exact a.injI (a.vi h (j - i)) h i this
  · exfalso
    refine a.never hi (j - i) ?_
    rw [← itW_add, show i + (j - i) = j by omega]; exact q
theorem pigeon : ∀ (n : Nat) (g : Nat → Nat), (∀ i, i ≤ n → g i < n) → ∃ i j, i < j ∧ j ≤ n ∧ g i = g j
  | 0, g, hb => by have := hb 0 (Nat.le_refl _); omega
  | n + 1, g, hb => by
    by_cases q : ∃ i, i ≤ n ∧ g i = g (n + 1)
    · obtain ⟨i, h1, h2⟩ := q
      exact ⟨i, n + 1, by omega, Nat.le_refl _, h2⟩
    · have hc := hb (n + 1) (Nat.le_refl _)
      have hne : ∀ i, i ≤ n → g i ≠ g (n + 1) := fun i hi e => q ⟨i, hi, e⟩
      obtain ⟨i, j, h1, h2, h3⟩ := pigeon n (fun i => if g (n + 1) < g i then g i - 1 else g i) (fun i hi => by
        have := hne i hi
        have := hb i (by omega)
        split <;> omega)
      have e1 := hne i (by omega)
      have e2 := hne j (by omega)
      refine ⟨i, j, h1, by omega, ?_⟩
      split at h3 <;> split at h3 <;> omega
theorem least {P : Nat → Prop} : ∀ n, P n → ∃ m, m ≤ n ∧ P m ∧ ∀ k, k < m → ¬ P k := by
  intro n
  induction n using Nat.strongRecOn with
  | ind n ih =>
    intro hp
    by_cases q : ∃ k, k < n ∧ P k
    · obtain ⟨k, h1, h2⟩ := q
      obtain ⟨m, a, b, c⟩ := ih k h1 h2
      exact ⟨m, by omega, b, c⟩
    · exact ⟨n, Nat.le_refl _, hp, fun k hk hx => q ⟨k, hk, hx⟩⟩
/-- The length of a walker's curve. -/
theorem Walks.period (a : Walks f R seg V N) {w : α} (h : V w) : ∃ n, 0 < n ∧ n ≤ N ∧ itW f n w = w := by
  obtain ⟨i, j, h1, h2, h3⟩ := pigeon N (fun i => seg (itW f i w)) fun i _ => a.lt _ (a.vi h i)
  exact ⟨j - i, by omega, by omega, a.same h (by omega) h3⟩
open Classical in
noncomputable def perW (f : α → α) (w : α) : Nat := if h : ∃ n, (0 < n ∧ itW f n w = w) ∧ ∀ k, k < n → ¬ (0 < k ∧ itW f k w = w) then Classical.choose h else 0
theorem Walks.per (a : Walks f R seg V N) {w : α} (h : V w) : 0 < perW f w ∧ perW f w ≤ N ∧ itW f (perW f w) w = w ∧ ∀ j, 0 < j → j < perW f w → itW f j w ≠ w := by
  obtain ⟨n, h1, h2, h3⟩ := a.period h
  obtain ⟨m, m1, m2, m3⟩ := least (P := fun n => 0 < n ∧ itW f n w = w) n ⟨h1, h3⟩
  have e : ∃ n, (0 < n ∧ itW f n w = w) ∧ ∀ k, k < n → ¬ (0 < k ∧ itW f k w = w) := ⟨m, m2, m3⟩
  unfold perW
  rw [dif_pos e]
  obtain ⟨p1, p2⟩ := Classical.choose_spec e
  refine ⟨p1.1, ?_, p1.2, fun j hj hl hx => p2 j hl ⟨hj, hx⟩⟩
  by_cases q : Classical.choose e ≤ N
  · exact q
  · exact absurd ⟨h1, h3⟩ (p2 n (by omega))
theorem Walks.dist (a : Walks f R seg V N) {w : α} (h : V w) {i j : Nat} (hij : i < j) (hj : j < perW f w) : seg (itW f i w) ≠ seg (itW f j w) := by
  intro e
  exact (a.per h).2.2.2 (j - i) (by omega) (by omega) (a.same h (by omega) e)

/-! ### the curve of each segment -/
def paint (f : α → α) (seg : α → Nat) (w : α) (c : Int) (o : List Int) : Nat → List Int
  | 0 => o
  | k + 1 => (paint f seg w c o k).set (seg (itW f k w)) c
theorem paint_len {w : α} {c : Int} {o : List Int} : ∀ k, (paint f seg w c o k).length = o.length
  | 0 => rfl
  | k + 1 => by simp [paint, paint_len k]
theorem paint_at {w : α} {c : Int} {o : List Int} {s : Nat} (hs : s < o.length) : ∀ k, at0 (paint f seg w c o k) s = if ∃ j, j < k ∧ seg (itW f j w) = s then c else at0 o s
  | 0 => by simp [paint]
  | k + 1 => by
    simp only [paint]
    have ih := paint_at (w := w) (c := c) hs k
    have hl := paint_len (f := f) (seg := seg) (w := w) (c := c) (o := o) k
    by_cases e : seg (itW f k w) = s
    · rw [if_pos ⟨k, by omega, e⟩]
      unfold at0
      rw [List.getD_eq_getElem?_getD, e, List.getElem?_set_self (by omega)]; rfl
    · have : at0 ((paint f seg w c o k).set (seg (itW f k w)) c) s = at0 (paint f seg w c o k) s := by
        unfold at0
        rw [List.getD_eq_getElem?_getD, List.getElem?_set_ne e, ← List.getD_eq_getElem?_getD]
      rw [this, ih]
      by_cases q : ∃ j, j < k ∧ seg (itW f j w) = s
      · obtain ⟨j, a, b⟩ := q
        rw [if_pos ⟨j, a, b⟩, if_pos ⟨j, by omega, b⟩]
      · rw [if_neg q, if_neg]
        rintro ⟨j, a, b⟩
        by_cases ej : j = k
        · exact e (ej ▸ b)
        · exact q ⟨j, by omega, b⟩
/-- Owned segments are owned with all of their curve. -/
def Closed (f : α → α) (seg : α → Nat) (V : α → Prop) (o : List Int) : Prop := ∀ w, V w → (0 ≤ at0 o (seg w) ↔ 0 ≤ at0 o (seg (f w)))
theorem Closed.it (hV : ∀ w, V w → V (f w)) {o : List Int} (a : Closed f seg V o) {w : α} (h : V w) : ∀ k, V (itW f k w) ∧ (0 ≤ at0 o (seg w) ↔ 0 ≤ at0 o (seg (itW f k w)))
  | 0 => ⟨h, Iff.rfl⟩
  | k + 1 => by
    obtain ⟨h1, h2⟩ := Closed.it hV a h k
    exact ⟨hV _ h1, h2.trans (a _ h1)⟩
theorem Walks.closed (a : Walks f R seg V N) {w : α} (h : V w) {c : Int} (hc : 0 ≤ c) {o : List Int} (ho : o.length = N) (cl : Closed f seg V o) : Closed f seg V (paint f seg w c o (perW f w)) := by
  obtain ⟨p1, p2, p3, p4⟩ := a.per h
  intro v hv
  rw [paint_at (by rw [ho]; exact a.lt v hv), paint_at (by rw [ho]; exact a.lt _ (a.vf v hv))]
  have key : (∃ j, j < perW f w ∧ seg (itW f j w) = seg v) ↔ ∃ j, j < perW f w ∧ seg (itW f j w) = seg (f v) := by
    constructor
    · rintro ⟨j, h1, h2⟩
      rcases (a.sg _ _ (a.vi h j) hv).1 h2 with q | q
      · by_cases e : j + 1 < perW f w
        · exact ⟨j + 1, e, by simp only [itW]; rw [q]⟩
        · refine ⟨0, p1, ?_⟩
          have : itW f (j + 1) w = w := by rw [show j + 1 = perW f w by omega]; exact p3
          simp only [itW] at this ⊢
          rw [← q, this]
      · -- f^j w = R v, so R (f v) = f^(j-1) w
        have hb : f (R (f v)) = R v := a.fr v hv
        by_cases e : j = 0
        · subst e
          refine ⟨perW f w - 1, by omega, (a.sg _ _ (a.vi h _) (a.vf v hv)).2 (.inr ?_)⟩
          refine a.inj (a.vi h _) (a.vr _ (a.vf v hv)) ?_
          rw [hb, ← q]
          have : itW f (perW f w - 1 + 1) w = w := by rw [show perW f w - 1 + 1 = perW f w by omega]; exact p3
          exact this
        · refine ⟨j - 1, by omega, (a.sg _ _ (a.vi h _) (a.vf v hv)).2 (.inr ?_)⟩
          refine a.inj (a.vi h _) (a.vr _ (a.vf v hv)) ?_
          rw [hb, ← q]
          show itW f (j - 1 + 1) w = _
          rw [show j - 1 + 1 = j by omega]
    · rintro ⟨j, h1, h2⟩
      rcases (a.sg _ _ (a.vi h j) (a.vf v hv)).1 h2 with q | q
      · by_cases e : j = 0
        · subst e
          refine ⟨perW f w - 1, by omega, (a.sg _ _ (a.vi h _) hv).2 (.inl ?_)⟩
          refine a.inj (a.vi h _) hv ?_
          rw [← q]
          show itW f (perW f w - 1 + 1) w = _
          rw [show perW f w - 1 + 1 = perW f w by omega]; exact p3
        · refine ⟨j - 1, by omega, (a.sg _ _ (a.vi h _) hv).2 (.inl ?_)⟩
          refine a.inj (a.vi h _) hv ?_
          rw [← q]
          show itW f (j - 1 + 1) w = _
          rw [show j - 1 + 1 = j by omega]
      · -- f^j w = R (f v), so f^(j+1) w = R v
        have hb : f (R (f v)) = R v := a.fr v hv
        by_cases e : j + 1 < perW f w
        · exact ⟨j + 1, e, (a.sg _ _ (a.vi h _) hv).2 (.inr (by simp only [itW]; rw [q, hb]))⟩
        · refine ⟨0, p1, (a.sg _ _ h hv).2 (.inr ?_)⟩
          have : itW f (j + 1) w = w := by rw [show j + 1 = perW f w by omega]; exact p3
          simp only [itW] at this
          rw [q, hb] at this
          exact this.symm
  by_cases q : ∃ j, j < perW f w ∧ seg (itW f j w) = seg v
  · rw [if_pos q, if_pos (key.1 q)]
  · rw [if_neg q, if_neg (fun x => q (key.2 x))]; exact cl v hv

/-- After the first segments: the curve of each segment, the number of curves. -/
noncomputable def curvesSt (f : α → α) (seg : α → Nat) (wk : Nat → α) (N : Nat) : Nat → List Int × Nat
  | 0 => (List.replicate N (-1), 0)
  | k + 1 => if 0 ≤ at0 (curvesSt f seg wk N k).1 k then curvesSt f seg wk N k else (paint f seg (wk k) (curvesSt f seg wk N k).2 (curvesSt f seg wk N k).1 (perW f (wk k)), (curvesSt f seg wk N k).2 + 1)
theorem Walks.st (a : Walks f R seg V N) {wk : Nat → α} (hw : ∀ k, k < N → V (wk k)) : ∀ k, k ≤ N → (curvesSt f seg wk N k).1.length = N ∧ Closed f seg V (curvesSt f seg wk N k).1 ∧ (curvesSt f seg wk N k).2 ≤ k
  | 0, _ => by
    refine ⟨by simp [curvesSt], ?_, by simp [curvesSt]⟩
    intro w hw
    have h1 := a.lt w hw
    have h2 := a.lt _ (a.vf w hw)
    simp [curvesSt, at0, List.getD_eq_getElem?_getD, List.getElem?_replicate, h1, h2]
  | k + 1, hk => by
    obtain ⟨h1, h2, h3⟩ := Walks.st a hw k (by omega)
    simp only [curvesSt]
    split
    · exact ⟨h1, h2, by omega⟩
    · exact ⟨by rw [paint_len, h1], a.closed (hw k (by omega)) (by omega) h1 h2, by simp only; omega⟩
/-- The steps of the walk that paints a curve: not owned before the end, owned at the end. -/
theorem Walks.run (a : Walks f R seg V N) {w : α} (h : V w) {c : Int} (hc : 0 ≤ c) {o : List Int} (ho : o.length = N) (cl : Closed f seg V o) (hn : at0 o (seg w) < 0) :
    (∀ k, k < perW f w → at0 (paint f seg w c o k) (seg (itW f k w)) < 0) ∧ 0 ≤ at0 (paint f seg w c o (perW f w)) (seg (itW f (perW f w) w)) := by
  obtain ⟨p1, p2, p3, p4⟩ := a.per h
  constructor
  · intro k hk
    have hv := a.vi h k
    rw [paint_at (by rw [ho]; exact a.lt _ hv), if_neg]
    · have := (Closed.it a.vf cl h k).2
      omega
    · rintro ⟨j, hj, e⟩
      exact a.dist h hj hk e
  · rw [p3, paint_at (by rw [ho]; exact a.lt _ h), if_pos ⟨0, p1, rfl⟩]; exact hc
end

/-! ### the walkers of a panel -/
abbrev Wk := Int × Int × Int × Int
def edgeW (W H : Nat) (x y : Int) : Prop := x = 0 ∨ x = 2 * W ∨ y = 0 ∨ y = 2 * H
instance (W H : Nat) (x y : Int) : Decidable (edgeW W H x y) := by unfold edgeW; infer_instance
def kindW (W H : Nat) (br : List Int) (x y : Int) : Int := if edgeW W H x y then 0 else at0 br (numP W x.toNat y.toNat)
def stepW (W H : Nat) (br : List Int) (w : Wk) : Wk :=
  (w.1 + w.2.2.1, w.2.1 + w.2.2.2,
   if w.1 + w.2.2.1 = 0 ∨ w.1 + w.2.2.1 = 2 * W ∨ kindW W H br (w.1 + w.2.2.1) (w.2.1 + w.2.2.2) = 1 then -w.2.2.1 else w.2.2.1,
   if w.2.1 + w.2.2.2 = 0 ∨ w.2.1 + w.2.2.2 = 2 * H ∨ kindW W H br (w.1 + w.2.2.1) (w.2.1 + w.2.2.2) = 2 then -w.2.2.2 else w.2.2.2)
def backW (w : Wk) : Wk := (w.1 + w.2.2.1, w.2.1 + w.2.2.2, -w.2.2.1, -w.2.2.2)
structure OkW (W H : Nat) (w : Wk) : Prop where
  dx : w.2.2.1 = 1 ∨ w.2.2.1 = -1
  dy : w.2.2.2 = 1 ∨ w.2.2.2 = -1
  x : 0 ≤ w.1 ∧ w.1 ≤ 2 * W
  y : 0 ≤ w.2.1 ∧ w.2.1 ≤ 2 * H
  nx : 0 ≤ w.1 + w.2.2.1 ∧ w.1 + w.2.2.1 ≤ 2 * W
  ny : 0 ≤ w.2.1 + w.2.2.2 ∧ w.2.1 + w.2.2.2 ≤ 2 * H
  p : (w.1 + w.2.1) % 2 = 1
def minI (a b : Int) : Int := if a ≤ b then a else b
def segW (H : Nat) (w : Wk) : Nat := (minI w.1 (w.1 + w.2.2.1) * (2 * H) + minI w.2.1 (w.2.1 + w.2.2.2)).toNat
theorem minI_one {x d : Int} (h : d = 1 ∨ d = -1) : minI x (x + d) = if d = 1 then x else x - 1 := by
  unfold minI; rcases h with rfl | rfl
  · rw [if_pos (by omega), if_pos rfl]
  · rw [if_neg (by omega), if_neg (by omega)]; omega
theorem pair_eq {H a b c d : Int} (h : 0 < H) (hb : 0 ≤ b ∧ b < H) (hd : 0 ≤ d ∧ d < H) (e : a * H + b = c * H + d) : a = c ∧ b = d := by
  have h1 : (a * H + b) / H = a := by
    rw [Int.add_comm, Int.add_mul_ediv_right _ _ (by omega), Int.ediv_eq_zero_of_lt hb.1 hb.2]; omega
  have h2 : (c * H + d) / H = c := by
    rw [Int.add_comm, Int.add_mul_ediv_right _ _ (by omega), Int.ediv_eq_zero_of_lt hd.1 hd.2]; omega
  have : a = c := by rw [← h1, e, h2]
  subst this
  exact ⟨rfl, by omega⟩
theorem seg_bd {W H : Nat} {w : Wk} (h : OkW W H w) : (0 ≤ minI w.1 (w.1 + w.2.2.1) ∧ minI w.1 (w.1 + w.2.2.1) ≤ 2 * W - 1) ∧ (0 ≤ minI w.2.1 (w.2.1 + w.2.2.2) ∧ minI w.2.1 (w.2.1 + w.2.2.2) ≤ 2 * H - 1) := by
  obtain ⟨dx, dy, x, y, nx, ny, p⟩ := h
  rw [minI_one dx, minI_one dy]
  rcases dx with e | e <;> rcases dy with e' | e' <;> rw [e, e'] <;> rw [e] at nx <;> rw [e'] at ny <;> simp <;> omega
theorem seg_cast {W H : Nat} {w : Wk} (h : OkW W H w) : (segW H w : Int) = minI w.1 (w.1 + w.2.2.1) * (2 * H) + minI w.2.1 (w.2.1 + w.2.2.2) := by
  obtain ⟨⟨a, _⟩, b, _⟩ := seg_bd h
  have : 0 ≤ minI w.1 (w.1 + w.2.2.1) * (2 * (H : Int)) := Int.mul_nonneg a (by omega)
  unfold segW; omega
theorem seg_lt {W H : Nat} {w : Wk} (h : OkW W H w) : segW H w < 4 * W * H := by
  obtain ⟨⟨a, a'⟩, b, b'⟩ := seg_bd h
  have hc := seg_cast h
  have h1 : minI w.1 (w.1 + w.2.2.1) * (2 * (H : Int)) ≤ (2 * W - 1) * (2 * H) := Int.mul_le_mul_of_nonneg_right a' (by omega)
  have h2 : ((2 : Int) * W - 1) * (2 * H) = 4 * W * H - 2 * H := by
    rw [Int.sub_mul]; simp only [Int.one_mul]
    congr 1
    rw [show (2 : Int) * W * (2 * H) = (2 * 2) * (W * H) by ac_rfl, show (4 : Int) * W * H = 4 * (W * H) by ac_rfl]
    rfl
  have h3 : ((4 * W * H : Nat) : Int) = 4 * W * H := by simp
  omega
theorem kindW_edge {W H : Nat} {br : List Int} {x y : Int} (h : edgeW W H x y) : kindW W H br x y = 0 := if_pos h
theorem walks {W H : Nat} {br : List Int} (w1 : 1 ≤ W) (h1 : 1 ≤ H) : Walks (stepW W H br) backW (segW H) (OkW W H) (4 * W * H) where
  vf := by
    rintro ⟨x, y, dx, dy⟩ ⟨hdx, hdy, hx, hy, hnx, hny, hp⟩
    simp only at *
    have c1 : ∀ k : Int, (if x + dx = 0 ∨ x + dx = 2 * (W : Int) ∨ k = 1 then -dx else dx) = 1 ∨ (if x + dx = 0 ∨ x + dx = 2 * (W : Int) ∨ k = 1 then -dx else dx) = -1 := by intro k; split <;> omega
    have c2 : ∀ k : Int, (if y + dy = 0 ∨ y + dy = 2 * (H : Int) ∨ k = 2 then -dy else dy) = 1 ∨ (if y + dy = 0 ∨ y + dy = 2 * (H : Int) ∨ k = 2 then -dy else dy) = -1 := by intro k; split <;> omega
    refine ⟨c1 _, c2 _, hnx, hny, ?_, ?_, by simp only [stepW]; omega⟩
    · simp only [stepW]; split <;> omega
    · simp only [stepW]; split <;> omega
  vr := by
    rintro ⟨x, y, dx, dy⟩ ⟨hdx, hdy, hx, hy, hnx, hny, hp⟩
    simp only at *
    refine ⟨?_, ?_, hnx, hny, ?_, ?_, ?_⟩ <;> simp only [backW] <;> omega
  rr := by
    rintro ⟨x, y, dx, dy⟩
    simp only [backW, Prod.mk.injEq]
    omega
  fr := by
    rintro ⟨x, y, dx, dy⟩ ⟨hdx, hdy, hx, hy, hnx, hny, hp⟩
    simp only at *
    have e1 : ∀ a : Int, x + dx + a + -a = x + dx := by intro a; omega
    have e2 : ∀ a : Int, y + dy + a + -a = y + dy := by intro a; omega
    simp only [stepW, backW, e1, e2, Prod.mk.injEq, true_and]
    constructor
    · split <;> simp
    · split <;> simp
  ne := by
    rintro ⟨x, y, dx, dy⟩ ⟨hdx, hdy, hx, hy, hnx, hny, hp⟩ e
    simp only [stepW, backW, Prod.mk.injEq, true_and] at *
    obtain ⟨e1, e2⟩ := e
    have hk := kindW_edge (W := W) (H := H) (br := br) (x := x + dx) (y := y + dy)
    unfold edgeW at hk
    split at e1
    · split at e2
      · rename_i q1 q2
        have : ¬ (x + dx = 0 ∨ x + dx = 2 * (W : Int) ∨ y + dy = 0 ∨ y + dy = 2 * (H : Int)) ∨ kindW W H br (x + dx) (y + dy) = 0 := by
          by_cases q : x + dx = 0 ∨ x + dx = 2 * (W : Int) ∨ y + dy = 0 ∨ y + dy = 2 * (H : Int)
          · exact .inr (hk q)
          · exact .inl q
        omega
      · omega
    · omega
  nr := by
    rintro ⟨x, y, dx, dy⟩ ⟨hdx, hdy, hx, hy, hnx, hny, hp⟩ e
    simp only [backW, Prod.mk.injEq] at *
    omega
  sg := by
    intro w v hw hv
    have cw := seg_cast hw
    have cv := seg_cast hv
    obtain ⟨⟨a, a'⟩, b, b'⟩ := seg_bd hw
    obtain ⟨⟨c, c'⟩, d, d'⟩ := seg_bd hv
    constructor
    · intro e
      rw [e, cv] at cw
      obtain ⟨e1, e2⟩ := pair_eq (H := 2 * (H : Int)) (by omega) ⟨d, by omega⟩ ⟨b, by omega⟩ cw
      obtain ⟨x, y, dx, dy⟩ := w
      obtain ⟨x', y', dx', dy'⟩ := v
      obtain ⟨hdx, hdy, hx, hy, hnx, hny, hp⟩ := hw
      obtain ⟨hdx', hdy', hx', hy', hnx', hny', hp'⟩ := hv
      simp only at *
      rw [minI_one hdx, minI_one hdx'] at e1
      rw [minI_one hdy, minI_one hdy'] at e2
      simp only [backW, Prod.mk.injEq]
      rcases hdx with rfl | rfl <;> rcases hdy with rfl | rfl <;> rcases hdx' with rfl | rfl <;> rcases hdy' with rfl | rfl <;> simp at e1 e2 ⊢ <;> omega
    · rintro (e | e)
      · rw [e]
      · have : (segW H w : Int) = segW H v := by
          rw [cw, cv, e]
          obtain ⟨x', y', dx', dy'⟩ := v
          simp only [backW]
          have q1 : ∀ p d : Int, minI (p + d) (p + d + -d) = minI p (p + d) := by
            intro p d; unfold minI
            rw [show p + d + -d = p by omega]
            split <;> split <;> omega
          rw [q1, q1]
        omega
  lt := fun w h => seg_lt h
/-- The walker along a segment, to the right. -/
def wkW (H : Nat) (k : Nat) : Wk := if (k / (2 * H) + k % (2 * H)) % 2 = 1 then ((k / (2 * H) : Nat), (k % (2 * H) : Nat), 1, 1) else ((k / (2 * H) : Nat), (k % (2 * H) : Nat) + 1, 1, -1)
theorem wkW_ok {W H k : Nat} (h1 : 1 ≤ H) (hk : k < 4 * W * H) : OkW W H (wkW H k) := by
  have a : k % (2 * H) < 2 * H := Nat.mod_lt _ (by omega)
  have b : k / (2 * H) < 2 * W := by
    rw [Nat.div_lt_iff_lt_mul (by omega)]
    have : 2 * W * (2 * H) = 4 * W * H := by
      rw [show 2 * W * (2 * H) = (2 * 2) * (W * H) by ac_rfl, show 4 * W * H = 4 * (W * H) by ac_rfl]
    omega
  unfold wkW
  generalize k / (2 * H) = q at *
  generalize k % (2 * H) = r at *
  split <;> constructor <;> simp only <;> first | omega | simp
theorem wkW_seg {W H k : Nat} (h1 : 1 ≤ H) (hk : k < 4 * W * H) : segW H (wkW H k) = k := by
  have hc := seg_cast (wkW_ok (W := W) h1 hk)
  have hd := Nat.div_add_mod k (2 * H)
  have hd' : ((2 * H * (k / (2 * H)) : Nat) : Int) = ((k / (2 * H) : Nat) : Int) * (2 * H) := by
    rw [Nat.mul_comm]; simp
  have : (segW H (wkW H k) : Int) = k := by
    rw [hc]
    unfold wkW minI
    split
    · simp only; rw [if_pos (by omega), if_pos (by omega)]; omega
    · simp only; rw [if_pos (by omega), if_neg (by omega)]; omega
  omega
noncomputable def curvesP (X : Pan) : List Int × Nat := curvesSt (stepW X.1.toNat X.2.1.toNat X.2.2) (segW X.2.1.toNat) (wkW X.2.1.toNat) (4 * X.1.toNat * X.2.1.toNat) (4 * X.1.toNat * X.2.1.toNat)
/-- The number of curves. -/
noncomputable def curveN (X : Pan) : Nat := (curvesP X).2
end Am
/-! AmY2 -/
set_option linter.unusedVariables false
set_option linter.unusedSimpArgs false
set_option maxHeartbeats 4000000
set_option maxRecDepth 4000
namespace Am
open Go

/-! ### names -/
def small (c : UInt8) : Bool := decide ((97 : Int) ≤ c.toNat) && decide ((c.toNat : Int) ≤ 122)
def nameC (c : UInt8) : Bool := small c || (isDig c || decide (c = 45))
def nameOk (s : List UInt8) : Bool := decide (1 ≤ s.length) && (decide (s.length ≤ 12) && (small (at8 s 0) && s.all nameC))

/-! ### the order of texts -/
theorem lexLt_not : ∀ a b : List UInt8, lexLt a b = !(lexLt b a || decide (b = a))
  | [], [] => by simp [lexLt]
  | [], b :: m => by simp [lexLt]
  | a :: l, [] => by simp [lexLt]
  | a :: l, b :: m => by
    have ih := lexLt_not l m
    simp only [lexLt, List.cons.injEq]
    by_cases e : a = b
    · subst e
      simp [ih]
    · have e' : ¬ b = a := fun h => e h.symm
      rcases UInt8.lt_or_lt_of_ne e with h | h
      · have h2 : ¬ b < a := UInt8.lt_asymm h
        simp [h, e', h2]
      · have h2 : ¬ a < b := UInt8.lt_asymm h
        simp [h, e, h2]
theorem lexLt_trans : ∀ {a b c : List UInt8}, lexLt a b = true → lexLt b c = true → lexLt a c = true
  | [], b, [], h1, h2 => by cases b <;> simp [lexLt] at h2
  | [], b, c :: n, h1, h2 => by simp [lexLt]
  | a :: l, [], c, h1, h2 => by simp [lexLt] at h1
  | a :: l, b :: m, [], h1, h2 => by simp [lexLt] at h2
  | a :: l, b :: m, c :: n, h1, h2 => by
    simp only [lexLt, Bool.or_eq_true, Bool.and_eq_true, decide_eq_true_eq, beq_iff_eq] at h1 h2 ⊢
    rcases h1 with h1 | ⟨e1, h1⟩
    · rcases h2 with h2 | ⟨e2, h2⟩
      · exact .inl (UInt8.lt_trans h1 h2)
      · exact .inl (e2 ▸ h1)
    · subst e1
      rcases h2 with h2 | ⟨e2, h2⟩
      · exact .inl h2
      · exact .inr ⟨e2, lexLt_trans h1 h2⟩

/-! ### libraries -/
abbrev Lib := List Kpt
def kN (X : Lib) (i : Nat) : List UInt8 := (X.getD i ([], 0, 0, [])).1
def kP (X : Lib) (i : Nat) : Pan := (X.getD i ([], 0, 0, [])).2
theorem kN_of {X : Lib} {i : Nat} (h : i < X.length) : kN X i = X[i].1 := by simp [kN, h]
theorem kP_of {X : Lib} {i : Nat} (h : i < X.length) : kP X i = X[i].2 := by simp [kP, h]
/-- The index of a panel; the length if there is none. -/
def likeN (X : Lib) (p : Pan) : Nat := X.findIdx fun k => decide (k.2 = p)
def nameN (X : Lib) (s : List UInt8) : Nat := X.findIdx fun k => decide (k.1 = s)
theorem likeN_le (X : Lib) (p : Pan) : likeN X p ≤ X.length := List.findIdx_le_length
theorem likeN_lt {X : Lib} {p : Pan} : likeN X p < X.length ↔ ∃ e ∈ X, e.2 = p := by
  unfold likeN; rw [List.findIdx_lt_length]; simp
/-- An index, or -1. -/
def ixI (k n : Nat) : Int := if k < n then k else -1
noncomputable def entOk (X : Lib) (i : Nat) : Bool := nameOk (kN X i) && (okP (kP X i) && ((decide (i = 0) || lexLt (kN X (i - 1)) (kN X i)) && (samP (canonP (kP X i)) (kP X i) && decide (likeN (X.take i) (kP X i) = i))))
noncomputable def allEnt (X : Lib) (k : Nat) : Bool := (List.range k).all (entOk X)
theorem allEnt_succ (X : Lib) (k : Nat) : allEnt X (k + 1) = (allEnt X k && entOk X k) := by simp [allEnt, List.range_succ]
noncomputable def keptOk (X : Lib) : Bool := decide (X.length ≤ 40) && allEnt X X.length
theorem allEnt_mono {X : Lib} : ∀ {k n : Nat}, k ≤ n → allEnt X n = true → allEnt X k = true := by
  intro k n h a
  simp only [allEnt, List.all_eq_true, List.mem_range] at a ⊢
  exact fun i hi => a i (by omega)
theorem keptOk_not {X : Lib} {k : Nat} (hk : k < X.length) (h : entOk X k = false) : keptOk X = false := by
  refine Bool.eq_false_iff.2 fun hc => ?_
  simp only [keptOk, Bool.and_eq_true, decide_eq_true_eq] at hc
  have := allEnt_mono (k := k + 1) (by omega) hc.2
  rw [allEnt_succ, h] at this
  simp at this
structure EntOk (X : Lib) (i : Nat) : Prop where
  name : nameOk (kN X i) = true
  ok : OkP (kP X i)
  ord : i = 0 ∨ lexLt (kN X (i - 1)) (kN X i) = true
  canon : canonP (kP X i) = kP X i
  new : likeN (X.take i) (kP X i) = i
theorem entOk_iff {X : Lib} {i : Nat} : entOk X i = true ↔ EntOk X i := by
  simp only [entOk, Bool.and_eq_true, Bool.or_eq_true, decide_eq_true_eq, okP_iff, samP]
  exact ⟨fun ⟨a, b, c, d, e⟩ => ⟨a, b, c, d, e⟩, fun ⟨a, b, c, d, e⟩ => ⟨a, b, c, d, e⟩⟩
structure KeptOk (X : Lib) : Prop where
  len : X.length ≤ 40
  ent : ∀ i, i < X.length → EntOk X i
theorem keptOk_iff {X : Lib} : keptOk X = true ↔ KeptOk X := by
  simp only [keptOk, Bool.and_eq_true, decide_eq_true_eq, allEnt, List.all_eq_true, List.mem_range, entOk_iff]
  exact ⟨fun ⟨a, b⟩ => ⟨a, b⟩, fun ⟨a, b⟩ => ⟨a, b⟩⟩
theorem KeptOk.name12 {X : Lib} (ok : KeptOk X) {i : Nat} (hi : i < X.length) : (kN X i).length ≤ 12 ∧ 1 ≤ (kN X i).length := by
  have := (ok.ent i hi).name
  simp only [nameOk, Bool.and_eq_true, decide_eq_true_eq] at this
  exact ⟨this.2.1, this.1⟩
end Am
