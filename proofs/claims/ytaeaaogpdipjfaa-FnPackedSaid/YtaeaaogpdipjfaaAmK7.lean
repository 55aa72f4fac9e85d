/- Contracts: AmS9. -/
import Derived.Test.YtaeaaogpdipjfaaAmK6
/-! AmS9 -/
set_option linter.unusedVariables false
set_option linter.unusedSimpArgs false
set_option maxHeartbeats 4000000
set_option maxRecDepth 4000
namespace Am
open Go

theorem hexD_val : ∀ n : Fin 16, digitV (hexD n.val) = (n.val : Int) := by decide +kernel
theorem rdHex_text : ∀ (l acc : List UInt8), rdHex (hexText l) acc = (acc ++ l, true)
  | [], acc => by simp [hexText, rdHex]
  | c :: l, acc => by
    have hc : c.toNat < 256 := UInt8.toNat_lt _
    have a := hexD_val ⟨c.toNat / 16, by omega⟩
    have b := hexD_val ⟨c.toNat % 16, by omega⟩
    simp only at a b
    have e : hexText (c :: l) = hexD (c.toNat / 16) :: hexD (c.toNat % 16) :: hexText l := by simp [hexText, hexOf]
    rw [e]
    simp only [rdHex]
    rw [if_neg (by rw [a, b]; omega), rdHex_text l, a, b]
    have : UInt8.ofNat (16 * ((c.toNat / 16 : Nat) : Int) + ((c.toNat % 16 : Nat) : Int)).toNat = c := by
      have : (16 * ((c.toNat / 16 : Nat) : Int) + ((c.toNat % 16 : Nat) : Int)).toNat = c.toNat := by omega
      rw [this]; simp
    rw [this]; simp
theorem hexText_length (l : List UInt8) : (hexText l).length = 2 * l.length := by
  induction l with
  | nil => rfl
  | cons c l ih =>
    have e : hexText (c :: l) = hexD (c.toNat / 16) :: hexD (c.toNat % 16) :: hexText l := by simp [hexText, hexOf]
    rw [e]; simp only [List.length_cons, ih]; omega
theorem readHex_text (l : List UInt8) : readHex (hexText l) = (l, true) := by
  unfold readHex
  rw [if_neg (by rw [hexText_length]; omega), rdHex_text]; simp
theorem unAns_pack {X : Pan} (ok : OkP X) : unAns (packP X) = (X, 0) := by
  unfold unAns; rw [unOk_pack ok, unP_pack ok]; rfl
theorem unAns_yes {u : List UInt8} (h : unOk u = true) : unAns u = (unP u, 0) ∧ okP (unP u) = true ∧ packP (unP u) = u := by
  unfold unAns
  rw [h]
  unfold unOk at h
  simp only [Bool.and_eq_true, decide_eq_true_eq] at h
  have hl := h.1
  unfold lenOk at hl
  simp only [Bool.and_eq_true, decide_eq_true_eq] at hl
  exact ⟨rfl, okP_iff.2 (unP_ok hl.2.1), h.2⟩

theorem c362 (h : Heap) (v : Value) (X : List Int) (hp : 0 < h.length) (hv : Vr h shBytes v X) : ACall Gam 362 [v] h fun r h' => ∃ P : Pan, P.2.2.length ≤ 200 ∧ Grows h h' ∧ Vo h' h.length h'.length shPanel r P := by
  refine ACall_intro g362 rfl ?_
  unfold fn362
  simp (disch := omega)
  refine callW_of (c431 h v X hv) ?_
  rintro _ h1 ⟨rfl, g1, l1, hs1⟩
  try refine ⟨fun e => (by first | exact g1 | cases e), ?_⟩
  try simp (disch := omega)
  refine callW_of (c443 h1 h.length 0 hs1 (by omega)) ?_
  rintro _ h2 ⟨P, hl, md, o, _⟩
  try refine ⟨fun e => (by cases e), ?_⟩
  obtain ⟨W, H, br⟩ := P
  have o' := o
  obtain ⟨s, rfl, _, _, os⟩ := o.panel
  obtain ⟨b, z, e, _⟩ := os.ints
  subst e
  have g := md.grows g1 (Nat.le_refl _)
  simp (disch := omega) [resOf, resAll, resOne, aField]
  exact ⟨W, H, br, hl, g, o'.wide (by omega) (Nat.le_refl _)⟩
theorem c375 (h : Heap) (v : Value) (X : List Int) (hp : 0 < h.length) (hv : Vr h shBytes v X) : ACall Gam 375 [v] h fun r h' => ∃ s : List UInt8, r = S s ∧ s.length ≤ 200 ∧ Grows h h' := by
  refine ACall_intro g375 rfl ?_
  unfold fn375
  simp (disch := omega)
  refine callW_of (c431 h v X hv) ?_
  rintro _ h1 ⟨rfl, g1, l1, hs1⟩
  try refine ⟨fun e => (by first | exact g1 | cases e), ?_⟩
  try simp (disch := omega)
  refine callW_of (c565 h1 h.length 0 hs1 (by omega)) ?_
  rintro _ h2 ⟨s, rfl, hl, md, _⟩
  try refine ⟨fun e => (by cases e), ?_⟩
  have g := md.grows g1 (Nat.le_refl _)
  simp (disch := omega)
  exact ⟨hl, g⟩
theorem c363 (h : Heap) (v : Value) (X : List Int) (hp : 0 < h.length) (hv : Vr h shBytes v X) : ACall Gam 363 [v] h fun r h' => ∃ a b : Int, r = .tuple #[I a, I b] ∧ (-1 ≤ a ∧ a ≤ 9) ∧ (-1 ≤ b ∧ b ≤ 9) ∧ Grows h h' := by
  refine ACall_intro g363 rfl ?_
  unfold fn363
  rw [awp_seq, awp_reg]
  generalize hK : seqQ Gam _ _ 0 = K
  simp (disch := omega)
  subst hK
  simp only [seqQ_zero]
  simp (disch := omega)
  refine callW_of (c431 h v X hv) ?_
  rintro _ h1 ⟨rfl, g1, l1, hs1⟩
  try refine ⟨fun e => (by first | exact g1 | cases e), ?_⟩
  try simp (disch := omega)
  refine callW_of (c7 h1 h.length 0 11 hs1 (by omega) (by unfold I64; omega)) ?_
  rintro _ h2 ⟨x, rfl, _, x2, md2, l2, hs2⟩
  try refine ⟨fun e => (by cases e), ?_⟩
  have hx := x2 (by omega)
  simp (disch := omega) [wrap64]
  refine callW_of (c7 h2 h.length _ 11 hs2 (by omega) (by unfold I64; omega)) ?_
  rintro _ h3 ⟨y, rfl, _, y2, md3, l3, hs3⟩
  try refine ⟨fun e => (by cases e), ?_⟩
  have hy := y2 (by omega)
  have g := (md2.trans md3).grows g1 (Nat.le_refl _)
  simp (disch := omega) [wrap64]
  first
    | exact ⟨_, _, rfl, ⟨by omega, by omega⟩, ⟨by omega, by omega⟩, g⟩
    | exact ⟨_, _, ⟨rfl, rfl⟩, ⟨by omega, by omega⟩, ⟨by omega, by omega⟩, g⟩
    | (trace_state; done)
theorem c369 (h : Heap) (v : Value) (X : List Int) (hp : 0 < h.length) (hv : Vr h shBytes v X) : ACall Gam 369 [v] h fun r h' => ∃ s : List UInt8, r = S s ∧ s.length ≤ 500 ∧ Grows h h' := by
  refine ACall_intro g369 rfl ?_
  unfold fn369
  rw [awp_seq, awp_reg]
  generalize hK : seqQ Gam _ _ 0 = K
  simp (disch := omega)
  subst hK
  simp only [seqQ_zero]
  rw [awp_seq, awp_reg]
  generalize hK : seqQ Gam _ _ 0 = K
  simp (disch := omega)
  refine callW_of (c431 h v X hv) ?_
  rintro _ h1 ⟨rfl, g1, l1, hs1⟩
  try refine ⟨fun e => (by first | exact g1 | cases e), ?_⟩
  try simp (disch := omega)
  subst hK
  simp only [seqQ_zero]
  rw [awp_seq, awp_reg]
  generalize hK : seqQ Gam _ _ 0 = K
  simp (disch := omega)
  refine callW_of (c565 h1 h.length 0 hs1 (by omega)) ?_
  rintro _ h2 ⟨s, rfl, hl, md, hs2⟩
  try refine ⟨fun e => (by cases e), ?_⟩
  try simp (disch := omega)
  have L := md.1
  refine callW_of (c380 s (by omega) h2 (by omega)) ?_
  rintro _ h3 ⟨rfl, g3⟩
  try refine ⟨fun e => (by first | exact g3 | cases e), ?_⟩
  have hs3 := hs2.grow g3
  have hh := hexText_length s
  obtain ⟨t, ht⟩ : ∃ t, t = hexText s := ⟨_, rfl⟩
  rw [← ht] at hh ⊢
  have md3 := md.trans g3.mod
  try simp (disch := omega)
  subst hK
  simp only [seqQ_zero]
  rw [awp_seq]
  generalize hK : seqQ Gam _ _ = K
  simp (disch := omega)
  refine callW_of (c6 h3 h.length _ 3 hs3 (by omega) (by unfold I64; omega)) ?_
  rintro _ h4 ⟨w, rfl, md4, l4, hs4⟩
  try refine ⟨fun e => (by cases e), ?_⟩
  cases w
  · simp (disch := omega)
    subst hK
    simp (disch := omega)
    exact ⟨by omega, (md3.trans md4).grows g1 (Nat.le_refl _)⟩
  · simp (disch := omega)
    refine callW_of (c442 h4 h.length _ t hs4 (by omega) (by omega)) ?_
    rintro _ h5 ⟨u, rfl, hu, md5⟩
    try refine ⟨fun e => (by cases e), ?_⟩
    subst hK
    simp (disch := omega)
    exact ⟨by omega, ((md3.trans md4).trans md5).grows g1 (Nat.le_refl _)⟩
end Am
