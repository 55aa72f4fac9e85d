/- Contracts: AmJ15, AmS1, AmS2, AmS3, AmS4. -/
import Derived.Test.YtaeaaogpdipjfaaAmK4
import Derived.Test.YtaeaaogpdipjfaaAmK2
/-! AmJ15 -/
set_option linter.unusedVariables false
set_option linter.unusedSimpArgs false
set_option maxHeartbeats 4000000
namespace Am
open Go

theorem at0_set {l : List Int} {k : Nat} {v : Int} (hk : k < l.length) : at0 (l.set k v) k = v := by
  rw [at0_of (by simpa using hk)]; simp
theorem set_at0 {l : List Int} {k : Nat} (hk : k < l.length) : l.set k (at0 l k) = l := by
  rw [at0_of hk, List.set_getElem_self]
theorem okP_set {W H : Int} {br : List Int} {k : Nat} {v : Int} (h : okP (W, H, br) = true) (hv : 0 ≤ v ∧ v ≤ 2) : okP (W, H, br.set k v) = true := by
  rw [okP_iff] at h ⊢
  refine ⟨h.w, h.h, by simpa using h.n, fun x hx => ?_⟩
  rcases List.mem_or_eq_of_mem_set hx with hx | rfl
  · exact h.b x hx
  · exact hv
theorem okJ_iff {X : Jrn} : okJ X = true ↔ okP X.1 = true ∧ X.2.1.length + X.2.2.length ≤ 50 ∧ (∃ c, runB X.2.1.reverse X.1.2.2 = some c) ∧ ∃ c, runF X.2.2 X.1.2.2 = some c := by
  unfold okJ
  simp only [Bool.and_eq_true, decide_eq_true_eq, Option.isSome_iff_exists]
theorem runB_cons {s : Trip} {l : List Trip} {br c : List Int} (h : runB (s :: l) br = some c) : okStep br.length s = true ∧ at0 br s.1.toNat = s.2.2 ∧ runB l (br.set s.1.toNat s.2.1) = some c := by
  simp only [runB] at h
  split at h
  · rename_i hc; simp at hc; exact ⟨hc.1, hc.2, h⟩
  · cases h
theorem runF_cons {s : Trip} {l : List Trip} {br c : List Int} (h : runF (s :: l) br = some c) : okStep br.length s = true ∧ at0 br s.1.toNat = s.2.1 ∧ runF l (br.set s.1.toNat s.2.2) = some c := by
  simp only [runF] at h
  split at h
  · rename_i hc; simp at hc; exact ⟨hc.1, hc.2, h⟩
  · cases h
theorem runB_mk {s : Trip} {l : List Trip} {br c : List Int} (h1 : okStep br.length s = true) (h2 : at0 br s.1.toNat = s.2.2) (h : runB l (br.set s.1.toNat s.2.1) = some c) : runB (s :: l) br = some c := by
  simp only [runB, h1, h2, decide_true, Bool.and_self, if_true]; exact h
theorem runF_step {s : Trip} {l : List Trip} {br c : List Int} (h1 : okStep br.length s = true) (h2 : at0 br s.1.toNat = s.2.1) (h : runF l (br.set s.1.toNat s.2.2) = some c) : runF (s :: l) br = some c := by
  simp only [runF, h1, h2, decide_true, Bool.and_self, if_true]; exact h
theorem step_bd {n : Nat} {s : Trip} (h : okStep n s = true) : s.1.toNat < n ∧ (0 ≤ s.2.1 ∧ s.2.1 ≤ 2) ∧ (0 ≤ s.2.2 ∧ s.2.2 ≤ 2) := by
  have := okStep_iff.1 h; omega

/-- One step back, in plain terms. -/
theorem undo_law {W H : Int} {br : List Int} {p f : List Trip} {s : Trip} (h : okJ ((W, H, br), p ++ [s], f) = true) :
    undoJ ((W, H, br), p ++ [s], f) = ((W, H, br.set s.1.toNat s.2.1), p, s :: f) ∧ okJ ((W, H, br.set s.1.toNat s.2.1), p, s :: f) = true ∧
    redoJ ((W, H, br.set s.1.toNat s.2.1), p, s :: f) = ((W, H, br), p ++ [s], f) ∧ startB ((W, H, br.set s.1.toNat s.2.1), p, s :: f) = startB ((W, H, br), p ++ [s], f) := by
  obtain ⟨h1, h2, ⟨c, h3⟩, ⟨d, h4⟩⟩ := okJ_iff.1 h
  simp only [List.reverse_append, List.reverse_cons, List.reverse_nil, List.nil_append, List.singleton_append, List.length_append, List.length_cons, List.length_nil] at h1 h2 h3 h4
  obtain ⟨g1, g2, g3⟩ := runB_cons h3
  obtain ⟨e1, e2, e3⟩ := step_bd g1
  have back : (br.set s.1.toNat s.2.1).set s.1.toNat s.2.2 = br := by rw [List.set_set, ← g2, set_at0 e1]
  refine ⟨by simp [undoJ], okJ_iff.2 ⟨okP_set h1 e2, by simp only [List.length_cons]; omega, ⟨c, g3⟩, d, ?_⟩, by simp [redoJ, back], ?_⟩
  · exact runF_step (by simpa using g1) (at0_set e1) (by rw [back]; exact h4)
  · simp only [startB, List.reverse_append, List.reverse_cons, List.reverse_nil, List.nil_append, List.singleton_append, h3, g3]
/-- One step again. -/
theorem redo_law {W H : Int} {br : List Int} {p f : List Trip} {s : Trip} (h : okJ ((W, H, br), p, s :: f) = true) :
    redoJ ((W, H, br), p, s :: f) = ((W, H, br.set s.1.toNat s.2.2), p ++ [s], f) ∧ okJ ((W, H, br.set s.1.toNat s.2.2), p ++ [s], f) = true ∧
    undoJ ((W, H, br.set s.1.toNat s.2.2), p ++ [s], f) = ((W, H, br), p, s :: f) ∧ startB ((W, H, br.set s.1.toNat s.2.2), p ++ [s], f) = startB ((W, H, br), p, s :: f) := by
  obtain ⟨h1, h2, ⟨c, h3⟩, ⟨d, h4⟩⟩ := okJ_iff.1 h
  simp only [List.length_cons] at h1 h2 h3 h4
  obtain ⟨g1, g2, g3⟩ := runF_cons h4
  obtain ⟨e1, e2, e3⟩ := step_bd g1
  have back : (br.set s.1.toNat s.2.2).set s.1.toNat s.2.1 = br := by rw [List.set_set, ← g2, set_at0 e1]
  have h5 : runB (s :: p.reverse) (br.set s.1.toNat s.2.2) = some c := runB_mk (by simpa using g1) (at0_set e1) (by rw [back]; exact h3)
  refine ⟨by simp [redoJ], okJ_iff.2 ⟨okP_set h1 e3, by simp only [List.length_append, List.length_cons, List.length_nil]; omega, ⟨c, ?_⟩, d, g3⟩, by simp [undoJ, back], ?_⟩
  · simpa using h5
  · simp only [startB, List.reverse_append, List.reverse_cons, List.reverse_nil, List.nil_append, List.singleton_append, h3, h5]
/-- A step made. -/
theorem do_law {W H : Int} {br : List Int} {p f : List Trip} {k kind : Int} (h : okJ ((W, H, br), p, f) = true) (hc : doCode ((W, H, br), p, f) k kind = 0) :
    okJ (doJ ((W, H, br), p, f) k kind) = true ∧ (undoJ (doJ ((W, H, br), p, f) k kind)).1 = (W, H, br) := by
  obtain ⟨h1, h2, ⟨c, h3⟩, ⟨d, h4⟩⟩ := okJ_iff.1 h
  unfold doCode at hc
  split at hc
  rotate_left
  · simp at hc
  rename_i hq
  simp only [Bool.and_eq_true, inR_iff, okBr_iff] at hq
  split at hc
  · simp at hc
  rename_i hne
  split at hc
  · simp at hc
  rename_i hp
  simp only at hq hp hne h1 h2 h3 h4
  obtain ⟨kn, rfl⟩ := Int.eq_ofNat_of_zero_le hq.1.1
  have hk : kn < br.length := by omega
  rw [Int.toNat_natCast] at hne
  have hb : 0 ≤ at0 br kn ∧ at0 br kn ≤ 2 := by
    rw [at0_of hk]; exact (okP_iff.1 h1).b _ (List.getElem_mem hk)
  have hs : okStep br.length ((kn : Int), at0 br kn, kind) = true := okStep_iff.2 ⟨⟨by simp, by simpa using hk⟩, hb, hq.2, hne⟩
  have hJ : okJ ((W, H, br.set kn kind), p ++ [((kn : Int), at0 br kn, kind)], []) = true := by
    refine okJ_iff.2 ⟨okP_set h1 hq.2, by simp only [List.length_append, List.length_cons, List.length_nil]; omega, ⟨c, ?_⟩, _, rfl⟩
    have := runB_mk (s := ((kn : Int), at0 br kn, kind)) (l := p.reverse) (br := br.set kn kind) (c := c) (by simpa using hs) (at0_set hk) (by simp only [Int.toNat_natCast]; rw [List.set_set, set_at0 hk]; exact h3)
    simpa using this
  simp only [doJ, Int.toNat_natCast]
  refine ⟨hJ, ?_⟩
  rw [(undo_law hJ).1]
  simp only [Int.toNat_natCast]
  rw [List.set_set, set_at0 hk]
/-- One step back, however the journal is given. -/
theorem undo_ok {X : Jrn} (h : okJ X = true) (hne : X.2.1 ≠ []) : okJ (undoJ X) = true ∧ redoJ (undoJ X) = X ∧ startB (undoJ X) = startB X ∧ (undoJ X).2.2 ≠ [] ∧ (undoJ X).1.1 = X.1.1 ∧ (undoJ X).1.2.1 = X.1.2.1 := by
  obtain ⟨⟨W, H, br⟩, p, f⟩ := X
  simp only at hne
  obtain ⟨p', s, rfl⟩ : ∃ p' s, p = p' ++ [s] := by
    rcases List.eq_nil_or_concat p with e | ⟨p', s, e⟩
    · exact absurd e hne
    · exact ⟨p', s, by simpa using e⟩
  obtain ⟨e, h1, h2, h3⟩ := undo_law h
  rw [e]
  exact ⟨h1, h2, h3, by simp, rfl, rfl⟩
theorem redo_ok {X : Jrn} (h : okJ X = true) (hne : X.2.2 ≠ []) : okJ (redoJ X) = true ∧ undoJ (redoJ X) = X ∧ startB (redoJ X) = startB X ∧ (redoJ X).2.1 ≠ [] ∧ (redoJ X).1.1 = X.1.1 ∧ (redoJ X).1.2.1 = X.1.2.1 := by
  obtain ⟨⟨W, H, br⟩, p, f⟩ := X
  cases f with
  | nil => exact absurd rfl hne
  | cons s f =>
    obtain ⟨e, h1, h2, h3⟩ := redo_law h
    rw [e]
    exact ⟨h1, h2, h3, by simp, rfl, rfl⟩

/-- Steps back: valid, as many fewer, the same start; and forth again. -/
theorem undoN_ok : ∀ (k : Nat) {X : Jrn}, okJ X = true → k ≤ X.2.1.length → okJ (undoN k X) = true ∧ (undoN k X).2.1.length = X.2.1.length - k ∧ startB (undoN k X) = startB X ∧ redoN k (undoN k X) = X ∧ (undoN k X).1.1 = X.1.1 ∧ (undoN k X).1.2.1 = X.1.2.1
  | 0, X, h, _ => ⟨h, rfl, rfl, rfl, rfl, rfl⟩
  | k + 1, X, h, hk => by
    have hne : X.2.1 ≠ [] := by intro e; rw [e] at hk; simp at hk
    obtain ⟨h1, h2, h3, h4, h5, h6⟩ := undo_ok h hne
    have hl := undoJ_past hne
    obtain ⟨i1, i2, i3, i4, i5, i6⟩ := undoN_ok k h1 (by omega)
    refine ⟨i1, by simp only [undoN]; omega, i3.trans h3, ?_, i5.trans h5, i6.trans h6⟩
    have : ∀ (m : Nat) (Y : Jrn), redoN (m + 1) Y = redoJ (redoN m Y) := by
      intro m
      induction m with
      | zero => intro Y; rfl
      | succ m ih => intro Y; rw [redoN, ih]; rfl
    rw [this]
    simp only [undoN]
    rw [i4, h2]
theorem redoN_ok : ∀ (k : Nat) {X : Jrn}, okJ X = true → k ≤ X.2.2.length → okJ (redoN k X) = true ∧ (redoN k X).2.1.length = X.2.1.length + k ∧ startB (redoN k X) = startB X ∧ undoN k (redoN k X) = X ∧ (redoN k X).1.1 = X.1.1 ∧ (redoN k X).1.2.1 = X.1.2.1
  | 0, X, h, _ => ⟨h, rfl, rfl, rfl, rfl, rfl⟩
  | k + 1, X, h, hk => by
    have hne : X.2.2 ≠ [] := by intro e; rw [e] at hk; simp at hk
    obtain ⟨h1, h2, h3, h4, h5, h6⟩ := redo_ok h hne
    have hl := redoJ_past hne
    have hn := (redoJ_len X).2
    obtain ⟨i1, i2, i3, i4, i5, i6⟩ := redoN_ok k h1 (by omega)
    refine ⟨i1, by simp only [redoN]; omega, i3.trans h3, ?_, i5.trans h5, i6.trans h6⟩
    have : ∀ (m : Nat) (Y : Jrn), undoN (m + 1) Y = undoJ (undoN m Y) := by
      intro m
      induction m with
      | zero => intro Y; rfl
      | succ m ih => intro Y; rw [undoN, ih]; rfl
    rw [this]
    simp only [redoN]
    rw [i4, h2]
/-- A journal leads to any of its steps, and back. -/
theorem go_ok {X : Jrn} (h : okJ X = true) {n : Nat} (hn : n ≤ X.2.1.length + X.2.2.length) : okJ (goJ X n) = true ∧ (goJ X n).2.1.length = n ∧ startB (goJ X n) = startB X ∧ goJ (goJ X n) X.2.1.length = X ∧ (goJ X n).1.1 = X.1.1 ∧ (goJ X n).1.2.1 = X.1.2.1 := by
  unfold goJ
  by_cases hc : n ≤ X.2.1.length
  · obtain ⟨h1, h2, h3, h4, h5, h6⟩ := undoN_ok (X.2.1.length - n) h (by omega)
    obtain ⟨Y, hY⟩ : ∃ Y, Y = undoN (X.2.1.length - n) X := ⟨_, rfl⟩
    rw [← hY] at h1 h2 h3 h4 h5 h6 ⊢
    have e0 : n - Y.2.1.length = 0 := by omega
    rw [e0]
    simp only [redoN]
    refine ⟨h1, by omega, h3, ?_, h5, h6⟩
    have e1 : Y.2.1.length - X.2.1.length = 0 := by omega
    rw [e1]
    simp only [undoN]
    have e2 : X.2.1.length - Y.2.1.length = X.2.1.length - n := by omega
    rw [e2, h4]
  · have e0 : X.2.1.length - n = 0 := by omega
    rw [e0]
    simp only [undoN]
    obtain ⟨h1, h2, h3, h4, h5, h6⟩ := redoN_ok (n - X.2.1.length) h (by omega)
    obtain ⟨Y, hY⟩ : ∃ Y, Y = redoN (n - X.2.1.length) X := ⟨_, rfl⟩
    rw [← hY] at h1 h2 h3 h4 h5 h6 ⊢
    refine ⟨h1, by omega, h3, ?_, h5, h6⟩
    have e1 : Y.2.1.length - X.2.1.length = n - X.2.1.length := by omega
    rw [e1, h4]
    simp [redoN]
end Am
/-! AmS1 -/
set_option linter.unusedVariables false
set_option linter.unusedSimpArgs false
set_option maxHeartbeats 4000000
set_option maxRecDepth 4000
namespace Am
open Go

/-- A source in a box of our own: its code lies behind it, and it has given at most m bytes. -/
def Src (h : Heap) (b m : Nat) : Prop := ∃ (cb co n z a : Nat) (s : Int), h[b]? = some ⟨[sl cb co n z, I a, .int .u64 s], true⟩ ∧ a ≤ m ∧ 0 ≤ s ∧ s < 18446744073709551616 ∧ (n = 0 ∨ cb < b) ∧ n ≤ 9223372036854775807 ∧ ∀ i, i < n → ∃ x : Nat, cell h cb (co + i) = some (.int .u8 x) ∧ x < 256
theorem Src.mono {h : Heap} {b m m' : Nat} (x : Src h b m) (hm : m ≤ m') : Src h b m' := by
  obtain ⟨cb, co, n, z, a, s, h1, h2, h3⟩ := x
  exact ⟨cb, co, n, z, a, s, h1, by omega, h3⟩
theorem Src.mod {h h' : Heap} {b m lo hi : Nat} (x : Src h b m) (md : Mod lo hi h h') (hb : b < lo) : Src h' b m := by
  obtain ⟨cb, co, n, z, a, s, h1, h2, h3, h4, h5, h6, h7⟩ := x
  have hl := at_lt h1
  refine ⟨cb, co, n, z, a, s, by rw [md.2 b hl (.inl hb)]; exact h1, h2, h3, h4, h5, h6, fun i hi => ?_⟩
  obtain ⟨x, e1, e2⟩ := h7 i hi
  exact ⟨x, by unfold cell at e1 ⊢; rw [md.2 cb (by omega) (.inl (by omega))]; exact e1, e2⟩
theorem Src.grow {h h' : Heap} {b m : Nat} (x : Src h b m) (g : Grows h h') : Src h' b m := by
  obtain ⟨cb, co, n, z, a, s, h1, h2, h3, h4, h5, h6, h7⟩ := x
  have hl := at_lt h1
  refine ⟨cb, co, n, z, a, s, by rw [g.look hl]; exact h1, h2, h3, h4, h5, h6, fun i hi => ?_⟩
  obtain ⟨x, e1, e2⟩ := h7 i hi
  exact ⟨x, g.cell e1, e2⟩
theorem wrap_u64 (n : Int) : 0 ≤ IntKind.u64.wrap n ∧ IntKind.u64.wrap n < 18446744073709551616 := by
  simp only [IntKind.wrap, IntKind.signed, IntKind.bits]
  have h1 := Int.emod_nonneg n (show (2 ^ 64 : Int) ≠ 0 by decide)
  have h2 := Int.emod_lt_of_pos n (show (0 : Int) < 2 ^ 64 by decide)
  simp at *
  omega
theorem wrapUs {n : Int} (h1 : 0 ≤ n) (h2 : n < 18446744073709551616) : IntKind.u64.wrap n = n := wrap_unsigned (M := 18446744073709551616) rfl (by decide) h1 h2
theorem and_255 (a : Int) : ∃ x : Nat, bitsOp .u64 (· &&& ·) a 255 = .int .u64 x ∧ x < 256 := by
  obtain ⟨x, hx⟩ : ∃ x : Nat, x = (BitVec.ofInt 64 a &&& BitVec.ofInt 64 255).toNat := ⟨_, rfl⟩
  have hb : x < 256 := by
    rw [hx, BitVec.toNat_and]
    have : (BitVec.ofInt 64 255).toNat = 255 := by decide
    rw [this]
    have := @Nat.and_le_right (BitVec.ofInt 64 a).toNat 255
    omega
  refine ⟨x, ?_, hb⟩
  show Value.int .u64 (IntKind.u64.wrap ((BitVec.ofInt 64 a &&& BitVec.ofInt 64 255).toNat : Int)) = _
  rw [← hx, wrapUs (by omega) (by omega)]

theorem c5 (h : Heap) (b m : Nat) (hs : Src h b m) (hm : m ≤ 1099511627776) : ACall Gam 5 [pt b 0] h fun r h' => ∃ x : Nat, r = I x ∧ x < 256 ∧ Mod b (b + 1) h h' ∧ h'.length = h.length ∧ Src h' b (m + 1) := by
  obtain ⟨cb, co, n, z, a, s, h1, h2, h3, h4, h5, h6, h7⟩ := hs
  have hl := at_lt h1
  have k0 : cell h b 0 = some (sl cb co n z) := by simp [cell, h1]
  have k1 : cell h b 1 = some (I a) := by simp [cell, h1]
  have k2 : cell h b 2 = some (.int .u64 s) := by simp [cell, h1]
  refine ACall_intro g5 rfl ?_
  unfold fn5
  rw [awp_seq, awp_reg]
  generalize hK : seqQ Gam _ _ 0 = K
  simp (disch := omega)
  subst hK
  simp only [seqQ_zero]
  rw [awp_seq, awp_reg]
  generalize hK : seqQ Gam _ _ 0 = K
  simp (disch := omega)
  subst hK
  simp only [seqQ_zero]
  rw [awp_seq]
  generalize hK : seqQ Gam _ _ = K
  have step : ∀ (σ : Nat → Value) (x : Nat), x < 256 → σ 0 = pt b 0 → σ 3 = I x → K 0 σ h := by
    intro σ x hx q0 q3
    subst hK
    simp only [seqQ_zero]
    rw [awp_seq, awp_reg]
    generalize hK : seqQ Gam _ _ 0 = K
    have s1 := store_one (v := I ((a : Int) + 1)) (o := 1) h1 (by simp)
    obtain ⟨h', eh⟩ : ∃ h', h' = h.set b ⟨[sl cb co n z, I ((a : Int) + 1), .int .u64 s], true⟩ := ⟨_, rfl⟩
    simp only [List.set_cons_succ, List.set_cons_zero, ← eh] at s1
    simp (disch := omega) [q0, k1, s1, wrap64]
    subst hK
    simp only [seqQ_zero]
    have hb' : h'[b]? = some ⟨[sl cb co n z, I ((a : Int) + 1), .int .u64 s], true⟩ := by rw [eh]; simp [hl]
    have k0 : cell h' b 0 = some (sl cb co n z) := by simp [cell, hb']
    have k1 : cell h' b 1 = some (I ((a : Int) + 1)) := by simp [cell, hb']
    have k2 : cell h' b 2 = some (.int .u64 s) := by simp [cell, hb']
    rw [awp_seq, awp_reg]
    generalize hK : seqQ Gam _ _ 0 = K
    simp (disch := omega) [q0, q3, k2]
    obtain ⟨t, ht⟩ : ∃ t, t = IntKind.u64.wrap (IntKind.u64.wrap (IntKind.u64.wrap (s * 6364136223846793005) + IntKind.u64.wrap ↑x) + 1442695040888963407) := ⟨_, rfl⟩
    have tb := wrap_u64 (IntKind.u64.wrap (IntKind.u64.wrap (s * 6364136223846793005) + IntKind.u64.wrap ↑x) + 1442695040888963407)
    rw [← ht] at tb ⊢
    have s2 := store_one (v := .int .u64 t) (o := 2) hb' (by simp)
    obtain ⟨h2', eh2⟩ : ∃ h2', h2' = h'.set b ⟨[sl cb co n z, I ((a : Int) + 1), .int .u64 t], true⟩ := ⟨_, rfl⟩
    simp only [List.set_cons_succ, List.set_cons_zero, ← eh2] at s2
    rw [s2]
    have hb2 : h2'[b]? = some ⟨[sl cb co n z, I ((a : Int) + 1), .int .u64 t], true⟩ := by rw [eh2]; simp [at_lt hb']
    have k0 : cell h2' b 0 = some (sl cb co n z) := by simp [cell, hb2]
    have k1 : cell h2' b 1 = some (I ((a : Int) + 1)) := by simp [cell, hb2]
    have k2 : cell h2' b 2 = some (.int .u64 t) := by simp [cell, hb2]
    have hl2 : h2'.length = h.length := by rw [eh2, eh]; simp
    have ho : ∀ c, c ≠ b → h2'[c]? = h[c]? := fun c hc => by rw [eh2, set_other hc, eh, set_other hc]
    have md : Mod b (b + 1) h h2' := ⟨by omega, fun c hc hn => ho c (by omega)⟩
    have src : Src h2' b (m + 1) := ⟨cb, co, n, z, a + 1, t, by rw [hb2]; rfl, by omega, tb.1, tb.2, h5, h6, fun i hi => by
      obtain ⟨x, e1, e2⟩ := h7 i hi
      exact ⟨x, by unfold cell at e1 ⊢; rw [ho cb (by omega)]; exact e1, e2⟩⟩
    simp (disch := omega)
    subst hK
    simp only [seqQ_zero]
    rw [awp_seq]
    generalize hK : seqQ Gam _ _ = K
    simp (disch := omega) [q0, k0, k1]
    refine fork_dec (fun h3 => ?_) (fun h3 => ?_)
    · subst hK
      simp (disch := omega) [q3]
      exact ⟨x, rfl, hx, md, hl2, src⟩
    · simp (disch := omega)
      subst hK
      simp only [seqQ_zero]
      obtain ⟨y, ey, hy⟩ := and_255 (t.fdiv (2 ^ min 40 IntKind.u64.bits))
      simp (disch := omega) [q0, k2, ey, wrap64]
      exact ⟨y, rfl, hy, md, hl2, src⟩
  simp (disch := omega) [k0, k1]
  refine fork_dec (fun h3 => ?_) (fun h3 => ?_)
  · obtain ⟨x, e1, e2⟩ := h7 a (by omega)
    simp (disch := omega) [k0, k1, e1, h3, wrap64]
    exact step _ x e2 (by simp) (by simp)
  · simp (disch := omega)
    exact step _ 0 (by omega) (by simp) (by simp)
/-- What a draw leaves: a number from 0 to n - 1. -/
theorem c7 (h : Heap) (b m : Nat) (n : Int) (hs : Src h b m) (hm : m ≤ 1000000000) (hn : I64 n) : ACall Gam 7 [pt b 0, I n] h fun r h' => ∃ x : Nat, r = I x ∧ (n ≤ 1 → x = 0) ∧ (1 < n → (x : Int) < n) ∧ Mod b (b + 1) h h' ∧ h'.length = h.length ∧ Src h' b (m + 2) := by
  refine ACall_intro g7 rfl ?_
  unfold fn7
  rw [awp_seq, awp_reg]
  generalize hK : seqQ Gam _ _ 0 = K
  simp (disch := omega)
  subst hK
  simp only [seqQ_zero]
  rw [awp_seq]
  generalize hK : seqQ Gam _ _ = K
  simp (disch := omega)
  refine fork_dec (fun h1 => ?_) (fun h1 => ?_)
  · subst hK
    simp (disch := omega)
    exact ⟨0, rfl, fun _ => rfl, fun h => by omega, Mod.refl _ _ _, hs.mono (by omega)⟩
  simp (disch := omega)
  subst hK
  simp only [seqQ_zero]
  rw [awp_seq, awp_reg]
  generalize hK : seqQ Gam _ _ 0 = K
  simp (disch := omega)
  refine callW_of (c5 h b m hs (by omega)) ?_
  rintro _ h2 ⟨x, rfl, hx, md, hl, hs2⟩
  simp (disch := omega)
  subst hK
  simp only [seqQ_zero]
  rw [awp_seq]
  generalize hK : seqQ Gam _ _ = K
  have fin : ∀ (σ : Nat → Value) (h' : Heap) (y : Nat), σ 1 = I n → σ 5 = I y → y < 100000 → Mod b (b + 1) h h' → h'.length = h.length → Src h' b (m + 2) → K 0 σ h' := by
    intro σ h' y q1 q5 hy md hl hs'
    subst hK
    simp only [seqQ_zero]
    obtain ⟨nn, rfl⟩ := Int.eq_ofNat_of_zero_le (show 0 ≤ n by omega)
    have e : (y : Int).tmod nn = ((y % nn : Nat) : Int) := by rw [tmod_pos (by omega), Int.natCast_emod]
    have hn0 : nn ≠ 0 := by omega
    have lt := Nat.mod_lt y (show 0 < nn by omega)
    obtain ⟨r, hr⟩ : ∃ r, r = y % nn := ⟨_, rfl⟩
    rw [← hr] at e lt
    simp (disch := omega) [q1, q5, e, hn0]
    exact ⟨r, rfl, by omega, by omega, md, hl, hs'⟩
  simp (disch := omega)
  refine fork_dec (fun h3 => ?_) (fun h3 => ?_)
  · simp (disch := omega) [wrap64]
    refine callW_of (c5 h2 b (m + 1) hs2 (by omega)) ?_
    rintro _ h4 ⟨y, rfl, hy, md2, hl2, hs4⟩
    simp (disch := omega) [wrap64]
    exact fin _ h4 (x * 256 + y) (by simp) (by simp) (by omega) (md.trans md2) (by omega) (hs4.mono (by omega))
  · simp (disch := omega)
    exact fin _ h2 x (by simp) (by simp) (by omega) md hl (hs2.mono (by omega))
theorem c6 (h : Heap) (b m : Nat) (n : Int) (hs : Src h b m) (hm : m ≤ 1000000000) (hn : I64 n) : ACall Gam 6 [pt b 0, I n] h fun r h' => ∃ x : Bool, r = B x ∧ Mod b (b + 1) h h' ∧ h'.length = h.length ∧ Src h' b (m + 2) := by
  refine ACall_intro g6 rfl ?_
  unfold fn6
  simp (disch := omega)
  refine callW_of (c7 h b m n hs hm hn) ?_
  rintro _ h2 ⟨x, rfl, _, _, md, hl, hs2⟩
  simp (disch := omega)
  exact ⟨by omega, md, hl, hs2⟩
def shBytes : Shp := .slice (.int .u8)
theorem byte_at {h : Heap} {v : Value} {X : List Int} (hv : Vr h shBytes v X) : ∃ b o z, v = sl b o X.length z ∧ X.length ≤ 9223372036854775807 ∧ ∀ i, i < X.length → ∃ x : Nat, cell h b (o + i) = some (.int .u8 x) ∧ x < 256 := by
  obtain ⟨b, o, z, rfl, hz, hm, hel⟩ := hv.slice
  refine ⟨b, o, z, rfl, by rw [← maxLen_eq]; exact hm, fun i hi => ?_⟩
  obtain ⟨c, hc, ⟨rfl, w⟩⟩ := hel i hi
  have e := (cell_in (i := 0) hc (by simp [Shp.n])).1
  have w' : 0 ≤ X[i] ∧ X[i] < 256 := by
    simp [Lit.wf, IntKind.min, IntKind.max, IntKind.signed, IntKind.bits] at w
    omega
  refine ⟨X[i].toNat, ?_, by omega⟩
  simp only [Shp.n, Nat.mul_one, Nat.add_zero] at e
  rw [e, Int.toNat_of_nonneg w'.1]
  rfl
theorem c431 (h : Heap) (v : Value) (X : List Int) (hv : Vr h shBytes v X) : ACall Gam 431 [v] h fun r h' => r = pt h.length 0 ∧ Grows h h' ∧ h'.length = h.length + 1 ∧ Src h' h.length 0 := by
  obtain ⟨b, o, z, rfl, hm, hel⟩ := byte_at hv
  refine ACall_intro g431 rfl ?_
  unfold fn431
  simp (disch := omega)
  refine ⟨⟨_, rfl⟩, b, o, X.length, z, 0, 0, by simp, by omega, by omega, by omega, ?_, hm, fun i hi => ?_⟩
  · by_cases h0 : X.length = 0
    · exact .inl h0
    · obtain ⟨x, e, _⟩ := hel 0 (by omega)
      right
      unfold cell at e
      cases hk : h[b]? with
      | none => rw [hk] at e; simp at e
      | some k => exact at_lt hk
  · obtain ⟨x, e1, e2⟩ := hel i hi
    exact ⟨x, Grows.cell ⟨_, rfl⟩ e1, e2⟩
end Am
/-! AmS2 -/
set_option linter.unusedVariables false
set_option linter.unusedSimpArgs false
set_option maxHeartbeats 4000000
set_option maxRecDepth 4000
namespace Am
open Go

def IntsAt (h : Heap) (b : Nat) (l : List Int) : Prop := h[b]? = some ⟨ints l, true⟩
/-- A valid panel drawn, in memory of its own behind the source. -/
theorem c445 (h : Heap) (b m : Nat) (n : Int) (hs : Src h b m) (hm : m ≤ 100000000) (hn : 1 ≤ n ∧ n ≤ 8) : ACall Gam 445 [pt b 0, I n] h fun r h' => ∃ P : Pan, OkP P ∧ P.1 ≤ n ∧ P.2.1 ≤ n ∧ Mod b (b + 1) h h' ∧ Vo h' h.length h'.length shPanel r P ∧ Src h' b (m + 1000) := by
  refine ACall_intro g445 rfl ?_
  unfold fn445
  rw [awp_seq, awp_reg]
  generalize hK : seqQ Gam _ _ 0 = K
  simp (disch := omega)
  subst hK
  simp only [seqQ_zero]
  rw [awp_seq, awp_reg]
  generalize hK : seqQ Gam _ _ 0 = K
  simp (disch := omega)
  refine callW_of (c7 h b m n hs (by omega) (by unfold I64; omega)) ?_
  rintro _ h1 ⟨w, rfl, w1, w2, md1, l1, hs1⟩
  simp (disch := omega) [wrap64]
  subst hK
  simp only [seqQ_zero]
  rw [awp_seq, awp_reg]
  generalize hK : seqQ Gam _ _ 0 = K
  simp (disch := omega)
  refine callW_of (c7 h1 b _ n hs1 (by omega) (by unfold I64; omega)) ?_
  rintro _ h2 ⟨v, rfl, v1, v2, md2, l2, hs2⟩
  have hp : 0 < h2.length := by
    obtain ⟨_, _, _, _, _, _, e, _⟩ := hs2
    have := at_lt e; omega
  have hb2 : b < h2.length := by
    obtain ⟨_, _, _, _, _, _, e, _⟩ := hs2
    exact at_lt e
  simp (disch := omega) [wrap64]
  refine callW_of (c450 h2 (1 + w) (1 + v) (by omega) (by omega) hp) ?_
  rintro _ h3 ⟨g3, o3⟩
  have hs3 := hs2.grow g3
  refine ⟨fun e => (by cases e), ?_⟩
  obtain ⟨so, rfl, W64, H64, o3⟩ := o3.panel
  obtain ⟨b3, z3, e3, hz, hmx, hx, hb3⟩ := o3.ints
  subst e3
  have ok0 := newP_ok (W := 1 + w) (H := 1 + v) (by omega) (by omega)
  obtain ⟨br0, hbr0⟩ : ∃ br0, br0 = List.replicate (inner (1 + w) (1 + v)).toNat (0 : Int) := ⟨_, rfl⟩
  unfold newP at ok0
  rw [← hbr0] at ok0 hz hmx hx hb3 ⊢
  have hn0 := ok_len ok0
  have L3 := g3.le
  have MD3 : Mod b (b + 1) h h3 := (md1.trans md2).trans (g3.mod)
  simp (disch := omega)
  subst hK
  simp only [seqQ_zero]
  rw [awp_seq, awp_reg]
  generalize hK : seqQ Gam _ _ 0 = K
  simp (disch := omega)
  refine callW_of (c7 h3 b _ 4 hs3 (by omega) (by unfold I64; omega)) ?_
  rintro _ h4 ⟨some', rfl, _, so2, md4, l4, hs4⟩
  simp (disch := omega)
  subst hK
  simp only [seqQ_zero]
  rw [awp_seq]
  generalize hK : seqQ Gam _ _ = K
  simp (disch := omega)
  have hb4 : br0 = [] ∨ h4[b3]? = some ⟨ints br0, true⟩ ∧ h2.length ≤ b3 ∧ b3 < h3.length := hb3.imp id fun e => ⟨by rw [md4.2 b3 (at_lt e.1) (by omega)]; exact e.1, e.2⟩
  refine awp_loop (fun (i : Nat) σ h' => i ≤ br0.length ∧ Mod b (b + 1) h h' ∧ h4.length ≤ h'.length ∧ σ 0 = pt b 0 ∧ σ 4 = .agg #[I 0, I 0, sl 0 0 0 0] ∧ σ 6 = .agg #[I (1 + w), I (1 + v), sl b3 0 br0.length z3] ∧ σ 7 = I some' ∧ σ 8 = I i ∧ Src h' b (m + 6 + 4 * i) ∧ ∃ br : List Int, br.length = br0.length ∧ OkP (1 + w, 1 + v, br) ∧ (br0 = [] ∨ IntsAt h' b3 br)) (fun i => br0.length - i) 0 ?_ ?_
  · refine ⟨by omega, MD3.trans md4, by omega, by simp, by simp, by simp, by simp, by simp, hs4, br0, rfl, ok0, hb4.imp id fun e => e.1⟩
  · rintro i σ h' ⟨hi, md, hle, q0, q4, q6, q7, q8, hs', br, hbl, okb, hb'⟩
    simp (disch := omega) [q6, q8]
    refine fork_dec (fun hlt => ?_) (fun hge => ?_)
    · have hlt : i < br0.length := by omega
      have hne : br0 ≠ [] := by intro e; rw [e] at hlt; simp at hlt
      have hbb : h'[b3]? = some ⟨ints br, true⟩ := hb'.resolve_left hne
      simp (disch := omega) [q0, q6, q7, q8]
      refine callW_of (c7 h' b _ 4 hs' (by omega) (by unfold I64; omega)) ?_
      rintro _ h5 ⟨x, rfl, _, _, md5, l5, hs5⟩
      have hb5 : h5[b3]? = some ⟨ints br, true⟩ := by
        have := hb4.resolve_left hne
        rw [md5.2 b3 (at_lt hbb) (by omega)]; exact hbb
      simp (disch := omega) [q0, q6, q7, q8]
      refine fork_dec (fun h6 => ?_) (fun h6 => ?_)
      · simp (disch := omega) [q0, q6, q7, q8]
        refine callW_of (c7 h5 b _ 2 hs5 (by omega) (by unfold I64; omega)) ?_
        rintro _ h7 ⟨y, rfl, _, y2, md7, l7, hs7⟩
        have hb7 : h7[b3]? = some ⟨ints br, true⟩ := by
          have := hb4.resolve_left hne
          rw [md7.2 b3 (at_lt hb5) (by omega)]; exact hb5
        have hst := store_int (v := 1 + (y : Int)) hb7 (show i < br.length by omega)
        have hb34 := hb4.resolve_left hne
        have hb2' : b < b3 := by omega
        have hil : (i : Int) < br0.length := by omega
        obtain ⟨h8, e8⟩ : ∃ h8, h8 = h7.set b3 ⟨ints (br.set i (1 + (y : Int))), true⟩ := ⟨_, rfl⟩
        rw [← e8] at hst
        have l8 : h8.length = h7.length := by rw [e8]; simp
        have o8 : ∀ c, c ≠ b3 → h8[c]? = h7[c]? := fun c hc => by rw [e8]; exact set_other hc
        have mm := (md.trans md5).trans md7
        have m8 : Mod b (b + 1) h h8 := ⟨by have := mm.1; omega, fun c hc hn => by rw [o8 c (by omega)]; exact mm.2 c hc hn⟩
        have hs8 : Src h8 b (m + 6 + 4 * (i + 1)) := (hs7.mono (by omega)).mod (lo := b3) (hi := b3 + 1) ⟨by omega, fun c hc hn => o8 c (by omega)⟩ (by omega)
        have hb8 : h8[b3]? = some ⟨ints (br.set i (1 + (y : Int))), true⟩ := by rw [e8]; simp [at_lt hb7]
        have ok8 : OkP (1 + w, 1 + v, br.set i (1 + (y : Int))) := okP_iff.1 (okP_set (okP_iff.2 okb) (by omega))
        simp (disch := omega) [q0, q6, q7, q8, wrap64, hlt, hst]
        exact ⟨i + 1, ⟨by omega, m8, by omega, q4, by omega, hs8, br.set i (1 + (y : Int)), by simpa using hbl, ok8, .inr hb8⟩, by omega⟩
      · simp (disch := omega) [q0, q6, q7, q8, wrap64]
        exact ⟨i + 1, ⟨by omega, md.trans md5, by omega, q4, by omega, hs5.mono (by omega), br, hbl, okb, .inr hb5⟩, by omega⟩
    · subst hK
      simp (disch := omega) [q4, q6, resOf, resAll, resOne, aField]
      have hi64 : ∀ x ∈ br, I64 x := fun x hx => by have := okb.b x hx; unfold I64; omega
      have ob : Vo h' h.length h'.length shInts (sl b3 0 br.length z3) br := Vo.of_ints (hz.imp id fun e => ⟨e.1, by have := e.2; rw [this] at hbl; exact List.length_eq_zero_iff.1 (by simpa using hbl)⟩) (by rw [maxLen_eq]; omega) hi64 (by
        rcases hb4 with e | e
        · rw [e] at hbl; exact .inl (List.length_eq_zero_iff.1 (by simpa using hbl))
        · rcases hb' with e' | e'
          · rw [e'] at hbl; exact .inl (List.length_eq_zero_iff.1 (by simpa using hbl))
          · exact .inr ⟨e', by omega, by omega⟩)
      rw [hbl] at ob
      exact ⟨1 + w, 1 + v, br, okb, by omega, by omega, md, Vo.of_panel W64 H64 ob, hs'.mono (by omega)⟩
end Am
/-! AmS3 -/
set_option linter.unusedVariables false
set_option linter.unusedSimpArgs false
set_option maxHeartbeats 4000000
set_option maxRecDepth 4000
namespace Am
open Go

theorem JM.mod {h h' : Heap} {lo jb lo' hi' : Nat} {X : Jrn} {rest : List Value} (x : JM h lo jb X rest) (m : Mod lo' hi' h h') (hd : hi' ≤ lo) : JM h' lo jb X rest := by
  obtain ⟨b1, z1, b2, z2, b3, z3, hjb, hlo, hpos, hz1, i1, i2, i3, wf⟩ := x
  exact ⟨b1, z1, b2, z2, b3, z3, by rw [m.2 _ (at_lt hjb) (by omega)]; exact hjb, hlo, hpos, hz1, i1.imp id fun e => ⟨by rw [m.2 _ (at_lt e.1) (by omega)]; exact e.1, e.2⟩, i2.imp id fun e => ⟨e.1, by rw [m.2 _ (at_lt e.2.1) (by omega)]; exact e.2.1, e.2.2⟩, i3.imp id fun e => ⟨e.1, by rw [m.2 _ (at_lt e.2.1) (by omega)]; exact e.2.1, e.2.2⟩, wf⟩
theorem c433 (h : Heap) (a b : Int) : ACall Gam 433 [I a, I b] h fun r h' => r = I (if b < a then a else b) ∧ h' = h := by
  refine ACall_intro g433 rfl ?_
  unfold fn433
  simp (disch := omega)
  refine fork_dec (fun h3 => ?_) (fun h3 => ?_)
  · rw [if_pos (by omega)]; simp (disch := omega)
  · rw [if_neg (by omega)]; simp (disch := omega)
/-- A journal of ours that is valid. -/
def OwnJ (h : Heap) (lo jb c : Nat) : Prop := ∃ X rest, JM h lo jb X rest ∧ okJ X = true ∧ X.2.1.length + X.2.2.length ≤ c

theorem c557 (h : Heap) (b m : Nat) (n : Int) (hs : Src h b m) (hm : m ≤ 10000000) (hn : 1 ≤ n ∧ n ≤ 100) : ACall Gam 557 [pt b 0, I n] h fun r h' => ∃ X : Jrn, okJ X = true ∧ ((X.2.1.length + X.2.2.length : Nat) : Int) ≤ n ∧ Mod b (b + 1) h h' ∧ VoJ h' h.length h'.length r X := by
  have hb : b < h.length := by
    obtain ⟨_, _, _, _, _, _, e, _⟩ := hs
    exact at_lt e
  refine ACall_intro g557 rfl ?_
  unfold fn557
  rw [awp_seq, awp_reg]
  generalize hK : seqQ Gam _ _ 0 = K
  simp (disch := omega)
  subst hK
  simp only [seqQ_zero]
  rw [awp_seq, awp_reg]
  generalize hK : seqQ Gam _ _ 0 = K
  simp (disch := omega)
  refine callW_of (c445 h b m 4 hs (by omega) (by omega)) ?_
  rintro _ h1 ⟨⟨W, H, br⟩, ok, w4, h4, md1, o1, hs1⟩
  obtain ⟨s, rfl, w64, h64, o1⟩ := o1.panel
  obtain ⟨bb, zz, e, hz, hmx, hx, hbb⟩ := o1.ints
  subst e
  have hbl := ok_len ok
  have L1 := md1.1
  have hsb : storeAt (h1 ++ [⟨[I 0, I 0, sl 0 0 0 0, sl 0 0 0 0, sl 0 0 0 0], true⟩]) h1.length 0 [I W, I H, sl bb 0 br.length zz, sl 0 0 0 0, sl 0 0 0 0] = some (h1 ++ [⟨[I W, I H, sl bb 0 br.length zz, sl 0 0 0 0, sl 0 0 0 0], true⟩]) := store_box rfl
  simp (disch := omega) [hsb]
  obtain ⟨h2, e2⟩ : ∃ h2, h2 = h1 ++ [⟨[I W, I H, sl bb 0 br.length zz, sl 0 0 0 0, sl 0 0 0 0], true⟩] := ⟨_, rfl⟩
  rw [← e2]
  have g2 : Grows h1 h2 := ⟨_, e2⟩
  have hJ : JM h2 h.length h1.length ((W, H, br), [], []) [] := by
    refine ⟨bb, zz, 0, 0, 0, 0, by rw [e2]; simp, by omega, by omega, hz, ?_, .inl ⟨rfl, rfl⟩, .inl ⟨rfl, rfl⟩, ⟨w64, h64, hx, by simp, by simp, by simp only; omega, by simp, by simp⟩⟩
    exact hbb.imp id fun e => ⟨by rw [g2.look (at_lt e.1)]; exact e.1, by omega, by omega, by omega, by omega⟩
  have okX : okJ ((W, H, br), [], []) = true := okJ_iff.2 ⟨okP_iff.2 ok, by simp, ⟨_, rfl⟩, ⟨_, rfl⟩⟩
  have O2 : OwnJ h2 h.length h1.length 0 := ⟨_, _, hJ, okX, by simp⟩
  have hs2 := hs1.grow g2
  have m2 : Mod b (b + 1) h h2 := md1.trans g2.mod
  obtain ⟨jb, ejb⟩ : ∃ jb, jb = h1.length := ⟨_, rfl⟩
  rw [← ejb] at O2 ⊢
  clear hJ hsb
  subst hK
  simp only [seqQ_zero]
  rw [awp_seq]
  generalize hK : seqQ Gam _ _ = K
  simp (disch := omega) [wrap64]
  refine callW_of (c7 h2 b _ (n + 1) hs2 (by omega) (by unfold I64; omega)) ?_
  rintro _ h3 ⟨k, rfl, _, k2, md3, l3, hs3⟩
  have O3 : OwnJ h3 h.length jb (k - k) := by
    obtain ⟨X, rest, hJ, ok, hc⟩ := O2
    exact ⟨X, rest, hJ.mod md3 (by omega), ok, by omega⟩
  have m3 := m2.trans md3
  simp (disch := omega)
  refine awp_loop (fun (i : Nat) σ h' => i ≤ k ∧ Mod b (b + 1) h h' ∧ σ 0 = pt b 0 ∧ σ 4 = .agg #[I 0, I 0, sl 0 0 0 0, sl 0 0 0 0, sl 0 0 0 0] ∧ σ 5 = pt jb 0 ∧ σ 6 = I i ∧ Src h' b (m + 2000 + 10 * (k - i)) ∧ OwnJ h' h.length jb (k - i)) (fun i => i) k ?_ ?_
  · exact ⟨by omega, m3, by simp, by simp, by simp, by simp, hs3.mono (by omega), O3⟩
  · rintro i σ h' ⟨hi, md, q0, q4, q5, q6, hs', ⟨X, rest, hJ, okX, hXc⟩⟩
    have hL := md.1
    rw [awp_seq]
    generalize hA : seqQ Gam _ _ = A
    simp (disch := omega) [q6]
    refine fork_dec (fun hlt => ?_) (fun hge => ?_)
    · simp (disch := omega)
      subst hA
      simp only [seqQ_zero]
      rw [awp_seq]
      generalize hP : seqQ Gam _ _ = P
      have post : ∀ (σ : Nat → Value) (h8 : Heap), σ 0 = pt b 0 → σ 4 = .agg #[I 0, I 0, sl 0 0 0 0, sl 0 0 0 0, sl 0 0 0 0] → σ 5 = pt jb 0 → σ 6 = I i → Mod b (b + 1) h h8 → Src h8 b (m + 2000 + 10 * (k - i) + 8) → OwnJ h8 h.length jb (k - i + 1) → P 0 σ h8 := by
        intro σ h8 q0 q4 q5 q6 M8 hs8 hO
        subst hP
        simp only [seqQ_zero]
        simp (disch := omega) [q0, q4, q5, q6, wrap64]
        have hO' : OwnJ h8 h.length jb (k - (i - 1)) := by
          obtain ⟨X', r', x1, x2, x3⟩ := hO
          exact ⟨X', r', x1, x2, by omega⟩
        exact ⟨i - 1, ⟨by omega, M8, by omega, hs8.mono (by omega), hO'⟩, by omega⟩
      rw [awp_block]
      have post' : ∀ (σ : Nat → Value) (h8 : Heap), σ 0 = pt b 0 → σ 4 = .agg #[I 0, I 0, sl 0 0 0 0, sl 0 0 0 0, sl 0 0 0 0] → σ 5 = pt jb 0 → σ 6 = I i → Mod b (b + 1) h h8 → Src h8 b (m + 2000 + 10 * (k - i) + 8) → OwnJ h8 h.length jb (k - i + 1) → blockQ 1 P 0 σ h8 := by
        intro σ h8 q0 q4 q5 q6 M8 hs8 hO
        rw [blockQ_eq, if_neg (by omega)]
        exact post σ h8 q0 q4 q5 q6 M8 hs8 hO
      clear post hP
      generalize blockQ 1 P = B1 at post' ⊢
      obtain ⟨b1, z1, b2, z2, b3, z3, hx⟩ := hJ
      have hJ : JM h' h.length jb X rest := ⟨b1, z1, b2, z2, b3, z3, hx⟩
      have hx : JMx h' h.length jb X rest b1 z1 b2 z2 b3 z3 := hx
      have kk2 := hx.cells.1
      have hbl : X.1.2.2.length ≤ 112 := by
        obtain ⟨ok, _, _⟩ := okJ_parts (W := X.1.1) (H := X.1.2.1) (br := X.1.2.2) (p := X.2.1) (f := X.2.2) okX
        exact ok_len ok
      rw [awp_seq, awp_reg]
      generalize hC : seqQ Gam _ _ 0 = C
      simp (disch := omega) [q0, q5, kk2]
      refine callW_of (c433 h' 1 X.1.2.2.length) ?_
      rintro _ h4 ⟨rfl, rfl⟩
      obtain ⟨mx, emx⟩ : ∃ mx : Int, mx = (if (X.1.2.2.length : Int) < 1 then (1 : Int) else (X.1.2.2.length : Int)) := ⟨_, rfl⟩
      refine ⟨fun e => (by cases e), ?_⟩
      have bmx : 1 ≤ mx ∧ mx ≤ 112 := by rw [emx]; split <;> omega
      rw [← emx]
      refine callW_of (c7 h4 b _ mx hs' (by omega) (by unfold I64; omega)) ?_
      rintro _ h5 ⟨nu, rfl, nu1, nu2, md5, l5, hs5⟩
      have hJ5 := hJ.mod md5 (by omega)
      clear hJ hx kk2 emx
      refine ⟨fun e => (by cases e), ?_⟩
      try simp (disch := omega) [q0, q5]
      subst hC
      simp only [seqQ_zero]
      rw [awp_seq, awp_reg]
      generalize hC : seqQ Gam _ _ 0 = C
      simp (disch := omega) [q0, q5]
      refine callW_of (c7 h5 b _ 3 hs5 (by omega) (by unfold I64; omega)) ?_
      rintro _ h6 ⟨kd, rfl, kd1, kd2, md6, l6, hs6⟩
      have hJ6 := hJ5.mod md6 (by omega)
      refine ⟨fun e => (by cases e), ?_⟩
      try simp (disch := omega) [q0, q5]
      refine callW_of (c556 h6 h.length jb X rest nu kd (by unfold I64; omega) (by unfold I64; omega) hJ6) ?_
      rintro _ h7 ⟨rfl, hn0, h0⟩
      have key : ∃ Y rest', JM h7 h.length jb Y rest' ∧ okJ Y = true ∧ Y.2.1.length + Y.2.2.length ≤ k - i + 1 ∧ Mod h.length h6.length h6 h7 := by
        by_cases hc : doCode X nu kd = 0
        · obtain ⟨mdd, hJd⟩ := h0 hc
          exact ⟨_, _, hJd, (do_law (W := X.1.1) (H := X.1.2.1) (br := X.1.2.2) (p := X.2.1) (f := X.2.2) okX hc).1, by simp [doJ]; omega, mdd⟩
        · obtain rfl := hn0 hc
          exact ⟨X, rest, hJ6, okX, by omega, Mod.refl _ _ _⟩
      obtain ⟨Y, rest', hJ7, okY, hYc, md7⟩ := key
      have hs7 := hs6.mod md7 hb
      have L5 := md5.1; have L6 := md6.1; have L7 := md7.1
      have M7 : Mod b (b + 1) h h7 := ⟨by omega, fun c hc hn => by rw [md7.2 c (by omega) (by omega), ((md.trans md5).trans md6).2 c hc hn]⟩
      have L7h := M7.1
      clear hn0 h0 hJ6 hJ5 md5 md6 hs5 hs6 md7 md
      obtain ⟨b1, z1, b2, z2, b3, z3, hx⟩ := hJ7
      have hJ7 : JM h7 h.length jb Y rest' := ⟨b1, z1, b2, z2, b3, z3, hx⟩
      have hx : JMx h7 h.length jb Y rest' b1 z1 b2 z2 b3 z3 := hx
      have kk3 := hx.cells.2.1
      clear hx
      have hnY := (JK.of okY).n
      refine ⟨fun e => (by cases e), ?_⟩
      try simp (disch := omega) [q0, q5]
      subst hC
      simp only [seqQ_zero]
      obtain ⟨w, hw⟩ : ∃ w : Bool, w = decide (0 < Y.2.1.length) := ⟨_, rfl⟩
      rw [awp_seq, awp_reg]
      generalize hC : seqQ Gam _ _ 0 = C
      simp (disch := omega) [q0, q5, kk3, ← hw]
      cases w
      · simp (disch := omega) [q0, q5]
        subst hC
        simp only [seqQ_zero]
        simp (disch := omega)
        exact post' _ h7 (by simpa using q0) (by simpa using q4) (by simpa using q5) (by simpa using q6) M7 (hs7.mono (by omega)) ⟨Y, rest', hJ7, okY, hYc⟩
      · have hpe : Y.2.1 ≠ [] := by intro e; rw [e] at hw; simp at hw
        simp (disch := omega) [q0, q5]
        refine callW_of (c6 h7 b _ 4 hs7 (by omega) (by unfold I64; omega)) ?_
        rintro _ h8 ⟨x, rfl, md8, l8, hs8⟩
        have hJ8 := hJ7.mod md8 (by omega)
        have M8 := M7.trans md8
        refine ⟨fun e => (by cases e), ?_⟩
        try simp (disch := omega)
        subst hC
        simp only [seqQ_zero]
        cases x
        · simp (disch := omega)
          exact post' _ h8 (by simpa using q0) (by simpa using q4) (by simpa using q5) (by simpa using q6) M8 (hs8.mono (by omega)) ⟨Y, rest', hJ8, okY, hYc⟩
        · simp (disch := omega) [q0, q5]
          refine callW_of (undo_s h8 _ jb Y rest' hJ8 (JK.of okY) hpe) ?_
          rintro _ h9 ⟨md9, rest9, hJ9⟩
          have hs9 := hs8.mod md9 hb
          have M9 : Mod b (b + 1) h h9 := ⟨by have := md9.1; omega, fun c hc hn => by rw [md9.2 c (by omega) (by omega), M8.2 c hc hn]⟩
          simp (disch := omega)
          exact post' _ h9 (by simpa using q0) (by simpa using q4) (by simpa using q5) (by simpa using q6) M9 (hs9.mono (by omega)) ⟨_, rest9, hJ9, (undo_ok okY hpe).1, by have := (undoJ_len Y).2; omega⟩
    · simp (disch := omega)
      subst hA
      subst hK
      obtain ⟨cs, hk, hl, ov⟩ := hJ.voj
      have cw : cellsAt h' jb 0 5 = some cs := cellsAt_all hk hl.symm
      simp (disch := omega) [cw, hl, q4, q5, resOf, resAll, resOne, aField]
      have et : cs.take 5 = cs := List.take_of_length_le (by omega)
      try rw [et]
      obtain ⟨⟨W', H', br'⟩, p', f'⟩ := X
      exact ⟨W', H', br', p', f', okX, by simp only at hXc; omega, md, ov⟩
end Am
/-! AmS4 -/
set_option linter.unusedVariables false
set_option linter.unusedSimpArgs false
set_option maxHeartbeats 4000000
set_option maxRecDepth 4000
namespace Am
open Go

theorem c327 (h : Heap) (v : Value) (X : List Int) (hv : Vr h shBytes v X) : ACall Gam 327 [v] h fun r h' => ∃ J : Jrn, okJ J = true ∧ J.2.1.length + J.2.2.length ≤ 9 ∧ Grows h h' ∧ VoJ h' h.length h'.length r J := by
  refine ACall_intro g327 rfl ?_
  unfold fn327
  simp (disch := omega)
  refine callW_of (c431 h v X hv) ?_
  rintro _ h1 ⟨rfl, g1, l1, hs1⟩
  simp (disch := omega)
  refine callW_of (c557 h1 h.length 0 9 hs1 (by omega) (by omega)) ?_
  rintro r h2 ⟨J, ok, hle, md, ov⟩
  have G : Grows h h2 := md.grows g1 (Nat.le_refl _)
  obtain ⟨a1, a2, a3, a4, a5, rfl⟩ := ov.vr.journal5
  obtain ⟨⟨W, H, br⟩, p, f⟩ := J
  simp (disch := omega) [resOf, resAll, resOne, aField]
  exact ⟨W, H, br, p, f, ok, by simp only at hle; omega, G, ov.wide (by omega) (Nat.le_refl _)⟩
theorem c258 (h : Heap) (v w : Value) (X Y : List Int) (hv : Vr h shBytes v X) (hw : Vr h shBytes w Y) : ACall Gam 258 [v, w] h fun r h' => r = B (decide (3000 < X.length) || decide (3000 < Y.length)) ∧ h' = h := by
  obtain ⟨b, o, z, rfl, hm, _⟩ := byte_at hv
  obtain ⟨b2, o2, z2, rfl, hm2, _⟩ := byte_at hw
  refine ACall_intro g258 rfl ?_
  unfold fn258
  obtain ⟨w1, hw1⟩ : ∃ w1 : Bool, w1 = decide ((3000 : Int) < X.length) := ⟨_, rfl⟩
  have e1 : decide (3000 < X.length) = w1 := by rw [hw1]; congr 1; apply propext; omega
  simp (disch := omega) [← hw1, e1]
  cases w1
  · simp (disch := omega)
    omega
  · simp (disch := omega)
theorem c257 (h : Heap) (v : Value) (X : List Int) (a : Nat) (n : Int) (hv : Vr h shBytes v X) (ha : a < 1000) (hn : I64 n) : ACall Gam 257 [v, I a, I n] h fun r h' => (∃ x : Nat, r = I x ∧ (1 ≤ n → (x : Int) < n)) ∧ h' = h := by
  obtain ⟨b, o, z, rfl, hm, hel⟩ := byte_at hv
  refine ACall_intro g257 rfl ?_
  unfold fn257
  rw [awp_seq, awp_reg]
  generalize hK : seqQ Gam _ _ 0 = K
  simp (disch := omega)
  subst hK
  simp only [seqQ_zero]
  rw [awp_seq]
  generalize hK : seqQ Gam _ _ = K
  obtain ⟨w1, hw1⟩ : ∃ w1 : Bool, w1 = decide (X.length ≤ a) := ⟨_, rfl⟩
  obtain ⟨w2, hw2⟩ : ∃ w2 : Bool, w2 = decide (n < 1) := ⟨_, rfl⟩
  simp (disch := omega) [← hw1]
  cases w1
  · have h1 : ¬ X.length ≤ a := by simpa using hw1
    simp (disch := omega) [← hw2]
    cases w2
    · have hn1 : 1 ≤ n := by have : ¬ n < 1 := by simpa using hw2
                             omega
      obtain ⟨nn, rfl⟩ := Int.eq_ofNat_of_zero_le (show 0 ≤ n by omega)
      obtain ⟨x, e1, e2⟩ := hel a (by omega)
      simp (disch := omega)
      subst hK
      simp only [seqQ_zero]
      have e : (x : Int).tmod nn = ((x % nn : Nat) : Int) := by rw [tmod_pos (by omega), Int.natCast_emod]
      have hn0 : nn ≠ 0 := by omega
      have hlt : a < X.length := by omega
      have lt := Nat.mod_lt x (show 0 < nn by omega)
      obtain ⟨r, hr⟩ : ∃ r, r = x % nn := ⟨_, rfl⟩
      rw [← hr] at e lt
      simp (disch := omega) [e1, wrap64, e, hn0, hlt]
      exact ⟨r, rfl, fun _ => lt⟩
    · have hn1 : n < 1 := by simpa using hw2
      simp (disch := omega)
      subst hK
      simp (disch := omega)
      exact ⟨0, rfl, by omega⟩
  · simp (disch := omega)
    subst hK
    simp (disch := omega)
    exact ⟨0, rfl, by omega⟩
theorem c420 (h : Heap) (v w : Value) (X Y : Pan) (hv : Vr h shPanel v X) (hw : Vr h shPanel w Y) : ACall Gam 420 [v, w] h fun r h' => r = B (samP X Y) ∧ Grows h h' := by
  obtain ⟨W, H, br⟩ := X
  obtain ⟨W2, H2, br2⟩ := Y
  obtain ⟨s, rfl, w1, w2, r1⟩ := hv.panel
  obtain ⟨s', rfl, w3, w4, r2⟩ := hw.panel
  refine ACall_intro g420 rfl ?_
  unfold fn420
  simp (disch := omega)
  obtain ⟨ha, eha⟩ : ∃ ha, ha = h ++ [⟨[I W, I H, s], true⟩] ++ [⟨[I W2, I H2, s'], true⟩] := ⟨_, rfl⟩
  have ga : Grows h ha := ⟨[⟨[I W, I H, s], true⟩, ⟨[I W2, I H2, s'], true⟩], by rw [eha]; simp⟩
  have ka : ha[h.length]? = some ⟨[I W, I H, s], true⟩ := by rw [eha]; simp
  have kb : ha[h.length + 1]? = some ⟨[I W2, I H2, s'], true⟩ := by rw [eha]; simp
  simp only [List.append_assoc, List.cons_append, List.nil_append] at eha
  rw [← eha]
  refine callW_of (c456 ha _ _ _ _ (PtP.at ka (r1.grow ga) w1 w2) (PtP.at kb (r2.grow ga) w3 w4)) ?_
  rintro _ h1 ⟨rfl, rfl⟩
  refine ⟨fun e => (by cases e), ?_⟩
  simp (disch := omega)
  exact ga
end Am
