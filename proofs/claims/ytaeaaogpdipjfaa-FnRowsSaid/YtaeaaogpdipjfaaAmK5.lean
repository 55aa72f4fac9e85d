/- Contracts: AmS13, AmR1, AmR2, AmR3, AmR4, AmR5. -/
import Derived.Test.YtaeaaogpdipjfaaAmK4
import Derived.Test.YtaeaaogpdipjfaaAmK2
import Derived.Test.YtaeaaogpdipjfaaAmK3
import Derived.Test.YtaeaaogpdipjfaaAmK1
/-! AmS13 -/
set_option linter.unusedVariables false
set_option linter.unusedSimpArgs false
set_option maxHeartbeats 4000000
set_option maxRecDepth 4000
namespace Am
open Go

theorem ints_at2 {h : Heap} {v : Value} {X : List Int} (hv : Vr h shInts v X) : ∃ b o z, v = sl b o X.length z ∧ X.length ≤ maxLen ∧ ∀ k (hk : k < X.length), cell h b (o + k) = some (I X[k]) := by
  obtain ⟨b, o, z, rfl, _, hm, _, hc⟩ := hv.ints
  exact ⟨b, o, z, rfl, hm, fun k hk => ints_cell hc hk⟩
theorem c271 (h : Heap) (v w : Value) (X Y : List Int) (hv : Vr h shInts v X) (hw : Vr h shInts w Y) : ACall Gam 271 [v, w] h fun r h' => r = B (decide (X = Y)) ∧ h' = h := by
  obtain ⟨b1, o1, z1, rfl, hm1, hc1⟩ := ints_at2 hv
  obtain ⟨b2, o2, z2, rfl, hm2, hc2⟩ := ints_at2 hw
  rw [maxLen_eq] at hm1 hm2
  refine ACall_intro g271 rfl ?_
  unfold fn271
  simp (disch := omega)
  refine fork_dec (fun heq => ?_) (fun hne => ?_)
  · simp (disch := omega)
    refine awp_loop (fun k σ h' => h' = h ∧ k ≤ X.length ∧ X.take k = Y.take k ∧ σ 0 = sl b1 o1 X.length z1 ∧ σ 1 = sl b2 o2 Y.length z2 ∧ σ 5 = I k) (fun k => X.length - k) 0 ?_ ?_
    · simp
    · rintro k σ h' ⟨rfl, hk, ht, h0, h1, h5⟩
      simp (disch := omega) [h0, h1, h5]
      refine fork_dec (fun hlt => ?_) (fun hge => ?_)
      · have k1 : k < X.length := by omega
        have k2 : k < Y.length := by omega
        simp (disch := omega) [h0, h1, h5, hc1 k k1, hc2 k k2, k1, k2]
        refine fork_dec (fun he => ?_) (fun he => ?_)
        · simp (disch := omega) [h0, h1, h5]
          refine ⟨k + 1, ⟨by omega, ?_, ?_⟩, by omega⟩
          · rw [List.take_succ_eq_append_getElem k1, List.take_succ_eq_append_getElem k2, ht, he]
          · rw [wrap64 (by omega) (by omega)]; simp
        · simp (disch := omega) [h0, h1, h5]
          exact take_ne k1 k2 he
      · simp (disch := omega) [h0, h1, h5]
        have q1 : k = X.length := by omega
        have q2 : X.length = Y.length := by omega
        subst q1
        rw [List.take_length, q2, List.take_length] at ht
        exact ht
  · simp (disch := omega)
    intro e; apply hne; rw [e]

end Am
/-! AmR1 -/
set_option linter.unusedVariables false
set_option linter.unusedSimpArgs false
set_option maxHeartbeats 4000000
set_option maxRecDepth 4000
namespace Am
open Go

def okM (n x : Int) : Bool := !decide (x = 0) && inR x (IntKind.i64.wrap (1 - n)) (IntKind.i64.wrap (n - 1))
/-- A word of moves. -/
def okW (n : Int) (l : List Int) : Bool := inR n 2 12 && (decide (l.length ≤ 200) && l.all (okM n))
structure OkWd (n : Nat) (l : List Int) : Prop where
  hn : 2 ≤ n ∧ n ≤ 12
  hl : l.length ≤ 200
  hm : ∀ x ∈ l, 1 ≤ x.natAbs ∧ x.natAbs < n
theorem wall_take {f : Int → Bool} {X : List Int} {k : Nat} (hk : k < X.length) (h : (X.take k).all f = true) (h1 : f X[k] = true) : (X.take (k + 1)).all f = true := by
  rw [List.take_succ_eq_append_getElem hk, List.all_append, h]; simpa using h1
theorem wall_not {f : Int → Bool} {X : List Int} {k : Nat} (hk : k < X.length) (h1 : f X[k] = false) : X.all f = false := by
  rw [List.all_eq_false]
  exact ⟨_, List.getElem_mem hk, by simp [h1]⟩
theorem okW_iff {n : Int} {l : List Int} (h : okW n l = true) : ∃ k : Nat, n = k ∧ OkWd k l := by
  unfold okW at h
  simp only [Bool.and_eq_true, decide_eq_true_eq, List.all_eq_true] at h
  obtain ⟨h1, h2, h3⟩ := h
  have h1 := inR_iff.1 h1
  obtain ⟨k, rfl⟩ := Int.eq_ofNat_of_zero_le (show 0 ≤ n by omega)
  refine ⟨k, rfl, by omega, h2, fun x hx => ?_⟩
  have := h3 x hx
  unfold okM at this
  simp only [Bool.and_eq_true, Bool.not_eq_true', decide_eq_false_iff_not] at this
  obtain ⟨q1, q2⟩ := this
  rw [wrap64 (by omega) (by omega), wrap64 (by omega) (by omega)] at q2
  have := inR_iff.1 q2
  omega
theorem OkWd.ok {n : Nat} {l : List Int} (h : OkWd n l) : okW n l = true := by
  unfold okW
  simp only [Bool.and_eq_true, decide_eq_true_eq, List.all_eq_true]
  have := h.hn
  refine ⟨inR_iff.2 (by omega), h.hl, fun x hx => ?_⟩
  have := h.hm x hx
  unfold okM
  simp only [Bool.and_eq_true, Bool.not_eq_true', decide_eq_false_iff_not]
  rw [wrap64 (by omega) (by omega), wrap64 (by omega) (by omega)]
  exact ⟨by omega, inR_iff.2 (by omega)⟩

theorem c142 (h : Heap) (n : Int) (v : Value) (X : List Int) (hv : Vr h shInts v X) (hs : X.length ≤ 1048576) : ACall Gam 142 [I n, v] h fun r h' => r = B (okW n X) ∧ h' = h := by
  obtain ⟨bb, o, zz, rfl, hzz, hm, hx, hc⟩ := hv.ints
  obtain ⟨d, hd⟩ : ∃ d, d = okW n X := ⟨_, rfl⟩
  rw [← hd]
  refine ACall_intro g142 rfl ?_
  unfold fn142
  simp (disch := omega)
  refine awp_loop (fun k σ h' => k ≤ X.length ∧ h' = h ∧ (X.take k).all (okM n) = true ∧ σ 0 = I n ∧ σ 1 = sl bb o X.length zz ∧ σ 7 = sl bb o X.length zz ∧ σ 8 = I X.length ∧ σ 9 = I k) (fun k => X.length - k) 0 ?_ ?_
  · simp
  · rintro k σ h' ⟨hk, rfl, ha, p0, p1, p7, p8, p9⟩
    simp (disch := omega) [p8, p9]
    refine fork_dec (fun hlt => ?_) (fun hge => ?_)
    · have k1 : k < X.length := by omega
      have q1 := ints_cell hc k1
      have hnot := fun e => wall_not (f := okM n) k1 e
      have hyes := fun e => wall_take (f := okM n) k1 ha e
      simp (disch := omega) [p0, p7, p9, k1, q1]
      by_cases e0 : X[k] = 0
      · have hn := hnot (by unfold okM; simp [e0])
        have : d = false := by rw [hd]; unfold okW; rw [hn]; simp
        subst this
        simp (disch := omega) [e0]
      · simp (disch := omega) [p0, p7, p9, k1, q1, e0]
        refine callW_of (c164 _ _ _ _) ?_
        rintro _ h' ⟨rfl, rfl⟩
        try refine ⟨fun e => (by cases e), ?_⟩
        cases e1 : inR X[k] (IntKind.i64.wrap (1 - n)) (IntKind.i64.wrap (n - 1))
        · have hn := hnot (by unfold okM; simp [e0, e1])
          have : d = false := by rw [hd]; unfold okW; rw [hn]; simp
          subst this
          simp (disch := omega)
        · simp (disch := omega) [p0, p1, p7, p8, p9, wrap64]
          exact ⟨k + 1, ⟨by omega, List.all_eq_true.1 (hyes (by unfold okM; simp [e0, e1])), by omega⟩, by omega⟩
    · have : k = X.length := by omega
      subst this
      rw [List.take_length] at ha
      simp (disch := omega) [p0, p1, p7, p8, p9]
      refine callW_of (c164 _ _ _ _) ?_
      rintro _ h' ⟨rfl, rfl⟩
      try refine ⟨fun e => (by cases e), ?_⟩
      cases e1 : inR n 2 12
      · have : d = false := by rw [hd]; unfold okW; rw [e1]; simp
        subst this
        simp (disch := omega)
      · have : d = decide ((X.length : Int) ≤ 200) := by
          rw [hd]; unfold okW; rw [e1, ha]
          by_cases q : X.length ≤ 200
          · simp [q]; omega
          · simp [q]; omega
        subst this
        simp (disch := omega) [p1]
theorem c531 (h : Heap) (n : Int) (v : Value) (X : List Int) (hv : Vr h shInts v X) (hs : X.length ≤ 1048576) : ACall Gam 531 [I n, v] h fun r h' => r = B (okW n X) ∧ h' = h := by
  obtain ⟨bb, o, zz, rfl, hzz, hm, hx, hc⟩ := hv.ints
  obtain ⟨d, hd⟩ : ∃ d, d = okW n X := ⟨_, rfl⟩
  rw [← hd]
  refine ACall_intro g531 rfl ?_
  unfold fn531
  simp (disch := omega)
  refine callW_of (c432 _ _ _ _) ?_
  rintro _ h' ⟨rfl, rfl⟩
  try refine ⟨fun e => (by cases e), ?_⟩
  cases e1 : inR n 2 12
  · have : d = false := by rw [hd]; unfold okW; rw [e1]; simp
    subst this
    simp (disch := omega)
  by_cases hl : X.length ≤ 200
  rotate_left
  · have : d = false := by rw [hd]; unfold okW; simp [hl]
    subst this
    have : (200 : Int) < X.length := by omega
    simp (disch := omega) [this]
  have hl' : ¬ (200 : Int) < X.length := by omega
  simp (disch := omega) [hl']
  refine awp_loop (fun k σ h'' => k ≤ X.length ∧ h'' = h' ∧ (X.take k).all (okM n) = true ∧ σ 0 = I n ∧ σ 1 = sl bb o X.length zz ∧ σ 5 = I k) (fun k => X.length - k) 0 ?_ ?_
  · simp
  · rintro k σ h'' ⟨hk, rfl, ha, p0, p1, p5⟩
    simp (disch := omega) [p1, p5]
    refine fork_dec (fun hlt => ?_) (fun hge => ?_)
    · have k1 : k < X.length := by omega
      have q1 := ints_cell hc k1
      have hnot := fun e => wall_not (f := okM n) k1 e
      have hyes := fun e => wall_take (f := okM n) k1 ha e
      simp (disch := omega) [p0, p1, p5, k1, q1]
      by_cases e0 : X[k] = 0
      · have hn := hnot (by unfold okM; simp [e0])
        have : d = false := by rw [hd]; unfold okW; rw [hn]; simp
        subst this
        simp (disch := omega) [e0]
      · simp (disch := omega) [p0, p1, p5, k1, q1, e0]
        refine callW_of (c432 _ _ _ _) ?_
        rintro _ h' ⟨rfl, rfl⟩
        try refine ⟨fun e => (by cases e), ?_⟩
        cases e2 : inR X[k] (IntKind.i64.wrap (1 - n)) (IntKind.i64.wrap (n - 1))
        · have hn := hnot (by unfold okM; simp [e0, e2])
          have : d = false := by rw [hd]; unfold okW; rw [hn]; simp
          subst this
          simp (disch := omega)
        · simp (disch := omega) [p0, p1, p5, wrap64]
          exact ⟨k + 1, ⟨by omega, List.all_eq_true.1 (hyes (by unfold okM; simp [e0, e2])), by omega⟩, by omega⟩
    · have : k = X.length := by omega
      subst this
      rw [List.take_length] at ha
      have : d = true := by rw [hd]; unfold okW; rw [e1, ha]; simp [hl]
      subst this
      simp (disch := omega) [p0, p1, p5]

/-! ### places -/
theorem c185 (h : Heap) (x : Int) (hx : x.natAbs ≤ 1000) : ACall Gam 185 [I x] h fun r h' => r = I x.natAbs ∧ h' = h := by
  refine ACall_intro g185 rfl ?_
  unfold fn185
  simp (disch := omega) [wrap64, aMax]
  split <;> omega
theorem c512 (h : Heap) (x : Int) (hx : x.natAbs ≤ 1000) : ACall Gam 512 [I x] h fun r h' => r = I x.natAbs ∧ h' = h := by
  refine ACall_intro g512 rfl ?_
  unfold fn512
  simp (disch := omega) [wrap64]
  refine callW_of (c433 _ _ _) ?_
  rintro _ h' ⟨rfl, rfl⟩
  try refine ⟨fun e => (by cases e), ?_⟩
  simp (disch := omega)
  split <;> omega
end Am
/-! AmR2 -/
set_option linter.unusedVariables false
set_option linter.unusedSimpArgs false
set_option maxHeartbeats 4000000
set_option maxRecDepth 4000
namespace Am
open Go

/-- A move made. -/
def swp (o : List Int) (m : Int) : List Int := (o.set (m.natAbs - 1) (at0 o m.natAbs)).set m.natAbs (at0 o (m.natAbs - 1))
def firstW (n : Nat) : List Int := (List.range n).map fun (k : Nat) => (k : Int)
def ordW (n : Nat) (l : List Int) : List Int := l.foldl swp (firstW n)
theorem swp_len (o : List Int) (m : Int) : (swp o m).length = o.length := by simp [swp]
theorem first_len (n : Nat) : (firstW n).length = n := by simp [firstW]
theorem first_succ (n : Nat) : firstW (n + 1) = firstW n ++ [(n : Int)] := by simp [firstW, List.range_succ]
theorem fold_len : ∀ (l : List Int) (o : List Int), (l.foldl swp o).length = o.length
  | [], o => rfl
  | m :: l, o => by rw [List.foldl_cons, fold_len l, swp_len]
theorem ord_len (n : Nat) (l : List Int) : (ordW n l).length = n := by unfold ordW; rw [fold_len, first_len]
theorem ord_succ {n : Nat} {l : List Int} {k : Nat} (hk : k < l.length) : ordW n (l.take (k + 1)) = swp (ordW n (l.take k)) l[k] := by
  unfold ordW
  rw [List.take_succ_eq_append_getElem hk, List.foldl_append]; rfl
theorem swp_64 {o : List Int} {m : Int} (h : ∀ x ∈ o, I64 x) : ∀ x ∈ swp o m, I64 x := by
  have ha : ∀ k, I64 (at0 o k) := by
    intro k
    by_cases q : k < o.length
    · rw [at0_of q]; exact h _ (List.getElem_mem q)
    · unfold at0; rw [List.getD_eq_getElem?_getD, List.getElem?_eq_none (by omega)]; unfold I64; simp
  intro x hx
  unfold swp at hx
  rcases List.mem_or_eq_of_mem_set hx with hx | rfl
  · rcases List.mem_or_eq_of_mem_set hx with hx | rfl
    · exact h x hx
    · exact ha _
  · exact ha _
theorem ord_64 {n : Nat} {l : List Int} (hn : n ≤ 100) : ∀ x ∈ ordW n l, I64 x := by
  unfold ordW
  have h0 : ∀ x ∈ firstW n, I64 x := by
    intro x hx
    unfold firstW at hx
    obtain ⟨k, hk, rfl⟩ := List.mem_map.1 hx
    have := List.mem_range.1 hk
    unfold I64; omega
  revert h0
  generalize firstW n = o
  intro h0
  induction l generalizing o with
  | nil => exact h0
  | cons m l ih => rw [List.foldl_cons]; exact ih _ (swp_64 h0)
theorem buf_ints {h0 h : Heap} {v : Value} {l : List Int} (x : Buf h0 h v 1 (ints l)) (hl : 0 < l.length) : ∃ b, v = sl b 0 l.length 1 ∧ h0.length ≤ b ∧ h[b]? = some ⟨ints l, true⟩ := by
  rcases x with ⟨e, _⟩ | ⟨b, n, rfl, h1, h2, h3⟩
  · exfalso
    have := congrArg List.length e
    simp [ints] at this
    subst this
    simp at hl
  · refine ⟨b, ?_, h2, h3⟩
    have : n = l.length := by simpa [ints] using h1
    rw [this]
theorem ints_buf {h0 h : Heap} {b : Nat} {l : List Int} (h1 : h0.length ≤ b) (h2 : h[b]? = some ⟨ints l, true⟩) : Buf h0 h (sl b 0 l.length 1) 1 (ints l) := .inr ⟨b, l.length, rfl, by simp [ints], h1, h2⟩
theorem blk_cell {h : Heap} {b k : Nat} {l : List Int} (hb : h[b]? = some ⟨ints l, true⟩) (hk : k < l.length) : cell h b k = some (I (at0 l k)) := cell_of hb (by simp [ints, at0_of hk, hk])
theorem blk_set {h : Heap} {b : Nat} {c d : Blk} (hb : h[b]? = some c) : (h.set b d)[b]? = some d := by
  rw [List.getElem?_set_self (at_lt hb)]

theorem c530 (h : Heap) (n : Nat) (hn : n ≤ 100) (hp : 0 < h.length) : ACall Gam 530 [I n] h fun r h' => Grows h h' ∧ Buf h h' r 1 (ints (firstW n)) := by
  refine ACall_intro g530 rfl ?_
  unfold fn530
  simp (disch := omega)
  refine awp_loop (fun k σ h' => k ≤ n ∧ Grows h h' ∧ σ 0 = I n ∧ Buf h h' (σ 3) 1 (ints (firstW k)) ∧ σ 4 = I k) (fun k => n - k) 0 ?_ ?_
  · exact ⟨by omega, Grows.refl _, by simp, by simpa [firstW, ints] using Buf.nil, by simp⟩
  · rintro k σ h' ⟨hk, hg, p0, hb, p4⟩
    simp (disch := omega) [p0, p4]
    refine fork_dec (fun hlt => ?_) (fun hge => ?_)
    · simp (disch := omega) [p0, p4]
      refine append_int (h := h) hp (by rw [first_len]; omega) hg hb fun v' h'' g1 b1 _ => ?_
      simp (disch := omega) [p0, p4, wrap64]
      exact ⟨k + 1, ⟨by omega, g1, by rw [first_succ]; exact b1, by omega⟩, by omega⟩
    · have : k = n := by omega
      subst this
      simp (disch := omega)
      exact ⟨hg, hb⟩
theorem c534 (h : Heap) (b : Nat) (o : List Int) (m : Int) (hb : h[b]? = some ⟨ints o, true⟩) (h1 : 1 ≤ m.natAbs) (h2 : m.natAbs < o.length) (h3 : o.length ≤ 100) : ACall Gam 534 [sl b 0 o.length 1, I m] h fun r h' => h' = h.set b ⟨ints (swp o m), true⟩ := by
  obtain ⟨k, hk⟩ : ∃ k, k + 1 = m.natAbs := ⟨m.natAbs - 1, by omega⟩
  refine ACall_intro g534 rfl ?_
  unfold fn534
  simp (disch := omega)
  refine callW_of (c512 h m (by omega)) ?_
  rintro _ h' ⟨rfl, rfl⟩
  try refine ⟨fun e => (by cases e), ?_⟩
  have e1 : ((m.natAbs : Nat) : Int) - 1 = (k : Int) := by omega
  have q1 := blk_cell hb (k := k) (by omega)
  have q2 := blk_cell hb (k := m.natAbs) h2
  have k0 : (k : Int) < o.length := by omega
  have k1 : k < o.length := by omega
  have k2 : ((m.natAbs : Nat) : Int) < o.length := by omega
  have st := store_int (v := at0 o m.natAbs) hb k1
  have st2 := store_int (v := at0 o k) (blk_set (d := ⟨ints (o.set k (at0 o m.natAbs)), true⟩) hb) (k := m.natAbs) (by simpa using h2)
  simp (disch := omega) [wrap64, e1, q1, q2, k0, k1, k2, h2, st, st2]
  unfold swp
  rw [show m.natAbs - 1 = k by omega]
theorem c532 (h : Heap) (hp : 0 < h.length) (n : Nat) (v : Value) (X : List Int) (hv : Vr h shInts v X) (ok : OkWd n X) : ACall Gam 532 [I n, v] h fun r h' => Grows h h' ∧ Buf h h' r 1 (ints (ordW n X)) := by
  obtain ⟨bb, o, zz, rfl, hzz, hm, hx, hc⟩ := hv.ints
  have hn := ok.hn
  have hl := ok.hl
  refine ACall_intro g532 rfl ?_
  unfold fn532
  rw [awp_seq, awp_reg]
  generalize hK : seqQ Gam _ _ 0 = K
  simp (disch := omega)
  subst hK
  simp only [seqQ_zero]
  simp (disch := omega)
  refine callW_of (c530 h n (by omega) hp) ?_
  rintro _ h1 ⟨g1, b1⟩
  try refine ⟨fun e => (by first | exact g1 | cases e), ?_⟩
  obtain ⟨b, rfl, hb1, hb2⟩ := buf_ints b1 (by rw [first_len]; omega)
  rw [first_len]
  try simp (disch := omega)
  refine awp_loop (fun k σ h' => k ≤ X.length ∧ Grows h h' ∧ σ 1 = sl bb o X.length zz ∧ σ 5 = sl b 0 n 1 ∧ σ 6 = I k ∧ h'[b]? = some ⟨ints (ordW n (X.take k)), true⟩) (fun k => X.length - k) 0 ?_ ?_
  · exact ⟨by omega, g1, by simp, by simp, by simp, by simpa [ordW] using hb2⟩
  · rintro k σ h' ⟨hk, hg, p1, p5, p6, hb⟩
    simp (disch := omega) [p1, p6]
    refine fork_dec (fun hlt => ?_) (fun hge => ?_)
    · have k1 : k < X.length := by omega
      have q1 := ints_cell (hc.imp id (grows_cellsAt hg)) k1
      have hm := ok.hm X[k] (List.getElem_mem k1)
      simp (disch := omega) [p1, p5, p6, k1, q1]
      have hcc := c534 h' b (ordW n (X.take k)) X[k] hb hm.1 (by rw [ord_len]; exact hm.2) (by rw [ord_len]; omega)
      rw [ord_len] at hcc
      refine callW_of hcc ?_
      rintro _ h'' rfl
      try refine ⟨fun e => (by cases e), ?_⟩
      simp (disch := omega) [p1, p5, p6, wrap64]
      exact ⟨k + 1, ⟨by omega, hg.put hb1 _, by omega, by rw [ord_succ k1]; exact blk_set hb⟩, by omega⟩
    · have : k = X.length := by omega
      subst this
      rw [List.take_length] at hb
      simp (disch := omega) [p5]
      refine ⟨hg, ?_⟩
      have := ints_buf hb1 hb
      rw [ord_len] at this
      exact this
theorem c105 (h : Heap) (a b : Value) : ACall Gam 105 [a, b] h fun r h' => h' = h := by
  refine ACall_intro g105 rfl ?_
  unfold fn105
  show awp Gam Code.skip (retQ [] _) _ _
  simp
theorem c184 (h : Heap) (hp : 0 < h.length) (n : Nat) (v : Value) (X : List Int) (hv : Vr h shInts v X) (ok : OkWd n X) : ACall Gam 184 [I n, v, .func (.func 105) #[] #[]] h fun r h' => Grows h h' ∧ Buf h h' r 1 (ints (ordW n X)) := by
  obtain ⟨bb, o, zz, rfl, hzz, hm, hx, hc⟩ := hv.ints
  have hn := ok.hn
  have hl := ok.hl
  refine ACall_intro g184 rfl ?_
  unfold fn184
  rw [awp_seq, awp_reg]
  generalize hK : seqQ Gam _ _ 0 = K
  simp (disch := omega)
  subst hK
  simp only [seqQ_zero]
  rw [awp_seq, awp_reg]
  generalize hK : seqQ Gam _ _ 0 = K
  simp (disch := omega)
  subst hK
  simp only [seqQ_zero]
  rw [awp_seq]
  generalize hK : seqQ Gam _ _ = K
  simp (disch := omega)
  refine awp_loop (fun k σ h' => k ≤ n ∧ Grows h h' ∧ σ 0 = I n ∧ σ 1 = sl bb o X.length zz ∧ σ 2 = .func (.func 105) #[] #[] ∧ σ 14 = I n ∧ Buf h h' (σ 7) 1 (ints (firstW k)) ∧ σ 15 = I k) (fun k => n - k) 0 ?_ ?_
  · exact ⟨by omega, Grows.refl _, by simp, by simp, by simp, by simp, by simpa [firstW, ints] using Buf.nil, by simp⟩
  · rintro k σ h' ⟨hk, hg, p0, p1, p2, p14, hb, p15⟩
    simp (disch := omega) [p14, p15]
    refine fork_dec (fun hlt => ?_) (fun hge => ?_)
    · simp (disch := omega) [p14, p15]
      refine append_int (h := h) hp (by rw [first_len]; omega) hg hb fun v' h'' g1 b1 _ => ?_
      simp (disch := omega) [p0, p1, p2, p14, p15, wrap64]
      exact ⟨k + 1, ⟨by omega, g1, by rw [first_succ]; exact b1, by first | rfl | omega⟩, by omega⟩
    · have : k = n := by omega
      subst this
      simp (disch := omega)
      subst hK
      simp only [seqQ_zero]
      obtain ⟨b, e7, hb1, hb2⟩ := buf_ints hb (by rw [first_len]; omega)
      rw [first_len] at e7
      rw [awp_seq]
      generalize hK : seqQ Gam _ _ = K
      simp (disch := omega) [p1]
      refine awp_loop (fun j σ h' => j ≤ X.length ∧ Grows h h' ∧ σ 2 = .func (.func 105) #[] #[] ∧ σ 7 = sl b 0 k 1 ∧ σ 23 = sl bb o X.length zz ∧ σ 24 = I X.length ∧ σ 25 = I j ∧ h'[b]? = some ⟨ints (ordW k (X.take j)), true⟩) (fun j => X.length - j) 0 ?_ ?_
      · exact ⟨by omega, hg, by simp [p2], by simp [e7], by simp, by simp, by simp, by simpa [ordW] using hb2⟩
      · rintro j σ h' ⟨hj, hg, t2, t7, t23, t24, t25, hb⟩
        simp (disch := omega) [t24, t25]
        refine fork_dec (fun hlt => ?_) (fun hge => ?_)
        · have k1 : j < X.length := by omega
          have q1 := ints_cell (hc.imp id (grows_cellsAt hg)) k1
          have hm := ok.hm X[j] (List.getElem_mem k1)
          obtain ⟨m, hm'⟩ : ∃ m, m = X[j] := ⟨_, rfl⟩
          obtain ⟨w, hw⟩ : ∃ w, w = ordW k (X.take j) := ⟨_, rfl⟩
          have wl : w.length = k := by rw [hw, ord_len]
          rw [← hw] at hb
          rw [← hm'] at hm q1
          simp (disch := omega) [t23, t25, k1, q1]
          refine callW_of (c185 h' m (by omega)) ?_
          rintro _ h'' ⟨rfl, rfl⟩
          try refine ⟨fun e => (by cases e), ?_⟩
          obtain ⟨i, hi⟩ : ∃ i, i + 1 = m.natAbs := ⟨m.natAbs - 1, by omega⟩
          have e1 : ((m.natAbs : Nat) : Int) - 1 = (i : Int) := by omega
          have c1 := blk_cell hb (k := i) (by omega)
          have c2 := blk_cell hb (k := m.natAbs) (by omega)
          have i0 : (i : Int) < k := by omega
          have i1 : i < k := by omega
          have i2 : ((m.natAbs : Nat) : Int) < k := by omega
          have i3 : m.natAbs < k := by omega
          have st := store_int (v := at0 w m.natAbs) hb (show i < w.length by omega)
          have st2 := store_int (v := at0 w i) (blk_set (d := ⟨ints (w.set i (at0 w m.natAbs)), true⟩) hb) (k := m.natAbs) (by simp; omega)
          have es : (w.set i (at0 w m.natAbs)).set m.natAbs (at0 w i) = ordW k (X.take (j + 1)) := by
            rw [ord_succ k1, ← hw, ← hm']
            unfold swp
            rw [show m.natAbs - 1 = i by omega]
          rw [es] at st2
          simp (disch := omega) [t7, wrap64, e1, i0, i1, i2, i3, c1, c2]
          refine fork_dec (fun hn => ?_) (fun hn => ?_)
          · simp (disch := omega) [t7, wrap64, e1, i0, i1, i2, i3, c1, c2, st, st2, t2]
            refine callW_of (c105 _ _ _) ?_
            rintro _ h3 rfl
            try refine ⟨fun e => (by cases e), ?_⟩
            simp (disch := omega) [t2, t7, t23, t24, t25, wrap64]
            exact ⟨j + 1, ⟨by omega, hg.put hb1 _, by omega, blk_set hb⟩, by omega⟩
          · simp (disch := omega) [t7, wrap64, e1, i0, i1, i2, i3, c1, c2, st, st2, t2]
            refine callW_of (c105 _ _ _) ?_
            rintro _ h3 rfl
            try refine ⟨fun e => (by cases e), ?_⟩
            simp (disch := omega) [t2, t7, t23, t24, t25, wrap64]
            exact ⟨j + 1, ⟨by omega, hg.put hb1 _, by omega, blk_set hb⟩, by omega⟩
        · have : j = X.length := by omega
          subst this
          rw [List.take_length] at hb
          simp (disch := omega) [t7]
          subst hK
          simp (disch := omega) [t7]
          refine ⟨hg, ?_⟩
          have := ints_buf hb1 hb
          rw [ord_len] at this
          exact this
end Am
/-! AmR3 -/
set_option linter.unusedVariables false
set_option linter.unusedSimpArgs false
set_option maxHeartbeats 4000000
set_option maxRecDepth 4000
namespace Am
open Go

/-- A row: an own slice of numbers, or nil. -/
def RowV (B0 h : Heap) (w : Value) (l : List Int) : Prop := Buf B0 h w 1 (ints l) ∨ (l = [] ∧ w = sl 0 0 0 0)
theorem RowV.nil0 {B0 h : Heap} : RowV B0 h (sl 0 0 0 0) [] := .inr ⟨rfl, rfl⟩
theorem RowV.nil1 {B0 h : Heap} : RowV B0 h (sl 0 0 0 1) [] := .inl (.inl ⟨rfl, rfl⟩)
theorem RowV.ex {B0 h : Heap} {w : Value} {l : List Int} (r : RowV B0 h w l) : ∃ b n z, w = sl b 0 n z ∧ n = l.length ∧ (b = 0 ∨ (z = 1 ∧ B0.length ≤ b ∧ h[b]? = some ⟨ints l, true⟩)) := by
  rcases r with (⟨e1, e2⟩ | ⟨b, n, e, h1, h2, h3⟩) | ⟨e1, e2⟩
  · refine ⟨0, 0, 1, e2, ?_, .inl rfl⟩
    have := congrArg List.length e1
    simp [ints] at this
    simp [this]
  · exact ⟨b, n, 1, e, by simpa [ints] using h1, .inr ⟨rfl, h2, h3⟩⟩
  · exact ⟨0, 0, 0, e2, by simp [e1], .inl rfl⟩
theorem RowV.keep {B0 h h' : Heap} {v w : Value} {z : Nat} {l : List Int} (hp : 0 < B0.length) (r : RowV B0 h w l) (a : Apart v w) (fr : ∀ c kk, h[c]? = some kk → (∀ n, v ≠ sl c 0 n z) → h'[c]? = some kk) : RowV B0 h' w l := by
  rcases r with r | r
  · exact .inl (r.keep hp a fr)
  · exact .inr r
theorem RowV.apart {B0 h : Heap} {v w : Value} {l : List Int} (hp : 0 < B0.length) (r : RowV B0 h w l) (hv : ∀ b n y, v = sl b 0 n y → h.length < b) : Apart v w := by
  rcases r with r | ⟨e1, e2⟩
  · exact apart_of hp r hv
  · intro b c n1 m z1 y1 h1 h2 e
    have := hv b n1 z1 h1
    rw [e2] at h2
    simp [sl] at h2 <;> omega
theorem apart_nil {v : Value} {z : Nat} : Apart v (sl 0 0 0 z) := by
  intro b c n m z1 y1 h1 h2 e
  simp [sl] at h2
  omega
structure Fam (B0 h : Heap) (ws : List Value) (L : List (List Int)) : Prop where
  len : ws.length = L.length
  row : ∀ i (a : i < ws.length) (b : i < L.length), RowV B0 h ws[i] L[i]
  ap : ∀ i j (a : i < ws.length) (b : j < ws.length), i ≠ j → Apart ws[i] ws[j]
theorem Fam.nil {B0 h : Heap} : Fam B0 h [] [] := ⟨rfl, by simp, by simp⟩
/-- A new row beside the others. -/
theorem Fam.add {B0 h : Heap} {ws : List Value} {L : List (List Int)} {w : Value} {l : List Int} (f : Fam B0 h ws L) (r : RowV B0 h w l) (ha : ∀ x ∈ ws, Apart x w) : Fam B0 h (ws ++ [w]) (L ++ [l]) := by
  refine ⟨by simp [f.len], ?_, ?_⟩
  · intro i a b
    by_cases q : i < ws.length
    · rw [List.getElem_append_left q, List.getElem_append_left (by have := f.len; omega)]
      exact f.row i q _
    · have e1 : i = ws.length := by simp at a; omega
      have e2 : i = L.length := by rw [← f.len]; exact e1
      rw [List.getElem_append_right (by omega), List.getElem_append_right (by omega)]
      simpa using r
  · intro i j a b hne
    by_cases q : i < ws.length
    · rw [List.getElem_append_left q]
      by_cases q' : j < ws.length
      · rw [List.getElem_append_left q']
        exact f.ap i j q q' hne
      · rw [List.getElem_append_right (by omega)]
        simpa using ha _ (List.getElem_mem q)
    · rw [List.getElem_append_right (by omega)]
      have q' : j < ws.length := by simp at a b; omega
      rw [List.getElem_append_left q']
      simpa using (ha _ (List.getElem_mem q')).symm
theorem Fam.init {B0 h : Heap} {ws : List Value} {L : List (List Int)} {w : Value} {l : List Int} (f : Fam B0 h (ws ++ [w]) (L ++ [l])) : Fam B0 h ws L := by
  have hl := f.len
  simp at hl
  refine ⟨hl, fun i a b => ?_, fun i j a b hne => ?_⟩
  · have := f.row i (by simp; omega) (by simp; omega)
    rw [List.getElem_append_left a, List.getElem_append_left b] at this
    exact this
  · have := f.ap i j (by simp; omega) (by simp; omega) hne
    rw [List.getElem_append_left a, List.getElem_append_left b] at this
    exact this
/-- Something changes that is apart of all rows. -/
theorem Fam.keep {B0 h h' : Heap} {v : Value} {z : Nat} {ws : List Value} {L : List (List Int)} (hp : 0 < B0.length) (f : Fam B0 h ws L) (a : ∀ x ∈ ws, Apart v x) (fr : ∀ c kk, h[c]? = some kk → (∀ n, v ≠ sl c 0 n z) → h'[c]? = some kk) : Fam B0 h' ws L :=
  ⟨f.len, fun i q b => (f.row i q b).keep hp (a _ (List.getElem_mem q)) fr, f.ap⟩
theorem Fam.grow {B0 h h' : Heap} {ws : List Value} {L : List (List Int)} (hp : 0 < B0.length) (f : Fam B0 h ws L) (g : Grows h h') : Fam B0 h' ws L :=
  ⟨f.len, fun i q b => (f.row i q b).keep (v := I 0) (z := 1) hp (by intro b c n m z y e; simp [sl] at e) (fun c kk hk _ => g.at hk), f.ap⟩
theorem Fam.put {B0 h : Heap} {ws : List Value} {L : List (List Int)} {b : Nat} {k : Blk} (hp : 0 < B0.length) (f : Fam B0 h ws L) (hb : b < B0.length) : Fam B0 (h.set b k) ws L := by
  refine ⟨f.len, fun i q q' => ?_, f.ap⟩
  rcases f.row i q q' with (⟨e1, e2⟩ | ⟨c, n, e, h1, h2, h3⟩) | r
  · exact .inl (.inl ⟨e1, e2⟩)
  · refine .inl (.inr ⟨c, n, e, h1, h2, put_at h3 (by omega)⟩)
  · exact .inr r
theorem RowV.blk {B0 h : Heap} {w : Value} {l : List Int} (r : RowV B0 h w l) {c n z : Nat} (e : w = sl c 0 n z) : c = 0 ∨ B0.length ≤ c := by
  obtain ⟨b, n', z', e', _, q⟩ := r.ex
  rw [e] at e'
  simp [sl] at e'
  omega
/-- A number at the end of a row. -/
theorem fam_app {H0 B0 h : Heap} {ws : List Value} {L : List (List Int)} {i : Nat} {m : Int} {K : Value → Heap → Prop} (hp : 0 < B0.length) (g : Grows H0 h) (hB : H0.length ≤ B0.length) (hBh : B0.length ≤ h.length) (f : Fam B0 h ws L) (hi : i < ws.length) (hi' : i < L.length) (hl : L[i].length ≤ 1048576)
    (hK : ∀ v' h', Grows H0 h' → h.length ≤ h'.length → Fam B0 h' (ws.set i v') (L.set i (L[i] ++ [m])) → RowV B0 h' v' (L[i] ++ [m]) → (∀ b n y, v' = sl b 0 n y → h.length < b) → (∀ c kk, h[c]? = some kk → (∀ n, ws[i] ≠ sl c 0 n 1) → h'[c]? = some kk) → K v' h') :
    bindW (aBuildSlice 1 1 h [(0, .agg #[I 0]), (1, I m)]) fun y h'' => bindW (aAppend 1 h'' y ws[i]) K := by
  have e : aBuildSlice 1 1 h [(0, .agg #[I 0]), (1, I m)] = some (sl h.length 0 1 1, h ++ [⟨[I m], true⟩]) := by simp [aBuildSlice]
  rw [e]
  simp only [bindW_some]
  have fin : ∀ v' h', Grows H0 h' → h.length ≤ h'.length → RowV B0 h' v' (L[i] ++ [m]) → (∀ b n y, v' = sl b 0 n y → h.length < b) → (∀ c kk, h[c]? = some kk → (∀ n, ws[i] ≠ sl c 0 n 1) → h'[c]? = some kk) → K v' h' := by
    intro v' h' g' hle r nw fr
    refine hK v' h' g' hle ⟨by simp [f.len], ?_, ?_⟩ r nw fr
    · intro j a b
      simp only [List.getElem_set]
      by_cases q : i = j
      · rw [if_pos q, if_pos q]; exact r
      · rw [if_neg q, if_neg q]
        have a' : j < ws.length := by simpa using a
        have b' : j < L.length := by simpa using b
        exact (f.row j a' b').keep hp (f.ap i j hi a' q) fr
    · intro j k a b hne
      simp only [List.getElem_set]
      have a' : j < ws.length := by simpa using a
      have b' : k < ws.length := by simpa using b
      by_cases q : i = j
      · rw [if_pos q, if_neg (by omega)]
        exact (f.row k b' (by rw [← f.len]; exact b')).apart hp nw
      · rw [if_neg q]
        by_cases q' : i = k
        · rw [if_pos q']
          exact ((f.row j a' (by rw [← f.len]; exact a')).apart hp nw).symm
        · rw [if_neg q']
          exact f.ap j k a' b' hne
  rcases f.row i hi hi' with r | ⟨e1, e2⟩
  · refine app1 (new := [I m]) hp g hB hBh r rfl (by omega) (by simp [ints, maxSize]; omega) ?_
    intro v' h' g' hle b nw fr
    exact fin v' h' g' hle (.inl (by simpa [ints] using b)) nw fr
  · have gp : Grows h (h ++ [⟨[I m], true⟩]) := ⟨_, rfl⟩
    have hn : newCells 1 (h ++ [⟨[I m], true⟩]) (sl h.length 0 1 1) = some [I m] := by
      simp [newCells]
      rw [cellsAt_of (k := ⟨[I m], true⟩) (by simp) (by simp)]
      simp
    have ee : aAppend 1 (h ++ [⟨[I m], true⟩]) (sl h.length 0 1 1) ws[i] = some (sl (h.length + 1) 0 1 1, h ++ [⟨[I m], true⟩] ++ [⟨[I m], true⟩]) := by
      rw [e2]
      simp only [sl] at hn
      simp only [aAppend, sl, hn]
      simp [maxSize]
    rw [ee]
    simp only [bindW_some]
    refine fin _ _ ((g.trans gp).push _) (by simp) ?_ ?_ ?_
    · rw [e1]
      exact .inl (.inr ⟨_, _, rfl, by simp [ints], by omega, by simp [ints]⟩)
    · intro b n y e; simp [sl] at e <;> omega
    · intro c kk hc _
      exact push_at (push_at hc)
/-- Rows in an outer own slice, with one row beside it or none. -/
structure Rws (B0 h : Heap) (v : Value) (cs ws : List Value) (L : List (List Int)) : Prop where
  buf : Buf B0 h v 1 cs
  fam : Fam B0 h ws L
  ap : ∀ x ∈ ws, Apart v x
theorem buf_apart {B0 h : Heap} {v : Value} {z : Nat} {cs : List Value} (b : Buf B0 h v z cs) : ∃ c n, v = sl c 0 n z := by
  rcases b with ⟨_, e⟩ | ⟨c, n, e, _⟩
  · exact ⟨0, 0, e⟩
  · exact ⟨c, n, e⟩
/-- An outer slice gets one more value. -/
theorem rws_push {H0 B0 h : Heap} {v x : Value} {cs ws : List Value} {L : List (List Int)} {K : Value → Heap → Prop} (hp : 0 < B0.length) (g : Grows H0 h) (hB : H0.length ≤ B0.length) (hBh : B0.length ≤ h.length) (r : Rws B0 h v cs ws L) (hl : cs.length ≤ 1048576) (hx : ∃ b n z, x = sl b 0 n z)
    (hK : ∀ v' h', Grows H0 h' → h.length ≤ h'.length → Rws B0 h' v' (cs ++ [x]) ws L → (∀ c kk, 0 < c → c < B0.length → h[c]? = some kk → h'[c]? = some kk) → K v' h') :
    bindW (aBuildSlice 1 1 h [(0, .agg #[sl 0 0 0 0]), (1, x)]) fun y h'' => bindW (aAppend 1 h'' y v) K := by
  have e : aBuildSlice 1 1 h [(0, .agg #[sl 0 0 0 0]), (1, x)] = some (sl h.length 0 1 1, h ++ [⟨[x], true⟩]) := by
    obtain ⟨b, n, z, rfl⟩ := hx
    simp [aBuildSlice, sl, cellsOf]
  rw [e]
  simp only [bindW_some]
  refine app1 (new := [x]) hp g hB hBh r.buf rfl (by omega) (by simp [maxSize]; omega) ?_
  intro v' h' g' hle b nw fr
  refine hK v' h' g' hle ⟨b, r.fam.keep hp r.ap fr, ?_⟩ ?_
  · intro y hy
    obtain ⟨i, hi, rfl⟩ := List.getElem_of_mem hy
    exact (r.fam.row i hi (by rw [← r.fam.len]; exact hi)).apart hp nw
  · intro c kk h0 hc hk
    refine fr c kk hk fun n e => ?_
    have := r.buf
    rw [e] at this
    rcases this with ⟨_, e⟩ | ⟨c', n', e, _, hb, _⟩
    · simp [sl] at e <;> omega
    · simp [sl] at e <;> omega
/-- A changed row is stored into the outer slice. -/
theorem Rws.store {B0 h : Heap} {c n : Nat} {cs ws : List Value} {L : List (List Int)} {x : Value} {i : Nat} (hp : 0 < B0.length) (r : Rws B0 h (sl c 0 n 1) cs ws L) (hi : i < cs.length) : storeAt h c i [x] = some (h.set c ⟨cs.set i x, true⟩) ∧ Rws B0 (h.set c ⟨cs.set i x, true⟩) (sl c 0 n 1) (cs.set i x) ws L ∧ B0.length ≤ c ∧ n = cs.length ∧ cell h c i = some cs[i] := by
  obtain ⟨b, f, ap⟩ := r
  rcases b with ⟨e1, e2⟩ | ⟨c', n', e, h1, h2, h3⟩
  · subst e1; simp at hi
  · simp [sl] at e
    obtain ⟨rfl, rfl⟩ := e
    refine ⟨store_one h3 hi, ⟨.inr ⟨c, n, rfl, by simpa using h1, h2, blk_set' h3⟩, ?_, ap⟩, h2, by omega, ?_⟩
    · refine f.keep (v := sl c 0 n 1) (z := 1) hp ap fun d kk hk hne => ?_
      have : d ≠ c := fun e => hne n (by rw [e])
      exact put_at hk this
    · exact cell_of h3 (by simp [hi])
  where
  blk_set' {h : Heap} {b : Nat} {c d : Blk} (hb : h[b]? = some c) : (h.set b d)[b]? = some d := by
    rw [List.getElem?_set_self (at_lt hb)]
end Am
/-! AmR4 -/
set_option linter.unusedVariables false
set_option linter.unusedSimpArgs false
set_option maxHeartbeats 4000000
set_option maxRecDepth 4000
namespace Am
open Go

/-- Lists of numbers that can be read. -/
def LsV (h : Heap) (v : Value) (L : List (List Int)) : Prop := ∃ b o z, v = sl b o L.length z ∧ L.length ≤ 1048576 ∧ ∀ k (hk : k < L.length), ∃ w, cell h b (o + k) = some w ∧ Vr h shInts w L[k]
theorem cell_grow {h h' : Heap} (g : Grows h h') {b o : Nat} {v : Value} (hc : cell h b o = some v) : cell h' b o = some v := by
  obtain ⟨l, rfl⟩ := g
  unfold cell at hc ⊢
  cases e : h[b]? with
  | none => rw [e] at hc; simp at hc
  | some k => rw [push_at' e]; rw [e] at hc; exact hc
  where
  push_at' {h l : Heap} {b : Nat} {k : Blk} (hk : h[b]? = some k) : (h ++ l)[b]? = some k := Grows.at ⟨l, rfl⟩ hk
theorem LsV.grow {h h' : Heap} {v : Value} {L : List (List Int)} (x : LsV h v L) (g : Grows h h') : LsV h' v L := by
  obtain ⟨b, o, z, e, hl, hc⟩ := x
  refine ⟨b, o, z, e, hl, fun k hk => ?_⟩
  obtain ⟨w, h1, h2⟩ := hc k hk
  exact ⟨w, cell_grow g h1, h2.grow g⟩
theorem LsV.nil {h : Heap} {b z : Nat} : LsV h (sl b 0 0 z) [] := ⟨b, 0, z, rfl, by simp, by simp⟩
theorem c272 (h : Heap) (v w : Value) (X Y : List (List Int)) (hv : LsV h v X) (hw : LsV h w Y) : ACall Gam 272 [v, w] h fun r h' => r = B (decide (X = Y)) ∧ h' = h := by
  obtain ⟨b1, o1, z1, rfl, hm1, hc1⟩ := hv
  obtain ⟨b2, o2, z2, rfl, hm2, hc2⟩ := hw
  refine ACall_intro g272 rfl ?_
  unfold fn272
  simp (disch := omega)
  refine fork_dec (fun heq => ?_) (fun hne => ?_)
  · simp (disch := omega)
    refine awp_loop (fun k σ h' => h' = h ∧ k ≤ X.length ∧ X.take k = Y.take k ∧ σ 0 = sl b1 o1 X.length z1 ∧ σ 1 = sl b2 o2 Y.length z2 ∧ σ 5 = I k) (fun k => X.length - k) 0 ?_ ?_
    · simp
    · rintro k σ h' ⟨rfl, hk, ht, h0, h1, h5⟩
      simp (disch := omega) [h0, h1, h5]
      refine fork_dec (fun hlt => ?_) (fun hge => ?_)
      · have k1 : k < X.length := by omega
        have k2 : k < Y.length := by omega
        obtain ⟨w1, e1, v1⟩ := hc1 k k1
        obtain ⟨w2, e2, v2⟩ := hc2 k k2
        simp (disch := omega) [h0, h1, h5, e1, e2, k1, k2]
        refine callW_of (c271 h' _ _ _ _ v1 v2) ?_
        rintro _ h'' ⟨rfl, rfl⟩
        try refine ⟨fun e => (by cases e), ?_⟩
        by_cases he : X[k] = Y[k]
        · simp (disch := omega) [h0, h1, h5, he]
          refine ⟨k + 1, ⟨by omega, ?_, ?_⟩, by omega⟩
          · rw [List.take_succ_eq_append_getElem k1, List.take_succ_eq_append_getElem k2, ht, he]
          · rw [wrap64 (by omega) (by omega)]; simp
        · simp (disch := omega) [h0, h1, h5, he]
          intro e
          apply he
          have : X[k]? = Y[k]? := by rw [e]
          rw [List.getElem?_eq_getElem k1, List.getElem?_eq_getElem k2] at this
          simpa using this
      · simp (disch := omega) [h0, h1, h5]
        have q1 : k = X.length := by omega
        have q2 : X.length = Y.length := by omega
        subst q1
        rw [List.take_length, q2, List.take_length] at ht
        exact ht
  · simp (disch := omega)
    intro e; apply hne; rw [e]

/-! ### rows -/
abbrev RSt := List Int × List (List Int)
def addRow (out : List (List Int)) (r : Nat) (m : Int) : List (List Int) := (if r = out.length then out ++ [[]] else out).set r ((if r = out.length then out ++ [[]] else out).getD r [] ++ [m])
def rowStep (st : RSt) (m : Int) : RSt :=
  (((st.1.set (m.natAbs - 1) (max (at0 st.1 (m.natAbs - 1)) (at0 st.1 m.natAbs) + 1)).set m.natAbs (max (at0 st.1 (m.natAbs - 1)) (at0 st.1 m.natAbs) + 1)), addRow st.2 (max (at0 st.1 (m.natAbs - 1)) (at0 st.1 m.natAbs)).toNat m)
def rowsW (n : Nat) (l : List Int) : RSt := l.foldl rowStep (List.replicate n 0, [])
theorem rows_succ {n : Nat} {l : List Int} {k : Nat} (hk : k < l.length) : rowsW n (l.take (k + 1)) = rowStep (rowsW n (l.take k)) l[k] := by
  unfold rowsW
  rw [List.take_succ_eq_append_getElem hk, List.foldl_append]; rfl
structure RInv (n k : Nat) (st : RSt) : Prop where
  fl : st.1.length = n
  fr : ∀ x ∈ st.1, 0 ≤ x ∧ x ≤ st.2.length
  ol : st.2.length ≤ k
  rl : ∀ r ∈ st.2, r.length ≤ k
theorem RInv.at0 {n k : Nat} {st : RSt} (i : RInv n k st) (j : Nat) : 0 ≤ at0 st.1 j ∧ at0 st.1 j ≤ st.2.length := by
  by_cases q : j < st.1.length
  · rw [at0_of q]; exact i.fr _ (List.getElem_mem q)
  · unfold Am.at0; rw [List.getD_eq_getElem?_getD, List.getElem?_eq_none (by omega)]; simp
theorem addRow_len {out : List (List Int)} {r : Nat} {m : Int} : (addRow out r m).length = if r = out.length then out.length + 1 else out.length := by
  unfold addRow
  split <;> simp
theorem RInv.step {n k : Nat} {st : RSt} {m : Int} (i : RInv n k st) : RInv n (k + 1) (rowStep st m) := by
  have a1 := i.at0 (m.natAbs - 1)
  have a2 := i.at0 m.natAbs
  unfold rowStep
  obtain ⟨r, hr⟩ : ∃ r, r = max (Am.at0 st.1 (m.natAbs - 1)) (Am.at0 st.1 m.natAbs) := ⟨_, rfl⟩
  rw [← hr]
  have r1 : 0 ≤ r ∧ r ≤ st.2.length := by omega
  have hl : (addRow st.2 r.toNat m).length = if r.toNat = st.2.length then st.2.length + 1 else st.2.length := addRow_len
  have hl' : r + 1 ≤ (addRow st.2 r.toNat m).length ∧ st.2.length ≤ (addRow st.2 r.toNat m).length ∧ (addRow st.2 r.toNat m).length ≤ st.2.length + 1 := by
    rw [hl]; split <;> omega
  refine ⟨by simp [i.fl], ?_, ?_, ?_⟩
  · intro x hx
    simp only at hx ⊢
    rcases List.mem_or_eq_of_mem_set hx with hx | rfl
    · rcases List.mem_or_eq_of_mem_set hx with hx | rfl
      · have := i.fr x hx; omega
      · omega
    · omega
  · have := i.ol
    simp only; omega
  · intro y hy
    simp only at hy
    unfold addRow at hy
    rcases List.mem_or_eq_of_mem_set hy with hy | rfl
    · split at hy
      · rcases List.mem_append.1 hy with hy | hy
        · have := i.rl y hy; omega
        · simp at hy; subst hy; simp
      · have := i.rl y hy; omega
    · simp only [List.length_append, List.length_singleton]
      have : ∀ (o : List (List Int)), (∀ z ∈ o, z.length ≤ k) → (o.getD r.toNat []).length ≤ k := by
        intro o ho
        rw [List.getD_eq_getElem?_getD]
        cases e : o[r.toNat]? with
        | none => simp
        | some z => simp; exact ho z (List.mem_of_getElem? e)
      split
      · have := this (st.2 ++ [[]]) (by intro z hz; rcases List.mem_append.1 hz with hz | hz; exact i.rl z hz; simp at hz; subst hz; simp)
        omega
      · have := this st.2 i.rl
        omega
theorem RInv.init (n : Nat) : RInv n 0 (List.replicate n 0, []) := by
  refine ⟨by simp, ?_, by simp, by simp⟩
  intro x hx
  have := List.eq_of_mem_replicate hx
  subst this; simp
theorem rows_inv (n : Nat) (l : List Int) : ∀ k, k ≤ l.length → RInv n k (rowsW n (l.take k))
  | 0, _ => by simpa [rowsW] using RInv.init n
  | k + 1, h => by rw [rows_succ (by omega)]; exact (rows_inv n l k (by omega)).step
def rowsAns (n : Int) (l : List Int) : List (List Int) × Int := if okW n l then ((rowsW n.toNat l).2, 0) else ([], 1)

/-- Rows that can be read from a family. -/
theorem Rws.lsv {B0 h : Heap} {v : Value} {ws : List Value} {L : List (List Int)} (hp : 0 < B0.length) (r : Rws B0 h v ws ws L) (hne : ∀ l ∈ L, l ≠ []) (h64 : ∀ l ∈ L, ∀ x ∈ l, I64 x) (hl : ∀ l ∈ L, l.length ≤ 1048576) (hL : L.length ≤ 1048576) : LsV h v L := by
  obtain ⟨b, f, ap⟩ := r
  rcases b with ⟨e1, e2⟩ | ⟨c, n, e, h1, h2, h3⟩
  · subst e1
    have : L = [] := List.eq_nil_of_length_eq_zero (by have := f.len; simp at this; omega)
    subst this
    rw [e2]; exact LsV.nil
  · have hn : n = L.length := by rw [← f.len]; omega
    subst hn
    refine ⟨c, 0, 1, e, hL, fun k hk => ?_⟩
    have hk' : k < ws.length := by rw [f.len]; exact hk
    refine ⟨ws[k], cell_of h3 (by simp [hk']), ?_⟩
    have q := hne L[k] (List.getElem_mem hk)
    rcases f.row k hk' hk with (⟨e1, e2⟩ | ⟨c', n', e', q1, q2, q3⟩) | ⟨e1, e2⟩
    · exact absurd (by simpa [ints] using e1) q
    · have : n' = L[k].length := by simpa [ints] using q1
      subst this
      rw [e']
      have lk := hl _ (List.getElem_mem hk)
      exact (Vo.of_ints (lo := 0) (hi := h.length) (.inl rfl) (by rw [maxLen_eq]; omega) (h64 _ (List.getElem_mem hk)) (.inr ⟨q3, by omega, at_lt q3⟩)).vr
    · exact absurd e1 q
end Am
/-! AmR5 -/
set_option linter.unusedVariables false
set_option linter.unusedSimpArgs false
set_option maxHeartbeats 4000000
set_option maxRecDepth 4000
namespace Am
open Go

theorem at0_set2 {l : List Int} {i j : Nat} {x : Int} (hi : i < l.length) : at0 (l.set i x) j = if j = i then x else at0 l j := by
  unfold at0
  rw [List.getD_eq_getElem?_getD, List.getD_eq_getElem?_getD, List.getElem?_set]
  by_cases q : i = j
  · subst q; simp [hi]
  · rw [if_neg q, if_neg (fun e => q e.symm)]
theorem ext_at0 {a b : List Int} (hl : a.length = b.length) (h : ∀ j < a.length, at0 a j = at0 b j) : a = b := by
  apply List.ext_getElem hl
  intro k h1 h2
  have := h k h1
  rwa [at0_of h1, at0_of h2] at this
def trp (m : Int) (j : Nat) : Nat := if j = m.natAbs then m.natAbs - 1 else if j = m.natAbs - 1 then m.natAbs else j
def Far (a b : Int) : Prop := a.natAbs + 2 ≤ b.natAbs ∨ b.natAbs + 2 ≤ a.natAbs
theorem at0_swp {o : List Int} {m : Int} (j : Nat) (h1 : 1 ≤ m.natAbs) (h2 : m.natAbs < o.length) : at0 (swp o m) j = at0 o (trp m j) := by
  unfold swp trp
  rw [at0_set2 (by simpa using h2), at0_set2 (by omega)]
  split
  · rfl
  · split <;> rfl
theorem trp_comm {a b : Int} (h : Far a b) (ha : 1 ≤ a.natAbs) (hb : 1 ≤ b.natAbs) (j : Nat) : trp a (trp b j) = trp b (trp a j) := by
  unfold trp
  unfold Far at h
  generalize a.natAbs = A at *
  generalize b.natAbs = B at *
  repeat' split
  all_goals omega
theorem trp_lt {m : Int} {j n : Nat} (h2 : m.natAbs < n) (hj : j < n) : trp m j < n := by
  unfold trp
  split
  · omega
  · split <;> omega
theorem swp_comm {o : List Int} {a b : Int} (h : Far a b) (ha : 1 ≤ a.natAbs ∧ a.natAbs < o.length) (hb : 1 ≤ b.natAbs ∧ b.natAbs < o.length) : swp (swp o a) b = swp (swp o b) a := by
  apply ext_at0 (by simp [swp_len])
  intro j hj
  simp only [swp_len] at hj
  rw [at0_swp _ hb.1 (by rw [swp_len]; exact hb.2), at0_swp _ ha.1 ha.2, at0_swp _ ha.1 (by rw [swp_len]; exact ha.2), at0_swp _ hb.1 hb.2, trp_comm h ha.1 hb.1]
theorem fold_comm : ∀ (B : List Int) (o : List Int) (m : Int), (1 ≤ m.natAbs ∧ m.natAbs < o.length) → (∀ b ∈ B, (1 ≤ b.natAbs ∧ b.natAbs < o.length) ∧ Far b m) → swp (B.foldl swp o) m = B.foldl swp (swp o m)
  | [], o, m, _, _ => rfl
  | b :: B, o, m, hm, hB => by
    rw [List.foldl_cons, List.foldl_cons]
    have := hB b (by simp)
    rw [fold_comm B _ m (by rw [swp_len]; exact hm) (fun x hx => by rw [swp_len]; exact hB x (by simp [hx])), swp_comm this.2 this.1 hm]

structure RLaw (n : Nat) (l : List Int) (st : RSt) : Prop where
  touch : ∀ (i : Nat) (row : List Int), st.2[i]? = some row → ∀ x ∈ row, (i : Int) < at0 st.1 (x.natAbs - 1) ∧ (i : Int) < at0 st.1 x.natAbs
  disj : ∀ row ∈ st.2, row.Pairwise Far
  ord : st.2.flatten.foldl swp (firstW n) = l.foldl swp (firstW n)
  mem : ∀ row ∈ st.2, ∀ x ∈ row, x ∈ l
  len : st.2.flatten.length = l.length
  ne : ∀ row ∈ st.2, row ≠ []
theorem RLaw.init (n : Nat) : RLaw n [] (List.replicate n 0, []) := ⟨by simp, by simp, rfl, by simp, rfl, by simp⟩
theorem RLaw.step {n k : Nat} {l : List Int} {st : RSt} {m : Int} (i : RInv n k st) (r : RLaw n l st) (hm : 1 ≤ m.natAbs ∧ m.natAbs < n) (hl : ∀ x ∈ l, 1 ≤ x.natAbs ∧ x.natAbs < n) : RLaw n (l ++ [m]) (rowStep st m) := by
  obtain ⟨free, out⟩ := st
  have b1 := i.at0 (m.natAbs - 1)
  have b2 := i.at0 m.natAbs
  have fl := i.fl
  simp only at b1 b2 fl
  unfold rowStep
  simp only
  obtain ⟨R, hR⟩ : ∃ R, R = (max (at0 free (m.natAbs - 1)) (at0 free m.natAbs)).toNat := ⟨_, rfl⟩
  have eR : max (at0 free (m.natAbs - 1)) (at0 free m.natAbs) = (R : Int) := by omega
  rw [eR, Int.toNat_natCast]
  have hRl : R ≤ out.length := by omega
  have f1 : at0 free (m.natAbs - 1) ≤ R := by omega
  have f2 : at0 free m.natAbs ≤ R := by omega
  obtain ⟨free', hf⟩ : ∃ f, f = (free.set (m.natAbs - 1) ((R : Int) + 1)).set m.natAbs ((R : Int) + 1) := ⟨_, rfl⟩
  have ff : ∀ j, at0 free' j = if j = m.natAbs then (R : Int) + 1 else if j = m.natAbs - 1 then (R : Int) + 1 else at0 free j := by
    intro j
    rw [hf, at0_set2 (by simp; omega), at0_set2 (by omega)]
  have mono : ∀ j, at0 free j ≤ at0 free' j := by
    intro j
    rw [ff]
    split
    · rename_i e; rw [e]; omega
    · split
      · rename_i e; rw [e]; omega
      · omega
  rw [← hf]
  obtain ⟨out', ho⟩ : ∃ o, o = (if R = out.length then out ++ [[]] else out) := ⟨_, rfl⟩
  have oflat : out'.flatten = out.flatten := by rw [ho]; split <;> simp
  have olen : R < out'.length := by rw [ho]; split <;> (try rw [List.length_append]) <;> (try simp) <;> omega
  have otouch : ∀ (i : Nat) (row : List Int), out'[i]? = some row → ∀ x ∈ row, (i : Int) < at0 free (x.natAbs - 1) ∧ (i : Int) < at0 free x.natAbs := by
    intro i row hi x hx
    rw [ho] at hi
    split at hi
    · rw [List.getElem?_append] at hi
      split at hi
      · exact r.touch i row hi x hx
      · have hh := List.mem_of_getElem? hi
        simp at hh; subst hh; simp at hx
    · exact r.touch i row hi x hx
  have omem : ∀ row ∈ out', (row ∈ out ∨ row = []) := by
    intro row hr
    rw [ho] at hr
    split at hr
    · rcases List.mem_append.1 hr with h | h
      · exact .inl h
      · simp at h; exact .inr h
    · exact .inl hr
  obtain ⟨row, hrow⟩ : ∃ row, row = out'[R] := ⟨_, rfl⟩
  have hrow' : out'[R]? = some row := by rw [hrow]; simp [olen]
  have eadd : addRow out R m = out'.take R ++ (row ++ [m]) :: out'.drop (R + 1) := by
    unfold addRow
    rw [← ho, List.getD_eq_getElem?_getD, hrow']
    simp only [Option.getD_some]
    rw [List.set_eq_take_append_cons_drop, if_pos olen]
  have eout : out' = out'.take R ++ row :: out'.drop (R + 1) := by
    rw [hrow, ← List.drop_eq_getElem_cons olen, List.take_append_drop]
  have idx : ∀ (i : Nat) (y : List Int), (addRow out R m)[i]? = some y → (i = R ∧ y = row ++ [m]) ∨ (i ≠ R ∧ out'[i]? = some y) := by
    intro i y hi
    unfold addRow at hi
    rw [← ho, List.getElem?_set] at hi
    by_cases q : R = i
    · rw [if_pos q] at hi
      subst q
      simp only [olen, if_true] at hi
      rw [List.getD_eq_getElem?_getD, hrow'] at hi
      simp at hi
      exact .inl ⟨rfl, hi.symm⟩
    · rw [if_neg q] at hi
      exact .inr ⟨fun e => q e.symm, hi⟩
  have rowmem : ∀ x ∈ row, x ∈ l := by
    intro x hx
    have : row ∈ out' := List.mem_of_getElem? hrow'
    rcases omem _ this with h | h
    · exact r.mem _ h _ hx
    · subst h; simp at hx
  have far : ∀ (i : Nat) (y : List Int), out'[i]? = some y → R ≤ i → ∀ x ∈ y, Far x m := by
    intro i y hi hRi x hx
    have t := otouch i y hi x hx
    have xl : x ∈ l := by
      rcases omem _ (List.mem_of_getElem? hi) with h | h
      · exact r.mem _ h _ hx
      · subst h; simp at hx
    have hxv := hl x xl
    unfold Far
    by_cases q1 : x.natAbs = m.natAbs
    · rw [q1] at t; omega
    by_cases q2 : x.natAbs - 1 = m.natAbs
    · rw [q2] at t; omega
    by_cases q3 : x.natAbs = m.natAbs - 1
    · rw [q3] at t; omega
    omega
  refine ⟨?_, ?_, ?_, ?_, ?_, ?_⟩
  · intro i y hi x hx
    simp only at hi ⊢
    rcases idx i y hi with ⟨rfl, rfl⟩ | ⟨hne, hi⟩
    · rcases List.mem_append.1 hx with h | h
      · have := otouch _ _ hrow' x h
        have m1 := mono (x.natAbs - 1)
        have m2 := mono x.natAbs
        omega
      · simp at h
        subst h
        rw [ff, ff, if_neg (by omega), if_pos rfl, if_pos rfl]
        omega
    · have := otouch i y hi x hx
      have m1 := mono (x.natAbs - 1)
      have m2 := mono x.natAbs
      omega
  · intro y hy
    simp only at hy
    obtain ⟨i, hi⟩ := List.getElem?_of_mem hy
    rcases idx i y hi with ⟨rfl, rfl⟩ | ⟨hne, hi⟩
    · rw [List.pairwise_append]
      refine ⟨?_, by simp, ?_⟩
      · rcases omem _ (List.mem_of_getElem? hrow') with h | h
        · exact r.disj _ h
        · rw [h]; simp
      · intro a ha b hb
        simp at hb
        subst hb
        exact far i row hrow' (by omega) a ha
    · rcases omem _ (List.mem_of_getElem? hi) with h | h
      · exact r.disj _ h
      · rw [h]; simp
  · simp only
    rw [eadd, List.flatten_append, List.flatten_cons, List.foldl_append, List.foldl_append, List.foldl_append, List.foldl_cons, List.foldl_nil, List.foldl_append, List.foldl_cons, List.foldl_nil, ← r.ord]
    simp only
    rw [← oflat]
    conv => rhs; rw [eout, List.flatten_append, List.flatten_cons, List.foldl_append, List.foldl_append]
    have ln : (List.foldl swp (List.foldl swp (firstW n) (List.take R out').flatten) row).length = n := by rw [fold_len, fold_len, first_len]
    refine (fold_comm _ _ m (by rw [ln]; exact hm) ?_).symm
    intro b hb
    rw [ln]
    obtain ⟨y, hy, hby⟩ := List.mem_flatten.1 hb
    obtain ⟨j, hj⟩ := List.getElem?_of_mem hy
    rw [List.getElem?_drop] at hj
    refine ⟨?_, far _ y hj (by omega) b hby⟩
    rcases omem _ (List.mem_of_getElem? hj) with h | h
    · exact hl _ (r.mem _ h _ hby)
    · subst h; simp at hby
  · intro y hy x hx
    simp only at hy
    obtain ⟨i, hi⟩ := List.getElem?_of_mem hy
    rcases idx i y hi with ⟨rfl, rfl⟩ | ⟨hne, hi⟩
    · rcases List.mem_append.1 hx with h | h
      · exact List.mem_append.2 (.inl (rowmem _ h))
      · exact List.mem_append.2 (.inr h)
    · rcases omem _ (List.mem_of_getElem? hi) with h | h
      · exact List.mem_append.2 (.inl (r.mem _ h _ hx))
      · subst h; simp at hx
  · have := r.len
    simp only at this ⊢
    rw [← oflat, eout] at this
    rw [eadd]
    simp only [List.flatten_append, List.flatten_cons, List.length_append, List.length_singleton] at this ⊢
    omega
  · intro y hy
    simp only at hy
    obtain ⟨i, hi⟩ := List.getElem?_of_mem hy
    rcases idx i y hi with ⟨rfl, rfl⟩ | ⟨hne, hi⟩
    · simp
    · rw [ho] at hi
      split at hi
      · rename_i hRe
        rw [List.getElem?_append] at hi
        split at hi
        · exact r.ne _ (List.mem_of_getElem? hi)
        · rename_i hge
          have : i < (out ++ [[]]).length := by
            have := (List.getElem?_eq_some_iff.1 hi).1
            simp at this ⊢; omega
          simp at this
          exfalso; omega
      · exact r.ne _ (List.mem_of_getElem? hi)
theorem rows_law {n : Nat} {l : List Int} (ok : ∀ x ∈ l, 1 ≤ x.natAbs ∧ x.natAbs < n) : ∀ k, k ≤ l.length → RLaw n (l.take k) (rowsW n (l.take k))
  | 0, _ => by simpa [rowsW] using RLaw.init n
  | k + 1, h => by
    rw [rows_succ (by omega), List.take_succ_eq_append_getElem (by omega)]
    exact (rows_law ok k (by omega)).step (rows_inv n l k (by omega)) (ok _ (List.getElem_mem _)) (fun x hx => ok x (List.mem_of_mem_take hx))
end Am
