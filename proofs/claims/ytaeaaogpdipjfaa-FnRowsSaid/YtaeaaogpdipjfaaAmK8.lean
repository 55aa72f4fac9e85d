/- Contracts: AmR14, AmR15, AmR16. -/
import Derived.Test.YtaeaaogpdipjfaaAmK7
import Derived.Test.YtaeaaogpdipjfaaAmK4
/-! AmR14 -/
set_option linter.unusedVariables false
set_option linter.unusedSimpArgs false
set_option maxHeartbeats 4000000
set_option maxRecDepth 4000
namespace Am
open Go

theorem c116 (h : Heap) (hp : 0 < h.length) (a : Int) (v : Value) (X : List Int) (hv : Vr h shInts v X) (hs : X.length ≤ 1048576) : ACall Gam 116 [I a, v] h fun r h' => Grows h h' ∧ ∃ r0, r = .tuple #[r0, I (picAns a X).2] ∧ TxV h' r0 (picAns a X).1 := by
  obtain ⟨bb, o, zz, rfl, hzz, hm, hx, hc⟩ := hv.ints
  refine ACall_intro g116 rfl ?_
  unfold fn116
  rw [awp_seq, awp_reg]
  generalize hK : seqQ Gam _ _ 0 = K
  simp (disch := omega)
  subst hK
  simp only [seqQ_zero]
  rw [awp_seq]
  generalize hK : seqQ Gam _ _ = K
  simp (disch := omega)
  refine callW_of (c142 h a _ X hv hs) ?_
  rintro _ h1 ⟨rfl, rfl⟩
  try refine ⟨fun e => (by cases e), ?_⟩
  cases ok : okW a X
  · simp (disch := omega)
    subst hK
    simp (disch := omega)
    unfold picAns
    rw [ok]
    exact ⟨Grows.refl _, _, ⟨rfl, rfl⟩, TxV.nil⟩
  obtain ⟨n, rfl, od⟩ := okW_iff ok
  have hn := od.hn
  have hl := od.hl
  have e0 : picAns n X = (X.map (lineW n), 0) := by unfold picAns; rw [ok]; simp
  rw [e0] at hK
  simp (disch := omega)
  subst hK
  simp only [seqQ_zero]
  rw [awp_seq, awp_reg]
  generalize hK : seqQ Gam _ _ 0 = K
  simp (disch := omega)
  subst hK
  simp only [seqQ_zero]
  rw [awp_seq]
  generalize hK : seqQ Gam _ _ = K
  simp (disch := omega)
  obtain ⟨Y, hY⟩ : ∃ Y : Nat → List (List UInt8), Y = fun k => (X.take k).map (lineW n) := ⟨_, rfl⟩
  have Yl : ∀ k, k ≤ X.length → (Y k).length = k := by intro k hk; rw [hY]; simp; omega
  refine awp_loop (fun k σ h' => k ≤ X.length ∧ Grows h1 h' ∧ σ 0 = I n ∧ σ 18 = sl bb o X.length zz ∧ σ 19 = I X.length ∧ σ 20 = I k ∧ Buf h1 h' (σ 6) 1 (texts (Y k))) (fun k => X.length - k) 0 ?_ ?_
  · exact ⟨by omega, Grows.refl _, by simp, by simp, by simp, by simp, by rw [hY]; simpa [texts] using Buf.nil⟩
  · rintro k σ h' ⟨hk, hg, p0, p18, p19, p20, p6⟩
    simp (disch := omega) [p19, p20]
    refine fork_dec (fun hlt => ?_) (fun hge => ?_)
    · have k1 : k < X.length := by omega
      have hm := od.hm X[k] (List.getElem_mem k1)
      have Ys : Y (k + 1) = Y k ++ [lineW n X[k]] := by rw [hY]; simp only []; rw [List.take_succ_eq_append_getElem k1, List.map_append]; rfl
      have q1 := ints_cell (hc.imp id (grows_cellsAt hg)) k1
      obtain ⟨m, em⟩ : ∃ m, m = X[k] := ⟨_, rfl⟩
      rw [← em] at q1 hm Ys
      have hp' := pos_of hp hg
      have yl := Yl k (by omega)
      simp (disch := omega) [p0, p18, p20, k1, q1]
      generalize hK2 : seqQ Gam _ _ = K2
      obtain ⟨v6, e6⟩ : ∃ v6, v6 = σ 6 := ⟨_, rfl⟩
      rw [← e6] at p6
      refine awp_loop (fun j σ h5 => j ≤ n ∧ Grows h' h5 ∧ σ 0 = I n ∧ σ 18 = sl bb o X.length zz ∧ σ 19 = I X.length ∧ σ 20 = I k ∧ σ 25 = I n ∧ σ 26 = I j ∧ σ 8 = I m ∧ Buf h' h5 (σ 9) 1 (bytesV (bl (2 * j - 1))) ∧ σ 6 = v6) (fun j => n - j) 0 ?_ ?_
      · exact ⟨by omega, Grows.refl _, by simp [p0], by simp [p18], by simp [p19], by simp [p20], by simp [p0], by simp, by simp, by simpa [bl, bytesV] using Buf.nil, by simp [e6]⟩
      · rintro j σ' h5 ⟨hj, hg5, q0, q18, q19, q20, q25, q26, q8, b9, b6⟩
        simp (disch := omega) [q25, q26]
        refine fork_dec (fun hlt2 => ?_) (fun hge2 => ?_)
        · simp (disch := omega) [q26]
          generalize hT : seqQ Gam (reg _) _ = T
          have tail : ∀ (σ'' : Nat → Value) (h6 : Heap) (l : List UInt8), Grows h' h6 → σ'' 0 = I n → σ'' 18 = sl bb o X.length zz → σ'' 19 = I X.length → σ'' 20 = I k → σ'' 25 = I n → σ'' 26 = I j → σ'' 8 = I m → Buf h' h6 (σ'' 9) 1 (bytesV l) → σ'' 6 = v6 → l ++ [124] = bl (2 * (j + 1) - 1) → T 0 σ'' h6 := by
            intro σ'' h6 l g6 r0 r18 r19 r20 r25 r26 r8 b r6 el
            have ll : l.length + 1 = 2 * (j + 1) - 1 := by
              have := congrArg List.length el
              rw [bl_len] at this
              simpa using this
            subst hT
            simp only [seqQ_zero]
            simp (disch := omega)
            refine append_bytes (xs := [124]) (n := 1) hp' (by simp; omega) g6 b (by simp) rfl (by simp [aBuildSlice, bytesV]) fun v7 h7 g7 b7 => ?_
            try simp (disch := omega) [r0, r18, r19, r20, r25, r26, r8, r6, wrap64]
            refine ⟨j + 1, ⟨by omega, g7, by omega, ?_⟩, by omega⟩
            rw [← el]; exact b7
          refine fork_dec (fun hpos => ?_) (fun hnp => ?_)
          · simp (disch := omega)
            refine append_bytes (xs := [32]) (n := 1) hp' (by rw [bl_len]; simp; omega) hg5 b9 (by simp) rfl (by simp [aBuildSlice, bytesV]) fun v7 h7 g7 b7 => ?_
            try simp (disch := omega)
            refine tail _ h7 _ g7 (by simp [q0]) (by simp [q18]) (by simp [q19]) (by simp [q20]) (by simp [q25]) (by simp [q26]) (by simp [q8]) (by simpa using b7) (by simp [b6]) ?_
            obtain ⟨i, rfl⟩ : ∃ i, j = i + 1 := ⟨j - 1, by omega⟩
            rw [show 2 * (i + 1 + 1) - 1 = 2 * (i + 1) - 1 + 1 + 1 by omega, bl_succ, bl_succ]
            have e1 : bch (2 * (i + 1) - 1) = 32 := by unfold bch; rw [if_neg (by omega)]
            have e2 : bch (2 * (i + 1) - 1 + 1) = 124 := by unfold bch; rw [if_pos (by omega)]
            rw [e1, e2]
          · have : j = 0 := by omega
            subst this
            simp (disch := omega)
            refine tail _ h5 _ hg5 (by simp [q0]) (by simp [q18]) (by simp [q19]) (by simp [q20]) (by simp [q25]) (by simp [q26]) (by simp [q8]) (by simpa using b9) (by simp [b6]) ?_
            rfl
        · have : j = n := by omega
          subst this
          simp (disch := omega)
          subst hK2
          simp only [seqQ_zero]
          obtain ⟨N, hN⟩ : ∃ N, N = 2 * j - 1 := ⟨_, rfl⟩
          rw [← hN] at b9
          obtain ⟨c, e9, c1, c2⟩ := bytes_buf b9 (by rw [bl_len]; omega)
          rw [bl_len] at e9
          obtain ⟨i, hi⟩ : ∃ i, i + 1 = m.natAbs := ⟨m.natAbs - 1, by omega⟩
          obtain ⟨A, hA⟩ : ∃ A, A = 2 * i := ⟨_, rfl⟩
          obtain ⟨A1, hA1⟩ : ∃ A1, A1 = A + 1 := ⟨_, rfl⟩
          obtain ⟨A2, hA2⟩ : ∃ A2, A2 = A + 2 := ⟨_, rfl⟩
          have ea : ((m.natAbs : Nat) : Int) - 1 = (i : Int) := by omega
          have eb : 2 * (i : Int) = (A : Int) := by omega
          have ec : (A : Int) + 1 = (A1 : Int) := by omega
          have ed : (A : Int) + 2 = (A2 : Int) := by omega
          have iA : A < N := by omega
          have iA1 : A1 < N := by omega
          have iA2 : A2 < N := by omega
          have jA : (A : Int) < (N : Int) := by omega
          have jA1 : (A1 : Int) < (N : Int) := by omega
          have jA2 : (A2 : Int) < (N : Int) := by omega
          rw [awp_seq, awp_reg]
          generalize hK3 : seqQ Gam _ _ 0 = K3
          simp (disch := omega) [q8]
          refine callW_of (c185 h5 m (by omega)) ?_
          rintro _ h6 ⟨rfl, rfl⟩
          try refine ⟨fun e => (by cases e), ?_⟩
          simp (disch := omega) [wrap64, ea, eb]
          subst hK3
          simp only [seqQ_zero]
          rw [awp_seq, awp_reg]
          generalize hK3 : seqQ Gam _ _ 0 = K3
          simp (disch := omega)
          subst hK3
          simp only [seqQ_zero]
          rw [awp_seq]
          generalize hK3 : seqQ Gam _ _ = K3
          have tail : ∀ (σ'' : Nat → Value) (s : UInt8), s = sgn m → σ'' 0 = I j → σ'' 18 = sl bb o X.length zz → σ'' 19 = I X.length → σ'' 20 = I k → σ'' 6 = v6 → σ'' 9 = sl c 0 N 1 → σ'' 11 = I A → σ'' 12 = U s.toNat → K3 0 σ'' h6 := by
            intro σ'' s hs r0 r18 r19 r20 r6 r9 r11 r12
            obtain ⟨l1, el1⟩ : ∃ l1, l1 = (bl N).set A 92 := ⟨_, rfl⟩
            obtain ⟨l2, el2⟩ : ∃ l2, l2 = l1.set A1 s := ⟨_, rfl⟩
            obtain ⟨l3, el3⟩ : ∃ l3, l3 = l2.set A2 47 := ⟨_, rfl⟩
            have L1 : l1.length = N := by rw [el1, List.length_set, bl_len]
            have L2 : l2.length = N := by rw [el2, List.length_set, L1]
            have L3 : l3.length = N := by rw [el3, List.length_set, L2]
            obtain ⟨h7, e7⟩ : ∃ h7, h7 = h6.set c ⟨bytesV l1, true⟩ := ⟨_, rfl⟩
            obtain ⟨h8, eh8⟩ : ∃ h8, h8 = h7.set c ⟨bytesV l2, true⟩ := ⟨_, rfl⟩
            obtain ⟨h9, eh9⟩ : ∃ h9, h9 = h8.set c ⟨bytesV l3, true⟩ := ⟨_, rfl⟩
            have c7 : h7[c]? = some ⟨bytesV l1, true⟩ := by rw [e7]; exact blk_set c2
            have c8 : h8[c]? = some ⟨bytesV l2, true⟩ := by rw [eh8]; exact blk_set c7
            have c9 : h9[c]? = some ⟨bytesV l3, true⟩ := by rw [eh9]; exact blk_set c8
            have g7 : Grows h' h7 := by rw [e7]; exact hg5.put c1 _
            have g8 : Grows h' h8 := by rw [eh8]; exact g7.put c1 _
            have g9 : Grows h' h9 := by rw [eh9]; exact g8.put c1 _
            have st1 := store_bt (c := 92) (x := 92) rfl c2 (k := A) (by rw [bl_len]; omega)
            have st2 := store_bt (c := s) (x := s.toNat) rfl c7 (k := A1) (by omega)
            have st3 := store_bt (c := 47) (x := 47) rfl c8 (k := A2) (by omega)
            rw [← el1, ← e7] at st1
            rw [← el2, ← eh8] at st2
            rw [← el3, ← eh9] at st3
            have fin : l3.take N = lineW j m := by
              rw [List.take_of_length_le (by omega), el3, el2, el1]
              unfold lineW
              rw [← hs, ← hN, show 2 * m.natAbs - 2 = A by omega, show 2 * m.natAbs = A2 by omega, show A2 - 1 = A1 by omega]
              rw [List.set_comm _ _ (show A1 ≠ A2 by omega)]
            have tx := text_pre c9 (n := N) (by omega)
            rw [fin] at tx
            have b10 := p6.grow g9
            have hg10 := hg.trans g9
            subst hK3
            simp only [seqQ_zero]
            rw [awp_seq, awp_reg]
            generalize hK3 : seqQ Gam _ _ 0 = K3
            simp (disch := omega) [r9, r11, r12, wrap64, ec, ed, iA, iA1, iA2, jA, jA1, jA2, st1, st2, st3]
            subst hK3
            simp only [seqQ_zero]
            simp (disch := omega) [r9, r6, tx]
            refine append_word hp (by omega) hg10 b10 fun v3 h3 g3 b3 => ?_
            try simp (disch := omega) [r0, r18, r19, r20, wrap64]
            refine ⟨k + 1, ⟨by omega, g3, by omega, ?_⟩, by omega⟩
            rw [Ys]; exact b3
          simp (disch := omega) [q8]
          refine fork_dec (fun hneg => ?_) (fun hpos => ?_)
          · simp (disch := omega)
            exact tail _ 45 (sgn_neg hneg).symm (by simp [q0]) (by simp [q18]) (by simp [q19]) (by simp [q20]) (by simp [b6]) (by simp [e9]) (by simp) (by simp)
          · simp (disch := omega)
            exact tail _ 43 (sgn_pos hpos).symm (by simp [q0]) (by simp [q18]) (by simp [q19]) (by simp [q20]) (by simp [b6]) (by simp [e9]) (by simp) (by simp)
    · have : k = X.length := by omega
      subst this
      have e : Y X.length = X.map (lineW n) := by rw [hY]; simp
      rw [e] at p6
      have vv := p6.txv (by simp; omega)
      obtain ⟨c, w, e6⟩ := buf_apart p6
      rw [e6] at vv
      simp (disch := omega)
      subst hK
      simp (disch := omega) [e6]
      exact ⟨hg, vv⟩
end Am
/-! AmR15 -/
set_option linter.unusedVariables false
set_option linter.unusedSimpArgs false
set_option maxHeartbeats 4000000
set_option maxRecDepth 4000
namespace Am
open Go

theorem app_num {h : Heap} {lo hi : Nat} {v : Value} {l : List Int} {a : Int} {K : Value → Heap → Prop} (hp : 0 < lo) (hl : l.length ≤ 1048576) (hv : Bf h lo hi v 1 (ints l))
    (hK : ∀ v' h'', Mod lo hi h h'' → Bf h'' h.length h''.length v' 1 (ints (l ++ [a])) → K v' h'') :
    bindW (aBuildSlice 1 1 h [(0, .agg #[I 0]), (1, I a)]) fun y h'' => bindW (aAppend 1 h'' y v) K := by
  have e : aBuildSlice 1 1 h [(0, .agg #[I 0]), (1, I a)] = some (sl h.length 0 1 1, h ++ [⟨[I a], true⟩]) := by simp [aBuildSlice]
  rw [e]
  simp only [bindW_some]
  refine append_bf hp (hv.grow ⟨_, rfl⟩) (new := [I a]) ?_ (by omega) (by simp) (by simp) (by simp [ints, maxSize]; omega) ?_
  · simp [newCells]
    rw [cellsAt_of (k := ⟨[I a], true⟩) (by simp) (by simp)]
    simp
  · intro v' h'' m1 b1
    refine hK v' h'' ((Mod.push _).trans m1) ?_
    rw [ints_append]
    exact b1.wide (by simp) (Nat.le_refl _)
theorem Mod.own {b lo hi : Nat} {h h1 h2 : Heap} (x : Mod b (b + 1) h h1) (y : Mod lo hi h1 h2) (hl : h.length ≤ lo) : Mod b (b + 1) h h2 :=
  ⟨Nat.le_trans x.1 y.1, fun c hc hn => by rw [y.2 c (Nat.lt_of_lt_of_le hc x.1) (by omega)]; exact x.2 c hc hn⟩
def Sm (l : List Int) : Prop := ∀ x ∈ l, x.natAbs ≤ 10
theorem Sm.add {l : List Int} {x : Int} (h : Sm l) (hx : x.natAbs ≤ 10) : Sm (l ++ [x]) := by
  intro y hy
  rcases List.mem_append.1 hy with hy | hy
  · exact h y hy
  · simp at hy; subst hy; exact hx
theorem Sm.i64 {l : List Int} (h : Sm l) : ∀ x ∈ l, I64 x := fun x hx => by have := h x hx; unfold I64; omega
theorem Bf.num {h : Heap} {lo hi : Nat} {v : Value} {l : List Int} (x : Bf h lo hi v 1 (Am.ints l)) : ∃ b y, v = Am.sl b 0 l.length y ∧ (l = [] ∨ y = 1 ∧ lo ≤ b ∧ b < hi ∧ h[b]? = some ⟨Am.ints l, true⟩) := by
  rcases x with ⟨e, y, e2⟩ | ⟨b, n, e, e2, e3, e4, e5⟩
  · have : l = [] := by simpa [Am.ints] using e
    subst this
    exact ⟨0, y, e2, .inl rfl⟩
  · have : n = l.length := by simpa [Am.ints] using e2
    subst this
    exact ⟨b, 1, e, .inr ⟨rfl, e3, e4, e5⟩⟩
theorem c529 (h : Heap) (b m : Nat) (hs : Src h b m) (hm : m ≤ 1000000) (hb : b < h.length) (hp : 0 < b) : ACall Gam 529 [pt b 0] h fun r h' => ∃ (a : Int) (X : List Int) (r0 : Value), r = .tuple #[I a, r0] ∧ (I64 a ∧ X.length ≤ 201 ∧ ∀ x ∈ X, I64 x) ∧ Mod b (b + 1) h h' ∧ Bf h' h.length h'.length r0 1 (ints X) ∧ Src h' b (m + 1000) := by
  refine ACall_intro g529 rfl ?_
  unfold fn529
  rw [awp_seq, awp_reg]
  generalize hK : seqQ Gam _ _ 0 = K
  simp (disch := omega)
  subst hK
  simp only [seqQ_zero]
  rw [awp_seq, awp_reg]
  generalize hK : seqQ Gam _ _ 0 = K
  simp (disch := omega)
  refine callW_of (c7 h b m 5 hs (by omega) (by unfold I64; omega)) ?_
  rintro _ h1 ⟨s0, rfl, _, s1, md1, l1, hs1⟩
  try refine ⟨fun e => (by cases e), ?_⟩
  have s2 := s1 (by omega)
  obtain ⟨s, es⟩ : ∃ s : Nat, s = 2 + s0 := ⟨_, rfl⟩
  have es' : (2 : Int) + s0 = (s : Int) := by omega
  simp (disch := omega) [wrap64, es']
  subst hK
  simp only [seqQ_zero]
  rw [awp_seq, awp_reg]
  generalize hK : seqQ Gam _ _ 0 = K
  simp (disch := omega)
  subst hK
  simp only [seqQ_zero]
  rw [awp_seq]
  generalize hK : seqQ Gam _ _ = K
  rw [awp_seq, awp_reg]
  generalize hK2 : seqQ Gam _ _ 0 = K2
  simp (disch := omega)
  refine callW_of (c7 h1 b _ 14 hs1 (by omega) (by unfold I64; omega)) ?_
  rintro _ h2 ⟨q, rfl, _, q1, md2, l2, hs2⟩
  try refine ⟨fun e => (by cases e), ?_⟩
  have q2 := q1 (by omega)
  try simp (disch := omega)
  subst hK2
  simp only [seqQ_zero]
  simp (disch := omega)
  refine awp_loop (fun i σ h' => i ≤ q ∧ Mod b (b + 1) h h' ∧ Src h' b (m + 10 + 6 * i) ∧ σ 0 = pt b 0 ∧ σ 2 = I 0 ∧ σ 4 = I s ∧ σ 6 = I ((q : Int) - i) ∧ ∃ l, l.length = i ∧ Sm l ∧ Bf h' h.length h'.length (σ 5) 1 (ints l)) (fun i => q - i) 0 ?_ ?_
  · exact ⟨by omega, md1.trans md2, hs2.mono (by omega), by simp, by simp, by simp, by simp, [], rfl, by simp [Sm], by simpa [ints] using Bf.nil⟩
  · rintro i σ h' ⟨hi, md, hs', p0, p2, p4, p6, l, ll, hsm, b5⟩
    simp (disch := omega) [p6]
    refine fork_dec (fun hlt => ?_) (fun hge => ?_)
    · have i1 : i < q := by omega
      have hl' := md.1
      simp (disch := omega) [p0, p4, wrap64]
      refine callW_of (c7 h' b _ ((s : Int) - 1) hs' (by omega) (by unfold I64; omega)) ?_
      rintro _ h3 ⟨x, rfl, x1, x2, md3, l3, hs3⟩
      try refine ⟨fun e => (by cases e), ?_⟩
      have x3 : x ≤ 6 := by
        by_cases e : 1 < (s : Int) - 1
        · have := x2 e; omega
        · have := x1 (by omega); omega
      obtain ⟨y, ey⟩ : ∃ y : Int, y = 1 + (x : Int) := ⟨_, rfl⟩
      have ey' : (1 : Int) + x = y := ey.symm
      have hy : 1 ≤ y ∧ y ≤ 7 := by omega
      simp (disch := omega) [wrap64, ey']
      have b53 := b5.mod md3 (.inr (by omega))
      generalize hT : seqQ Gam (Code.seq _ _) _ = T
      have tail : ∀ (σ' : Nat → Value) (h4 : Heap) (z : Int), z.natAbs ≤ 10 → Mod b (b + 1) h h4 → Src h4 b (m + 10 + 6 * i + 4) → h'.length ≤ h4.length → σ' 0 = pt b 0 → σ' 2 = I 0 → σ' 4 = I s → σ' 6 = I ((q : Int) - i) → σ' 7 = I z → Bf h4 h.length h4.length (σ' 5) 1 (ints l) → T 0 σ' h4 := by
        intro σ' h4 z hz md4 hs4 hle r0 r2 r4 r6 r7 b54
        subst hT
        simp only [seqQ_zero]
        obtain ⟨bb, bn, by', e5⟩ := b54.sl
        rw [awp_seq]
        generalize hT2 : seqQ Gam (reg _) _ = T2
        have tail2 : ∀ (σ'' : Nat → Value) (h5 : Heap) (z : Int), z.natAbs ≤ 10 → Mod b (b + 1) h h5 → Src h5 b (m + 10 + 6 * i + 6) → h'.length ≤ h5.length → σ'' 0 = pt b 0 → σ'' 2 = I 0 → σ'' 4 = I s → σ'' 6 = I ((q : Int) - i) → σ'' 7 = I z → Bf h5 h.length h5.length (σ'' 5) 1 (ints l) → T2 0 σ'' h5 := by
          intro σ'' h5 z hz md5 hs5 hle5 u0 u2 u4 u6 u7 b55
          subst hT2
          simp only [seqQ_zero]
          simp (disch := omega) [u7]
          refine app_num (by omega) (by omega) b55 fun v' h6 md6 b6 => ?_
          try simp (disch := omega) [u0, u2, u4, u6, wrap64]
          refine ⟨i + 1, ⟨by omega, md5.own md6 (Nat.le_refl _), (hs5.mod md6 (by omega)).mono (by omega), ?_⟩, by omega⟩
          exact ⟨by omega, l ++ [z], by simp; omega, hsm.add hz, b6.wide (by omega) (Nat.le_refl _)⟩
        obtain ⟨bb, y5, e5, hb5⟩ := b54.num
        by_cases h0 : l.length = 0
        · have e : l = [] := List.eq_nil_of_length_eq_zero h0
          rw [h0] at e5
          simp (disch := omega) [e5]
          exact tail2 _ h4 z hz md4 (hs4.mono (by omega)) hle (by simp [r0]) (by simp [r2]) (by simp [r4]) (by simp [r6]) (by simp [r7]) (by simpa using b54)
        · have hne : l ≠ [] := by intro e; subst e; simp at h0
          obtain ⟨rfl, lo5, hi5, blk⟩ := hb5.resolve_left hne
          have hpos : (0 : Int) < l.length := by omega
          have hpos' : 0 < l.length := by omega
          simp (disch := omega) [e5, r0, hpos, hpos']
          refine callW_of (c6 h4 b _ 4 hs4 (by omega) (by unfold I64; omega)) ?_
          rintro _ h5 ⟨w, rfl, md5, l5, hs5⟩
          try refine ⟨fun e => (by cases e), ?_⟩
          have b55 := b54.mod md5 (.inr (by omega))
          have md45 := md4.trans md5
          cases w
          · simp (disch := omega)
            exact tail2 _ h5 z hz md45 (hs5.mono (by omega)) (by omega) (by simp [r0]) (by simp [r2]) (by simp [r4]) (by simp [r6]) (by simp [r7]) (by simpa [l5] using b55.wide (Nat.le_refl _) (by omega))
          · have blk5 : h5[bb]? = some ⟨ints l, true⟩ := by rw [md5.2 bb (at_lt blk) (by omega)]; exact blk
            obtain ⟨u, eu⟩ : ∃ u, u + 1 = l.length := ⟨l.length - 1, by omega⟩
            have eu' : (l.length : Int) - 1 = (u : Int) := by omega
            have cu := cell_int blk5 (k := u) (by omega)
            have au := hsm _ (List.getElem_mem (show u < l.length by omega))
            have u1 : u < l.length := by omega
            have u2 : (u : Int) < l.length := by omega
            rw [at0_of u1] at cu
            obtain ⟨z2, ez2⟩ : ∃ z2, z2 = l[u] := ⟨_, rfl⟩
            rw [← ez2] at cu au
            simp (disch := omega) [e5, wrap64, eu', cu, u1, u2]
            exact tail2 _ h5 (-z2) (by omega) md45 (hs5.mono (by omega)) (by omega) (by simp [r0]) (by simp [r2]) (by simp [r4]) (by simp [r6]) (by simp) (by simpa [e5, l5] using b55.wide (Nat.le_refl _) (by omega))
      try simp (disch := omega) [p0]
      refine callW_of (c6 h3 b _ 2 hs3 (by omega) (by unfold I64; omega)) ?_
      rintro _ h4 ⟨w, rfl, md4, l4, hs4⟩
      try refine ⟨fun e => (by cases e), ?_⟩
      have b54 := b53.mod md4 (.inr (by omega))
      have mdd := (md.trans md3).trans md4
      cases w
      · simp (disch := omega)
        exact tail _ h4 y (by omega) mdd (hs4.mono (by omega)) (by omega) (by simp [p0]) (by simp [p2]) (by simp [p4]) (by simp [p6]) (by simp) (by simpa using b54.wide (Nat.le_refl _) (by omega))
      · simp (disch := omega) [wrap64]
        exact tail _ h4 (-y) (by omega) mdd (hs4.mono (by omega)) (by omega) (by simp [p0]) (by simp [p2]) (by simp [p4]) (by simp [p6]) (by simp) (by simpa using b54.wide (Nat.le_refl _) (by omega))
    · have hl' := md.1
      have hs5 : Src h' b (m + 100) := hs'.mono (by omega)
      simp (disch := omega)
      subst hK
      simp only [seqQ_zero]
      rw [awp_seq]
      generalize hK : seqQ Gam _ _ = K
      have tail : ∀ (σ' : Nat → Value) (h4 : Heap) (a : Int) (X : List Int), I64 a → X.length ≤ 201 → (∀ x ∈ X, I64 x) → Mod b (b + 1) h h4 → Src h4 b (m + 1000) → σ' 4 = I a → Bf h4 h.length h4.length (σ' 5) 1 (ints X) → K 0 σ' h4 := by
        intro σ' h4 a X ha hX h64 md4 hs4 r4 b54
        obtain ⟨bb, y5, e5, hb5⟩ := b54.num
        subst hK
        rw [e5] at b54
        simp (disch := omega) [r4, e5]
        exact ⟨a, X, _, ⟨rfl, rfl⟩, ⟨ha, hX, h64⟩, md4, b54, hs4⟩
      rw [awp_seq, awp_reg]
      generalize hK2 : seqQ Gam _ _ 0 = K2
      simp (disch := omega) [p0]
      refine callW_of (c7 h' b _ 20 hs5 (by omega) (by unfold I64; omega)) ?_
      rintro _ h3 ⟨k, rfl, _, k1, md3, l3, hs3⟩
      try refine ⟨fun e => (by cases e), ?_⟩
      have k2 := k1 (by omega)
      have b53 := b5.mod md3 (.inr (by omega))
      have b53 := b53.wide (Nat.le_refl _) (show h'.length ≤ h3.length by omega)
      have md03 := md.trans md3
      try simp (disch := omega)
      subst hK2
      simp only [seqQ_zero]
      rw [awp_block]
      have tail' : ∀ (σ' : Nat → Value) (h4 : Heap) (a : Int) (X : List Int), I64 a → X.length ≤ 201 → (∀ x ∈ X, I64 x) → Mod b (b + 1) h h4 → Src h4 b (m + 1000) → σ' 4 = I a → Bf h4 h.length h4.length (σ' 5) 1 (ints X) → blockQ 2 K 0 σ' h4 := by
        intro σ' h4 a X ha hX h64 md4 hs4 r4 b54
        rw [blockQ_eq, if_neg (by omega)]
        exact tail σ' h4 a X ha hX h64 md4 hs4 r4 b54
      clear tail
      generalize blockQ 2 K = B1 at tail' ⊢
      have s64 : I64 (s : Int) := by unfold I64; omega
      by_cases e0 : k = 0
      · subst e0
        simp (disch := omega) [aBuildSlice, p0]
        obtain ⟨h4, e4⟩ : ∃ h4, h4 = h3 ++ [⟨ints [0, 1, 12, 13], true⟩] := ⟨_, rfl⟩
        have g4 : Grows h3 h4 := ⟨_, e4⟩
        simp only [ints, List.map_cons, List.map_nil] at e4
        rw [← e4]
        refine callW_of (c4 h4 b _ h3.length [0, 1, 12, 13] (hs3.grow g4) (by omega) (by rw [e4]; simp [ints]) (by omega) (by simp) (by simp)) ?_
        rintro _ h5 ⟨x, hx', rfl, md5, l5, hs5⟩
        have x64 : I64 x := by simp at hx'; unfold I64; omega
        have L4 := g4.le
        have b55 := (b53.grow g4).mod md5 (.inr (by omega))
        try simp (disch := omega)
        exact tail' _ h5 x l x64 (by omega) hsm.i64 ((md03.trans g4.mod).trans md5) (hs5.mono (by omega)) (by simp) (by simpa using b55.wide (Nat.le_refl _) (by omega))
      by_cases e1 : k = 1
      · subst e1
        obtain ⟨bb, y5, e5, hb5⟩ := b53.num
        by_cases h0 : l.length = 0
        · rw [h0] at e5
          simp (disch := omega) [e5]
          exact tail' _ h3 s l s64 (by omega) hsm.i64 md03 (hs3.mono (by omega)) (by simp [p4]) (by simpa using b53)
        · have hne : l ≠ [] := by intro e; subst e; simp at h0
          obtain ⟨rfl, lo5, hi5, blk⟩ := hb5.resolve_left hne
          have hpos : (0 : Int) < l.length := by omega
          have hpos' : 0 < l.length := by omega
          simp (disch := omega) [e5, hpos, hpos', p0, p4, aBuildSlice, wrap64]
          obtain ⟨h4, e4⟩ : ∃ h4, h4 = h3 ++ [⟨ints [0, (s : Int), -(s : Int), -9223372036854775808], true⟩] := ⟨_, rfl⟩
          have g4 : Grows h3 h4 := ⟨_, e4⟩
          simp only [ints, List.map_cons, List.map_nil] at e4
          rw [← e4]
          refine callW_of (c4 h4 b _ h3.length [0, (s : Int), -(s : Int), -9223372036854775808] (hs3.grow g4) (by omega) (by rw [e4]; simp [ints]) (by omega) (by simp) (by simp)) ?_
          rintro _ h5 ⟨x, hx', rfl, md5, l5, hs5⟩
          try refine ⟨fun e => (by cases e), ?_⟩
          have x64 : I64 x := by simp at hx'; unfold I64; omega
          have L4 := g4.le
          have blk5 : h5[bb]? = some ⟨ints l, true⟩ := by rw [md5.2 bb (by omega) (by omega)]; exact g4.at blk
          have st := store_int (v := x) blk5 (k := 0) (by omega)
          simp (disch := omega) [st]
          have md6 : Mod b (b + 1) h (h5.set bb ⟨ints (l.set 0 x), true⟩) := ((md03.trans g4.mod).trans md5).own (lo := bb) (hi := bb + 1) ⟨by simp, fun c hc hn => by rw [List.getElem?_set_ne (by omega)]⟩ lo5
          have hs6 : Src (h5.set bb ⟨ints (l.set 0 x), true⟩) b (m + 1000) := (hs5.mod (lo := bb) (hi := bb + 1) ⟨by simp, fun c hc hn => by rw [List.getElem?_set_ne (by omega)]⟩ (by omega)).mono (by omega)
          refine tail' _ _ s (l.set 0 x) s64 (by simp; omega) ?_ md6 hs6 (by simp [p4]) ?_
          · intro y hy
            rcases List.mem_or_eq_of_mem_set hy with hy | rfl
            · exact hsm.i64 y hy
            · exact x64
          · refine .inr ⟨bb, l.length, by simp [e5], by simp [ints], lo5, by simp; omega, ?_⟩
            rw [List.getElem?_set_self (at_lt blk5)]
      by_cases e2 : k = 2
      · subst e2
        simp (disch := omega) [p0]
        refine callW_of (c7 h3 b _ 2 hs3 (by omega) (by unfold I64; omega)) ?_
        rintro _ h4 ⟨u, rfl, _, u1, md4, l4, hs4⟩
        try refine ⟨fun e => (by cases e), ?_⟩
        have u2 := u1 (by omega)
        obtain ⟨w, ew⟩ : ∃ w : Nat, w = 200 + u := ⟨_, rfl⟩
        have ew' : (200 : Int) + u = (w : Int) := by omega
        simp (disch := omega) [wrap64, ew']
        refine awp_loop (fun i σ h' => i ≤ w ∧ Mod b (b + 1) h h' ∧ Src h' b (m + 200) ∧ σ 4 = I s ∧ σ 8 = I ((w : Int) - i) ∧ Bf h' h.length h'.length (σ 5) 1 (ints (List.replicate i 1))) (fun i => w - i) 0 ?_ ?_
        · exact ⟨by omega, md03.trans md4, hs4.mono (by omega), by simp [p4], by simp, by simpa [ints] using Bf.nil⟩
        · rintro i σ' h5 ⟨hi, md5, hs5, q4, q8, b55⟩
          have hl5 := md5.1
          simp (disch := omega) [q8]
          refine fork_dec (fun hlt => ?_) (fun hge => ?_)
          · simp (disch := omega) [q8]
            refine app_num (by omega) (by simp; omega) b55 fun v' h6 md6 b6 => ?_
            try simp (disch := omega) [q4, q8, wrap64]
            refine ⟨i + 1, ⟨by omega, md5.own md6 (Nat.le_refl _), hs5.mod md6 (by omega), by omega, ?_⟩, by omega⟩
            rw [List.replicate_succ']
            exact b6.wide (by omega) (Nat.le_refl _)
          · have : i = w := by omega
            subst this
            simp (disch := omega)
            refine tail' _ h5 s (List.replicate i 1) s64 (by simp; omega) ?_ md5 (hs5.mono (by omega)) (by simp [q4]) (by simpa using b55)
            intro x hx
            have := List.eq_of_mem_replicate hx
            subst this; unfold I64; omega
      · have k0 : ¬ (k : Int) = 0 := by omega
        have k1 : ¬ (k : Int) = 1 := by omega
        have k2 : ¬ (k : Int) = 2 := by omega
        simp (disch := omega) [k0, k1, k2, e0, e1, e2]
        exact tail' _ h3 s l s64 (by omega) hsm.i64 md03 (hs3.mono (by omega)) (by simp [p4]) (by simpa using b53)

/-- A word asked for. -/
def Asked (h h' : Heap) (r : Value) : Prop := ∃ (a : Int) (X : List Int) (r0 : Value), r = .tuple #[I a, r0] ∧ (I64 a ∧ X.length ≤ 201 ∧ ∀ x ∈ X, I64 x) ∧ Grows h h' ∧ Vr h' shInts r0 X
theorem c528 (h : Heap) (v : Value) (X : List Int) (hp : 0 < h.length) (hv : Vr h shBytes v X) : ACall Gam 528 [v] h fun r h' => Asked h h' r := by
  refine ACall_intro g528 rfl ?_
  unfold fn528
  rw [awp_seq, awp_reg]
  generalize hK : seqQ Gam _ _ 0 = K
  simp (disch := omega)
  subst hK
  simp only [seqQ_zero]
  simp (disch := omega)
  refine callW_of (c431 h v X hv) ?_
  rintro _ h1 ⟨rfl, g1, l1, hs1⟩
  try refine ⟨fun e => (by first | exact g1 | cases e), ?_⟩
  try simp (disch := omega)
  refine callW_of (c529 h1 h.length 0 hs1 (by omega) (by omega) hp) ?_
  rintro _ h2 ⟨a, Y, r0, rfl, ⟨a64, hl, h64⟩, md2, b2, _⟩
  try refine ⟨fun e => (by cases e), ?_⟩
  have v2 := (b2.ints (by rw [maxLen_eq]; omega) h64).vr
  obtain ⟨bb, y5, e5, _⟩ := b2.num
  subst e5
  simp (disch := omega)
  exact ⟨a, Y, _, rfl, ⟨a64, hl, h64⟩, md2.grows g1 (Nat.le_refl _), v2⟩
theorem c351 (h : Heap) (v : Value) (X : List Int) (hp : 0 < h.length) (hv : Vr h shBytes v X) : ACall Gam 351 [v] h fun r h' => Asked h h' r := by
  refine ACall_intro g351 rfl ?_
  unfold fn351
  rw [awp_seq, awp_reg]
  generalize hK : seqQ Gam _ _ 0 = K
  simp (disch := omega)
  subst hK
  simp only [seqQ_zero]
  simp (disch := omega)
  refine callW_of (c528 h v X hp hv) ?_
  rintro _ h2 ⟨a, Y, r0, rfl, hh, g2, v2⟩
  try refine ⟨fun e => (by first | exact g2 | cases e), ?_⟩
  have v2' := v2
  obtain ⟨bb, o, zz, rfl, _⟩ := v2'.ints
  simp (disch := omega)
  exact ⟨a, Y, _, rfl, hh, g2, v2⟩
theorem c372 (h : Heap) (v : Value) (X : List Int) (hp : 0 < h.length) (hv : Vr h shBytes v X) : ACall Gam 372 [v] h fun r h' => Asked h h' r := by
  refine ACall_intro g372 rfl ?_
  unfold fn372
  rw [awp_seq, awp_reg]
  generalize hK : seqQ Gam _ _ 0 = K
  simp (disch := omega)
  subst hK
  simp only [seqQ_zero]
  simp (disch := omega)
  refine callW_of (c528 h v X hp hv) ?_
  rintro _ h2 ⟨a, Y, r0, rfl, hh, g2, v2⟩
  try refine ⟨fun e => (by first | exact g2 | cases e), ?_⟩
  have v2' := v2
  obtain ⟨bb, o, zz, rfl, _⟩ := v2'.ints
  simp (disch := omega)
  exact ⟨a, Y, _, rfl, hh, g2, v2⟩
theorem c367 (h : Heap) (v : Value) (X : List Int) (hp : 0 < h.length) (hv : Vr h shBytes v X) : ACall Gam 367 [v] h fun r h' => Asked h h' r := by
  refine ACall_intro g367 rfl ?_
  unfold fn367
  rw [awp_seq, awp_reg]
  generalize hK : seqQ Gam _ _ 0 = K
  simp (disch := omega)
  subst hK
  simp only [seqQ_zero]
  simp (disch := omega)
  refine callW_of (c528 h v X hp hv) ?_
  rintro _ h2 ⟨a, Y, r0, rfl, hh, g2, v2⟩
  try refine ⟨fun e => (by first | exact g2 | cases e), ?_⟩
  have v2' := v2
  obtain ⟨bb, o, zz, rfl, _⟩ := v2'.ints
  simp (disch := omega)
  exact ⟨a, Y, _, rfl, hh, g2, v2⟩
theorem c376 (h : Heap) (v : Value) (X : List Int) (hp : 0 < h.length) (hv : Vr h shBytes v X) : ACall Gam 376 [v] h fun r h' => ∃ Y : List Int, (Y.length ≤ 201 ∧ ∀ x ∈ Y, I64 x) ∧ Grows h h' ∧ Vr h' shInts r Y := by
  refine ACall_intro g376 rfl ?_
  unfold fn376
  rw [awp_seq, awp_reg]
  generalize hK : seqQ Gam _ _ 0 = K
  simp (disch := omega)
  subst hK
  simp only [seqQ_zero]
  simp (disch := omega)
  refine callW_of (c528 h v X hp hv) ?_
  rintro _ h2 ⟨a, Y, r0, rfl, ⟨_, hh⟩, g2, v2⟩
  try refine ⟨fun e => (by first | exact g2 | cases e), ?_⟩
  have v2' := v2
  obtain ⟨bb, o, zz, rfl, _⟩ := v2'.ints
  simp (disch := omega)
  exact ⟨Y, hh, g2, v2⟩
end Am
/-! AmR16 -/
set_option linter.unusedVariables false
set_option linter.unusedSimpArgs false
set_option maxHeartbeats 4000000
set_option maxRecDepth 4000
namespace Am
open Go

theorem c366 (h : Heap) (v : Value) (X : List Int) (hp : 0 < h.length) (hv : Vr h shBytes v X) : ACall Gam 366 [v] h fun r h' => ∃ a b : Int, r = .tuple #[I a, I b] ∧ I64 a ∧ I64 b ∧ Grows h h' := by
  refine ACall_intro g366 rfl ?_
  unfold fn366
  rw [awp_seq, awp_reg]
  generalize hK : seqQ Gam _ _ 0 = K
  simp (disch := omega)
  subst hK
  simp only [seqQ_zero]
  rw [awp_seq, awp_reg]
  generalize hK : seqQ Gam _ _ 0 = K
  simp (disch := omega)
  refine callW_of (c431 h v X hv) ?_
  rintro _ h1 ⟨rfl, g1, l1, hs1⟩
  try refine ⟨fun e => (by first | exact g1 | cases e), ?_⟩
  try simp (disch := omega)
  subst hK
  simp only [seqQ_zero]
  rw [awp_seq]
  generalize hK : seqQ Gam _ _ = K
  simp (disch := omega)
  refine callW_of (c6 h1 h.length 0 10 hs1 (by omega) (by unfold I64; omega)) ?_
  rintro _ h2 ⟨w, rfl, md2, l2, hs2⟩
  try refine ⟨fun e => (by cases e), ?_⟩
  cases w
  · simp (disch := omega)
    subst hK
    simp only [seqQ_zero]
    rw [awp_seq, awp_reg]
    generalize hK : seqQ Gam _ _ 0 = K
    simp (disch := omega)
    refine callW_of (c7 h2 h.length _ 7 hs2 (by omega) (by unfold I64; omega)) ?_
    rintro _ h3 ⟨x, rfl, _, x1, md3, l3, hs3⟩
    try refine ⟨fun e => (by cases e), ?_⟩
    have x2 := x1 (by omega)
    simp (disch := omega) [wrap64]
    subst hK
    simp only [seqQ_zero]
    simp (disch := omega)
    refine callW_of (c7 h3 h.length _ 12 hs3 (by omega) (by unfold I64; omega)) ?_
    rintro _ h4 ⟨y, rfl, _, y1, md4, l4, hs4⟩
    try refine ⟨fun e => (by cases e), ?_⟩
    have y2 := y1 (by omega)
    simp (disch := omega)
    exact ⟨_, _, ⟨rfl, rfl⟩, by unfold I64; omega, by unfold I64; omega, ((md2.trans md3).trans md4).grows g1 (Nat.le_refl _)⟩
  · simp (disch := omega) [aBuildSlice]
    obtain ⟨h4, e4⟩ : ∃ h4, h4 = h2 ++ [⟨ints [1, 2, 12, 13], true⟩] := ⟨_, rfl⟩
    have g4 : Grows h2 h4 := ⟨_, e4⟩
    simp only [ints, List.map_cons, List.map_nil] at e4
    rw [← e4]
    refine callW_of (c4 h4 h.length _ h2.length [1, 2, 12, 13] (hs2.grow g4) (by omega) (by rw [e4]; simp [ints]) (by omega) (by simp) (by simp)) ?_
    rintro _ h5 ⟨x, hx', rfl, md5, l5, hs5⟩
    try refine ⟨fun e => (by cases e), ?_⟩
    have x64 : I64 x := by simp at hx'; unfold I64; omega
    have L4 := g4.le
    try simp (disch := omega) [aBuildSlice]
    obtain ⟨h6, e6⟩ : ∃ h6, h6 = h5 ++ [⟨ints [-1, 0, 40, 200, 201], true⟩] := ⟨_, rfl⟩
    have g6 : Grows h5 h6 := ⟨_, e6⟩
    simp only [ints, List.map_cons, List.map_nil] at e6
    rw [← e6]
    refine callW_of (c4 h6 h.length _ h5.length [-1, 0, 40, 200, 201] (hs5.grow g6) (by omega) (by rw [e6]; simp [ints]) (by omega) (by simp) (by simp)) ?_
    rintro _ h7 ⟨y, hy', rfl, md7, l7, hs7⟩
    try refine ⟨fun e => (by cases e), ?_⟩
    have y64 : I64 y := by simp at hy'; unfold I64; omega
    try simp (disch := omega)
    subst hK
    simp (disch := omega)
    exact ⟨_, _, ⟨rfl, rfl⟩, x64, y64, ((((md2.trans g4.mod).trans md5).trans g6.mod).trans md7).grows g1 (Nat.le_refl _)⟩
end Am
