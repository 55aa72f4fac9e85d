/- Contracts: AmR6, AmR7, AmR8, AmR9. -/
import Derived.Test.YtaeaaogpdipjfaaAmK5
/-! AmR6 -/
set_option linter.unusedVariables false
set_option linter.unusedSimpArgs false
set_option maxHeartbeats 4000000
set_option maxRecDepth 4000
namespace Am
open Go

theorem make_ints (h : Heap) (n : Nat) (hn : n ≤ 1000) : aMake 1 h (I n) (I n) (.agg #[I 0]) = some (sl h.length 0 n 1, h ++ [⟨ints (List.replicate n 0), true⟩]) := by
  simp (disch := omega) [aMake, maxSize]
  constructor
  · omega
  · simp [reps, ints]
/-- A number at the end of a row of rows. -/
theorem row_app {H0 B0 h : Heap} {v : Value} {cs ws : List Value} {L : List (List Int)} {i : Nat} {m : Int} {K : Value → Heap → Prop} (hp : 0 < B0.length) (g : Grows H0 h) (hB : H0.length ≤ B0.length) (hBh : B0.length ≤ h.length) (R : Rws B0 h v cs ws L) (hi : i < ws.length) (hl : ∀ y ∈ L, y.length ≤ 1000)
    (hK : ∀ v' h', Grows H0 h' → B0.length ≤ h'.length → Rws B0 h' v cs (ws.set i v') (L.set i (L.getD i [] ++ [m])) → (∀ c kk, 0 < c → c < B0.length → h[c]? = some kk → h'[c]? = some kk) → (∃ b n z, v' = sl b 0 n z) → K v' h') :
    bindW (aBuildSlice 1 1 h [(0, .agg #[I 0]), (1, I m)]) fun y h'' => bindW (aAppend 1 h'' y ws[i]) K := by
  have hi' : i < L.length := by rw [← R.fam.len]; exact hi
  have e : L.getD i [] = L[i] := by simp [List.getD_eq_getElem?_getD, hi']
  rw [e] at hK
  refine fam_app hp g hB hBh R.fam hi hi' (by have := hl _ (List.getElem_mem hi'); omega) ?_
  intro v' h' g' hle f r nw fr
  have aw := R.ap _ (List.getElem_mem hi)
  obtain ⟨b, n, z, eb, _⟩ := r.ex
  refine hK v' h' g' (by omega) ⟨R.buf.keep hp aw.symm fr, f, ?_⟩ ?_ ⟨b, n, z, eb⟩
  · intro x hx
    rcases List.mem_or_eq_of_mem_set hx with hx | rfl
    · exact R.ap x hx
    · exact (apart_of hp R.buf nw).symm
  · intro c kk h0 hc hk
    refine fr c kk hk fun n e => ?_
    have := (R.fam.row i hi hi').blk e
    omega
theorem Rws.ex {B0 h : Heap} {v : Value} {ws : List Value} {L : List (List Int)} (R : Rws B0 h v ws ws L) : ∃ c, v = sl c 0 L.length 1 := by
  rcases R.buf with ⟨e1, e2⟩ | ⟨c, n, e, h1, _⟩
  · subst e1
    refine ⟨0, ?_⟩
    rw [e2, ← R.fam.len]; rfl
  · exact ⟨c, by rw [e, ← R.fam.len, ← h1]; simp⟩
theorem Rws.put {B0 h : Heap} {v : Value} {cs ws : List Value} {L : List (List Int)} {b : Nat} {k : Blk} (hp : 0 < B0.length) (R : Rws B0 h v cs ws L) (hb : b < B0.length) : Rws B0 (h.set b k) v cs ws L := by
  refine ⟨?_, R.fam.put hp hb, R.ap⟩
  rcases R.buf with ⟨e1, e2⟩ | ⟨c, n, e, h1, h2, h3⟩
  · exact .inl ⟨e1, e2⟩
  · exact .inr ⟨c, n, e, h1, h2, put_at h3 (by omega)⟩
theorem c416 (h : Heap) (hp : 0 < h.length) (a : Int) (v : Value) (X : List Int) (hv : Vr h shInts v X) (hs : X.length ≤ 1048576) : ACall Gam 416 [I a, v] h fun r h' => Grows h h' ∧ ∃ r0, r = .tuple #[r0, I (rowsAns a X).2] ∧ LsV h' r0 (rowsAns a X).1 := by
  obtain ⟨bb, o, zz, rfl, hzz, hm, hx, hc⟩ := hv.ints
  refine ACall_intro g416 rfl ?_
  unfold fn416
  rw [awp_seq, awp_reg]
  generalize hK : seqQ Gam _ _ 0 = K
  simp (disch := omega)
  subst hK
  simp only [seqQ_zero]
  rw [awp_seq]
  generalize hK : seqQ Gam _ _ = K
  simp (disch := omega)
  refine callW_of (c531 h a _ X hv hs) ?_
  rintro _ h1 ⟨rfl, rfl⟩
  try refine ⟨fun e => (by cases e), ?_⟩
  cases ok : okW a X
  · simp (disch := omega)
    subst hK
    simp (disch := omega)
    unfold rowsAns
    rw [ok]
    exact ⟨Grows.refl _, _, ⟨rfl, rfl⟩, LsV.nil⟩
  obtain ⟨n, rfl, od⟩ := okW_iff ok
  have hn := od.hn
  have hl := od.hl
  have e0 : rowsAns n X = ((rowsW n X).2, 0) := by unfold rowsAns; rw [ok]; simp
  simp (disch := omega)
  subst hK
  simp only [seqQ_zero]
  rw [awp_seq, awp_reg]
  generalize hK : seqQ Gam _ _ 0 = K
  simp (disch := omega) [make_ints]
  subst hK
  simp only [seqQ_zero]
  obtain ⟨B0, eB⟩ : ∃ B0, B0 = h1 ++ [⟨ints (List.replicate n 0), true⟩] := ⟨_, rfl⟩
  have gB : Grows h1 B0 := ⟨_, eB⟩
  have lB : B0.length = h1.length + 1 := by rw [eB]; simp
  have fB : B0[h1.length]? = some ⟨ints (List.replicate n 0), true⟩ := by rw [eB]; simp
  rw [← eB]
  have hpB : 0 < B0.length := by omega
  obtain ⟨fb, efb⟩ : ∃ fb, fb = h1.length := ⟨_, rfl⟩
  rw [← efb] at fB ⊢
  rw [awp_seq, awp_reg]
  generalize hK : seqQ Gam _ _ 0 = K
  simp (disch := omega)
  subst hK
  simp only [seqQ_zero]
  rw [awp_seq]
  generalize hK : seqQ Gam _ _ = K
  simp (disch := omega)
  refine awp_loop (fun k σ h' => k ≤ X.length ∧ Grows h1 h' ∧ B0.length ≤ h'.length ∧ σ 1 = sl bb o X.length zz ∧ σ 6 = sl fb 0 n 1 ∧ σ 8 = I k ∧ h'[fb]? = some ⟨ints (rowsW n (X.take k)).1, true⟩ ∧ ∃ ws, Rws B0 h' (σ 7) ws ws (rowsW n (X.take k)).2) (fun k => X.length - k) 0 ?_ ?_
  · exact ⟨by omega, gB, by omega, by simp, by simp, by simp, by simpa [rowsW] using fB, [], by simpa using Buf.nil, by simpa [rowsW] using Fam.nil, by simp⟩
  · rintro k σ h' ⟨hk, hg, hB, p1, p6, p8, pf, ws, R⟩
    simp (disch := omega) [p1, p8]
    refine fork_dec (fun hlt => ?_) (fun hge => ?_)
    · have k1 : k < X.length := by omega
      have q1 := ints_cell (hc.imp id (grows_cellsAt hg)) k1
      have hm := od.hm X[k] (List.getElem_mem k1)
      have iv := rows_inv n X k (by omega)
      have rs := rows_succ (n := n) k1
      have iv1 := rows_inv n X (k + 1) (by omega)
      rw [rs] at iv1
      obtain ⟨m, em⟩ : ∃ m, m = X[k] := ⟨_, rfl⟩
      rw [← em] at q1 hm rs iv1
      obtain ⟨st, est⟩ : ∃ st, st = rowsW n (X.take k) := ⟨_, rfl⟩
      rw [← est] at pf R iv rs iv1
      obtain ⟨free, out⟩ := st
      simp only at pf R
      have fl := iv.fl
      have b1 := iv.at0 (m.natAbs - 1)
      have b2 := iv.at0 m.natAbs
      have ol := iv.ol
      have rl := iv.rl
      simp only at fl b1 b2 ol rl
      obtain ⟨i, hi⟩ : ∃ i, i + 1 = m.natAbs := ⟨m.natAbs - 1, by omega⟩
      have ei : ((m.natAbs : Nat) : Int) - 1 = (i : Int) := by omega
      have em1 : m.natAbs - 1 = i := by omega
      rw [em1] at b1
      have c1 := blk_cell pf (k := i) (by omega)
      have c2 := blk_cell pf (k := m.natAbs) (by omega)
      have i0 : (i : Int) < n := by omega
      have i1 : i < n := by omega
      have i2 : ((m.natAbs : Nat) : Int) < n := by omega
      have i3 : m.natAbs < n := by omega
      unfold rowStep at rs iv1
      simp only [em1] at rs iv1
      obtain ⟨r, er⟩ : ∃ r : Nat, (r : Int) = max (at0 free i) (at0 free m.natAbs) := ⟨(max (at0 free i) (at0 free m.natAbs)).toNat, by omega⟩
      rw [← er, Int.toNat_natCast] at rs iv1
      have rle : r ≤ out.length := by omega
      simp (disch := omega) [p1, p8, k1, q1]
      refine callW_of (c512 h' m (by omega)) ?_
      rintro _ h'' ⟨rfl, rfl⟩
      try refine ⟨fun e => (by cases e), ?_⟩
      simp (disch := omega) [p6, wrap64, ei, i0, i1, i2, i3, c1, c2]
      refine callW_of (c433 _ _ _) ?_
      rintro _ h3 ⟨rfl, rfl⟩
      try refine ⟨fun e => (by cases e), ?_⟩
      have emx : (if at0 free m.natAbs < at0 free i then at0 free i else at0 free m.natAbs) = (r : Int) := by rw [er]; split <;> omega
      rw [emx]
      obtain ⟨c, e7⟩ := R.ex
      have st1 := store_int (v := (r : Int) + 1) pf (show i < free.length by omega)
      have st2 := store_int (v := (r : Int) + 1) (blk_set (d := ⟨ints (free.set i ((r : Int) + 1)), true⟩) pf) (k := m.natAbs) (by simp; omega)
      obtain ⟨h4, e4⟩ : ∃ h4, h4 = (h3.set fb ⟨ints (free.set i ((r : Int) + 1)), true⟩).set fb ⟨ints ((free.set i ((r : Int) + 1)).set m.natAbs ((r : Int) + 1)), true⟩ := ⟨_, rfl⟩
      have pf4 : h4[fb]? = some ⟨ints ((free.set i ((r : Int) + 1)).set m.natAbs ((r : Int) + 1)), true⟩ := by rw [e4]; exact blk_set (blk_set pf)
      have hg4 : Grows h1 h4 := by rw [e4]; exact (hg.put (by omega) _).put (by omega) _
      have hB4 : B0.length ≤ h4.length := by rw [e4]; simpa using hB
      have R4 : Rws B0 h4 (σ 7) ws ws out := by rw [e4]; exact (R.put hpB (by omega)).put hpB (by omega)
      rw [e7] at R4
      rw [← e4] at st2
      rw [List.set_set] at e4
      simp (disch := omega) [p6, wrap64, ei, i0, i1, i2, i3, st1, st2, e7, ← e4]
      generalize hT : seqQ Gam (reg _) _ = T
      have tail : ∀ (σ' : Nat → Value) (h5 : Heap) (v5 : Value) (ws' : List Value) (L' : List (List Int)), Grows h1 h5 → B0.length ≤ h5.length → σ' 1 = sl bb o X.length zz → σ' 6 = sl fb 0 n 1 → σ' 8 = I k → σ' 10 = I r → σ' 7 = v5 → h5[fb]? = some ⟨ints ((free.set i ((r : Int) + 1)).set m.natAbs ((r : Int) + 1)), true⟩ → Rws B0 h5 v5 ws' ws' L' → r < L'.length → L'.set r (L'.getD r [] ++ [m]) = addRow out r m → (∀ y ∈ L', y.length ≤ 1000) → T 0 σ' h5 := by
        intro σ' h5 v5 ws' L' hg5 hB5 q1' q6' q8' q10' q7' pf5 R5 hr5 eL hl5
        obtain ⟨c5, rfl⟩ := R5.ex
        have hw := R5.fam.len
        have x1 := ints_cell (hc.imp id (grows_cellsAt hg5)) k1
        rw [← em] at x1
        obtain ⟨_, _, _, _, x2⟩ := R5.store (x := I 0) hpB (show r < ws'.length by omega)
        have r0 : (r : Int) < L'.length := by omega
        have r1 : r < L'.length := by omega
        subst hT
        simp only [seqQ_zero]
        simp (disch := omega) [q1', q6', q7', q8', q10', x1, x2, k1, hr5, r0, r1]
        refine row_app (H0 := h1) hpB hg5 (by omega) hB5 R5 (by omega) hl5 ?_
        intro v6 h6 g6 hB6 R6 fr ⟨b6, n6, z6, e6⟩
        obtain ⟨s1, s2, s3, s4, _⟩ := R6.store (x := v6) hpB (show r < ws'.length by omega)
        subst e6
        rw [eL] at s2
        simp (disch := omega) [q1', q6', q7', q8', q10', x1, x2, k1, hr5, r0, r1, s1, wrap64]
        refine ⟨k + 1, ⟨by omega, g6.put (by omega) _, by simpa using hB6, by omega, ?_, ?_⟩, by omega⟩
        · rw [rs]
          have pf6 := fr fb _ (by omega) (by omega) pf5
          exact (List.getElem?_eq_some_iff.1 pf6).2
        · rw [rs]
          exact ⟨_, s2⟩
      refine fork_dec (fun heq => ?_) (fun hne => ?_)
      · have heq : r = out.length := by omega
        simp (disch := omega) [e7]
        refine rws_push (H0 := h1) (x := sl 0 0 0 1) (B0 := B0) hpB hg4 (by omega) hB4 R4 (by have := R4.fam.len; omega) ⟨_, _, _, rfl⟩ ?_
        intro v6 h6 g6 hB6 R6 fr
        have R7 : Rws B0 h6 v6 (ws ++ [sl 0 0 0 1]) (ws ++ [sl 0 0 0 1]) (out ++ [[]]) := ⟨R6.buf, R6.fam.add RowV.nil1 (fun x _ => apart_nil), by
          intro x hx
          rcases List.mem_append.1 hx with hx | hx
          · exact R6.ap x hx
          · simp at hx; subst hx; exact apart_nil⟩
        try simp (disch := omega)
        refine tail _ h6 v6 _ _ g6 (by omega) (by simp [p1]) (by simp [p6]) (by simp [p8]) (by simp) (by simp) (fr fb _ (by omega) (by omega) pf4) R7 (by simp; omega) ?_ ?_
        · unfold addRow; rw [if_pos heq]
        · intro y hy
          rcases List.mem_append.1 hy with hy | hy
          · have := rl y hy; omega
          · simp at hy; subst hy; simp
      · have hne : ¬ r = out.length := by omega
        simp (disch := omega)
        refine tail _ h4 _ ws out hg4 hB4 (by simp [p1]) (by simp [p6]) (by simp [p8]) (by simp) (by simp [e7]) pf4 R4 (by omega) ?_ ?_
        · unfold addRow; rw [if_neg hne]
        · intro y hy; have := rl y hy; omega
    · have : k = X.length := by omega
      subst this
      rw [List.take_length] at R
      have law := rows_law (n := n) od.hm X.length (Nat.le_refl _)
      have iv := rows_inv n X X.length (Nat.le_refl _)
      rw [List.take_length] at law iv
      have vv : LsV h' (σ 7) (rowsW n X).2 := by
        have ol := iv.ol
        refine R.lsv hpB law.ne ?_ ?_ (by omega)
        · intro l hl x hx'
          exact hx _ (law.mem l hl x hx')
        · intro l hl'
          have := iv.rl l hl'
          omega
      obtain ⟨c, e7⟩ := R.ex
      rw [e7] at vv
      simp (disch := omega) [e7]
      subst hK
      simp (disch := omega) [e7]
      rw [e0]
      exact ⟨hg, _, ⟨rfl, rfl⟩, vv⟩
end Am
/-! AmR7 -/
set_option linter.unusedVariables false
set_option linter.unusedSimpArgs false
set_option maxHeartbeats 4000000
set_option maxRecDepth 4000
namespace Am
open Go

theorem c125 (h : Heap) (hp : 0 < h.length) (a : Int) (v : Value) (X : List Int) (hv : Vr h shInts v X) (hs : X.length ≤ 1048576) : ACall Gam 125 [I a, v] h fun r h' => Grows h h' ∧ ∃ r0, r = .tuple #[r0, I (rowsAns a X).2] ∧ LsV h' r0 (rowsAns a X).1 := by
  obtain ⟨bb, o, zz, rfl, hzz, hm, hx, hc⟩ := hv.ints
  refine ACall_intro g125 rfl ?_
  unfold fn125
  rw [awp_seq, awp_reg]
  generalize hK : seqQ Gam _ _ 0 = K
  simp (disch := omega)
  subst hK
  simp only [seqQ_zero]
  rw [awp_seq]
  generalize hK : seqQ Gam _ _ = K
  simp (disch := omega)
  refine callW_of (c142 h a _ X hv hs) ?_
  rintro _ h1 ⟨rfl, rfl⟩
  try refine ⟨fun e => (by cases e), ?_⟩
  cases ok : okW a X
  · simp (disch := omega)
    subst hK
    simp (disch := omega)
    unfold rowsAns
    rw [ok]
    exact ⟨Grows.refl _, _, ⟨rfl, rfl⟩, LsV.nil⟩
  obtain ⟨n, rfl, od⟩ := okW_iff ok
  have hn := od.hn
  have hl := od.hl
  have e0 : rowsAns n X = ((rowsW n X).2, 0) := by unfold rowsAns; rw [ok]; simp
  simp (disch := omega)
  subst hK
  simp only [seqQ_zero]
  rw [awp_seq, awp_reg]
  generalize hK : seqQ Gam _ _ 0 = K
  simp (disch := omega) [make_ints]
  subst hK
  simp only [seqQ_zero]
  obtain ⟨B0, eB⟩ : ∃ B0, B0 = h1 ++ [⟨ints (List.replicate n 0), true⟩] := ⟨_, rfl⟩
  have gB : Grows h1 B0 := ⟨_, eB⟩
  have lB : B0.length = h1.length + 1 := by rw [eB]; simp
  have fB : B0[h1.length]? = some ⟨ints (List.replicate n 0), true⟩ := by rw [eB]; simp
  rw [← eB]
  have hpB : 0 < B0.length := by omega
  obtain ⟨fb, efb⟩ : ∃ fb, fb = h1.length := ⟨_, rfl⟩
  rw [← efb] at fB ⊢
  rw [awp_seq]
  generalize hK : seqQ Gam _ _ = K
  simp (disch := omega)
  refine awp_loop (fun k σ h' => k ≤ X.length ∧ Grows h1 h' ∧ B0.length ≤ h'.length ∧ σ 19 = sl bb o X.length zz ∧ σ 20 = I X.length ∧ σ 7 = sl fb 0 n 1 ∧ σ 21 = I k ∧ h'[fb]? = some ⟨ints (rowsW n (X.take k)).1, true⟩ ∧ ∃ ws, Rws B0 h' (σ 6) ws ws (rowsW n (X.take k)).2) (fun k => X.length - k) 0 ?_ ?_
  · exact ⟨by omega, gB, by omega, by simp, by simp, by simp, by simp, by simpa [rowsW] using fB, [], by simpa using Buf.nil, by simpa [rowsW] using Fam.nil, by simp⟩
  · rintro k σ h' ⟨hk, hg, hB, p19, p20, p7, p21, pf, ws, R⟩
    simp (disch := omega) [p20, p21]
    refine fork_dec (fun hlt => ?_) (fun hge => ?_)
    · have k1 : k < X.length := by omega
      have q1 := ints_cell (hc.imp id (grows_cellsAt hg)) k1
      have hm := od.hm X[k] (List.getElem_mem k1)
      have iv := rows_inv n X k (by omega)
      have rs := rows_succ (n := n) k1
      obtain ⟨m, em⟩ : ∃ m, m = X[k] := ⟨_, rfl⟩
      rw [← em] at q1 hm rs
      obtain ⟨st, est⟩ : ∃ st, st = rowsW n (X.take k) := ⟨_, rfl⟩
      rw [← est] at pf R iv rs
      obtain ⟨free, out⟩ := st
      simp only at pf R
      have fl := iv.fl
      have b1 := iv.at0 (m.natAbs - 1)
      have b2 := iv.at0 m.natAbs
      have ol := iv.ol
      have rl := iv.rl
      simp only at fl b1 b2 ol rl
      obtain ⟨i, hi⟩ : ∃ i, i + 1 = m.natAbs := ⟨m.natAbs - 1, by omega⟩
      have ei : ((m.natAbs : Nat) : Int) - 1 = (i : Int) := by omega
      have em1 : m.natAbs - 1 = i := by omega
      rw [em1] at b1
      have c1 := blk_cell pf (k := i) (by omega)
      have c2 := blk_cell pf (k := m.natAbs) (by omega)
      have i0 : (i : Int) < n := by omega
      have i1 : i < n := by omega
      have i2 : ((m.natAbs : Nat) : Int) < n := by omega
      have i3 : m.natAbs < n := by omega
      unfold rowStep at rs
      simp only [em1] at rs
      obtain ⟨r, er⟩ : ∃ r : Nat, (r : Int) = max (at0 free i) (at0 free m.natAbs) := ⟨(max (at0 free i) (at0 free m.natAbs)).toNat, by omega⟩
      rw [← er, Int.toNat_natCast] at rs
      have rle : r ≤ out.length := by omega
      simp (disch := omega) [p19, p21, k1, q1]
      refine callW_of (c185 h' m (by omega)) ?_
      rintro _ h3 ⟨rfl, rfl⟩
      try refine ⟨fun e => (by cases e), ?_⟩
      obtain ⟨c, e6⟩ := R.ex
      have emx : (if at0 free m.natAbs < at0 free i then at0 free i else at0 free m.natAbs) = (r : Int) := by rw [er]; split <;> omega
      have emx2 : (if at0 free i < at0 free m.natAbs then at0 free m.natAbs else at0 free i) = (r : Int) := by rw [er]; split <;> omega
      have emx3 : (if at0 free i ≤ at0 free m.natAbs then at0 free m.natAbs else at0 free i) = (r : Int) := by rw [er]; split <;> omega
      simp (disch := omega) [p7, wrap64, ei, i0, i1, i2, i3, c1, c2, aMax, emx, emx2, emx3, e6]
      generalize hT : seqQ Gam (Code.seq _ _) _ = T
      have tail : ∀ (σ' : Nat → Value) (h5 : Heap) (v5 : Value) (ws' : List Value) (L' : List (List Int)), Grows h1 h5 → B0.length ≤ h5.length → σ' 19 = sl bb o X.length zz → σ' 20 = I X.length → σ' 7 = sl fb 0 n 1 → σ' 21 = I k → σ' 9 = I m → σ' 10 = I m.natAbs → σ' 11 = I r → σ' 6 = v5 → h5[fb]? = some ⟨ints free, true⟩ → Rws B0 h5 v5 ws' ws' L' → r < L'.length → L'.set r (L'.getD r [] ++ [m]) = addRow out r m → (∀ y ∈ L', y.length ≤ 1000) → T 0 σ' h5 := by
        intro σ' h5 v5 ws' L' hg5 hB5 q19 q20 q7 q21 q9 q10 q11 q6 pf5 R5 hr5 eL hl5
        obtain ⟨c5, rfl⟩ := R5.ex
        have hw := R5.fam.len
        obtain ⟨_, _, _, _, x2⟩ := R5.store (x := I 0) hpB (show r < ws'.length by omega)
        have r0 : (r : Int) < L'.length := by omega
        subst hT
        simp only [seqQ_zero]
        rw [awp_seq, awp_reg]
        generalize hK2 : seqQ Gam _ _ 0 = K2
        simp (disch := omega) [q6, q9, q10, q11, x2, hr5, r0]
        refine row_app (H0 := h1) hpB hg5 (by omega) hB5 R5 (by omega) hl5 ?_
        intro v6 h6 g6 hB6 R6 fr ⟨b6, n6, z6, e6⟩
        obtain ⟨s1, s2, s3, s4, _⟩ := R6.store (x := v6) hpB (show r < ws'.length by omega)
        subst e6
        rw [eL] at s2
        simp (disch := omega) [q6, q9, q10, q11, x2, hr5, r0, s1, wrap64]
        have pf6 := fr fb _ (by omega) (by omega) pf5
        have pf7 := put_at (x := ⟨ws'.set r (sl b6 0 n6 z6), true⟩) pf6 (show fb ≠ c5 by omega)
        have g7 := g6.put (b := c5) (by omega) ⟨ws'.set r (sl b6 0 n6 z6), true⟩
        obtain ⟨h7, e7⟩ : ∃ h7, h7 = h6.set c5 ⟨ws'.set r (sl b6 0 n6 z6), true⟩ := ⟨_, rfl⟩
        rw [← e7] at s2 pf7 g7 ⊢
        have hB7 : B0.length ≤ h7.length := by rw [e7]; simpa using hB6
        clear e7 s1
        subst hK2
        simp only [seqQ_zero]
        have st1 := store_int (v := (r : Int) + 1) pf7 (show i < free.length by omega)
        have st2 := store_int (v := (r : Int) + 1) (blk_set (d := ⟨ints (free.set i ((r : Int) + 1)), true⟩) pf7) (k := m.natAbs) (by simp; omega)
        rw [List.set_set] at st2
        simp (disch := omega) [q7, q9, q10, q11, q19, q20, q21, wrap64, ei, i0, i1, i2, i3, st1, st2]
        refine ⟨k + 1, ⟨by omega, g7.put (by omega) _, by simpa using hB7, by omega, ?_, ?_⟩, by omega⟩
        · rw [rs]
        · rw [rs, q6]
          exact ⟨_, s2.put hpB (by omega)⟩
      refine fork_dec (fun heq => ?_) (fun hne => ?_)
      · have heq : r = out.length := by omega
        rw [e6] at R
        simp (disch := omega) [e6]
        refine rws_push (H0 := h1) (x := sl 0 0 0 0) (B0 := B0) hpB hg (by omega) hB R (by have := R.fam.len; omega) ⟨_, _, _, rfl⟩ ?_
        intro v6 h6 g6 hB6 R6 fr
        have R7 : Rws B0 h6 v6 (ws ++ [sl 0 0 0 0]) (ws ++ [sl 0 0 0 0]) (out ++ [[]]) := ⟨R6.buf, R6.fam.add RowV.nil0 (fun x _ => apart_nil), by
          intro x hx
          rcases List.mem_append.1 hx with hx | hx
          · exact R6.ap x hx
          · simp at hx; subst hx; exact apart_nil⟩
        try simp (disch := omega)
        refine tail _ h6 v6 _ _ g6 (by omega) (by simp [p19]) (by simp [p20]) (by simp [p7]) (by simp [p21]) (by simp) (by simp) (by simp) (by simp) (fr fb _ (by omega) (by omega) pf) R7 (by simp; omega) ?_ ?_
        · unfold addRow; rw [if_pos heq]
        · intro y hy
          rcases List.mem_append.1 hy with hy | hy
          · have := rl y hy; omega
          · simp at hy; subst hy; simp
      · have hne : ¬ r = out.length := by omega
        simp (disch := omega)
        refine tail _ h3 _ ws out hg hB (by simp [p19]) (by simp [p20]) (by simp [p7]) (by simp [p21]) (by simp) (by simp) (by simp) (by simp) pf R (by omega) ?_ ?_
        · unfold addRow; rw [if_neg hne]
        · intro y hy; have := rl y hy; omega
    · have : k = X.length := by omega
      subst this
      rw [List.take_length] at R
      have law := rows_law (n := n) od.hm X.length (Nat.le_refl _)
      have iv := rows_inv n X X.length (Nat.le_refl _)
      rw [List.take_length] at law iv
      have vv : LsV h' (σ 6) (rowsW n X).2 := by
        have ol := iv.ol
        refine R.lsv hpB law.ne ?_ ?_ (by omega)
        · intro l hl x hx'
          exact hx _ (law.mem l hl x hx')
        · intro l hl'
          have := iv.rl l hl'
          omega
      obtain ⟨c, e7⟩ := R.ex
      rw [e7] at vv
      simp (disch := omega) [e7]
      subst hK
      simp (disch := omega) [e7]
      rw [e0]
      exact ⟨hg, _, ⟨rfl, rfl⟩, vv⟩
end Am
/-! AmR8 -/
set_option linter.unusedVariables false
set_option linter.unusedSimpArgs false
set_option maxHeartbeats 4000000
set_option maxRecDepth 4000
namespace Am
open Go

theorem trp_inv {m : Int} (h : 1 ≤ m.natAbs) (j : Nat) : trp m (trp m j) = j := by
  unfold trp
  generalize m.natAbs = A at *
  repeat' split
  all_goals omega
theorem ord_all {n : Nat} {l : List Int} (ok : ∀ x ∈ l, 1 ≤ x.natAbs ∧ x.natAbs < n) (k : Nat) (hk : k < n) : ∃ j < n, at0 (ordW n l) j = k := by
  unfold ordW
  have key : ∀ (l : List Int) (o : List Int), (∀ x ∈ l, 1 ≤ x.natAbs ∧ x.natAbs < n) → o.length = n → (∃ j < n, at0 o j = k) → ∃ j < n, at0 (l.foldl swp o) j = k := by
    intro l
    induction l with
    | nil => intro o _ _ h; exact h
    | cons m l ih =>
      intro o ho hl ⟨j, hj, e⟩
      rw [List.foldl_cons]
      have hm := ho m (by simp)
      refine ih _ (fun x hx => ho x (by simp [hx])) (by rw [swp_len, hl]) ⟨trp m j, trp_lt hm.2 hj, ?_⟩
      rw [at0_swp _ hm.1 (by omega), trp_inv hm.1, e]
  refine key l _ ok (first_len n) ⟨k, hk, ?_⟩
  rw [at0_of (by rw [first_len]; exact hk)]
  simp [firstW]
def plc (o : List Int) (k : Int) : Nat := o.findIdx (fun x => decide (x = k))
theorem plc_at {o : List Int} {k : Int} {i : Nat} (hi : i < o.length) (h : at0 o i = k) (hb : ∀ j < i, at0 o j ≠ k) : plc o k = i := by
  unfold plc
  rw [List.findIdx_eq hi]
  refine ⟨by rw [← at0_of hi]; simpa using h, fun j hj => ?_⟩
  have := hb j hj
  rw [at0_of (by omega)] at this
  simpa using this
theorem plc_lt {n : Nat} {l : List Int} (ok : ∀ x ∈ l, 1 ≤ x.natAbs ∧ x.natAbs < n) (k : Nat) (hk : k < n) : plc (ordW n l) k < n := by
  obtain ⟨j, hj, e⟩ := ord_all ok k hk
  unfold plc
  have : List.findIdx (fun x => decide (x = (k : Int))) (ordW n l) < (ordW n l).length := by
    rw [List.findIdx_lt_length]
    refine ⟨_, List.getElem_mem (show j < (ordW n l).length by rw [ord_len]; exact hj), ?_⟩
    rw [← at0_of]; simpa using e
  rwa [ord_len] at this
/-- A strand followed while it is not seen. -/
def cyc (o : List Int) : Nat → Nat → List Bool → List Int → List Int × List Bool
  | 0, _, seen, acc => (acc, seen)
  | f + 1, p, seen, acc => if seen.getD p false then (acc, seen) else cyc o f (plc o p) (seen.set p true) (acc ++ [(p : Int)])
abbrev CSt := List (List Int) × List Bool
def clsStep (o : List Int) (n : Nat) (st : CSt) (k : Nat) : CSt := if st.2.getD k false then st else (st.1 ++ [(cyc o (n + 1) k st.2 []).1], (cyc o (n + 1) k st.2 []).2)
def clsW (n : Nat) (l : List Int) (k : Nat) : CSt := (List.range k).foldl (clsStep (ordW n l) n) ([], List.replicate n false)
theorem cls_succ (n : Nat) (l : List Int) (k : Nat) : clsW n l (k + 1) = clsStep (ordW n l) n (clsW n l k) k := by
  unfold clsW; rw [List.range_succ, List.foldl_append]; rfl
def cf (s : List Bool) : Nat := s.countP (fun x => !x)
theorem cf_set {s : List Bool} {p : Nat} (hp : p < s.length) (h : s.getD p false = false) : cf (s.set p true) + 1 = cf s := by
  have e : s[p] = false := by simpa [List.getD_eq_getElem?_getD, hp] using h
  unfold cf
  have hpos : 0 < s.countP (fun x => !x) := List.countP_pos_iff.2 ⟨_, List.getElem_mem hp, by simp [e]⟩
  rw [List.countP_set hp]
  simp [e]
  omega
theorem cf_le (s : List Bool) : cf s ≤ s.length := List.countP_le_length
theorem getB_set {s : List Bool} {p j : Nat} (hp : p < s.length) : (s.set p true).getD j false = if j = p then true else s.getD j false := by
  rw [List.getD_eq_getElem?_getD, List.getD_eq_getElem?_getD, List.getElem?_set]
  by_cases q : p = j
  · subst q; simp [hp]
  · rw [if_neg q, if_neg (fun e => q e.symm)]
theorem cyc_law {o : List Int} {n : Nat} (ho : ∀ k < n, plc o (k : Nat) < n) : ∀ (f p : Nat) (s : List Bool) (a : List Int), cf s < f → p < n → s.length = n → (∀ x ∈ a, I64 x) → n ≤ 1000 →
    (cyc o f p s a).2.length = n ∧ (cyc o f p s a).1.length + cf (cyc o f p s a).2 = a.length + cf s ∧ (∀ j, s.getD j false = true → (cyc o f p s a).2.getD j false = true) ∧ (cyc o f p s a).2.getD p false = true ∧ (∀ x ∈ (cyc o f p s a).1, I64 x) ∧ a.length ≤ (cyc o f p s a).1.length
  | 0, p, s, a, h, _, _, _, _ => by omega
  | f + 1, p, s, a, h, hp, hs, ha, hn => by
    unfold cyc
    by_cases q : s.getD p false = true
    · rw [if_pos q]
      exact ⟨hs, rfl, fun j hj => hj, q, ha, Nat.le_refl _⟩
    · rw [if_neg q]
      have q' : s.getD p false = false := by simpa using q
      have e := cf_set (by omega) q'
      obtain ⟨h1, h2, h3, h4, h5, h6⟩ := cyc_law ho f (plc o p) (s.set p true) (a ++ [(p : Int)]) (by omega) (ho p hp) (by simpa using hs) (by
        intro x hx
        rcases List.mem_append.1 hx with hx | hx
        · exact ha x hx
        · simp at hx; subst hx; unfold I64; omega) hn
      refine ⟨h1, ?_, fun j hj => h3 j ?_, h3 p ?_, h5, ?_⟩
      · rw [h2, List.length_append]; simp; omega
      · rw [getB_set (by omega)]; split
        · rfl
        · exact hj
      · rw [getB_set (by omega)]; simp
      · rw [List.length_append] at h6; omega
structure CLaw (n k : Nat) (st : CSt) : Prop where
  sl : st.2.length = n
  sum : (st.1.map List.length).sum + cf st.2 = n
  seen : ∀ j < k, st.2.getD j false = true
  i64 : ∀ l ∈ st.1, ∀ x ∈ l, I64 x
  ne : ∀ l ∈ st.1, l ≠ []
  ll : ∀ l ∈ st.1, l.length ≤ n
  num : st.1.length ≤ k
theorem cls_law {n : Nat} {l : List Int} (hn : n ≤ 1000) (ok : ∀ x ∈ l, 1 ≤ x.natAbs ∧ x.natAbs < n) : ∀ k, k ≤ n → CLaw n k (clsW n l k)
  | 0, _ => by
    refine ⟨by simp [clsW], ?_, by simp, by simp [clsW], by simp [clsW], by simp [clsW], by simp [clsW]⟩
    simp [clsW, cf, List.countP_replicate]
  | k + 1, h => by
    have i := cls_law hn ok k (by omega)
    rw [cls_succ]
    generalize clsW n l k = st at i
    obtain ⟨L, s⟩ := st
    unfold clsStep
    obtain ⟨i1, i2, i3, i4, i5, i6, i7⟩ := i
    simp only at i1 i2 i3 i4 i5 i6 i7 ⊢
    have hcf := cf_le s
    obtain ⟨h1, h2, h3, h4, h5, h6⟩ := cyc_law (o := ordW n l) (n := n) (fun k hk => plc_lt ok k hk) (n + 1) k s [] (by omega) (by omega) i1 (by simp) hn
    split
    · rename_i q
      refine ⟨i1, i2, ?_, i4, i5, i6, by simp only; omega⟩
      intro j hj
      by_cases e : j = k
      · subst e; exact q
      · exact i3 j (by omega)
    · rename_i q
      have q' : s.getD k false = false := by simpa using q
      simp only [List.length_nil, Nat.zero_add] at h2
      have hpos : 0 < ((cyc (ordW n l) (n + 1) k s []).1).length := by
        have : cf (cyc (ordW n l) (n + 1) k s []).2 < cf s := by
          have e := cf_set (s := s) (p := k) (by omega) q'
          have := h2
          unfold cyc at h2 ⊢
          rw [if_neg (by rw [q']; simp)] at h2 ⊢
          have := (cyc_law (o := ordW n l) (n := n) (fun k hk => plc_lt ok k hk) n (plc (ordW n l) k) (s.set k true) ([] ++ [(k : Int)]) (by omega) (plc_lt ok k (by omega)) (by simpa using i1) (by intro x hx; simp at hx; subst hx; unfold I64; omega) hn)
          have h22 := this.2.1
          have h26 := this.2.2.2.2.2
          simp at h26
          omega
        omega
      refine ⟨h1, ?_, ?_, ?_, ?_, ?_, ?_⟩
      · simp only [List.map_append, List.sum_append, List.map_cons, List.map_nil, List.sum_cons, List.sum_nil]; omega
      · intro j hj
        by_cases e : j = k
        · subst e; exact h4
        · exact h3 j (i3 j (by omega))
      · intro y hy
        rcases List.mem_append.1 hy with hy | hy
        · exact i4 y hy
        · simp only [List.mem_singleton] at hy; subst hy; exact h5
      · intro y hy
        rcases List.mem_append.1 hy with hy | hy
        · exact i5 y hy
        · simp only [List.mem_singleton] at hy; subst hy
          intro e; rw [e] at hpos; simp at hpos
      · intro y hy
        rcases List.mem_append.1 hy with hy | hy
        · exact i6 y hy
        · simp only [List.mem_singleton] at hy; subst hy; omega
      · simp only [List.length_append, List.length_singleton]; omega
theorem cf_zero {n : Nat} {s : List Bool} (hl : s.length = n) (h : ∀ j < n, s.getD j false = true) : cf s = 0 := by
  unfold cf
  rw [List.countP_eq_zero]
  intro x hx
  obtain ⟨i, hi, rfl⟩ := List.getElem_of_mem hx
  have := h i (by omega)
  rw [List.getD_eq_getElem?_getD] at this
  simp [hi] at this
  simp [this]
theorem cls_sum {n : Nat} {l : List Int} (hn : n ≤ 1000) (ok : ∀ x ∈ l, 1 ≤ x.natAbs ∧ x.natAbs < n) : ((clsW n l n).1.map List.length).sum = n := by
  have i := cls_law hn ok n (Nat.le_refl _)
  have := cf_zero i.sl i.seen
  have := i.sum
  omega
def clsAns (n : Int) (l : List Int) : List (List Int) × Int := if okW n l then ((clsW n.toNat l n.toNat).1, 0) else ([], 1)
def ordAns (n : Int) (l : List Int) : List Int × Int := if okW n l then (ordW n.toNat l, 0) else ([], 1)

/-! ### contracts -/
theorem c316 (h : Heap) (b n : Nat) (o : List Int) (k : Int) (hb : h[b]? = some ⟨ints o, true⟩) (hl : o.length = n) (hn : n ≤ 1000) (hk : plc o k < n) : ACall Gam 316 [sl b 0 n 1, I k] h fun r h' => r = I (plc o k) ∧ h' = h := by
  subst hl
  refine ACall_intro g316 rfl ?_
  unfold fn316
  simp (disch := omega)
  refine awp_loop (fun i σ h' => h' = h ∧ i ≤ o.length ∧ (∀ j < i, at0 o j ≠ k) ∧ σ 0 = sl b 0 o.length 1 ∧ σ 1 = I k ∧ σ 7 = I o.length ∧ σ 8 = I i) (fun i => o.length - i) 0 ?_ ?_
  · simp
  · rintro i σ h' ⟨rfl, hi, hj, p0, p1, p7, p8⟩
    simp (disch := omega) [p7, p8]
    refine fork_dec (fun hlt => ?_) (fun hge => ?_)
    · have i1 : i < o.length := by omega
      have q1 := blk_cell hb i1
      simp (disch := omega) [p0, p1, p8, i1, q1]
      refine fork_dec (fun he => ?_) (fun he => ?_)
      · simp (disch := omega)
        rw [plc_at i1 he.symm hj]
      · simp (disch := omega) [p0, p1, p7, p8, wrap64]
        refine ⟨i + 1, ⟨by omega, ?_, by omega⟩, by omega⟩
        intro j hj'
        by_cases e : j = i
        · subst e; exact fun e => he e.symm
        · exact hj j (by omega)
    · exfalso
      have : i = o.length := by omega
      subst this
      have hp : plc o k < o.length := hk
      have := List.findIdx_getElem (xs := o) (p := fun x => decide (x = k)) (w := hp)
      simp at this
      apply hj _ hp
      rw [at0_of hp]; exact this
theorem c533 (h : Heap) (b n : Nat) (o : List Int) (k : Int) (hb : h[b]? = some ⟨ints o, true⟩) (hl : o.length = n) (hn : n ≤ 1000) (hk : plc o k < n) : ACall Gam 533 [sl b 0 n 1, I k] h fun r h' => r = I (plc o k) ∧ h' = h := by
  subst hl
  refine ACall_intro g533 rfl ?_
  unfold fn533
  simp (disch := omega)
  refine awp_loop (fun i σ h' => h' = h ∧ i ≤ o.length ∧ (∀ j < i, at0 o j ≠ k) ∧ σ 0 = sl b 0 o.length 1 ∧ σ 1 = I k ∧ σ 5 = I i) (fun i => o.length - i) 0 ?_ ?_
  · simp
  · rintro i σ h' ⟨rfl, hi, hj, p0, p1, p5⟩
    simp (disch := omega) [p0, p5]
    refine fork_dec (fun hlt => ?_) (fun hge => ?_)
    · have i1 : i < o.length := by omega
      have q1 := blk_cell hb i1
      simp (disch := omega) [p0, p1, p5, i1, q1]
      refine fork_dec (fun he => ?_) (fun he => ?_)
      · simp (disch := omega) [p5]
        rw [plc_at i1 he hj]
      · simp (disch := omega) [p0, p1, p5, wrap64]
        refine ⟨i + 1, ⟨by omega, ?_, by omega⟩, by omega⟩
        intro j hj'
        by_cases e : j = i
        · subst e; exact he
        · exact hj j (by omega)
    · exfalso
      have : i = o.length := by omega
      subst this
      have hp : plc o k < o.length := hk
      have := List.findIdx_getElem (xs := o) (p := fun x => decide (x = k)) (w := hp)
      simp at this
      apply hj _ hp
      rw [at0_of hp]; exact this
theorem c104_ok (h : Heap) (hp : 0 < h.length) (n : Nat) (v : Value) (X : List Int) (hv : Vr h shInts v X) (hs : X.length ≤ 1048576) (od : OkWd n X) : ACall Gam 104 [I n, v] h fun r h' => ∃ r0, r = .tuple #[r0, I 0] ∧ Grows h h' ∧ Buf h h' r0 1 (ints (ordW n X)) := by
  obtain ⟨bb, o, zz, rfl, hzz, hm, hx, hc⟩ := hv.ints
  refine ACall_intro g104 rfl ?_
  unfold fn104
  rw [awp_seq, awp_reg]
  generalize hK : seqQ Gam _ _ 0 = K
  simp (disch := omega)
  subst hK
  simp only [seqQ_zero]
  rw [awp_seq]
  generalize hK : seqQ Gam _ _ = K
  simp (disch := omega)
  refine callW_of (c142 h n _ X hv hs) ?_
  rintro _ h1 ⟨rfl, rfl⟩
  try refine ⟨fun e => (by cases e), ?_⟩
  rw [od.ok]
  simp (disch := omega)
  subst hK
  simp (disch := omega)
  refine callW_of (c184 h1 hp n _ X hv od) ?_
  rintro r h2 ⟨g2, b2⟩
  try refine ⟨fun e => (by first | exact g2 | cases e), ?_⟩
  obtain ⟨c, m, e⟩ := buf_apart b2
  subst e
  simp (disch := omega)
  exact ⟨g2, b2⟩
theorem c104_bad (h : Heap) (hp : 0 < h.length) (n : Int) (v : Value) (X : List Int) (hv : Vr h shInts v X) (hs : X.length ≤ 1048576) (od : okW n X = false) : ACall Gam 104 [I n, v] h fun r h' => r = .tuple #[sl 0 0 0 0, I 1] ∧ h' = h := by
  obtain ⟨bb, o, zz, rfl, hzz, hm, hx, hc⟩ := hv.ints
  refine ACall_intro g104 rfl ?_
  unfold fn104
  rw [awp_seq, awp_reg]
  generalize hK : seqQ Gam _ _ 0 = K
  simp (disch := omega)
  subst hK
  simp only [seqQ_zero]
  rw [awp_seq]
  generalize hK : seqQ Gam _ _ = K
  simp (disch := omega)
  refine callW_of (c142 h n _ X hv hs) ?_
  rintro _ h1 ⟨rfl, rfl⟩
  try refine ⟨fun e => (by cases e), ?_⟩
  rw [od]
  simp (disch := omega)
  subst hK
  simp (disch := omega)
end Am
/-! AmR9 -/
set_option linter.unusedVariables false
set_option linter.unusedSimpArgs false
set_option maxHeartbeats 4000000
set_option maxRecDepth 4000
namespace Am
open Go

def bools (l : List Bool) : List Value := l.map B
theorem bools_len (l : List Bool) : (bools l).length = l.length := by simp [bools]
theorem make_bools (h : Heap) (n : Nat) (hn : n ≤ 1000) : aMake 1 h (I n) (I n) (.agg #[B false]) = some (sl h.length 0 n 1, h ++ [⟨bools (List.replicate n false), true⟩]) := by
  simp (disch := omega) [aMake, maxSize]
  constructor
  · omega
  · simp [reps, bools]
theorem bool_cell {h : Heap} {b k : Nat} {l : List Bool} (hb : h[b]? = some ⟨bools l, true⟩) (hk : k < l.length) : cell h b k = some (B (l.getD k false)) := cell_of hb (by simp [bools, hk, List.getD_eq_getElem?_getD])
theorem store_bool {h : Heap} {b k : Nat} {l : List Bool} {v : Bool} (hb : h[b]? = some ⟨bools l, true⟩) (hk : k < l.length) : storeAt h b k [B v] = some (h.set b ⟨bools (l.set k v), true⟩) := by
  rw [store_one hb (by rw [bools_len]; exact hk)]
  simp [bools, List.map_set]
theorem cyc_stop {o : List Int} {f p : Nat} {s : List Bool} {a : List Int} (hf : 0 < f) (h : s.getD p false = true) : cyc o f p s a = (a, s) := by
  obtain ⟨f, rfl⟩ := Nat.exists_eq_succ_of_ne_zero (show f ≠ 0 by omega)
  unfold cyc
  rw [if_pos h]
theorem cyc_go {o : List Int} {f p : Nat} {s : List Bool} {a : List Int} (h : s.getD p false = false) : cyc o (f + 1) p s a = cyc o f (plc o p) (s.set p true) (a ++ [(p : Int)]) := by
  rw [cyc]
  rw [if_neg (by rw [h]; simp)]
theorem set_last {α : Type} {l : List α} {w x : α} : (l ++ [w]).set l.length x = l ++ [x] := by
  rw [List.set_append]; simp
theorem getD_last {L : List (List Int)} {a : List Int} : (L ++ [a]).getD L.length [] = a := by
  rw [List.getD_eq_getElem?_getD]; simp

theorem Rws.last {B0 h : Heap} {v w : Value} {cs ws : List Value} {L : List (List Int)} {a : List Int} (R : Rws B0 h v cs (ws ++ [w]) (L ++ [a])) : RowV B0 h w a := by
  have hl := R.fam.len
  simp at hl
  have := R.fam.row ws.length (by simp) (by simp; omega)
  rw [List.getElem_append_right (by omega), List.getElem_append_right (by omega)] at this
  simpa using this
theorem c335 (h : Heap) (hp : 0 < h.length) (a : Int) (v : Value) (X : List Int) (hv : Vr h shInts v X) (hs : X.length ≤ 1048576) : ACall Gam 335 [I a, v] h fun r h' => Grows h h' ∧ ∃ r0, r = .tuple #[r0, I (clsAns a X).2] ∧ LsV h' r0 (clsAns a X).1 := by
  obtain ⟨bb, o, zz, rfl, hzz, hm, hx, hc⟩ := hv.ints
  refine ACall_intro g335 rfl ?_
  unfold fn335
  rw [awp_seq, awp_reg]
  generalize hK : seqQ Gam _ _ 0 = K
  simp (disch := omega)
  subst hK
  simp only [seqQ_zero]
  rw [awp_seq]
  generalize hK : seqQ Gam _ _ = K
  simp (disch := omega)
  refine callW_of (c531 h a _ X hv hs) ?_
  rintro _ h1 ⟨rfl, rfl⟩
  try refine ⟨fun e => (by cases e), ?_⟩
  cases ok : okW a X
  · simp (disch := omega)
    subst hK
    simp (disch := omega)
    unfold clsAns
    rw [ok]
    exact ⟨Grows.refl _, _, ⟨rfl, rfl⟩, LsV.nil⟩
  obtain ⟨n, rfl, od⟩ := okW_iff ok
  have hn := od.hn
  have hl := od.hl
  have e0 : clsAns n X = ((clsW n X n).1, 0) := by unfold clsAns; rw [ok]; simp
  simp (disch := omega)
  subst hK
  simp only [seqQ_zero]
  rw [awp_seq, awp_reg]
  generalize hK : seqQ Gam _ _ 0 = K
  simp (disch := omega)
  refine callW_of (c532 h1 hp n _ X hv od) ?_
  rintro _ h2 ⟨g2, b2⟩
  try refine ⟨fun e => (by first | exact g2 | cases e), ?_⟩
  obtain ⟨ob, rfl, ob1, ob2⟩ := buf_ints b2 (by rw [ord_len]; omega)
  rw [ord_len]
  obtain ⟨ord, hord⟩ : ∃ ord, ord = ordW n X := ⟨_, rfl⟩
  have ordl : ord.length = n := by rw [hord, ord_len]
  have pl : ∀ k < n, plc ord (k : Nat) < n := fun k hk => by rw [hord]; exact plc_lt od.hm k hk
  rw [← hord] at ob2
  try simp (disch := omega)
  subst hK
  simp only [seqQ_zero]
  rw [awp_seq, awp_reg]
  generalize hK : seqQ Gam _ _ 0 = K
  simp (disch := omega) [make_bools]
  subst hK
  simp only [seqQ_zero]
  obtain ⟨B0, eB⟩ : ∃ B0, B0 = h2 ++ [⟨bools (List.replicate n false), true⟩] := ⟨_, rfl⟩
  have gB : Grows h2 B0 := ⟨_, eB⟩
  have lB : B0.length = h2.length + 1 := by rw [eB]; simp
  have fB : B0[h2.length]? = some ⟨bools (List.replicate n false), true⟩ := by rw [eB]; simp
  rw [← eB]
  have hpB : 0 < B0.length := by omega
  have l2 := at_lt ob2
  have oB := gB.at ob2
  have gB' : Grows h1 B0 := g2.trans gB
  have le2 := g2.le
  obtain ⟨sb, esb⟩ : ∃ sb, sb = h2.length := ⟨_, rfl⟩
  rw [← esb] at fB ⊢
  rw [awp_seq, awp_reg]
  generalize hK : seqQ Gam _ _ 0 = K
  simp (disch := omega)
  subst hK
  simp only [seqQ_zero]
  rw [awp_seq]
  generalize hK : seqQ Gam _ _ = K
  simp (disch := omega)
  refine awp_loop (fun k σ h' => k ≤ n ∧ Grows h1 h' ∧ B0.length ≤ h'.length ∧ σ 0 = I n ∧ σ 6 = sl ob 0 n 1 ∧ σ 7 = sl sb 0 n 1 ∧ σ 9 = I k ∧ h'[ob]? = some ⟨ints ord, true⟩ ∧ h'[sb]? = some ⟨bools (clsW n X k).2, true⟩ ∧ ∃ ws, Rws B0 h' (σ 8) ws ws (clsW n X k).1) (fun k => n - k) 0 ?_ ?_
  · exact ⟨by omega, gB', by omega, by simp, by simp, by simp, by simp, oB, by simpa [clsW] using fB, [], by simpa using Buf.nil, by simpa [clsW] using Fam.nil, by simp⟩
  · rintro k σ h' ⟨hk, hg, hB, p0, p6, p7, p9, po, ps, ws, R⟩
    simp (disch := omega) [p0, p9]
    have cl := cls_law (n := n) (l := X) (by omega) od.hm k hk
    have sc := cls_succ n X k
    refine fork_dec (fun hlt => ?_) (fun hge => ?_)
    · have k1 : k < n := by omega
      obtain ⟨st, est⟩ : ∃ st, st = clsW n X k := ⟨_, rfl⟩
      rw [← est] at ps R cl sc
      obtain ⟨L, s⟩ := st
      rw [← hord] at sc
      obtain ⟨sl1, sm1, sn1, i641, ne1, ll1, num1⟩ := cl
      simp only at ps R sl1 sm1 sn1 i641 ne1 ll1 num1
      have hcf := cf_le s
      simp (disch := omega) [p9]
      obtain ⟨c, e8⟩ := R.ex
      rw [e8] at R
      obtain ⟨T, hT⟩ : ∃ T, T = cyc ord (n + 1) k s [] := ⟨_, rfl⟩
      generalize hK2 : seqQ Gam _ _ = K2
      refine awp_loop (fun j σ h' => Grows h1 h' ∧ B0.length ≤ h'.length ∧ σ 0 = I n ∧ σ 6 = sl ob 0 n 1 ∧ σ 7 = sl sb 0 n 1 ∧ σ 8 = sl c 0 L.length 1 ∧ σ 9 = I k ∧ h'[ob]? = some ⟨ints ord, true⟩ ∧ ∃ (f p : Nat) (s' : List Bool) (ac : List Int), cyc ord f p s' ac = T ∧ cf s' < f ∧ p < n ∧ s'.length = n ∧ ac.length = j ∧ j + cf s' ≤ n ∧ σ 11 = I p ∧ h'[sb]? = some ⟨bools s', true⟩ ∧ Rws B0 h' (sl c 0 L.length 1) ws (ws ++ [σ 10]) (L ++ [ac])) (fun j => n - j) 0 ?_ ?_
      · refine ⟨hg, hB, by simp [p0], by simp [p6], by simp [p7], by simp [e8], by simp [p9], po, n + 1, k, s, [], hT.symm, by omega, k1, sl1, rfl, by omega, by simp, ps, R.buf, by simpa using R.fam.add RowV.nil1 (fun x _ => apart_nil), ?_⟩
        intro x hx
        rcases List.mem_append.1 hx with hx | hx
        · exact R.ap x hx
        · simp at hx; subst hx; exact apart_nil
      · rintro j σ' h5 ⟨hg5, hB5, q0, q6, q7, q8, q9, qo, f, p, s', ac, hc1, hc2, hc3, hc4, hc5, hc6, q11, qs, R5⟩
        have x1 := bool_cell qs (k := p) (by omega)
        have p0' : (p : Int) < n := by omega
        obtain ⟨f, rfl⟩ := Nat.exists_eq_succ_of_ne_zero (show f ≠ 0 by omega)
        obtain ⟨q, hsp⟩ : ∃ q, s'.getD p false = q := ⟨_, rfl⟩
        rw [hsp] at x1
        simp (disch := omega) [q7, q11, p0', hc3, x1]
        cases q
        · have ecf := cf_set (s := s') (p := p) (by omega) hsp
          rw [Nat.succ_eq_add_one, cyc_go hsp] at hc1
          have st1 := store_bool (v := true) qs (k := p) (by omega)
          obtain ⟨h6, e6⟩ : ∃ h6, h6 = h5.set sb ⟨bools (s'.set p true), true⟩ := ⟨_, rfl⟩
          have g6 : Grows h1 h6 := by rw [e6]; exact hg5.put (by omega) _
          have l6 : h6.length = h5.length := by rw [e6]; simp
          have R6 : Rws B0 h6 (sl c 0 L.length 1) ws (ws ++ [σ' 10]) (L ++ [ac]) := by rw [e6]; exact R5.put hpB (by omega)
          have o6 : h6[ob]? = some ⟨ints ord, true⟩ := by rw [e6]; exact put_at qo (by omega)
          have s6 : h6[sb]? = some ⟨bools (s'.set p true), true⟩ := by rw [e6]; exact blk_set qs
          rw [← e6] at st1
          have lw := R6.fam.len
          simp at lw
          have ra := fun K => row_app (K := K) (m := (p : Int)) (i := ws.length) hpB g6 (by omega) (by omega) R6 (by simp) (by
            intro y hy
            rcases List.mem_append.1 hy with hy | hy
            · have := ll1 y hy; omega
            · simp only [List.mem_singleton] at hy; subst hy; omega)
          simp only [List.getElem_append_right (Nat.le_refl _), Nat.sub_self, List.getElem_singleton] at ra
          simp (disch := omega) [q7, q11, p0', hc3, x1, st1]
          refine ra _ ?_
          intro v7 h7 g7 hB7 R7 fr ⟨b7, n7, z7, e7⟩
          subst e7
          have o7 := fr ob _ (by omega) (by omega) o6
          have s7 := fr sb _ (by omega) (by omega) s6
          rw [set_last, lw, set_last, getD_last] at R7
          simp (disch := omega) [q6, q11]
          refine callW_of (c533 h7 ob n ord p o7 ordl (by omega) (pl p hc3)) ?_
          rintro _ h8 ⟨rfl, rfl⟩
          try refine ⟨fun e => (by cases e), ?_⟩
          simp (disch := omega) [q0, q6, q7, q8, q9]
          refine ⟨j + 1, ⟨g7, hB7, ?_⟩, by omega⟩
          refine ⟨(List.getElem?_eq_some_iff.1 o7).2, f, plc ord p, s'.set p true, ac ++ [(p : Int)], hc1, by omega, pl p hc3, by simp [hc4], by simp [hc5], by omega, rfl, (List.getElem?_eq_some_iff.1 s7).2, R7⟩
        · rw [cyc_stop (by omega) hsp] at hc1
          subst hc1
          have hk' : k < s.length := by omega
          have lw := R5.fam.len
          simp at lw
          simp (disch := omega)
          subst hK2
          simp only [seqQ_zero]
          obtain ⟨w, ew⟩ : ∃ w, w = σ' 10 := ⟨_, rfl⟩
          rw [← ew] at R5
          have rw10 := R5.last
          obtain ⟨cb, cn, cz, ec, en, _⟩ := rw10.ex
          obtain ⟨u, hu⟩ : ∃ u, u = s.getD k false := ⟨_, rfl⟩
          cases u
          · have hne : 0 < ac.length := by
              rw [cyc_go hu.symm] at hT
              have := (cyc_law (o := ord) (n := n) pl n (plc ord k) (s.set k true) ([] ++ [(k : Int)]) (by have := cf_set (s := s) (p := k) hk' hu.symm; omega) (pl k k1) (by simpa using sl1) (by intro x hx; simp at hx; subst hx; unfold I64; omega) (by omega)).2.2.2.2.2
              rw [← hT] at this
              simp at this
              omega
            have hgt : (0 : Int) < cn := by omega
            have hgt' : 0 < cn := by omega
            rw [ec] at R5 ew
            simp (disch := omega) [← ew, hgt, hgt', q8]
            refine rws_push (H0 := h1) (x := sl cb 0 cn cz) (B0 := B0) hpB hg5 (by omega) hB5 R5 (by omega) ⟨_, _, _, rfl⟩ ?_
            intro v6 h6 g6 hB6 R6 fr
            try simp (disch := omega) [q0, q6, q7, q8, q9, wrap64]
            refine ⟨k + 1, ⟨by omega, g6, by omega, by omega, ?_, ?_, ?_⟩, by omega⟩
            · exact (List.getElem?_eq_some_iff.1 (fr ob _ (by omega) (by omega) qo)).2
            · rw [sc]
              unfold clsStep
              rw [← hu]
              simp only [Bool.false_eq_true, if_false]
              rw [← hT]
              exact (List.getElem?_eq_some_iff.1 (fr sb _ (by omega) (by omega) qs)).2
            · rw [sc]
              unfold clsStep
              rw [← hu]
              simp only [Bool.false_eq_true, if_false]
              rw [← hT]
              exact ⟨_, R6⟩
          · rw [cyc_stop (by omega) hu.symm] at hT
            simp only [Prod.mk.injEq] at hT
            obtain ⟨rfl, rfl⟩ := hT
            have hgt : cn = 0 := by simpa using en
            subst hgt
            rw [ec] at R5 ew
            simp (disch := omega) [← ew, q0, q6, q7, q8, q9, wrap64]
            refine ⟨k + 1, ⟨by omega, hg5, by omega, by omega, ?_, ?_, ?_⟩, by omega⟩
            · exact (List.getElem?_eq_some_iff.1 qo).2
            · rw [sc]
              unfold clsStep
              rw [← hu]
              simp only [if_true]
              exact (List.getElem?_eq_some_iff.1 qs).2
            · rw [sc]
              unfold clsStep
              rw [← hu]
              simp only [if_true]
              exact ⟨_, R5.buf, R5.fam.init, fun x hx => R5.ap x (by simp [hx])⟩
    · have : k = n := by omega
      subst this
      have vv : LsV h' (σ 8) (clsW k X k).1 := by
        refine R.lsv hpB cl.ne cl.i64 ?_ (by have := cl.num; omega)
        intro l hl'
        have := cl.ll l hl'
        omega
      obtain ⟨c, e7⟩ := R.ex
      rw [e7] at vv
      simp (disch := omega) [e7]
      subst hK
      simp (disch := omega) [e7]
      rw [e0]
      exact ⟨hg, _, ⟨rfl, rfl⟩, vv⟩
end Am
