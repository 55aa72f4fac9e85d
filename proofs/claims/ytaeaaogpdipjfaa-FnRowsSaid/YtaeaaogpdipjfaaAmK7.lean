/- Contracts: AmR10, AmR11, AmR12, AmR13. -/
import Derived.Test.YtaeaaogpdipjfaaAmK6
import Derived.Test.YtaeaaogpdipjfaaAmK2
/-! AmR10 -/
set_option linter.unusedVariables false
set_option linter.unusedSimpArgs false
set_option maxHeartbeats 4000000
set_option maxRecDepth 4000
namespace Am
open Go

theorem c66 (h : Heap) (hp : 0 < h.length) (a : Int) (v : Value) (X : List Int) (hv : Vr h shInts v X) (hs : X.length ≤ 1048576) : ACall Gam 66 [I a, v] h fun r h' => Grows h h' ∧ ∃ r0, r = .tuple #[r0, I (clsAns a X).2] ∧ LsV h' r0 (clsAns a X).1 := by
  obtain ⟨bb, o, zz, rfl, hzz, hm, hx, hc⟩ := hv.ints
  refine ACall_intro g66 rfl ?_
  unfold fn66
  rw [awp_seq, awp_reg]
  generalize hK : seqQ Gam _ _ 0 = K
  simp (disch := omega)
  subst hK
  simp only [seqQ_zero]
  cases ok : okW a X
  · rw [awp_seq, awp_reg]
    generalize hK : seqQ Gam _ _ 0 = K
    simp (disch := omega)
    refine callW_of (c104_bad h hp a _ X hv hs ok) ?_
    rintro _ h1 ⟨rfl, rfl⟩
    try refine ⟨fun e => (by cases e), ?_⟩
    simp (disch := omega)
    subst hK
    simp only [seqQ_zero]
    simp (disch := omega)
    unfold clsAns
    rw [ok]
    exact ⟨Grows.refl _, _, ⟨rfl, rfl⟩, LsV.nil⟩
  obtain ⟨n, rfl, od⟩ := okW_iff ok
  have hn := od.hn
  have hl := od.hl
  have e0 : clsAns n X = ((clsW n X n).1, 0) := by unfold clsAns; rw [ok]; simp
  rw [awp_seq, awp_reg]
  generalize hK : seqQ Gam _ _ 0 = K
  simp (disch := omega)
  refine callW_of (c104_ok h hp n _ X hv hs od) ?_
  rintro _ h2 ⟨_, rfl, g2, b2⟩
  try refine ⟨fun e => (by first | exact g2 | cases e), ?_⟩
  obtain ⟨ob, rfl, ob1, ob2⟩ := buf_ints b2 (by rw [ord_len]; omega)
  rw [ord_len] at b2
  rw [ord_len]
  obtain ⟨ord, hord⟩ : ∃ ord, ord = ordW n X := ⟨_, rfl⟩
  have ordl : ord.length = n := by rw [hord, ord_len]
  have pl : ∀ k < n, plc ord (k : Nat) < n := fun k hk => by rw [hord]; exact plc_lt od.hm k hk
  rw [← hord] at ob2
  try simp (disch := omega)
  subst hK
  simp only [seqQ_zero]
  rw [awp_seq]
  generalize hK : seqQ Gam _ _ = K
  simp (disch := omega)
  subst hK
  simp only [seqQ_zero]
  rw [awp_seq, awp_reg]
  generalize hK : seqQ Gam _ _ 0 = K
  simp (disch := omega) [make_bools]
  subst hK
  simp only [seqQ_zero]
  obtain ⟨B0, eB⟩ : ∃ B0, B0 = h2 ++ [⟨bools (List.replicate n false), true⟩] := ⟨_, rfl⟩
  have gB : Grows h2 B0 := ⟨_, eB⟩
  have lB : B0.length = h2.length + 1 := by rw [eB]; simp
  have fB : B0[h2.length]? = some ⟨bools (List.replicate n false), true⟩ := by rw [eB]; simp
  rw [← eB]
  have hpB : 0 < B0.length := by omega
  have l2 := at_lt ob2
  have oB := gB.at ob2
  have gB' : Grows h B0 := g2.trans gB
  have le2 := g2.le
  obtain ⟨sb, esb⟩ : ∃ sb, sb = h2.length := ⟨_, rfl⟩
  rw [← esb] at fB ⊢
  rw [awp_seq]
  generalize hK : seqQ Gam _ _ = K
  simp (disch := omega)
  refine awp_loop (fun k σ h' => k ≤ n ∧ Grows h h' ∧ B0.length ≤ h'.length ∧ σ 25 = I n ∧ σ 6 = sl ob 0 n 1 ∧ σ 9 = sl sb 0 n 1 ∧ σ 26 = I k ∧ h'[ob]? = some ⟨ints ord, true⟩ ∧ h'[sb]? = some ⟨bools (clsW n X k).2, true⟩ ∧ ∃ ws, Rws B0 h' (σ 8) ws ws (clsW n X k).1) (fun k => n - k) 0 ?_ ?_
  · exact ⟨by omega, gB', by omega, by simp, by simp, by simp, by simp, oB, by simpa [clsW] using fB, [], by simpa using Buf.nil, by simpa [clsW] using Fam.nil, by simp⟩
  · rintro k σ h' ⟨hk, hg, hB, p25, p6, p9, p26, po, ps, ws, R⟩
    simp (disch := omega) [p25, p26]
    have cl := cls_law (n := n) (l := X) (by omega) od.hm k hk
    have sc := cls_succ n X k
    refine fork_dec (fun hlt => ?_) (fun hge => ?_)
    · have k1 : k < n := by omega
      obtain ⟨st, est⟩ : ∃ st, st = clsW n X k := ⟨_, rfl⟩
      rw [← est] at ps R cl sc
      obtain ⟨L, s⟩ := st
      rw [← hord] at sc
      obtain ⟨sl1, sm1, sn1, i641, ne1, ll1, num1⟩ := cl
      simp only at ps R sl1 sm1 sn1 i641 ne1 ll1 num1
      have hcf := cf_le s
      obtain ⟨c, e8⟩ := R.ex
      rw [e8] at R
      have x0 := bool_cell ps (k := k) (by omega)
      obtain ⟨u, hu⟩ : ∃ u, s.getD k false = u := ⟨_, rfl⟩
      rw [hu] at x0
      have k0 : (k : Int) < n := by omega
      simp (disch := omega) [p26, p9, x0, k0, k1]
      cases u
      rotate_left
      · simp (disch := omega) [p25, p26, p6, p9, e8, wrap64]
        refine ⟨k + 1, ⟨by omega, hg, by omega, by omega, ?_, ?_, ?_⟩, by omega⟩
        · exact (List.getElem?_eq_some_iff.1 po).2
        · rw [sc]
          unfold clsStep
          rw [hu]
          simp only [if_true]
          exact (List.getElem?_eq_some_iff.1 ps).2
        · rw [sc]
          unfold clsStep
          rw [hu]
          simp only [if_true]
          exact ⟨_, R⟩
      simp (disch := omega) [p26, p9, x0, k0, k1]
      obtain ⟨T, hT⟩ : ∃ T, T = cyc ord (n + 1) k s [] := ⟨_, rfl⟩
      generalize hK2 : seqQ Gam _ _ = K2
      refine awp_loop (fun j σ h' => Grows h h' ∧ B0.length ≤ h'.length ∧ σ 25 = I n ∧ σ 6 = sl ob 0 n 1 ∧ σ 9 = sl sb 0 n 1 ∧ σ 8 = sl c 0 L.length 1 ∧ σ 26 = I k ∧ h'[ob]? = some ⟨ints ord, true⟩ ∧ ∃ (f p : Nat) (s' : List Bool) (ac : List Int), cyc ord f p s' ac = T ∧ cf s' < f ∧ p < n ∧ s'.length = n ∧ ac.length = j ∧ j + cf s' ≤ n ∧ σ 12 = I p ∧ h'[sb]? = some ⟨bools s', true⟩ ∧ Rws B0 h' (sl c 0 L.length 1) ws (ws ++ [σ 11]) (L ++ [ac])) (fun j => n - j) 0 ?_ ?_
      · refine ⟨hg, hB, by simp [p25], by simp [p6], by simp [p9], by simp [e8], by simp [p26], po, n + 1, k, s, [], hT.symm, by omega, k1, sl1, rfl, by omega, by simp, ps, R.buf, by simpa using R.fam.add RowV.nil1 (fun x _ => apart_nil), ?_⟩
        intro x hx
        rcases List.mem_append.1 hx with hx | hx
        · exact R.ap x hx
        · simp at hx; subst hx; exact apart_nil
      · rintro j σ' h5 ⟨hg5, hB5, q25, q6, q9, q8, q26, qo, f, p, s', ac, hc1, hc2, hc3, hc4, hc5, hc6, q12, qs, R5⟩
        have x1 := bool_cell qs (k := p) (by omega)
        have p0' : (p : Int) < n := by omega
        obtain ⟨f, rfl⟩ := Nat.exists_eq_succ_of_ne_zero (show f ≠ 0 by omega)
        obtain ⟨q, hsp⟩ : ∃ q, s'.getD p false = q := ⟨_, rfl⟩
        rw [hsp] at x1
        simp (disch := omega) [q9, q12, p0', hc3, x1]
        cases q
        · have ecf := cf_set (s := s') (p := p) (by omega) hsp
          rw [Nat.succ_eq_add_one, cyc_go hsp] at hc1
          have st1 := store_bool (v := true) qs (k := p) (by omega)
          obtain ⟨h6, e6⟩ : ∃ h6, h6 = h5.set sb ⟨bools (s'.set p true), true⟩ := ⟨_, rfl⟩
          have g6 : Grows h h6 := by rw [e6]; exact hg5.put (by omega) _
          have l6 : h6.length = h5.length := by rw [e6]; simp
          have R6 : Rws B0 h6 (sl c 0 L.length 1) ws (ws ++ [σ' 11]) (L ++ [ac]) := by rw [e6]; exact R5.put hpB (by omega)
          have o6 : h6[ob]? = some ⟨ints ord, true⟩ := by rw [e6]; exact put_at qo (by omega)
          have s6 : h6[sb]? = some ⟨bools (s'.set p true), true⟩ := by rw [e6]; exact blk_set qs
          rw [← e6] at st1
          have lw := R6.fam.len
          simp at lw
          have ra := fun K => row_app (K := K) (m := (p : Int)) (i := ws.length) hpB g6 (by omega) (by omega) R6 (by simp) (by
            intro y hy
            rcases List.mem_append.1 hy with hy | hy
            · have := ll1 y hy; omega
            · simp only [List.mem_singleton] at hy; subst hy; omega)
          simp only [List.getElem_append_right (Nat.le_refl _), Nat.sub_self, List.getElem_singleton] at ra
          simp (disch := omega) [q9, q12, p0', hc3, x1, st1]
          refine ra _ ?_
          intro v7 h7 g7 hB7 R7 fr ⟨b7, n7, z7, e7⟩
          subst e7
          have o7 := fr ob _ (by omega) (by omega) o6
          have s7 := fr sb _ (by omega) (by omega) s6
          rw [set_last, lw, set_last, getD_last] at R7
          simp (disch := omega) [q6, q12]
          refine callW_of (c316 h7 ob n ord p o7 ordl (by omega) (pl p hc3)) ?_
          rintro _ h8 ⟨rfl, rfl⟩
          try refine ⟨fun e => (by cases e), ?_⟩
          simp (disch := omega) [q25, q6, q8, q9, q26]
          refine ⟨j + 1, ⟨g7, hB7, ?_⟩, by omega⟩
          refine ⟨(List.getElem?_eq_some_iff.1 o7).2, f, plc ord p, s'.set p true, ac ++ [(p : Int)], hc1, by omega, pl p hc3, by simp [hc4], by simp [hc5], by omega, rfl, (List.getElem?_eq_some_iff.1 s7).2, R7⟩
        · rw [cyc_stop (by omega) hsp] at hc1
          subst hc1
          have hk' : k < s.length := by omega
          have lw := R5.fam.len
          simp at lw
          simp (disch := omega)
          subst hK2
          simp only [seqQ_zero]
          obtain ⟨w, ew⟩ : ∃ w, w = σ' 11 := ⟨_, rfl⟩
          rw [← ew] at R5
          have rw10 := R5.last
          obtain ⟨cb, cn, cz, ec, en, _⟩ := rw10.ex
          rw [ec] at R5 ew
          simp (disch := omega) [← ew, q8]
          refine rws_push (H0 := h) (x := sl cb 0 cn cz) (B0 := B0) hpB hg5 (by omega) hB5 R5 (by omega) ⟨_, _, _, rfl⟩ ?_
          intro v6 h6 g6 hB6 R6 fr
          try simp (disch := omega) [q25, q6, q9, q8, q26, wrap64]
          refine ⟨k + 1, ⟨by omega, g6, by omega, by omega, ?_, ?_, ?_⟩, by omega⟩
          · exact (List.getElem?_eq_some_iff.1 (fr ob _ (by omega) (by omega) qo)).2
          · rw [sc]
            unfold clsStep
            rw [hu]
            simp only [Bool.false_eq_true, if_false]
            rw [← hT]
            exact (List.getElem?_eq_some_iff.1 (fr sb _ (by omega) (by omega) qs)).2
          · rw [sc]
            unfold clsStep
            rw [hu]
            simp only [Bool.false_eq_true, if_false]
            rw [← hT]
            exact ⟨_, R6⟩
    · have : k = n := by omega
      subst this
      have vv : LsV h' (σ 8) (clsW k X k).1 := by
        refine R.lsv hpB cl.ne cl.i64 ?_ (by have := cl.num; omega)
        intro l hl'
        have := cl.ll l hl'
        omega
      obtain ⟨c, e7⟩ := R.ex
      rw [e7] at vv
      simp (disch := omega) [e7]
      subst hK
      simp (disch := omega) [e7]
      rw [e0]
      exact ⟨hg, _, ⟨rfl, rfl⟩, vv⟩
end Am
/-! AmR11 -/
set_option linter.unusedVariables false
set_option linter.unusedSimpArgs false
set_option maxHeartbeats 4000000
set_option maxRecDepth 4000
namespace Am
open Go

theorem Buf.vr {h0 h : Heap} {v : Value} {l : List Int} (b : Buf h0 h v 1 (Am.ints l)) (hl : l.length ≤ 1048576) (h64 : ∀ x ∈ l, I64 x) : Vr h shInts v l := by
  rcases b with ⟨e1, e2⟩ | ⟨c, n, e, h1, h2, h3⟩
  · have : l = [] := by simpa [Am.ints] using e1
    subst this
    subst e2
    exact (Vo.of_ints (lo := 0) (hi := h.length) (b := 0) (z := 1) (.inl rfl) (by rw [maxLen_eq]; simp) (by simp) (.inl rfl)).vr
  · have : n = l.length := by simpa [Am.ints] using h1
    subst this
    subst e
    exact (Vo.of_ints (lo := 0) (hi := h.length) (.inl rfl) (by rw [maxLen_eq]; omega) h64 (.inr ⟨h3, by omega, at_lt h3⟩)).vr
theorem nil_vr {h : Heap} : Vr h shInts (sl 0 0 0 0) [] := (Vo.of_ints (lo := 0) (hi := h.length) (b := 0) (z := 0) (X := []) (.inr ⟨rfl, rfl⟩) (by rw [maxLen_eq]; simp) (by simp) (.inl rfl)).vr
def plEl (r i : Nat) : Int := if r % 2 = 0 then (((1 + r % 2 + 2 * i : Nat)) : Int) else -(((1 + r % 2 + 2 * i : Nat)) : Int)
def plRow (r j : Nat) : List Int := (List.range j).map (plEl r)
def plCnt (n r : Nat) : Nat := (n - r % 2) / 2
def plAll (n r : Nat) : List Int := (List.range r).flatMap fun q => plRow q (plCnt n q)
theorem plRow_succ (r j : Nat) : plRow r (j + 1) = plRow r j ++ [plEl r j] := by simp [plRow, List.range_succ]
theorem plAll_succ (n r : Nat) : plAll n (r + 1) = plAll n r ++ plRow r (plCnt n r) := by simp [plAll, List.range_succ]
theorem plAll_len {n : Nat} (hn : n ≤ 12) : ∀ r, (plAll n r).length ≤ 6 * r
  | 0 => by simp [plAll]
  | r + 1 => by
    have := plAll_len hn r
    rw [plAll_succ, List.length_append]
    have : (plRow r (plCnt n r)).length = plCnt n r := by simp [plRow]
    unfold plCnt at this ⊢
    omega
theorem plEl_64 {r i : Nat} (hi : i ≤ 100) : I64 (plEl r i) := by
  unfold plEl I64
  split <;> omega
theorem plAll_64 {n : Nat} (hn : n ≤ 12) (r : Nat) : ∀ x ∈ plAll n r, I64 x := by
  intro x hx
  unfold plAll at hx
  obtain ⟨q, _, hx⟩ := List.mem_flatMap.1 hx
  unfold plRow plCnt at hx
  obtain ⟨i, hi, rfl⟩ := List.mem_map.1 hx
  have := List.mem_range.1 hi
  exact plEl_64 (by omega)
def plAns (a b : Int) : List Int × Int := if inR a 2 12 && inR b 0 200 then (if 200 < (plAll a.toNat b.toNat).length then ([], 5) else (plAll a.toNat b.toNat, 0)) else ([], 2)
theorem c407 (h : Heap) (hp : 0 < h.length) (a b : Int) (ha : I64 a) (hb : I64 b) : ACall Gam 407 [I a, I b] h fun r h' => Grows h h' ∧ ∃ r0, r = .tuple #[r0, I (plAns a b).2] ∧ Vr h' shInts r0 (plAns a b).1 := by
  refine ACall_intro g407 rfl ?_
  unfold fn407
  rw [awp_seq, awp_reg]
  generalize hK : seqQ Gam _ _ 0 = K
  simp (disch := omega)
  subst hK
  simp only [seqQ_zero]
  rw [awp_seq]
  generalize hK : seqQ Gam _ _ = K
  have bad : (inR a 2 12 && inR b 0 200) = false → ∀ σ, σ 4 = sl 0 0 0 0 → σ 5 = I 2 → K 1 σ h := by
    intro e σ q4 q5
    subst hK
    simp (disch := omega) [q4, q5]
    unfold plAns
    rw [e]
    exact ⟨Grows.refl _, _, ⟨rfl, rfl⟩, nil_vr⟩
  simp (disch := omega)
  refine callW_of (c432 _ _ _ _) ?_
  rintro _ h1 ⟨rfl, rfl⟩
  try refine ⟨fun e => (by cases e), ?_⟩
  cases e1 : inR a 2 12
  · simp (disch := omega)
    exact bad (by rw [e1]; rfl) _ (by simp) (by simp)
  simp (disch := omega)
  refine callW_of (c432 _ _ _ _) ?_
  rintro _ h1 ⟨rfl, rfl⟩
  try refine ⟨fun e => (by cases e), ?_⟩
  cases e2 : inR b 0 200
  · simp (disch := omega)
    exact bad (by rw [e1, e2]; rfl) _ (by simp) (by simp)
  clear bad
  have i1 := inR_iff.1 e1
  have i2 := inR_iff.1 e2
  obtain ⟨n, rfl⟩ := Int.eq_ofNat_of_zero_le (show 0 ≤ a by omega)
  obtain ⟨m, rfl⟩ := Int.eq_ofNat_of_zero_le (show 0 ≤ b by omega)
  have e0 : plAns n m = if 200 < (plAll n m).length then ([], 5) else (plAll n m, 0) := by unfold plAns; rw [e1, e2]; simp
  rw [e0] at hK
  simp (disch := omega)
  subst hK
  simp only [seqQ_zero]
  rw [awp_seq, awp_reg]
  generalize hK : seqQ Gam _ _ 0 = K
  simp (disch := omega)
  subst hK
  simp only [seqQ_zero]
  rw [awp_seq]
  generalize hK : seqQ Gam _ _ = K
  simp (disch := omega)
  refine awp_loop (fun r σ h' => r ≤ m ∧ Grows h1 h' ∧ σ 0 = I n ∧ σ 1 = I m ∧ σ 7 = I r ∧ Buf h1 h' (σ 6) 1 (ints (plAll n r))) (fun r => m - r) 0 ?_ ?_
  · exact ⟨by omega, Grows.refl _, by simp, by simp, by simp, by simpa [plAll, ints] using Buf.nil⟩
  · rintro r σ h' ⟨hr, hg, p0, p1, p7, bf⟩
    simp (disch := omega) [p1, p7]
    refine fork_dec (fun hlt => ?_) (fun hge => ?_)
    · have r1 : r < m := by omega
      have t3 : (r : Int).tmod 2 = ((r % 2 : Nat) : Int) := rfl
      have ln := plAll_len (n := n) (by omega) r
      simp (disch := omega) [p7, wrap64, t3]
      generalize hK2 : seqQ Gam _ _ = K2
      refine awp_loop (fun j σ h' => j ≤ plCnt n r ∧ Grows h1 h' ∧ σ 0 = I n ∧ σ 1 = I m ∧ σ 7 = I r ∧ σ 8 = I ((1 + r % 2 + 2 * j : Nat) : Int) ∧ Buf h1 h' (σ 6) 1 (ints (plAll n r ++ plRow r j))) (fun j => plCnt n r - j) 0 ?_ ?_
      · refine ⟨by omega, hg, by simp [p0], by simp [p1], by simp [p7], by simp, by simpa [plRow] using bf⟩
      · rintro j σ' h5 ⟨hj, hg5, q0, q1, q7, q8, bf5⟩
        simp (disch := omega) [q0, q8]
        have lr : (plRow r j).length = j := by simp [plRow]
        have cnt : plCnt n r = (n - r % 2) / 2 := rfl
        refine fork_dec (fun hlt2 => ?_) (fun hge2 => ?_)
        · simp (disch := omega) [q7, q8, wrap64, t3]
          refine fork_dec (fun he => ?_) (fun he => ?_)
          · simp (disch := omega) [q7, q8]
            refine append_int (h := h1) hp (by rw [List.length_append]; omega) hg5 bf5 fun v' h'' g1 b1 _ => ?_
            simp (disch := omega) [q0, q1, q7, q8, wrap64]
            refine ⟨j + 1, ⟨by omega, g1, by omega, ?_⟩, by omega⟩
            rw [plRow_succ, ← List.append_assoc]
            have : plEl r j = (((1 + r % 2 + 2 * j : Nat)) : Int) := by unfold plEl; rw [if_pos (by omega)]
            rw [this]
            simpa using b1
          · simp (disch := omega) [q7, q8, wrap64]
            refine append_int (h := h1) hp (by rw [List.length_append]; omega) hg5 bf5 fun v' h'' g1 b1 _ => ?_
            simp (disch := omega) [q0, q1, q7, q8, wrap64]
            refine ⟨j + 1, ⟨by omega, g1, by omega, ?_⟩, by omega⟩
            rw [plRow_succ, ← List.append_assoc]
            have : plEl r j = -(((1 + r % 2 + 2 * j : Nat)) : Int) := by unfold plEl; rw [if_neg (by omega)]
            rw [this]
            simpa using b1
        · have : j = plCnt n r := by omega
          subst this
          simp (disch := omega)
          subst hK2
          simp (disch := omega) [q0, q1, q7, wrap64]
          refine ⟨r + 1, ⟨by omega, hg5, by omega, ?_⟩, by omega⟩
          rw [plAll_succ]; exact bf5
    · have : r = m := by omega
      subst this
      have ln := plAll_len (n := n) (by omega) r
      obtain ⟨c, w, e6, ew⟩ : ∃ c w, σ 6 = sl c 0 w 1 ∧ w = (plAll n r).length := by
        rcases bf with ⟨x1, x2⟩ | ⟨c, w, x, x1, _⟩
        · exact ⟨0, 0, x2, by have := congrArg List.length x1; simpa [ints] using this.symm⟩
        · exact ⟨c, w, x, by simpa [ints] using x1⟩
      have vv := bf.vr (l := plAll n r) (by omega) (plAll_64 (by omega) r)
      simp (disch := omega)
      subst hK
      simp (disch := omega) [e6]
      refine fork_dec (fun hlt2 => ?_) (fun hge2 => ?_)
      · simp (disch := omega)
        rw [if_pos (by omega)]
        exact ⟨hg, _, ⟨rfl, rfl⟩, nil_vr⟩
      · simp (disch := omega) [e6]
        rw [if_neg (by omega)]
        rw [e6] at vv
        exact ⟨hg, _, ⟨rfl, rfl⟩, vv⟩
end Am
/-! AmR12 -/
set_option linter.unusedVariables false
set_option linter.unusedSimpArgs false
set_option maxHeartbeats 4000000
set_option maxRecDepth 4000
namespace Am
open Go

theorem c115 (h : Heap) (hp : 0 < h.length) (a b : Int) (ha : I64 a) (hb : I64 b) : ACall Gam 115 [I a, I b] h fun r h' => Grows h h' ∧ ∃ r0, r = .tuple #[r0, I (plAns a b).2] ∧ Vr h' shInts r0 (plAns a b).1 := by
  refine ACall_intro g115 rfl ?_
  unfold fn115
  rw [awp_seq, awp_reg]
  generalize hK : seqQ Gam _ _ 0 = K
  simp (disch := omega)
  subst hK
  simp only [seqQ_zero]
  rw [awp_seq]
  generalize hK : seqQ Gam _ _ = K
  have bad : (inR a 2 12 && inR b 0 200) = false → ∀ σ, σ 4 = sl 0 0 0 0 → σ 5 = I 2 → K 1 σ h := by
    intro e σ q4 q5
    subst hK
    simp (disch := omega) [q4, q5]
    unfold plAns
    rw [e]
    exact ⟨Grows.refl _, _, ⟨rfl, rfl⟩, nil_vr⟩
  simp (disch := omega)
  refine callW_of (c164 _ _ _ _) ?_
  rintro _ h1 ⟨rfl, rfl⟩
  try refine ⟨fun e => (by cases e), ?_⟩
  cases e1 : inR a 2 12
  · simp (disch := omega)
    exact bad (by rw [e1]; rfl) _ (by simp) (by simp)
  simp (disch := omega)
  refine callW_of (c164 _ _ _ _) ?_
  rintro _ h1 ⟨rfl, rfl⟩
  try refine ⟨fun e => (by cases e), ?_⟩
  cases e2 : inR b 0 200
  · simp (disch := omega)
    exact bad (by rw [e1, e2]; rfl) _ (by simp) (by simp)
  clear bad
  have i1 := inR_iff.1 e1
  have i2 := inR_iff.1 e2
  obtain ⟨n, rfl⟩ := Int.eq_ofNat_of_zero_le (show 0 ≤ a by omega)
  obtain ⟨m, rfl⟩ := Int.eq_ofNat_of_zero_le (show 0 ≤ b by omega)
  have e0 : plAns n m = if 200 < (plAll n m).length then ([], 5) else (plAll n m, 0) := by unfold plAns; rw [e1, e2]; simp
  rw [e0] at hK
  simp (disch := omega)
  subst hK
  simp only [seqQ_zero]
  rw [awp_seq, awp_reg]
  generalize hK : seqQ Gam _ _ 0 = K
  simp (disch := omega)
  subst hK
  simp only [seqQ_zero]
  rw [awp_seq]
  generalize hK : seqQ Gam _ _ = K
  simp (disch := omega)
  refine awp_loop (fun r σ h' => r ≤ m ∧ Grows h1 h' ∧ σ 0 = I n ∧ σ 18 = I m ∧ σ 19 = I r ∧ Buf h1 h' (σ 6) 1 (ints (plAll n r))) (fun r => m - r) 0 ?_ ?_
  · exact ⟨by omega, Grows.refl _, by simp, by simp, by simp, by simpa [plAll, ints] using Buf.nil⟩
  · rintro r σ h' ⟨hr, hg, p0, p18, p19, bf⟩
    simp (disch := omega) [p18, p19]
    refine fork_dec (fun hlt => ?_) (fun hge => ?_)
    · have r1 : r < m := by omega
      have t3 : (r : Int).tmod 2 = ((r % 2 : Nat) : Int) := rfl
      have ln := plAll_len (n := n) (by omega) r
      simp (disch := omega) [p19, wrap64, t3]
      generalize hK2 : seqQ Gam _ _ = K2
      refine awp_loop (fun j σ h' => j ≤ plCnt n r ∧ Grows h1 h' ∧ σ 0 = I n ∧ σ 18 = I m ∧ σ 19 = I r ∧ σ 7 = I r ∧ σ 8 = I ((1 + r % 2 + 2 * j : Nat) : Int) ∧ Buf h1 h' (σ 6) 1 (ints (plAll n r ++ plRow r j))) (fun j => plCnt n r - j) 0 ?_ ?_
      · refine ⟨by omega, hg, by simp [p0], by simp [p18], by simp [p19], by simp, by simp, by simpa [plRow] using bf⟩
      · rintro j σ' h5 ⟨hj, hg5, q0, q18, q19, q7, q8, bf5⟩
        simp (disch := omega) [q0, q8]
        have lr : (plRow r j).length = j := by simp [plRow]
        have cnt : plCnt n r = (n - r % 2) / 2 := rfl
        refine fork_dec (fun hlt2 => ?_) (fun hge2 => ?_)
        · simp (disch := omega) [q7, q8, wrap64, t3]
          refine fork_dec (fun he => ?_) (fun he => ?_)
          · simp (disch := omega) [q7, q8]
            refine append_int (h := h1) hp (by rw [List.length_append]; omega) hg5 bf5 fun v' h'' g1 b1 _ => ?_
            simp (disch := omega) [q0, q18, q19, q7, q8, wrap64]
            refine ⟨j + 1, ⟨by omega, g1, by omega, ?_⟩, by omega⟩
            rw [plRow_succ, ← List.append_assoc]
            have : plEl r j = (((1 + r % 2 + 2 * j : Nat)) : Int) := by unfold plEl; rw [if_pos (by omega)]
            rw [this]
            simpa using b1
          · simp (disch := omega) [q7, q8, wrap64]
            refine append_int (h := h1) hp (by rw [List.length_append]; omega) hg5 bf5 fun v' h'' g1 b1 _ => ?_
            simp (disch := omega) [q0, q18, q19, q7, q8, wrap64]
            refine ⟨j + 1, ⟨by omega, g1, by omega, ?_⟩, by omega⟩
            rw [plRow_succ, ← List.append_assoc]
            have : plEl r j = -(((1 + r % 2 + 2 * j : Nat)) : Int) := by unfold plEl; rw [if_neg (by omega)]
            rw [this]
            simpa using b1
        · have : j = plCnt n r := by omega
          subst this
          simp (disch := omega)
          subst hK2
          simp (disch := omega) [q0, q18, q19, q7, wrap64]
          refine ⟨r + 1, ⟨by omega, hg5, by omega, ?_⟩, by omega⟩
          rw [plAll_succ]; exact bf5
    · have : r = m := by omega
      subst this
      have ln := plAll_len (n := n) (by omega) r
      obtain ⟨c, w, e6, ew⟩ : ∃ c w, σ 6 = sl c 0 w 1 ∧ w = (plAll n r).length := by
        rcases bf with ⟨x1, x2⟩ | ⟨c, w, x, x1, _⟩
        · exact ⟨0, 0, x2, by have := congrArg List.length x1; simpa [ints] using this.symm⟩
        · exact ⟨c, w, x, by simpa [ints] using x1⟩
      have vv := bf.vr (l := plAll n r) (by omega) (plAll_64 (by omega) r)
      simp (disch := omega)
      subst hK
      simp (disch := omega) [e6]
      refine fork_dec (fun hlt2 => ?_) (fun hge2 => ?_)
      · simp (disch := omega)
        rw [if_pos (by omega)]
        exact ⟨hg, _, ⟨rfl, rfl⟩, nil_vr⟩
      · simp (disch := omega) [e6]
        rw [if_neg (by omega)]
        rw [e6] at vv
        exact ⟨hg, _, ⟨rfl, rfl⟩, vv⟩

/-! ### words as texts -/
def wordTx (X : List Int) : List UInt8 := if okW 12 X then joinS [32] (X.map decS) else []
theorem join_len : ∀ (X : List Int), (∀ x ∈ X, I64 x) → ∀ k, k ≤ X.length → (joinS [32] ((X.take k).map decS)).length ≤ 21 * k
  | X, hx, 0, _ => by simp [joinS]
  | X, hx, k + 1, h => by
    have ih := join_len X hx k (by omega)
    rw [List.take_succ_eq_append_getElem (by omega), List.map_append, List.map_cons, List.map_nil, joinS_snoc]
    have := (decS_len (hx _ (List.getElem_mem (show k < X.length by omega)))).2
    split
    · omega
    · simp only [List.length_append, List.length_singleton]; omega
theorem c156 (h : Heap) (hp : 0 < h.length) (v : Value) (X : List Int) (hv : Vr h shInts v X) (hs : X.length ≤ 1000) : ACall Gam 156 [v, S [32]] h fun r h' => Grows h h' ∧ r = S (joinS [32] (X.map decS)) := by
  obtain ⟨bb, o, zz, rfl, hzz, hm, hx, hc⟩ := hv.ints
  refine ACall_intro g156 rfl ?_
  unfold fn156
  rw [awp_seq, awp_reg]
  generalize hK : seqQ Gam _ _ 0 = K
  simp (disch := omega)
  subst hK
  simp only [seqQ_zero]
  rw [awp_seq, awp_reg]
  generalize hK : seqQ Gam _ _ 0 = K
  simp (disch := omega)
  subst hK
  simp only [seqQ_zero]
  simp (disch := omega)
  refine awp_loop (fun k σ h' => k ≤ X.length ∧ Grows h h' ∧ Buf h h' (σ 5) 1 (texts ((X.take k).map decS)) ∧ σ 1 = S [32] ∧ σ 9 = sl bb o X.length zz ∧ σ 10 = I X.length ∧ σ 11 = I k) (fun k => X.length - k) 0 ?_ ?_
  · exact ⟨by omega, Grows.refl _, by simpa [texts] using Buf.nil, by simp, by simp, by simp, by simp⟩
  · rintro k σ h' ⟨hk, hg, p5, p1, p9, p10, p11⟩
    simp (disch := omega) [p10, p11]
    refine fork_dec (fun hlt => ?_) (fun hge => ?_)
    · have k1 : k < X.length := by omega
      have hx1 := hx _ (List.getElem_mem k1)
      have q1 := ints_cell (hc.imp id (grows_cellsAt hg)) k1
      simp (disch := omega) [p9, p11, k1, q1]
      refine callW_of (c75 _ hx1 _ (pos_of hp hg)) ?_
      rintro _ h2 ⟨rfl, g2⟩
      have hg2 := hg.trans g2
      try refine ⟨fun e => (by first | exact g2 | cases e), ?_⟩
      try simp (disch := omega)
      refine append_word hp (by simp; omega) hg2 (p5.grow g2) fun v3 h3 g3 b3 => ?_
      try simp (disch := omega) [p1, p9, p10, p11, wrap64]
      refine ⟨k + 1, ⟨by omega, g3, ?_, by omega⟩, by omega⟩
      rw [← List.map_take, List.take_succ_eq_append_getElem k1, List.map_append]
      exact b3
    · have : k = X.length := by omega
      subst this
      rw [List.take_length] at p5
      have hdl := join_len X hx X.length (Nat.le_refl _)
      rw [List.take_length] at hdl
      try simp (disch := omega) [p1, p9]
      refine callW_of (c167 _ _ [32] _ p5.reads (by omega) (by simp; omega)) ?_
      rintro _ h2 ⟨rfl, rfl⟩
      try refine ⟨fun e => (by cases e), ?_⟩
      simp (disch := omega) [hg]
theorem c143 (h : Heap) (hp : 0 < h.length) (v : Value) (X : List Int) (hv : Vr h shInts v X) (hs : X.length ≤ 1048576) : ACall Gam 143 [v] h fun r h' => Grows h h' ∧ r = S (wordTx X) := by
  have hv' := hv
  obtain ⟨bb, o, zz, rfl, hzz, hm, hx, hc⟩ := hv.ints
  refine ACall_intro g143 rfl ?_
  unfold fn143
  simp (disch := omega)
  refine callW_of (c142 h 12 _ X hv' hs) ?_
  rintro _ h1 ⟨rfl, rfl⟩
  try refine ⟨fun e => (by cases e), ?_⟩
  unfold wordTx
  cases ok : okW 12 X
  · simp (disch := omega)
    exact Grows.refl _
  have hl : X.length ≤ 200 := by
    obtain ⟨n, _, od⟩ := okW_iff ok
    exact od.hl
  simp (disch := omega)
  refine callW_of (c156 h1 hp _ X hv' (by omega)) ?_
  rintro _ h2 ⟨g2, rfl⟩
  try refine ⟨fun e => (by first | exact g2 | cases e), ?_⟩
  simp (disch := omega)
  exact g2
def jx (X : List Int) (k : Nat) : List UInt8 := joinS [32] ((X.take k).map decS)
theorem c429 (h : Heap) (hp : 0 < h.length) (v : Value) (X : List Int) (hv : Vr h shInts v X) (hs : X.length ≤ 1048576) : ACall Gam 429 [v] h fun r h' => Grows h h' ∧ r = S (wordTx X) := by
  have hv' := hv
  obtain ⟨bb, o, zz, rfl, hzz, hm, hx, hc⟩ := hv.ints
  refine ACall_intro g429 rfl ?_
  unfold fn429
  rw [awp_seq, awp_reg]
  generalize hK : seqQ Gam _ _ 0 = K
  simp (disch := omega)
  subst hK
  simp only [seqQ_zero]
  rw [awp_seq]
  generalize hK : seqQ Gam _ _ = K
  simp (disch := omega)
  refine callW_of (c531 h 12 _ X hv' hs) ?_
  rintro _ h1 ⟨rfl, rfl⟩
  try refine ⟨fun e => (by cases e), ?_⟩
  unfold wordTx at *
  cases ok : okW 12 X
  · simp (disch := omega)
    subst hK
    simp (disch := omega) [ok]
    exact Grows.refl _
  have hl : X.length ≤ 200 := by
    obtain ⟨n, _, od⟩ := okW_iff ok
    exact od.hl
  simp (disch := omega)
  subst hK
  simp only [seqQ_zero]
  rw [awp_seq, awp_reg]
  generalize hK : seqQ Gam _ _ 0 = K
  simp (disch := omega)
  subst hK
  simp only [seqQ_zero]
  rw [awp_seq]
  generalize hK : seqQ Gam _ _ = K
  simp (disch := omega)
  refine awp_loop (fun k σ h' => k ≤ X.length ∧ Grows h1 h' ∧ Buf h1 h' (σ 3) 1 (bytesV (jx X k)) ∧ σ 0 = sl bb o X.length zz ∧ σ 4 = I k) (fun k => X.length - k) 0 ?_ ?_
  · exact ⟨by omega, Grows.refl _, by simpa [jx, joinS, bytesV] using Buf.nil, by simp, by simp⟩
  · rintro k σ h' ⟨hk, hg, p3, p0, p4⟩
    simp (disch := omega) [p0, p4]
    refine fork_dec (fun hlt => ?_) (fun hge => ?_)
    · have k1 : k < X.length := by omega
      have hx1 := hx _ (List.getElem_mem k1)
      have jl : (jx X k).length ≤ 21 * k := join_len X hx k (by omega)
      have dl := decS_len hx1
      have js : jx X (k + 1) = (if k = 0 then jx X k else jx X k ++ [32]) ++ decS X[k] := by
        unfold jx
        rw [List.take_succ_eq_append_getElem (by omega), List.map_append, List.map_cons, List.map_nil, joinS_snoc]
        by_cases e : k = 0
        · subst e; simp [joinS]
        · rw [if_neg e, if_neg (by simp [e]; intro e2; subst e2; simp at k1)]
      simp (disch := omega) [p4]
      generalize hT : seqQ Gam (reg _) _ = T
      have tail : ∀ (σ' : Nat → Value) (h5 : Heap) (l : List UInt8), Grows h1 h5 → σ' 0 = sl bb o X.length zz → σ' 4 = I k → Buf h1 h5 (σ' 3) 1 (bytesV l) → l.length ≤ 10000 → l ++ decS X[k] = jx X (k + 1) → T 0 σ' h5 := by
        intro σ' h5 l hg5 q0 q4 b5 hl5 el
        have q1 := ints_cell (hc.imp id (grows_cellsAt hg5)) k1
        subst hT
        simp (disch := omega) [q0, q4, k1, q1]
        refine callW_of (c437 _ hx1 _ (pos_of hp hg5)) ?_
        rintro _ h6 ⟨rfl, g6⟩
        have hg6 := hg5.trans g6
        try refine ⟨fun e => (by first | exact g6 | cases e), ?_⟩
        try simp (disch := omega)
        refine append_text hp (by omega) hg6 (b5.grow g6) (by intro e; rw [e] at dl; simp at dl) fun v7 h7 g7 b7 => ?_
        try simp (disch := omega) [q0, q4, wrap64]
        refine ⟨k + 1, ⟨by omega, g7, ?_, by omega⟩, by omega⟩
        rw [← el]
        exact b7
      refine fork_dec (fun hpos => ?_) (fun hnp => ?_)
      · simp (disch := omega)
        refine append_bytes (xs := [32]) (n := 1) hp (by simp; omega) hg p3 (by simp) rfl (by simp [aBuildSlice, bytesV]) fun v7 h7 g7 b7 => ?_
        try simp (disch := omega)
        refine tail _ h7 _ g7 (by simp [p0]) (by simp [p4]) (by simpa using b7) (by simp; omega) ?_
        rw [js, if_neg (by omega)]
      · simp (disch := omega)
        refine tail _ h' _ hg (by simp [p0]) (by simp [p4]) (by simpa using p3) (by omega) ?_
        rw [js, if_pos (by omega)]
    · have : k = X.length := by omega
      subst this
      unfold jx at p3
      rw [List.take_length] at p3
      simp (disch := omega)
      subst hK
      simp (disch := omega) [text_buf p3, ok]
      exact hg
end Am
/-! AmR13 -/
set_option linter.unusedVariables false
set_option linter.unusedSimpArgs false
set_option maxHeartbeats 4000000
set_option maxRecDepth 4000
namespace Am
open Go

def bch (i : Nat) : UInt8 := if i % 2 = 0 then 124 else 32
def bl (k : Nat) : List UInt8 := (List.range k).map bch
theorem bl_len (k : Nat) : (bl k).length = k := by simp [bl]
theorem bl_succ (k : Nat) : bl (k + 1) = bl k ++ [bch k] := by simp [bl, List.range_succ]
theorem bl_take (k n : Nat) (h : n ≤ k) : (bl k).take n = bl n := by
  unfold bl
  rw [← List.map_take, List.take_range]
  rw [Nat.min_eq_left h]
def sgn (m : Int) : UInt8 := if m < 0 then 45 else 43
def lineW (n : Nat) (m : Int) : List UInt8 := (((bl (2 * n - 1)).set (2 * m.natAbs - 2) 92).set (2 * m.natAbs) 47).set (2 * m.natAbs - 1) (sgn m)
def picAns (a : Int) (X : List Int) : List (List UInt8) × Int := if okW a X then (X.map (lineW a.toNat), 0) else ([], 1)
theorem store_bt {h : Heap} {b k : Nat} {l : List UInt8} {c : UInt8} {x : Int} (hx : x = c.toNat) (hb : h[b]? = some ⟨bytesV l, true⟩) (hk : k < l.length) : storeAt h b k [U x] = some (h.set b ⟨bytesV (l.set k c), true⟩) := by
  subst hx
  rw [store_one hb (by simpa [bytesV] using hk)]
  simp [bytesV, List.map_set]
theorem text_pre {h : Heap} {b n : Nat} {l : List UInt8} (hb : h[b]? = some ⟨bytesV l, true⟩) (hn : n ≤ l.length) : aConv 21 (sl b 0 n 1) h = some (S (l.take n), h) := by
  simp only [aConv]
  by_cases h0 : n = 0
  · subst h0; simp
  · have hc := cellsAt_of (o := 0) (n := n) hb (by simpa [bytesV] using hn)
    have e : (List.drop 0 (bytesV l)).take n = bytesV (l.take n) := by simp [bytesV, List.map_take]
    rw [e] at hc
    simp [h0, hc, asInts_bytes]
/-- Texts that can be read. -/
def TxV (h : Heap) (v : Value) (L : List (List UInt8)) : Prop := ∃ b o z, v = sl b o L.length z ∧ L.length ≤ 1048576 ∧ ∀ k (hk : k < L.length), cell h b (o + k) = some (S L[k])
theorem TxV.grow {h h' : Heap} {v : Value} {L : List (List UInt8)} (x : TxV h v L) (g : Grows h h') : TxV h' v L := by
  obtain ⟨b, o, z, e, hl, hc⟩ := x
  exact ⟨b, o, z, e, hl, fun k hk => cell_grow g (hc k hk)⟩
theorem TxV.nil {h : Heap} {b z : Nat} : TxV h (sl b 0 0 z) [] := ⟨b, 0, z, rfl, by simp, by simp⟩
theorem Buf.txv {h0 h : Heap} {v : Value} {L : List (List UInt8)} (b : Buf h0 h v 1 (texts L)) (hl : L.length ≤ 1048576) : TxV h v L := by
  rcases b with ⟨e1, e2⟩ | ⟨c, n, e, h1, h2, h3⟩
  · have : L = [] := by simpa [texts] using e1
    subst this
    rw [e2]; exact TxV.nil
  · have : n = L.length := by simpa [texts] using h1
    subst this
    exact ⟨c, 0, 1, e, hl, fun k hk => by rw [Nat.zero_add]; exact cell_of h3 (by simp [texts, hk])⟩
theorem c274 (h : Heap) (v w : Value) (X Y : List (List UInt8)) (hv : TxV h v X) (hw : TxV h w Y) : ACall Gam 274 [v, w] h fun r h' => r = B (decide (X = Y)) ∧ h' = h := by
  obtain ⟨b1, o1, z1, rfl, hm1, hc1⟩ := hv
  obtain ⟨b2, o2, z2, rfl, hm2, hc2⟩ := hw
  refine ACall_intro g274 rfl ?_
  unfold fn274
  simp (disch := omega)
  refine fork_dec (fun heq => ?_) (fun hne => ?_)
  · simp (disch := omega)
    refine awp_loop (fun k σ h' => h' = h ∧ k ≤ X.length ∧ X.take k = Y.take k ∧ σ 0 = sl b1 o1 X.length z1 ∧ σ 1 = sl b2 o2 Y.length z2 ∧ σ 5 = I k) (fun k => X.length - k) 0 ?_ ?_
    · simp
    · rintro k σ h' ⟨rfl, hk, ht, h0, h1, h5⟩
      simp (disch := omega) [h0, h1, h5]
      refine fork_dec (fun hlt => ?_) (fun hge => ?_)
      · have k1 : k < X.length := by omega
        have k2 : k < Y.length := by omega
        simp (disch := omega) [h0, h1, h5, hc1 k k1, hc2 k k2, k1, k2]
        refine fork_dec (fun he => ?_) (fun he => ?_)
        · simp (disch := omega) [h0, h1, h5]
          refine ⟨k + 1, ⟨by omega, ?_, ?_⟩, by omega⟩
          · rw [List.take_succ_eq_append_getElem k1, List.take_succ_eq_append_getElem k2, ht, he]
          · rw [wrap64 (by omega) (by omega)]; simp
        · simp (disch := omega) [h0, h1, h5]
          intro e
          apply he
          have : X[k]? = Y[k]? := by rw [e]
          rw [List.getElem?_eq_getElem k1, List.getElem?_eq_getElem k2] at this
          simpa using this
      · simp (disch := omega) [h0, h1, h5]
        have q1 : k = X.length := by omega
        have q2 : X.length = Y.length := by omega
        subst q1
        rw [List.take_length, q2, List.take_length] at ht
        exact ht
  · simp (disch := omega)
    intro e; apply hne; rw [e]
theorem sgn_neg {m : Int} (h : m < 0) : sgn m = 45 := by unfold sgn; rw [if_pos h]
theorem sgn_pos {m : Int} (h : ¬ m < 0) : sgn m = 43 := by unfold sgn; rw [if_neg h]
theorem bytes_buf {h0 h : Heap} {v : Value} {l : List UInt8} (b : Buf h0 h v 1 (bytesV l)) (hl : 0 < l.length) : ∃ c, v = sl c 0 l.length 1 ∧ h0.length ≤ c ∧ h[c]? = some ⟨bytesV l, true⟩ := by
  rcases b with ⟨e1, e2⟩ | ⟨c, n, e, h1, h2, h3⟩
  · exfalso
    have : l = [] := by simpa [bytesV] using e1
    subst this; simp at hl
  · have : n = l.length := by simpa [bytesV] using h1
    subst this
    exact ⟨c, e, h2, h3⟩
theorem slice_sl {h : Heap} {b n m : Nat} (hm : m ≤ n) : aSlice 3 h (sl b 0 n 1) none (some (.int .i64 m)) none = some (sl b 0 m 1, h) := by
  have : bound n (some (.int .i64 (m : Int))) = some m := by simp [bound]
  simp [aSlice, sl, bound, hm]
theorem c408 (h : Heap) (hp : 0 < h.length) (a : Int) (v : Value) (X : List Int) (hv : Vr h shInts v X) (hs : X.length ≤ 1048576) : ACall Gam 408 [I a, v] h fun r h' => Grows h h' ∧ ∃ r0, r = .tuple #[r0, I (picAns a X).2] ∧ TxV h' r0 (picAns a X).1 := by
  obtain ⟨bb, o, zz, rfl, hzz, hm, hx, hc⟩ := hv.ints
  refine ACall_intro g408 rfl ?_
  unfold fn408
  rw [awp_seq, awp_reg]
  generalize hK : seqQ Gam _ _ 0 = K
  simp (disch := omega)
  subst hK
  simp only [seqQ_zero]
  rw [awp_seq]
  generalize hK : seqQ Gam _ _ = K
  simp (disch := omega)
  refine callW_of (c531 h a _ X hv hs) ?_
  rintro _ h1 ⟨rfl, rfl⟩
  try refine ⟨fun e => (by cases e), ?_⟩
  cases ok : okW a X
  · simp (disch := omega)
    subst hK
    simp (disch := omega)
    unfold picAns
    rw [ok]
    exact ⟨Grows.refl _, _, ⟨rfl, rfl⟩, TxV.nil⟩
  obtain ⟨n, rfl, od⟩ := okW_iff ok
  have hn := od.hn
  have hl := od.hl
  have e0 : picAns n X = (X.map (lineW n), 0) := by unfold picAns; rw [ok]; simp
  rw [e0] at hK
  simp (disch := omega)
  subst hK
  simp only [seqQ_zero]
  rw [awp_seq, awp_reg]
  generalize hK : seqQ Gam _ _ 0 = K
  simp (disch := omega)
  subst hK
  simp only [seqQ_zero]
  rw [awp_seq]
  generalize hK : seqQ Gam _ _ = K
  simp (disch := omega)
  obtain ⟨Y, hY⟩ : ∃ Y : Nat → List (List UInt8), Y = fun k => (X.take k).map (lineW n) := ⟨_, rfl⟩
  have Yl : ∀ k, k ≤ X.length → (Y k).length = k := by intro k hk; rw [hY]; simp; omega
  refine awp_loop (fun k σ h' => k ≤ X.length ∧ Grows h1 h' ∧ σ 0 = I n ∧ σ 1 = sl bb o X.length zz ∧ σ 7 = I k ∧ Buf h1 h' (σ 6) 1 (texts (Y k))) (fun k => X.length - k) 0 ?_ ?_
  · exact ⟨by omega, Grows.refl _, by simp, by simp, by simp, by rw [hY]; simpa [texts] using Buf.nil⟩
  · rintro k σ h' ⟨hk, hg, p0, p1, p7, p6⟩
    simp (disch := omega) [p1, p7]
    refine fork_dec (fun hlt => ?_) (fun hge => ?_)
    · have k1 : k < X.length := by omega
      have hm := od.hm X[k] (List.getElem_mem k1)
      have Ys : Y (k + 1) = Y k ++ [lineW n X[k]] := by rw [hY]; simp only []; rw [List.take_succ_eq_append_getElem k1, List.map_append]; rfl
      have q1 := ints_cell (hc.imp id (grows_cellsAt hg)) k1
      obtain ⟨m, em⟩ : ∃ m, m = X[k] := ⟨_, rfl⟩
      rw [← em] at q1 hm Ys
      have hp' := pos_of hp hg
      simp (disch := omega)
      generalize hK2 : seqQ Gam _ _ = K2
      obtain ⟨v6, e6⟩ : ∃ v6, v6 = σ 6 := ⟨_, rfl⟩
      rw [← e6] at p6
      refine awp_loop (fun j σ h5 => j ≤ n ∧ Grows h' h5 ∧ σ 0 = I n ∧ σ 1 = sl bb o X.length zz ∧ σ 7 = I k ∧ σ 9 = I j ∧ Buf h' h5 (σ 8) 1 (bytesV (bl (2 * j))) ∧ σ 6 = v6) (fun j => n - j) 0 ?_ ?_
      · exact ⟨by omega, Grows.refl _, by simp [p0], by simp [p1], by simp [p7], by simp, by simpa [bl, bytesV] using Buf.nil, by simp [e6]⟩
      · rintro j σ' h5 ⟨hj, hg5, q0, qq1, q7, q9, b8, b6⟩
        simp (disch := omega) [q0, q9]
        refine fork_dec (fun hlt2 => ?_) (fun hge2 => ?_)
        · simp (disch := omega)
          refine append_bytes (xs := [124, 32]) (n := 1 * 2) hp' (by rw [bl_len]; simp; omega) hg5 b8 (by simp) rfl (by simp [aBuildSlice, bytesV]) fun v7 h7 g7 b7 => ?_
          simp (disch := omega) [q0, qq1, q7, q9, b6, wrap64]
          refine ⟨j + 1, ⟨by omega, g7, by omega, ?_⟩, by omega⟩
          have : bl (2 * (j + 1)) = bl (2 * j) ++ [124, 32] := by
            rw [show 2 * (j + 1) = 2 * j + 1 + 1 by omega, bl_succ, bl_succ]
            have e1 : bch (2 * j) = 124 := by unfold bch; rw [if_pos (by omega)]
            have e2 : bch (2 * j + 1) = 32 := by unfold bch; rw [if_neg (by omega)]
            rw [e1, e2]; simp
          rw [this]; exact b7
        · have : j = n := by omega
          subst this
          simp (disch := omega)
          subst hK2
          simp only [seqQ_zero]
          obtain ⟨c, e8, c1, c2⟩ := bytes_buf b8 (by rw [bl_len]; omega)
          rw [bl_len] at e8
          obtain ⟨i, hi⟩ : ∃ i, i + 1 = m.natAbs := ⟨m.natAbs - 1, by omega⟩
          obtain ⟨A, hA⟩ : ∃ A, A = 2 * i := ⟨_, rfl⟩
          obtain ⟨A1, hA1⟩ : ∃ A1, A1 = A + 1 := ⟨_, rfl⟩
          obtain ⟨A2, hA2⟩ : ∃ A2, A2 = A + 2 := ⟨_, rfl⟩
          have ec : 2 * ((m.natAbs : Nat) : Int) = (A2 : Int) := by omega
          have ed : (A2 : Int) - 2 = (A : Int) := by omega
          have ee : (A2 : Int) - 1 = (A1 : Int) := by omega
          obtain ⟨N, hN⟩ : ∃ N, N = 2 * j := ⟨_, rfl⟩
          obtain ⟨M, hM⟩ : ∃ M, M = N - 1 := ⟨_, rfl⟩
          have w1 : 2 * (j : Int) = (N : Int) := by omega
          rw [← hN] at e8
          have iA : A < N := by omega
          have iA1 : A1 < N := by omega
          have iA2 : A2 < N := by omega
          have jA : (A : Int) < (N : Int) := by omega
          have jA1 : (A1 : Int) < (N : Int) := by omega
          have jA2 : (A2 : Int) < (N : Int) := by omega
          have q5 := cell_grow hg5 q1
          rw [awp_seq, awp_reg]
          generalize hK3 : seqQ Gam _ _ 0 = K3
          simp (disch := omega) [qq1, q7, k1, q5]
          refine callW_of (c512 h5 m (by omega)) ?_
          rintro _ h6 ⟨rfl, rfl⟩
          try refine ⟨fun e => (by cases e), ?_⟩
          try simp (disch := omega)
          subst hK3
          simp only [seqQ_zero]
          have st1 := store_bt (c := 92) (x := 92) rfl c2 (k := A) (by rw [bl_len]; omega)
          obtain ⟨l1, el1⟩ : ∃ l1, l1 = (bl (2 * j)).set A 92 := ⟨_, rfl⟩
          obtain ⟨l2, el2⟩ : ∃ l2, l2 = l1.set A2 47 := ⟨_, rfl⟩
          obtain ⟨l3, el3⟩ : ∃ l3, l3 = l2.set A1 43 := ⟨_, rfl⟩
          have L1 : l1.length = 2 * j := by rw [el1, List.length_set, bl_len]
          have L2 : l2.length = 2 * j := by rw [el2, List.length_set, L1]
          have L3 : l3.length = 2 * j := by rw [el3, List.length_set, L2]
          obtain ⟨h7, e7⟩ : ∃ h7, h7 = h6.set c ⟨bytesV l1, true⟩ := ⟨_, rfl⟩
          obtain ⟨h8, eh8⟩ : ∃ h8, h8 = h7.set c ⟨bytesV l2, true⟩ := ⟨_, rfl⟩
          obtain ⟨h9, eh9⟩ : ∃ h9, h9 = h8.set c ⟨bytesV l3, true⟩ := ⟨_, rfl⟩
          have c7 : h7[c]? = some ⟨bytesV l1, true⟩ := by rw [e7]; exact blk_set c2
          have c8 : h8[c]? = some ⟨bytesV l2, true⟩ := by rw [eh8]; exact blk_set c7
          have c9 : h9[c]? = some ⟨bytesV l3, true⟩ := by rw [eh9]; exact blk_set c8
          have g7 : Grows h' h7 := by rw [e7]; exact hg5.put c1 _
          have g8 : Grows h' h8 := by rw [eh8]; exact g7.put c1 _
          have g9 : Grows h' h9 := by rw [eh9]; exact g8.put c1 _
          have st2 := store_bt (c := 47) (x := 47) rfl c7 (k := A2) (by omega)
          have st3 := store_bt (c := 43) (x := 43) rfl c8 (k := A1) (by omega)
          have st4 := store_bt (c := 45) (x := 45) rfl c9 (k := A1) (by omega)
          rw [← el1, ← e7] at st1
          rw [← el2, ← eh8] at st2
          rw [← el3, ← eh9] at st3
          have q9' := cell_grow g9 q1
          rw [awp_seq, awp_reg]
          generalize hK3 : seqQ Gam _ _ 0 = K3
          simp (disch := omega) [e8, wrap64, ec, ed, ee, iA, iA1, iA2, jA, jA1, jA2, st1]
          subst hK3
          simp only [seqQ_zero]
          rw [awp_seq, awp_reg]
          generalize hK3 : seqQ Gam _ _ 0 = K3
          simp (disch := omega) [e8, wrap64, ec, ed, ee, iA, iA1, iA2, jA, jA1, jA2, st2]
          subst hK3
          simp only [seqQ_zero]
          rw [awp_seq, awp_reg]
          generalize hK3 : seqQ Gam _ _ 0 = K3
          simp (disch := omega) [e8, wrap64, ec, ed, ee, iA, iA1, iA2, jA, jA1, jA2, st3]
          subst hK3
          simp only [seqQ_zero]
          rw [awp_seq]
          generalize hK3 : seqQ Gam _ _ = K3
          have tail : ∀ (σ'' : Nat → Value) (h10 : Heap) (l : List UInt8), Grows h' h10 → h10[c]? = some ⟨bytesV l, true⟩ → l.length = N → l.take M = lineW j m → σ'' 0 = I j → σ'' 1 = sl bb o X.length zz → σ'' 7 = I k → σ'' 6 = v6 → σ'' 8 = sl c 0 N 1 → K3 0 σ'' h10 := by
            intro σ'' h10 l g10 c10 ll lt r0 r1 r7 r6 r8
            subst hK3
            simp only [seqQ_zero]
            have tx := text_pre c10 (n := M) (by omega)
            rw [lt] at tx
            have w2 : (N : Int) - 1 = (M : Int) := by omega
            have w3 : M ≤ N := by omega
            have w4 : (M : Int) ≤ (N : Int) := by omega
            have b10 := p6.grow g10
            have hg10 := hg.trans g10
            have yl := Yl k (by omega)
            simp (disch := omega) [r0, r6, r7, r8, wrap64, w1, w2, w3, w4, tx, slice_sl]
            refine append_word hp (by omega) hg10 b10 fun v3 h3 g3 b3 => ?_
            try simp (disch := omega) [r0, r1, r7, wrap64]
            refine ⟨k + 1, ⟨by omega, g3, by omega, ?_⟩, by omega⟩
            rw [Ys]; exact b3
          have fin : ∀ s, s = sgn m → (l3.set A1 s).take M = lineW j m := by
            intro s hs
            rw [el3, List.set_set, el2, el1]
            unfold lineW
            rw [← hs, List.take_set, List.take_set, List.take_set, bl_take _ _ (by omega), hM, hN]
            rw [show 2 * m.natAbs - 2 = A by omega, show 2 * m.natAbs = A2 by omega, show A2 - 1 = A1 by omega]
          simp (disch := omega) [qq1, q7, k1, q9']
          refine fork_dec (fun hneg => ?_) (fun hpos => ?_)
          · simp (disch := omega) [e8, wrap64, ec, ed, ee, iA, iA1, iA2, jA, jA1, jA2, st4]
            refine tail _ _ (l3.set A1 45) (g9.put c1 _) (blk_set c9) (by rw [List.length_set]; omega) (fin 45 (sgn_neg hneg).symm) (by simp [q0]) (by simp [qq1]) (by simp [q7]) (by simp [b6]) (by simp [e8])
          · simp (disch := omega)
            have e3 : l3 = l3.set A1 43 := by rw [el3, List.set_set]
            refine tail _ h9 l3 g9 c9 (by omega) (by rw [e3]; exact fin 43 (sgn_pos hpos).symm) (by simp [q0]) (by simp [qq1]) (by simp [q7]) (by simp [b6]) (by simp [e8])
    · have : k = X.length := by omega
      subst this
      have e : Y X.length = X.map (lineW n) := by rw [hY]; simp
      rw [e] at p6
      have vv := p6.txv (by simp; omega)
      obtain ⟨c, w, e6⟩ := buf_apart p6
      rw [e6] at vv
      simp (disch := omega)
      subst hK
      simp (disch := omega) [e6]
      exact ⟨hg, vv⟩
end Am
