/- Contracts: AmG6, AmS7, AmS8, AmG7, AmS10, AmS11, AmS13, AmS14, AmG8. -/
import Derived.Test.YtaeaaogpdipjfaaAmK8
import Derived.Test.YtaeaaogpdipjfaaAmK6
import Derived.Test.YtaeaaogpdipjfaaAmK5
import Derived.Test.YtaeaaogpdipjfaaAmK2
import Derived.Test.YtaeaaogpdipjfaaAmK1
import Derived.Test.YtaeaaogpdipjfaaAmK4
import Derived.Test.YtaeaaogpdipjfaaAmK3
/-! AmG6 -/
set_option linter.unusedVariables false
set_option linter.unusedSimpArgs false
set_option maxHeartbeats 4000000
set_option maxRecDepth 4000
namespace Am
open Go

theorem samP_refl (X : Pan) : samP X X = true := by simp [samP]
end Am
/-! AmS7 -/
set_option linter.unusedVariables false
set_option linter.unusedSimpArgs false
set_option maxHeartbeats 4000000
set_option maxRecDepth 4000
namespace Am
open Go

theorem c443 (h : Heap) (b m : Nat) (hs : Src h b m) (hm : m ≤ 10000000) : ACall Gam 443 [pt b 0] h fun r h' => ∃ P : Pan, P.2.2.length ≤ 200 ∧ Mod b (b + 1) h h' ∧ Vo h' h.length h'.length shPanel r P ∧ Src h' b (m + 1100) := by
  have hb : b < h.length := by
    obtain ⟨_, _, _, _, _, _, e, _⟩ := hs
    exact at_lt e
  refine ACall_intro g443 rfl ?_
  unfold fn443
  rw [awp_seq, awp_reg]
  generalize hK : seqQ Gam _ _ 0 = K
  simp (disch := omega)
  subst hK
  simp only [seqQ_zero]
  rw [awp_seq, awp_reg]
  generalize hK : seqQ Gam _ _ 0 = K
  simp (disch := omega)
  refine callW_of (c445s h b m 5 hs (by omega) (by omega)) ?_
  rintro _ h1 ⟨⟨W, H, br⟩, bb, ok, w5, h5, md1, rfl, hbb, lb1, lb2, hs1⟩
  have okw : 1 ≤ W ∧ W ≤ 8 := ok.w
  have okh : 1 ≤ H ∧ H ≤ 8 := ok.h
  have okb : ∀ x ∈ br, 0 ≤ x ∧ x ≤ 2 := ok.b
  have w64 : I64 W := by unfold I64; omega
  have h64 : I64 H := by unfold I64; omega
  have hbb : h1[bb]? = some ⟨ints br, true⟩ := hbb
  have br64 : ∀ x ∈ br, I64 x := fun x hx => by have := okb x hx; unfold I64; omega
  have o1 : Vo h1 h.length h1.length shInts (sl bb 0 br.length 1) br := Vo.of_ints (.inl rfl) (by rw [maxLen_eq]; have := ok_len ok; omega) br64 (.inr ⟨hbb, lb1, lb2⟩)
  have hbl := ok_len ok
  have L1 := md1.1
  have bbb : b < bb := by omega
  simp (disch := omega)
  subst hK
  simp only [seqQ_zero]
  rw [awp_seq]
  generalize hK : seqQ Gam _ _ = K
  have tail : ∀ (σ : Nat → Value) (h3 : Heap) (W H : Int) (br : List Int) (s : Value), σ 3 = .agg #[I W, I H, s] → σ 2 = .agg #[I 0, I 0, sl 0 0 0 0] → I64 W → I64 H → br.length ≤ 200 → Mod b (b + 1) h h3 → Vo h3 h.length h3.length shInts s br → Src h3 b (m + 1100) → K 0 σ h3 := by
    intro σ h3 W H br s q3 q2 w64 h64 hl md ov hs3
    obtain ⟨bb, zz, e, _⟩ := ov.ints
    subst hK
    simp only [seqQ_zero]
    subst e
    simp (disch := omega) [q3, q2, resOf, resAll, resOne, aField]
    exact ⟨W, H, br, hl, md, Vo.of_panel w64 h64 ov, hs3⟩
  clear hK
  rw [awp_seq, awp_reg]
  generalize hA : seqQ Gam _ _ 0 = A
  simp (disch := omega)
  refine callW_of (c7 h1 b _ 20 hs1 (by omega) (by unfold I64; omega)) ?_
  rintro _ h2 ⟨k, rfl, _, k2, md2, l2, hs2⟩
  have o2 := o1.mod md2 (by omega)
  simp (disch := omega)
  subst hA
  simp only [seqQ_zero]
  rw [awp_block]
  have tail' : ∀ (σ : Nat → Value) (h3 : Heap) (W H : Int) (br : List Int) (s : Value), σ 3 = .agg #[I W, I H, s] → σ 2 = .agg #[I 0, I 0, sl 0 0 0 0] → I64 W → I64 H → br.length ≤ 200 → Mod b (b + 1) h h3 → Vo h3 h.length h3.length shInts s br → Src h3 b (m + 1100) → blockQ 0 K 0 σ h3 := by
    intro σ h3 W H br s q3 q2 w64 h64 hl md ov hs3
    rw [blockQ_eq, if_neg (by omega)]
    exact tail σ h3 W H br s q3 q2 w64 h64 hl md ov hs3
  clear tail
  generalize blockQ 0 K = B1 at tail' ⊢
  by_cases e0 : k = 0
  · subst e0
    simp (disch := omega) [aBuildSlice]
    obtain ⟨h3, e3⟩ : ∃ h3, h3 = h2 ++ [⟨ints [0, 8, 9, -9223372036854775808], true⟩] := ⟨_, rfl⟩
    have g3 : Grows h2 h3 := ⟨_, e3⟩
    simp only [ints, List.map_cons, List.map_nil] at e3
    rw [← e3]
    refine callW_of (c4 h3 b _ h2.length [0, 8, 9, -9223372036854775808] (hs2.grow g3) (by omega) (by rw [e3]; simp [ints]) (by omega) (by simp) (by simp)) ?_
    rintro _ h4 ⟨x, hx', rfl, md4, l4, hs4⟩
    have x64 : I64 x := by simp at hx'; unfold I64; omega
    have L3 := g3.le
    simp (disch := omega)
    exact tail' _ h4 x H br _ (by simp) (by simp) x64 h64 (by omega) (((md1.trans md2).trans g3.mod).trans md4) (((o2.grow g3).mod md4 (by omega)).wide (Nat.le_refl _) (by omega)) (hs4.mono (by omega))
  by_cases e1 : k = 1
  · subst e1
    have hb2 : h2[bb]? = some ⟨ints br, true⟩ := by rw [md2.2 bb (at_lt hbb) (by omega)]; exact hbb
    have eb : aBuildSlice 1 1 h2 [(0, .agg #[I 0]), (1, I 0)] = some (sl h2.length 0 1 1, h2 ++ [⟨[I 0], true⟩]) := by simp [aBuildSlice]
    simp (disch := omega) [eb]
    obtain ⟨h3, e3⟩ : ∃ h3, h3 = h2 ++ [⟨[I 0], true⟩] := ⟨_, rfl⟩
    have g3 : Grows h2 h3 := ⟨_, e3⟩
    rw [← e3]
    have hb3 := g3.at hb2
    have hn3 : h3[h2.length]? = some ⟨[I 0], true⟩ := by rw [e3]; simp
    have l3 : h3.length = h2.length + 1 := by rw [e3]; simp
    have hbl2 : bb < h2.length := at_lt hb2
    have ea : aAppend 1 h3 (sl h2.length 0 1 1) (sl bb 0 br.length 1) = some (sl h3.length 0 (br.length + 1) 1, h3.set bb ⟨[], false⟩ ++ [⟨ints (br ++ [0]), true⟩]) := by
      have hnew : newCells 1 h3 (sl h2.length 0 1 1) = some [I 0] := by
        simp [newCells]
        rw [cellsAt_of hn3 (by simp)]; simp
      have hold : cellsAt h3 bb 0 (br.length * 1) = some (ints br) := by rw [Nat.mul_one]; exact cellsAt_all hb3 (by simp [ints])
      have hbz : ¬ bb = 0 := by omega
      unfold aAppend
      rw [hnew]
      simp only [hb3, hold]
      rw [if_neg (by omega), if_neg (by simp), if_neg (by simp [maxSize]; omega), if_neg hbz, if_pos (by simp)]
      simp [ints]
    obtain ⟨h4, e4⟩ : ∃ h4, h4 = h3.set bb ⟨[], false⟩ ++ [⟨ints (br ++ [0]), true⟩] := ⟨_, rfl⟩
    rw [← e4] at ea
    have l4 : h4.length = h3.length + 1 := by rw [e4]; simp
    have ho : ∀ c, c < h3.length → c ≠ bb → h4[c]? = h3[c]? := fun c hc hne => by
      rw [e4, List.getElem?_append_left (by simpa using hc)]; exact set_other hne
    have md3 := (md1.trans md2).trans g3.mod
    have md4 : Mod b (b + 1) h h4 := ⟨by have := md3.1; omega, fun c hc hn => by
      rw [ho c (by have := md3.1; omega) (by omega)]
      exact md3.2 c hc hn⟩
    have hs4 : Src h4 b (m + 1100) := ((hs2.grow g3).mono (by omega)).mod (lo := bb) (hi := bb + 1) ⟨by omega, fun c hc hn => ho c hc (by omega)⟩ (by omega)
    have o4 : Vo h4 h.length h4.length shInts (sl h3.length 0 (br ++ [0]).length 1) (br ++ [0]) := Vo.of_ints (.inl rfl) (by rw [maxLen_eq]; simp; omega) (fun x hx => by
      rcases List.mem_append.1 hx with hx | hx
      · exact br64 x hx
      · simp at hx; subst hx; unfold I64; omega) (.inr ⟨by rw [e4, List.getElem?_append_right (by simp)]; simp, by have := md3.1; omega, by omega⟩)
    have el : (br ++ [0]).length = br.length + 1 := by simp
    rw [el] at o4
    simp (disch := omega) [ea]
    exact tail' _ h4 W H (br ++ [0]) _ (by simp) (by simp) w64 h64 (by omega) md4 o4 hs4
  by_cases e2 : k = 2
  · subst e2
    simp (disch := omega)
    refine fork_dec (fun hq => ?_) (fun hq => ?_)
    · have hq : 0 < br.length := by omega
      have hne : br ≠ [] := by intro e; rw [e] at hq; simp at hq
      have hb2 : h2[bb]? = some ⟨ints br, true⟩ := by rw [md2.2 bb (at_lt hbb) (by omega)]; exact hbb
      simp (disch := omega)
      refine callW_of (c7 h2 b _ br.length hs2 (by omega) (by unfold I64; omega)) ?_
      rintro _ h3 ⟨x, rfl, x1, x2, md3, l3, hs3⟩
      have hx' : x < br.length := by
        by_cases q1 : br.length = 1
        · have := x1 (by omega); omega
        · have := x2 (by omega); omega
      have hb3 : h3[bb]? = some ⟨ints br, true⟩ := by rw [md3.2 bb (at_lt hb2) (by omega)]; exact hb2
      simp (disch := omega) [aBuildSlice]
      obtain ⟨h4, e4⟩ : ∃ h4, h4 = h3 ++ [⟨ints [-1, 2, 3], true⟩] := ⟨_, rfl⟩
      have g4 : Grows h3 h4 := ⟨_, e4⟩
      simp only [ints, List.map_cons, List.map_nil] at e4
      rw [← e4]
      refine callW_of (c4 h4 b _ h3.length [-1, 2, 3] (hs3.grow g4) (by omega) (by rw [e4]; simp [ints]) (by omega) (by simp) (by simp)) ?_
      rintro _ h5 ⟨y, hy, rfl, md5, l5, hs5⟩
      have y64 : I64 y := by simp at hy; unfold I64; omega
      have L4 := g4.le
      have hb5 : h5[bb]? = some ⟨ints br, true⟩ := by rw [md5.2 bb (at_lt (g4.at hb3)) (by omega)]; exact g4.at hb3
      have hst := store_int (v := y) hb5 hx'
      obtain ⟨h6, e6⟩ : ∃ h6, h6 = h5.set bb ⟨ints (br.set x y), true⟩ := ⟨_, rfl⟩
      rw [← e6] at hst
      have l6 : h6.length = h5.length := by rw [e6]; simp
      have ho : ∀ c, c ≠ bb → h6[c]? = h5[c]? := fun c hc => by rw [e6]; exact set_other hc
      have md5' := (((md1.trans md2).trans md3).trans g4.mod).trans md5
      have md6 : Mod b (b + 1) h h6 := ⟨by have := md5'.1; omega, fun c hc hn => by rw [ho c (by omega)]; exact md5'.2 c hc hn⟩
      have hs6 : Src h6 b (m + 1100) := (hs5.mono (by omega)).mod (lo := bb) (hi := bb + 1) ⟨by omega, fun c hc hn => ho c (by omega)⟩ (by omega)
      have o6 : Vo h6 h.length h6.length shInts (sl bb 0 (br.set x y).length 1) (br.set x y) := Vo.of_ints (.inl rfl) (by rw [maxLen_eq]; simp; omega) (fun z hz => by
        rcases List.mem_or_eq_of_mem_set hz with hz | hz
        · exact br64 z hz
        · rw [hz]; exact y64) (.inr ⟨by rw [e6]; simp [at_lt hb5], lb1, by have := at_lt hb5; omega⟩)
      have el : (br.set x y).length = br.length := by simp
      rw [el] at o6
      have hxl : (x : Int) < br.length := by omega
      simp (disch := omega) [hx', hxl, hst]
      exact tail' _ h6 W H (br.set x y) _ (by simp) (by simp) w64 h64 (by rw [el]; omega) md6 o6 hs6
    · simp (disch := omega)
      exact tail' _ h2 W H br _ (by simp) (by simp) w64 h64 (by omega) (md1.trans md2) (o2.wide (Nat.le_refl _) (by omega)) (hs2.mono (by omega))
  by_cases e3 : k = 3
  · subst e3
    simp (disch := omega)
    refine callW_of (c450 h2 8 8 (by omega) (by omega) (by omega)) ?_
    rintro _ h3 ⟨g3, o3⟩
    have L3 := g3.le
    obtain ⟨s', rfl, w64', h64', o3⟩ := o3.panel
    have ol : (List.replicate (inner 8 8).toNat (0 : Int)).length ≤ 200 := by
      have := ok_len (newP_ok (W := 8) (H := 8) (by omega) (by omega))
      omega
    obtain ⟨b3, z3, e3, _⟩ := o3.ints
    subst e3
    simp (disch := omega)
    exact tail' _ h3 8 8 _ _ (by simp) (by simp) w64' h64' ol ((md1.trans md2).trans g3.mod) (o3.wide (by omega) (Nat.le_refl _)) ((hs2.grow g3).mono (by omega))
  have k1 : ((k : Int) = 1) = False := eq_false (by omega)
  have k2' : ((k : Int) = 2) = False := eq_false (by omega)
  have k3 : ((k : Int) = 3) = False := eq_false (by omega)
  simp (disch := omega) [e0, k1, k2', k3]
  exact tail' _ h2 W H br _ (by simp) (by simp) w64 h64 (by omega) (md1.trans md2) (o2.wide (Nat.le_refl _) (by omega)) (hs2.mono (by omega))
end Am
/-! AmS8 -/
set_option linter.unusedVariables false
set_option linter.unusedSimpArgs false
set_option maxHeartbeats 4000000
set_option maxRecDepth 4000
namespace Am
open Go

end Am
/-! AmG7 -/
set_option linter.unusedVariables false
set_option linter.unusedSimpArgs false
set_option maxHeartbeats 4000000
set_option maxRecDepth 4000
namespace Am
open Go

/-! ### the text of changes -/
end Am
/-! AmS10 -/
set_option linter.unusedVariables false
set_option linter.unusedSimpArgs false
set_option maxHeartbeats 4000000
set_option maxRecDepth 4000
namespace Am
open Go

def TS (l : List Trip) : Prop := ∀ x ∈ l, T64 x
def I64s (l : List Int) : Prop := ∀ x ∈ l, I64 x
theorem src_lt {h : Heap} {b m : Nat} (hs : Src h b m) : b < h.length := by
  obtain ⟨_, _, _, _, _, _, e, _⟩ := hs
  exact at_lt e
/-- A row of a block is written: nothing else. -/
theorem put_draw {h h' : Heap} {b bb m : Nat} {cs : List Value} (md : Mod b (b + 1) h h') (hs : Src h' b m) (h1 : b < bb) (h2 : h.length ≤ bb) : Mod b (b + 1) h (h'.set bb ⟨cs, true⟩) ∧ Src (h'.set bb ⟨cs, true⟩) b m :=
  ⟨⟨by have := md.1; simp; omega, fun c hc hn => by rw [set_other (by omega)]; exact md.2 c hc hn⟩, hs.mod (lo := bb) (hi := bb + 1) ⟨by simp, fun c hc hn => set_other (by omega)⟩ (by omega)⟩
/-- A panel varied. -/
theorem c555 (h : Heap) (b m : Nat) (pv : Value) (P : Pan) (hs : Src h b m) (hm : m ≤ 10000000) (pp : PtP h pv P) (hl : P.2.2.length ≤ 1000) :
    ACall Gam 555 [pt b 0, pv] h fun r h' => ∃ Q : Pan, Q.1 = P.1 ∧ Q.2.1 = P.2.1 ∧ Q.2.2.length = P.2.2.length ∧ Mod b (b + 1) h h' ∧ Vo h' h.length h'.length shPanel r Q ∧ Src h' b (m + 50) := by
  have hb := src_lt hs
  obtain ⟨W, H, br⟩ := P
  refine ACall_intro g555 rfl ?_
  unfold fn555
  rw [awp_seq, awp_reg]
  generalize hK : seqQ Gam _ _ 0 = K
  simp (disch := omega)
  subst hK
  simp only [seqQ_zero]
  rw [awp_seq, awp_reg]
  generalize hK : seqQ Gam _ _ 0 = K
  try simp (disch := omega)
  refine callW_of (c453 h pv _ (by omega) pp (by simp only at hl ⊢; omega)) ?_
  rintro _ h1 ⟨g1, o⟩
  try refine ⟨fun e => (by first | exact g1 | cases e), ?_⟩
  obtain ⟨s, rfl, w64, h64, o⟩ := o.panel
  obtain ⟨bb, zz, e, hz, hmx, hx, hbb⟩ := o.ints
  subst e
  have hl : br.length ≤ 1000 := hl
  have L1 := g1.le
  have hs1 := hs.grow g1
  try simp (disch := omega)
  subst hK
  simp only [seqQ_zero]
  rw [awp_seq]
  generalize hK : seqQ Gam _ _ = K
  rw [awp_seq, awp_reg]
  generalize hA : seqQ Gam _ _ 0 = A
  try simp (disch := omega)
  refine callW_of (c7 h1 b m 5 hs1 (by omega) (by unfold I64; omega)) ?_
  rintro _ h2 ⟨k, rfl, _, k2, md2, l2, hs2⟩
  try refine ⟨fun e => (by cases e), ?_⟩
  have k4 : k ≤ 4 := by have := k2 (by omega); omega
  have hb2 : br = [] ∨ h2[bb]? = some ⟨ints br, true⟩ ∧ h.length ≤ bb := hbb.imp id fun e => ⟨by rw [md2.2 bb (at_lt e.1) (by omega)]; exact e.1, e.2.1⟩
  have md2' : Mod b (b + 1) h h2 := g1.mod.trans md2
  try simp (disch := omega)
  subst hA
  simp only [seqQ_zero]
  rw [awp_block]
  have post : ∀ (σ : Nat → Value) (h' : Heap) (br' : List Int), σ 4 = .agg #[I 0, I 0, sl 0 0 0 0] → σ 5 = .agg #[I W, I H, sl bb 0 br.length zz] → br'.length = br.length → (∀ x ∈ br', I64 x) → (br = [] ∨ h'[bb]? = some ⟨ints br', true⟩ ∧ h.length ≤ bb) → Mod b (b + 1) h h' → Src h' b (m + 50) → blockQ 0 K 2 σ h' := by
    intro σ h' br' q4 q5 e1 e2 e3 md hs'
    rw [blockQ_eq, if_pos rfl]
    subst hK
    simp only [seqQ_zero]
    have ov : Vo h' h.length h'.length shInts (sl bb 0 br'.length zz) br' := Vo.of_ints (hz.imp id fun e => ⟨e.1, List.length_eq_zero_iff.1 (by rw [e1, e.2]; rfl)⟩) (by rw [maxLen_eq]; omega) e2 (by
      rcases e3 with e | e
      · exact .inl (List.length_eq_zero_iff.1 (by rw [e1, e]; rfl))
      · exact .inr ⟨e.1, e.2, at_lt e.1⟩)
    rw [e1] at ov
    simp (disch := omega) [q4, q5, resOf, resAll, resOne, aField]
    exact ⟨br', e1, md, Vo.of_panel w64 h64 ov, hs'⟩
  generalize blockQ 0 K = B1 at post ⊢
  refine awp_loop (fun (j : Nat) σ h' => j ≤ k ∧ σ 0 = pt b 0 ∧ σ 4 = .agg #[I 0, I 0, sl 0 0 0 0] ∧ σ 5 = .agg #[I W, I H, sl bb 0 br.length zz] ∧ σ 6 = I j ∧ Mod b (b + 1) h h' ∧ Src h' b (m + 2 + 4 * (k - j)) ∧ ∃ br' : List Int, br'.length = br.length ∧ I64s br' ∧ (br = [] ∨ h'[bb]? = some ⟨ints br', true⟩ ∧ h.length ≤ bb)) (fun j => j) k ?_ ?_
  · exact ⟨Nat.le_refl _, by simp, by simp, by simp, by simp, md2', by simpa using hs2, br, rfl, hx, hb2⟩
  · rintro j σ h' ⟨hj, q0, q4, q5, q6, md, hs', br', e1, e2, e3⟩
    by_cases j0 : j = 0
    · subst j0
      simp (disch := omega) [q5, q6]
      exact post _ h' br' (by simp [q4]) (by simp [q5]) e1 e2 e3 md (hs'.mono (by omega))
    · have jp : (0 : Int) < (j : Int) := by omega
      have jp' : 0 < j := by omega
      by_cases n0 : br.length = 0
      · simp (disch := omega) [q5, q6, jp, jp', n0]
        exact post _ h' br' (by simp [q4]) (by simp [q5, n0]) e1 e2 e3 md (hs'.mono (by omega))
      · have np : 0 < br.length := by omega
        have np' : (0 : Int) < br.length := by omega
        obtain ⟨e3a, e3b⟩ := e3.resolve_left (fun e => n0 (by rw [e]; rfl))
        simp (disch := omega) [q0, q5, q6, jp, jp', np, np']
        refine callW_of (c7 h' b _ br.length hs' (by omega) (by unfold I64; omega)) ?_
        rintro _ h3 ⟨x, rfl, x1, x2, md3, l3, hs3⟩
        try refine ⟨fun e => (by cases e), ?_⟩
        have hx3 : x < br.length := by
          by_cases q : br.length = 1
          · have := x1 (by omega); omega
          · have := x2 (by omega); omega
        have hbl : b < bb := by omega
        have f3 : h3[bb]? = some ⟨ints br', true⟩ := by rw [md3.2 bb (at_lt e3a) (by omega)]; exact e3a
        try simp (disch := omega) [q0, q5, q6]
        refine callW_of (c7 h3 b _ 3 hs3 (by omega) (by unfold I64; omega)) ?_
        rintro _ h4 ⟨y, rfl, _, y2, md4, l4, hs4⟩
        try refine ⟨fun e => (by cases e), ?_⟩
        have f4 : h4[bb]? = some ⟨ints br', true⟩ := by rw [md4.2 bb (at_lt f3) (by omega)]; exact f3
        have hst := store_int (v := (y : Int)) f4 (show x < br'.length by omega)
        have hxi : (x : Int) < br.length := by omega
        obtain ⟨p1, p2⟩ := put_draw (cs := ints (br'.set x y)) ((md.trans md3).trans md4) hs4 hbl e3b
        simp (disch := omega) [q0, q5, q6, hx3, hxi, hst, wrap64]
        have k1 : (j : Int) - 1 = ((j - 1 : Nat) : Int) := by omega
        refine ⟨j - 1, ⟨by omega, q4, by omega, p1, p2.mono (by omega), br'.set x y, by simpa using e1, ?_, .inr ⟨by simp [at_lt f4], e3b⟩⟩, by omega⟩
        intro z hz
        rcases List.mem_or_eq_of_mem_set hz with hz | hz
        · exact e2 z hz
        · have := y2 (by omega)
          rw [hz]; unfold I64; omega
end Am
/-! AmS11 -/
set_option linter.unusedVariables false
set_option linter.unusedSimpArgs false
set_option maxHeartbeats 4000000
set_option maxRecDepth 4000
namespace Am
open Go

/-- A panel of its own that a later draw leaves. -/
theorem Vo.draw {h h' : Heap} {b lo hi : Nat} {v : Value} {X : Pan} (x : Vo h lo hi shPanel v X) (m : Mod b (b + 1) h h') (hb : b < lo) : Vo h' lo hi shPanel v X := x.mod m (by omega)
end Am
/-! AmS13 -/
set_option linter.unusedVariables false
set_option linter.unusedSimpArgs false
set_option maxHeartbeats 4000000
set_option maxRecDepth 4000
namespace Am
open Go

theorem ints_at2 {h : Heap} {v : Value} {X : List Int} (hv : Vr h shInts v X) : ∃ b o z, v = sl b o X.length z ∧ X.length ≤ maxLen ∧ ∀ k (hk : k < X.length), cell h b (o + k) = some (I X[k]) := by
  obtain ⟨b, o, z, rfl, _, hm, _, hc⟩ := hv.ints
  exact ⟨b, o, z, rfl, hm, fun k hk => ints_cell hc hk⟩
theorem c271 (h : Heap) (v w : Value) (X Y : List Int) (hv : Vr h shInts v X) (hw : Vr h shInts w Y) : ACall Gam 271 [v, w] h fun r h' => r = B (decide (X = Y)) ∧ h' = h := by
  obtain ⟨b1, o1, z1, rfl, hm1, hc1⟩ := ints_at2 hv
  obtain ⟨b2, o2, z2, rfl, hm2, hc2⟩ := ints_at2 hw
  rw [maxLen_eq] at hm1 hm2
  refine ACall_intro g271 rfl ?_
  unfold fn271
  simp (disch := omega)
  refine fork_dec (fun heq => ?_) (fun hne => ?_)
  · simp (disch := omega)
    refine awp_loop (fun k σ h' => h' = h ∧ k ≤ X.length ∧ X.take k = Y.take k ∧ σ 0 = sl b1 o1 X.length z1 ∧ σ 1 = sl b2 o2 Y.length z2 ∧ σ 5 = I k) (fun k => X.length - k) 0 ?_ ?_
    · simp
    · rintro k σ h' ⟨rfl, hk, ht, h0, h1, h5⟩
      simp (disch := omega) [h0, h1, h5]
      refine fork_dec (fun hlt => ?_) (fun hge => ?_)
      · have k1 : k < X.length := by omega
        have k2 : k < Y.length := by omega
        simp (disch := omega) [h0, h1, h5, hc1 k k1, hc2 k k2, k1, k2]
        refine fork_dec (fun he => ?_) (fun he => ?_)
        · simp (disch := omega) [h0, h1, h5]
          refine ⟨k + 1, ⟨by omega, ?_, ?_⟩, by omega⟩
          · rw [List.take_succ_eq_append_getElem k1, List.take_succ_eq_append_getElem k2, ht, he]
          · rw [wrap64 (by omega) (by omega)]; simp
        · simp (disch := omega) [h0, h1, h5]
          exact take_ne k1 k2 he
      · simp (disch := omega) [h0, h1, h5]
        have q1 : k = X.length := by omega
        have q2 : X.length = Y.length := by omega
        subst q1
        rw [List.take_length, q2, List.take_length] at ht
        exact ht
  · simp (disch := omega)
    intro e; apply hne; rw [e]

theorem c72 (h : Heap) (hp : 0 < h.length) (v : Value) (X : Pan) (hv : Vr h shPanel v X) : ACall Gam 72 [v] h fun r h' => Grows h h' ∧ r = .tuple #[I (curveA X).1, I (curveA X).2] := by
  have hv' := hv
  obtain ⟨a, b, c, rfl⟩ := hv'.panel3
  obtain ⟨d, hd⟩ : ∃ d, d = curveA X := ⟨_, rfl⟩
  rw [← hd]
  refine ACall_intro g72 rfl ?_
  unfold fn72
  rw [awp_seq, awp_reg]
  generalize hK : seqQ Gam _ _ 0 = K
  simp (disch := omega)
  subst hK
  simp only [seqQ_zero]
  rw [awp_seq]
  generalize hK : seqQ Gam _ _ = K
  simp (disch := omega)
  refine callW_of (c140 _ _ h hv) ?_
  rintro _ h1 ⟨rfl, rfl⟩
  try refine ⟨fun e => (by cases e), ?_⟩
  cases q : okP X
  · have e : d = (0, 1) := by rw [hd]; unfold curveA; rw [q]; rfl
    subst e
    simp (disch := omega)
    subst hK
    simp (disch := omega)
    exact Grows.refl _
  · have e : d = ((curveN X : Int), 0) := by rw [hd]; unfold curveA; rw [q]; rfl
    subst e
    simp (disch := omega)
    subst hK
    simp only [seqQ_zero]
    simp (disch := omega)
    refine callW_of (c154 h1 hp _ X hv (okP_iff.1 q)) ?_
    rintro _ h2 ⟨g2, rfl⟩
    try refine ⟨fun e => (by first | exact g2 | cases e), ?_⟩
    simp (disch := omega)
    exact g2

theorem c554 (h : Heap) (v : Value) (X : List Int) (hp : 0 < h.length) (hv : Vr h shBytes v X) : ACall Gam 554 [v] h fun r h' => ∃ (P Q R : Pan) (r0 r1 r2 : Value), r = .tuple #[r0, r1, r2] ∧ (P.2.2.length ≤ 200 ∧ Q.2.2.length ≤ 200 ∧ R.2.2.length ≤ 200) ∧ Grows h h' ∧ Vr h' shPanel r0 P ∧ Vr h' shPanel r1 Q ∧ Vr h' shPanel r2 R := by
  refine ACall_intro g554 rfl ?_
  unfold fn554
  rw [awp_seq, awp_reg]
  generalize hK : seqQ Gam _ _ 0 = K
  simp (disch := omega)
  subst hK
  simp only [seqQ_zero]
  rw [awp_seq, awp_reg]
  generalize hK : seqQ Gam _ _ 0 = K
  simp (disch := omega)
  refine callW_of (c431 h v X hv) ?_
  rintro _ h1 ⟨rfl, g1, l1, hs1⟩
  try refine ⟨fun e => (by first | exact g1 | cases e), ?_⟩
  try simp (disch := omega)
  subst hK
  simp only [seqQ_zero]
  rw [awp_seq, awp_reg]
  generalize hK : seqQ Gam _ _ 0 = K
  simp (disch := omega)
  refine callW_of (c443 h1 h.length 0 hs1 (by omega)) ?_
  rintro _ h2 ⟨⟨W, H, br⟩, hl, md2, o2, hs2⟩
  try refine ⟨fun e => (by cases e), ?_⟩
  obtain ⟨s, rfl, w64, h64, o3⟩ := o2.panel
  obtain ⟨bb, zz, e, hz, hmx, hx, hbb⟩ := o3.ints
  subst e
  have L2 := md2.1
  have hl : br.length ≤ 200 := hl
  have hsb : storeAt (h2 ++ [⟨[I 0, I 0, sl 0 0 0 0], true⟩]) h2.length 0 [I W, I H, sl bb 0 br.length zz] = some (h2 ++ [⟨[I W, I H, sl bb 0 br.length zz], true⟩]) := store_box rfl
  simp (disch := omega) [hsb]
  subst hK
  simp only [seqQ_zero]
  obtain ⟨h3, e3⟩ : ∃ h3, h3 = h2 ++ [⟨[I W, I H, sl bb 0 br.length zz], true⟩] := ⟨_, rfl⟩
  have g3 : Grows h2 h3 := ⟨_, e3⟩
  have f3 : h3[h2.length]? = some ⟨[I W, I H, sl bb 0 br.length zz], true⟩ := by rw [e3]; simp
  have l3 : h3.length = h2.length + 1 := by rw [e3]; simp
  rw [← e3]
  have o4 := o2.grow g3
  have hs3 := hs2.grow g3
  have G3 : Grows h h3 := (md2.grows g1 (Nat.le_refl _)).trans g3
  clear e3
  have pp : PtP h3 (pt h2.length 0) (W, H, br) := PtP.at f3 (o3.vr.grow g3) w64 h64
  rw [awp_seq, awp_reg]
  generalize hK : seqQ Gam _ _ 0 = K
  simp (disch := omega)
  refine callW_of (c555 h3 h.length _ (pt h2.length 0) _ hs3 (by omega) pp (by simp only; omega)) ?_
  rintro _ h4 ⟨⟨W1, H1, br1⟩, _, _, e4, md4, p4, hs4⟩
  try refine ⟨fun e => (by cases e), ?_⟩
  have e4 : br1.length = br.length := e4
  have L4 := md4.1
  obtain ⟨s4, rfl, w641, h641, _⟩ := p4.panel
  have o5 := o4.draw md4 (by omega)
  have f4 : h4[h2.length]? = some ⟨[I W, I H, sl bb 0 br.length zz], true⟩ := by rw [md4.2 _ (by omega) (by omega)]; exact f3
  have G4 : Grows h h4 := md4.grows G3 (Nat.le_refl _)
  try simp (disch := omega)
  subst hK
  simp only [seqQ_zero]
  rw [awp_seq]
  generalize hK : seqQ Gam _ _ = K
  simp (disch := omega)
  refine callW_of (c6 h4 h.length _ 10 hs4 (by omega) (by unfold I64; omega)) ?_
  rintro _ h5 ⟨w, rfl, md5, l5, hs5⟩
  try refine ⟨fun e => (by cases e), ?_⟩
  have o6 := o5.draw md5 (by omega)
  have p6 := p4.draw md5 (by omega)
  have f5 : h5[h2.length]? = some ⟨[I W, I H, sl bb 0 br.length zz], true⟩ := by rw [md5.2 _ (by omega) (by omega)]; exact f4
  have hc : cellsAt h5 h2.length 0 3 = some [I W, I H, sl bb 0 br.length zz] := cellsAt_all f5 rfl
  have G5 : Grows h h5 := md5.grows G4 (Nat.le_refl _)
  cases w
  · simp (disch := omega)
    subst hK
    simp only [seqQ_zero]
    have pp5 : PtP h5 (pt h2.length 0) (W, H, br) := PtP.at f5 (by
      obtain ⟨s', e', _, _, o'⟩ := o6.panel
      simp at e'
      subst e'
      exact o'.vr) w64 h64
    rw [awp_seq, awp_reg]
    generalize hK : seqQ Gam _ _ 0 = K
    simp (disch := omega) [hc]
    refine awpOps_side (x := .tmp 6) rfl rfl rfl (by simp; exact c555 h5 h.length _ (pt h2.length 0) _ hs5 (by omega) pp5 (by simp only; omega)) ?_
    rintro _ h6 ⟨⟨W', H', br'⟩, _, _, e6, md6, o7, _⟩
    have e6 : br'.length = br.length := e6
    have o8 := o6.draw md6 (by omega)
    have p8 := p6.draw md6 (by omega)
    refine ⟨?_, ?_⟩
    · simp
      exact sameAt_iff.2 (md6.2 _ (by simp only; omega) (by simp only; omega))
    subst hK
    have v6 := o8.vr
    have v7 := p8.vr
    have v8 := o7.vr
    obtain ⟨s7, rfl, _⟩ := v8.panel
    simp (disch := omega) [isOwn, resOf, resAll, resOne, aField]
    exact ⟨W, H, br, W1, H1, br1, W', H', br', _, _, _, ⟨rfl, rfl, rfl⟩, ⟨hl, by omega, by omega⟩, md6.grows G5 (Nat.le_refl _), v6, v7, v8⟩
  · simp (disch := omega) [hc]
    refine awpOps_side (x := .tmp 6) rfl rfl rfl (by simp; exact c443 h5 h.length _ hs5 (by omega)) ?_
    rintro _ h6 ⟨⟨W', H', br'⟩, e6, md6, o7, _⟩
    have o8 := o6.draw md6 (by omega)
    have p8 := p6.draw md6 (by omega)
    refine ⟨?_, ?_⟩
    · simp
      exact sameAt_iff.2 (md6.2 _ (by simp only; omega) (by simp only; omega))
    subst hK
    have v6 := o8.vr
    have v7 := p8.vr
    have v8 := o7.vr
    obtain ⟨s7, rfl, _⟩ := v8.panel
    simp (disch := omega) [isOwn, resOf, resAll, resOne, aField]
    exact ⟨W, H, br, W1, H1, br1, W', H', br', _, _, _, ⟨rfl, rfl, rfl⟩, ⟨hl, by omega, e6⟩, md6.grows G5 (Nat.le_refl _), v6, v7, v8⟩
theorem c359 (h : Heap) (v : Value) (X : List Int) (hp : 0 < h.length) (hv : Vr h shBytes v X) : ACall Gam 359 [v] h fun r h' => ∃ (P Q R : Pan) (r0 r1 r2 : Value), r = .tuple #[r0, r1, r2] ∧ (P.2.2.length ≤ 200 ∧ Q.2.2.length ≤ 200 ∧ R.2.2.length ≤ 200) ∧ Grows h h' ∧ Vr h' shPanel r0 P ∧ Vr h' shPanel r1 Q ∧ Vr h' shPanel r2 R := by
  refine ACall_intro g359 rfl ?_
  unfold fn359
  rw [awp_seq, awp_reg]
  generalize hK : seqQ Gam _ _ 0 = K
  simp (disch := omega)
  subst hK
  simp only [seqQ_zero]
  rw [awp_seq, awp_reg]
  generalize hK : seqQ Gam _ _ 0 = K
  simp (disch := omega)
  refine callW_of (c554 h v X hp hv) ?_
  rintro _ h1 ⟨P, Q, R, r0, r1, r2, rfl, hl, g1, v0, v1, v2⟩
  try refine ⟨fun e => (by first | exact g1 | cases e), ?_⟩
  have v0' := v0
  have v1' := v1
  have v2' := v2
  obtain ⟨a0, b0, d0, rfl⟩ := v0'.panel3
  obtain ⟨a1, b1, d1, rfl⟩ := v1'.panel3
  obtain ⟨a2, b2, d2, rfl⟩ := v2'.panel3
  try simp (disch := omega)
  subst hK
  simp (disch := omega) [resOf, resAll, resOne, aField]
  exact ⟨P.1, P.2.1, P.2.2, Q.1, Q.2.1, Q.2.2, R.1, R.2.1, R.2.2, _, _, _, ⟨rfl, rfl, rfl⟩, hl, g1, v0, v1, v2⟩
theorem c365 (h : Heap) (v : Value) (X : List Int) (hp : 0 < h.length) (hv : Vr h shBytes v X) : ACall Gam 365 [v] h fun r h' => ∃ (P Q : Pan) (x y : Int) (r0 r1 : Value), r = .tuple #[r0, I x, I y, r1] ∧ (P.2.2.length ≤ 200 ∧ Q.2.2.length ≤ 200) ∧ (I64 x ∧ I64 y) ∧ Grows h h' ∧ Vr h' shPanel r0 P ∧ Vr h' shPanel r1 Q := by
  refine ACall_intro g365 rfl ?_
  unfold fn365
  rw [awp_seq, awp_reg]
  generalize hK : seqQ Gam _ _ 0 = K
  simp (disch := omega)
  subst hK
  simp only [seqQ_zero]
  rw [awp_seq, awp_reg]
  generalize hK : seqQ Gam _ _ 0 = K
  simp (disch := omega)
  refine callW_of (c431 h v X hv) ?_
  rintro _ h1 ⟨rfl, g1, l1, hs1⟩
  try refine ⟨fun e => (by first | exact g1 | cases e), ?_⟩
  try simp (disch := omega)
  subst hK
  simp only [seqQ_zero]
  rw [awp_seq, awp_reg]
  generalize hK : seqQ Gam _ _ 0 = K
  simp (disch := omega)
  refine callW_of (c443 h1 h.length 0 hs1 (by omega)) ?_
  rintro _ h2 ⟨⟨W, H, br⟩, hl, md2, o2, hs2⟩
  try refine ⟨fun e => (by cases e), ?_⟩
  obtain ⟨s, rfl, w64, h64, o3⟩ := o2.panel
  obtain ⟨bb, zz, e, hz, hmx, hx, hbb⟩ := o3.ints
  subst e
  have L2 := md2.1
  have hl : br.length ≤ 200 := hl
  try simp (disch := omega)
  subst hK
  simp only [seqQ_zero]
  have G2 : Grows h h2 := md2.grows g1 (Nat.le_refl _)
  rw [awp_seq, awp_reg]
  generalize hK : seqQ Gam _ _ 0 = K
  simp (disch := omega)
  refine callW_of (c7 h2 h.length _ 3 hs2 (by omega) (by unfold I64; omega)) ?_
  rintro _ h3 ⟨x1, rfl, _, x2, md3, l3, hs3⟩
  try refine ⟨fun e => (by cases e), ?_⟩
  have x3 := x2 (by omega)
  try simp (disch := omega)
  refine callW_of (c7 h3 h.length _ 16 hs3 (by omega) (by unfold I64; omega)) ?_
  rintro _ h4 ⟨y1, rfl, _, y2, md4, l4, hs4⟩
  try refine ⟨fun e => (by cases e), ?_⟩
  have y3 := y2 (by omega)
  obtain ⟨q, hq⟩ : ∃ q : Int, q = (y1 : Int).tdiv 15 := ⟨_, rfl⟩
  have hq2 : 0 ≤ q ∧ q ≤ 1 := by rw [hq, Int.tdiv_eq_ediv_of_nonneg (by omega)]; omega
  simp (disch := omega) [wrap64, ← hq]
  subst hK
  simp only [seqQ_zero]
  rw [awp_seq, awp_reg]
  generalize hK : seqQ Gam _ _ 0 = K
  simp (disch := omega)
  refine callW_of (c7 h4 h.length _ 3 hs4 (by omega) (by unfold I64; omega)) ?_
  rintro _ h5 ⟨z1, rfl, _, z2, md5, l5, hs5⟩
  try refine ⟨fun e => (by cases e), ?_⟩
  have z3 := z2 (by omega)
  try simp (disch := omega)
  subst hK
  simp only [seqQ_zero]
  rw [awp_seq]
  generalize hK : seqQ Gam _ _ = K
  simp (disch := omega)
  refine callW_of (c6 h5 h.length _ 12 hs5 (by omega) (by unfold I64; omega)) ?_
  rintro _ h6 ⟨w, rfl, md6, l6, hs6⟩
  try refine ⟨fun e => (by cases e), ?_⟩
  have md26 := ((md3.trans md4).trans md5).trans md6
  have G6 : Grows h h6 := md26.grows G2 (Nat.le_refl _)
  have o6 := o2.draw md26 (by omega)
  have L6 := md26.1
  cases w
  · simp (disch := omega)
    subst hK
    simp only [seqQ_zero]
    simp (disch := omega)
    refine callW_of (c445 h6 h.length _ 3 hs6 (by omega) (by omega)) ?_
    rintro _ h7 ⟨Q, okQ, _, _, md7, o7, _⟩
    try refine ⟨fun e => (by cases e), ?_⟩
    have v6 := (o6.draw md7 (by omega)).vr
    have v7 := o7.vr
    have v7' := v7
    obtain ⟨a7, b7, d7, rfl⟩ := v7'.panel3
    have hQ := okQ.siz
    simp (disch := omega) [resOf, resAll, resOne, aField]
    exact ⟨W, H, br, Q.1, Q.2.1, Q.2.2, _, _, _, _, ⟨rfl, rfl, rfl, rfl⟩, ⟨hl, by omega⟩, ⟨by unfold I64; omega, by unfold I64; omega⟩, md7.grows G6 (Nat.le_refl _), v6, v7⟩
  · simp (disch := omega)
    refine callW_of (c443 h6 h.length _ hs6 (by omega)) ?_
    rintro _ h7 ⟨Q, e7, md7, o7, _⟩
    try refine ⟨fun e => (by cases e), ?_⟩
    have v6 := (o6.draw md7 (by omega)).vr
    have v7 := o7.vr
    have v7' := v7
    obtain ⟨a7, b7, d7, rfl⟩ := v7'.panel3
    subst hK
    simp (disch := omega) [resOf, resAll, resOne, aField]
    exact ⟨W, H, br, Q.1, Q.2.1, Q.2.2, _, _, _, _, ⟨rfl, rfl, rfl, rfl⟩, ⟨hl, e7⟩, ⟨by unfold I64; omega, by unfold I64; omega⟩, md7.grows G6 (Nat.le_refl _), v6, v7⟩
theorem c364 (h : Heap) (v : Value) (X : List Int) (hp : 0 < h.length) (hv : Vr h shBytes v X) : ACall Gam 364 [v] h fun r h' => ∃ (P : Pan) (x y w z : Int) (r0 : Value), r = .tuple #[r0, I x, I y, I w, I z] ∧ P.2.2.length ≤ 200 ∧ (I64 x ∧ I64 y ∧ I64 w ∧ I64 z) ∧ Grows h h' ∧ Vr h' shPanel r0 P := by
  refine ACall_intro g364 rfl ?_
  unfold fn364
  rw [awp_seq, awp_reg]
  generalize hK : seqQ Gam _ _ 0 = K
  simp (disch := omega)
  subst hK
  simp only [seqQ_zero]
  rw [awp_seq, awp_reg]
  generalize hK : seqQ Gam _ _ 0 = K
  simp (disch := omega)
  refine callW_of (c431 h v X hv) ?_
  rintro _ h1 ⟨rfl, g1, l1, hs1⟩
  try refine ⟨fun e => (by first | exact g1 | cases e), ?_⟩
  try simp (disch := omega)
  subst hK
  simp only [seqQ_zero]
  rw [awp_seq, awp_reg]
  generalize hK : seqQ Gam _ _ 0 = K
  simp (disch := omega)
  refine callW_of (c443 h1 h.length 0 hs1 (by omega)) ?_
  rintro _ h2 ⟨⟨W, H, br⟩, hl, md2, o2, hs2⟩
  try refine ⟨fun e => (by cases e), ?_⟩
  obtain ⟨s, rfl, w64, h64, o3⟩ := o2.panel
  obtain ⟨bb, zz, e, hz, hmx, hx, hbb⟩ := o3.ints
  subst e
  have L2 := md2.1
  have hl : br.length ≤ 200 := hl
  try simp (disch := omega)
  subst hK
  simp only [seqQ_zero]
  have G2 : Grows h h2 := md2.grows g1 (Nat.le_refl _)
  rw [awp_seq, awp_reg]
  generalize hK : seqQ Gam _ _ 0 = K
  simp (disch := omega)
  refine callW_of (c7 h2 h.length _ 3 hs2 (by omega) (by unfold I64; omega)) ?_
  rintro _ h3 ⟨x2, rfl, _, u2, md3, l3, hs3⟩
  try refine ⟨fun e => (by cases e), ?_⟩
  have w2 := u2 (by omega)
  try simp (disch := omega) [wrap64]
  refine callW_of (c7 h3 h.length _ 16 hs3 (by omega) (by unfold I64; omega)) ?_
  rintro _ h4 ⟨y2, rfl, _, t2, md4, l4, hs4⟩
  try refine ⟨fun e => (by cases e), ?_⟩
  have s2 := t2 (by omega)
  obtain ⟨q2, hq2⟩ : ∃ q : Int, q = (y2 : Int).tdiv 15 := ⟨_, rfl⟩
  have hr2 : 0 ≤ q2 ∧ q2 ≤ 1 := by rw [hq2, Int.tdiv_eq_ediv_of_nonneg (by omega)]; omega
  simp (disch := omega) [wrap64, ← hq2]
  subst hK
  simp only [seqQ_zero]
  rw [awp_seq, awp_reg]
  generalize hK : seqQ Gam _ _ 0 = K
  simp (disch := omega)
  refine callW_of (c7 h4 h.length _ 3 hs4 (by omega) (by unfold I64; omega)) ?_
  rintro _ h5 ⟨x4, rfl, _, u4, md5, l5, hs5⟩
  try refine ⟨fun e => (by cases e), ?_⟩
  have w4 := u4 (by omega)
  try simp (disch := omega) [wrap64]
  refine callW_of (c7 h5 h.length _ 16 hs5 (by omega) (by unfold I64; omega)) ?_
  rintro _ h6 ⟨y4, rfl, _, t4, md6, l6, hs6⟩
  try refine ⟨fun e => (by cases e), ?_⟩
  have s4 := t4 (by omega)
  obtain ⟨q4, hq4⟩ : ∃ q : Int, q = (y4 : Int).tdiv 15 := ⟨_, rfl⟩
  have hr4 : 0 ≤ q4 ∧ q4 ≤ 1 := by rw [hq4, Int.tdiv_eq_ediv_of_nonneg (by omega)]; omega
  simp (disch := omega) [wrap64, ← hq4]
  subst hK
  simp only [seqQ_zero]
  rw [awp_seq, awp_reg]
  generalize hK : seqQ Gam _ _ 0 = K
  simp (disch := omega)
  refine callW_of (c7 h6 h.length _ 3 hs6 (by omega) (by unfold I64; omega)) ?_
  rintro _ h7 ⟨x6, rfl, _, u6, md7, l7, hs7⟩
  try refine ⟨fun e => (by cases e), ?_⟩
  have w6 := u6 (by omega)
  try simp (disch := omega) [wrap64]
  refine callW_of (c7 h7 h.length _ 16 hs7 (by omega) (by unfold I64; omega)) ?_
  rintro _ h8 ⟨y6, rfl, _, t6, md8, l8, hs8⟩
  try refine ⟨fun e => (by cases e), ?_⟩
  have s6 := t6 (by omega)
  obtain ⟨q6, hq6⟩ : ∃ q : Int, q = (y6 : Int).tdiv 15 := ⟨_, rfl⟩
  have hr6 : 0 ≤ q6 ∧ q6 ≤ 1 := by rw [hq6, Int.tdiv_eq_ediv_of_nonneg (by omega)]; omega
  simp (disch := omega) [wrap64, ← hq6]
  subst hK
  simp only [seqQ_zero]
  simp (disch := omega)
  refine callW_of (c7 h8 h.length _ 3 hs8 (by omega) (by unfold I64; omega)) ?_
  rintro _ h9 ⟨x8, rfl, _, u8, md9, l9, hs9⟩
  try refine ⟨fun e => (by cases e), ?_⟩
  have w8 := u8 (by omega)
  have md29 := (((((md3.trans md4).trans md5).trans md6).trans md7).trans md8).trans md9
  have v9 := (o2.draw md29 (by omega)).vr
  simp (disch := omega) [wrap64, resOf, resAll, resOne, aField]
  exact ⟨W, H, br, _, _, _, _, _, ⟨rfl, rfl, rfl, rfl, rfl⟩, hl, ⟨by unfold I64; omega, by unfold I64; omega, by unfold I64; omega, by unfold I64; omega⟩, md29.grows G2 (Nat.le_refl _), v9⟩
end Am
/-! AmS14 -/
set_option linter.unusedVariables false
set_option linter.unusedSimpArgs false
set_option maxHeartbeats 4000000
set_option maxRecDepth 4000
namespace Am
open Go

theorem c355 (h : Heap) (v : Value) (X : List Int) (hp : 0 < h.length) (hv : Vr h shBytes v X) : ACall Gam 355 [v] h fun r h' => ∃ (P Q : Pan) (r0 r1 : Value), r = .tuple #[r0, r1] ∧ (P.2.2.length ≤ 200 ∧ Q.2.2.length ≤ 200) ∧ Grows h h' ∧ Vr h' shPanel r0 P ∧ Vr h' shPanel r1 Q := by
  refine ACall_intro g355 rfl ?_
  unfold fn355
  rw [awp_seq, awp_reg]
  generalize hK : seqQ Gam _ _ 0 = K
  simp (disch := omega)
  subst hK
  simp only [seqQ_zero]
  rw [awp_seq, awp_reg]
  generalize hK : seqQ Gam _ _ 0 = K
  simp (disch := omega)
  refine callW_of (c431 h v X hv) ?_
  rintro _ h1 ⟨rfl, g1, l1, hs1⟩
  try refine ⟨fun e => (by first | exact g1 | cases e), ?_⟩
  try simp (disch := omega)
  subst hK
  simp only [seqQ_zero]
  rw [awp_seq, awp_reg]
  generalize hK : seqQ Gam _ _ 0 = K
  simp (disch := omega)
  refine callW_of (c443 h1 h.length 0 hs1 (by omega)) ?_
  rintro _ h2 ⟨⟨W, H, br⟩, hl, md2, o2, hs2⟩
  try refine ⟨fun e => (by cases e), ?_⟩
  obtain ⟨s, rfl, w64, h64, o3⟩ := o2.panel
  have L2 := md2.1
  have hl : br.length ≤ 200 := hl
  obtain ⟨bb, zz, e, _⟩ := o3.ints
  subst e
  have hsb : storeAt (h2 ++ [⟨[I 0, I 0, sl 0 0 0 0], true⟩]) h2.length 0 [I W, I H, sl bb 0 br.length zz] = some (h2 ++ [⟨[I W, I H, sl bb 0 br.length zz], true⟩]) := store_box rfl
  simp (disch := omega) [hsb]
  subst hK
  simp only [seqQ_zero]
  obtain ⟨h3, e3⟩ : ∃ h3, h3 = h2 ++ [⟨[I W, I H, sl bb 0 br.length zz], true⟩] := ⟨_, rfl⟩
  have g3 : Grows h2 h3 := ⟨_, e3⟩
  have f3 : h3[h2.length]? = some ⟨[I W, I H, sl bb 0 br.length zz], true⟩ := by rw [e3]; simp
  have l3 : h3.length = h2.length + 1 := by rw [e3]; simp
  rw [← e3]
  have o4 := o2.grow g3
  have hs3 := hs2.grow g3
  have G3 : Grows h h3 := (md2.grows g1 (Nat.le_refl _)).trans g3
  clear e3 hsb
  rw [awp_seq, awp_reg]
  generalize hK : seqQ Gam _ _ 0 = K
  simp (disch := omega)
  refine callW_of (c443 h3 h.length _ hs3 (by omega)) ?_
  rintro _ h4 ⟨⟨V, U, ar⟩, kl, md4, p4, hs4⟩
  try refine ⟨fun e => (by cases e), ?_⟩
  obtain ⟨t, rfl, v64, u64, p5⟩ := p4.panel
  have L4 := md4.1
  have kl : ar.length ≤ 200 := kl
  obtain ⟨ab, az, e, _⟩ := p5.ints
  subst e
  have f4 : h4[h2.length]? = some ⟨[I W, I H, sl bb 0 br.length zz], true⟩ := by rw [md4.2 _ (by omega) (by omega)]; exact f3
  have o5 := o4.draw md4 (by omega)
  have hsb : storeAt (h4 ++ [⟨[I 0, I 0, sl 0 0 0 0], true⟩]) h4.length 0 [I V, I U, sl ab 0 ar.length az] = some (h4 ++ [⟨[I V, I U, sl ab 0 ar.length az], true⟩]) := store_box rfl
  simp (disch := omega) [hsb]
  subst hK
  simp only [seqQ_zero]
  obtain ⟨h5, e5⟩ : ∃ h5, h5 = h4 ++ [⟨[I V, I U, sl ab 0 ar.length az], true⟩] := ⟨_, rfl⟩
  have g5 : Grows h4 h5 := ⟨_, e5⟩
  have k5 : h5[h4.length]? = some ⟨[I V, I U, sl ab 0 ar.length az], true⟩ := by rw [e5]; simp
  have l5 : h5.length = h4.length + 1 := by rw [e5]; simp
  rw [← e5]
  have o6 := o5.grow g5
  have p6 := p4.grow g5
  have f5 := g5.at f4
  have hs5 := hs4.grow g5
  have G5 : Grows h h5 := (md4.grows G3 (Nat.le_refl _)).trans g5
  have ppA : PtP h5 (pt h2.length 0) (W, H, br) := PtP.at f5 (by
    obtain ⟨s', e', _, _, o'⟩ := o6.panel
    simp at e'
    subst e'
    exact o'.vr) w64 h64
  have ppB : PtP h5 (pt h4.length 0) (V, U, ar) := PtP.at k5 (by
    obtain ⟨s', e', _, _, o'⟩ := p6.panel
    simp at e'
    subst e'
    exact o'.vr) v64 u64
  clear e5 hsb
  rw [awp_seq]
  generalize hK : seqQ Gam _ _ = K
  have tail : ∀ (σ : Nat → Value) (h' : Heap), Mod h.length (h.length + 1) h5 h' → σ 2 = .agg #[I 0, I 0, sl 0 0 0 0] → σ 3 = .agg #[I 0, I 0, sl 0 0 0 0] → σ 5 = pt h2.length 0 → σ 6 = pt h4.length 0 → K 0 σ h' := by
    intro σ h' md q2 q3 q5 q6
    have f' : h'[h2.length]? = some ⟨[I W, I H, sl bb 0 br.length zz], true⟩ := by rw [md.2 _ (by omega) (by omega)]; exact f5
    have k' : h'[h4.length]? = some ⟨[I V, I U, sl ab 0 ar.length az], true⟩ := by rw [md.2 _ (by omega) (by omega)]; exact k5
    have hc : cellsAt h' h2.length 0 3 = some [I W, I H, sl bb 0 br.length zz] := cellsAt_all f' rfl
    have kc : cellsAt h' h4.length 0 3 = some [I V, I U, sl ab 0 ar.length az] := cellsAt_all k' rfl
    have v1 := (o6.draw md (by omega)).vr
    have v2 := (p6.draw md (by omega)).vr
    subst hK
    simp only [seqQ_zero]
    simp (disch := omega) [q2, q3, q5, q6, hc, kc, resOf, resAll, resOne, aField]
    exact ⟨W, H, br, V, U, ar, _, _, ⟨rfl, rfl⟩, ⟨hl, kl⟩, md.grows G5 (Nat.le_refl _), v1, v2⟩
  simp (disch := omega)
  refine callW_of (c452 _ _ h5 ppA) ?_
  rintro _ h5' ⟨rfl, rfl⟩
  try refine ⟨fun e => (by cases e), ?_⟩
  cases qa : okP (W, H, br)
  · simp (disch := omega)
    exact tail _ h5' (Mod.refl _ _ _) (by simp) (by simp) (by simp) (by simp)
  simp (disch := omega)
  refine callW_of (c452 _ _ h5' ppB) ?_
  rintro _ h5' ⟨rfl, rfl⟩
  try refine ⟨fun e => (by cases e), ?_⟩
  cases qb : okP (V, U, ar)
  · simp (disch := omega)
    exact tail _ h5' (Mod.refl _ _ _) (by simp) (by simp) (by simp) (by simp)
  simp (disch := omega)
  refine callW_of (c6 h5' h.length _ 2 hs5 (by omega) (by unfold I64; omega)) ?_
  rintro _ h6 ⟨w, rfl, md6, l6, hs6⟩
  try refine ⟨fun e => (by cases e), ?_⟩
  cases w
  · simp (disch := omega)
    exact tail _ h6 md6 (by simp) (by simp) (by simp) (by simp)
  clear tail
  have ok := okP_iff.1 qa
  have okw := ok.w
  have okh := ok.h
  simp only at okw okh
  simp (disch := omega)
  refine callW_of (c7 h6 h.length _ 5 hs6 (by omega) (by unfold I64; omega)) ?_
  rintro _ h7 ⟨x, rfl, _, x2, md7, l7, hs7⟩
  try refine ⟨fun e => (by cases e), ?_⟩
  have x3 := x2 (by omega)
  have md57 := md6.trans md7
  have f7 : h7[h2.length]? = some ⟨[I W, I H, sl bb 0 br.length zz], true⟩ := by rw [md57.2 _ (by omega) (by omega)]; exact f5
  have c7' : cell h7 h2.length 1 = some (I H) := cell_of f7 rfl
  obtain ⟨N, hN⟩ : ∃ N : Int, N = 1 + x := ⟨_, rfl⟩
  simp (disch := omega) [wrap64, ← hN, c7']
  have hi := inner_bd (a := N) (b := H) (by omega) (by omega)
  refine callW_of (c450s h7 N H (by omega) (by omega)) ?_
  rintro _ h8 ⟨rfl, e8⟩
  have g8 : Grows h7 h8 := ⟨_, e8⟩
  try refine ⟨fun e => (by first | exact g8 | cases e), ?_⟩
  have b8 : h8[h7.length]? = some ⟨ints (List.replicate (inner N H).toNat 0), true⟩ := by rw [e8]; simp
  have l8 : h8.length = h7.length + 1 := by rw [e8]; simp
  have f8 := g8.at f7
  have hs8 := hs7.grow g8
  clear e8
  obtain ⟨z, hz⟩ : ∃ z : List Int, z = List.replicate (inner N H).toNat 0 := ⟨_, rfl⟩
  have zl : z.length = (inner N H).toNat := by rw [hz]; simp
  have z64 : ∀ x ∈ z, I64 x := by
    intro x hx
    rw [hz] at hx
    have := List.eq_of_mem_replicate hx
    rw [this]; unfold I64; omega
  rw [← hz] at b8
  rw [← zl]
  have vz : Vr h8 shInts (sl h7.length 0 z.length 1) z := (Vo.of_ints (lo := 0) (hi := h8.length) (.inl rfl) (by rw [maxLen_eq]; omega) z64 (.inr ⟨b8, by omega, by omega⟩)).vr
  have hsb : storeAt (h8 ++ [⟨[I 0, I 0, sl 0 0 0 0], true⟩]) h8.length 0 [I N, I H, sl h7.length 0 z.length 1] = some (h8 ++ [⟨[I N, I H, sl h7.length 0 z.length 1], true⟩]) := store_box rfl
  simp (disch := omega) [hsb]
  obtain ⟨h9, e9⟩ : ∃ h9, h9 = h8 ++ [⟨[I N, I H, sl h7.length 0 z.length 1], true⟩] := ⟨_, rfl⟩
  have g9 : Grows h8 h9 := ⟨_, e9⟩
  have k9 : h9[h8.length]? = some ⟨[I N, I H, sl h7.length 0 z.length 1], true⟩ := by rw [e9]; simp
  have l9 : h9.length = h8.length + 1 := by rw [e9]; simp
  rw [← e9]
  have f9 := g9.at f8
  have hs9 := hs8.grow g9
  clear e9 hsb
  have hc : cellsAt h9 h2.length 0 3 = some [I W, I H, sl bb 0 br.length zz] := cellsAt_all f9 rfl
  have pp9 : PtP h9 (pt h8.length 0) (N, H, z) := PtP.at k9 (vz.grow g9) (by unfold I64; omega) h64
  have md59 : Mod h.length (h.length + 1) h5' h9 := (md57.grow g8).grow g9
  have o9 := o6.draw md59 (by omega)
  simp (disch := omega) [hc]
  refine awpOps_side (x := .tmp 5) rfl rfl rfl (by simp; exact c555 h9 h.length _ (pt h8.length 0) _ hs9 (by omega) pp9 (by simp only; omega)) ?_
  rintro _ h10 ⟨⟨W', H', br'⟩, _, _, e10, md10, o10, _⟩
  have e10 : br'.length = z.length := e10
  have v1 := (o9.draw md10 (by omega)).vr
  have v2 := o10.vr
  refine ⟨?_, ?_⟩
  · simp
    exact sameAt_iff.2 (md10.2 _ (by simp only; omega) (by simp only; omega))
  subst hK
  obtain ⟨s7, rfl, _⟩ := v2.panel
  simp (disch := omega) [isOwn, resOf, resAll, resOne, aField]
  exact ⟨W, H, br, W', H', br', _, _, ⟨rfl, rfl⟩, ⟨hl, by omega⟩, md10.grows (md59.grows G5 (Nat.le_refl _)) (Nat.le_refl _), v1, v2⟩
end Am
/-! AmG8 -/
set_option linter.unusedVariables false
set_option linter.unusedSimpArgs false
set_option maxHeartbeats 4000000
set_option maxRecDepth 4000
namespace Am
open Go

theorem clash_symm (o a b : List Int) (i : Nat) : clash o b a i = clash o a b i := by
  unfold clash
  rw [Bool.eq_iff_iff]
  simp only [Bool.and_eq_true, decide_eq_true_eq]
  constructor
  · rintro ⟨h1, h2, h3⟩; exact ⟨h2, h1, fun e => h3 e.symm⟩
  · rintro ⟨h1, h2, h3⟩; exact ⟨h2, h1, fun e => h3 e.symm⟩
theorem cpre_symm (o a b : List Int) (n : Nat) : cpre o b a n = cpre o a b n := by
  unfold cpre; simp only [clash_symm]
theorem clashCode_symm (B X Y : Pan) : clashCode B Y X = clashCode B X Y := by
  unfold clashCode
  cases okP B <;> cases okP X <;> cases okP Y <;> cases sameSz B X <;> cases sameSz B Y <;> rfl
theorem clashAns_symm (B X Y : Pan) : clashAns B Y X = clashAns B X Y := by
  unfold clashAns; rw [clashCode_symm, cpre_symm]
theorem mergeCode_symm (B X Y : Pan) : mergeCode B Y X = mergeCode B X Y := by
  unfold mergeCode; rw [clashAns_symm]
theorem cpre_nil {o a b : List Int} {n : Nat} (h : cpre o a b n = []) : ∀ i < n, clash o a b i = false := by
  intro i hi
  unfold cpre at h
  rw [List.flatMap_eq_nil_iff] at h
  have := h i (by simpa using hi)
  cases q : clash o a b i
  · rfl
  · rw [q] at this; simp at this
theorem merge_symm (B X Y : Pan) : mergeAns B Y X = mergeAns B X Y := by
  unfold mergeAns
  rw [mergeCode_symm]
  by_cases e : mergeCode B X Y = 0
  · rw [if_pos e, if_pos e]
    obtain ⟨e1, e2⟩ := mergeCode_zero e
    obtain ⟨_, _, _, s1, s2⟩ := clashCode_zero e1
    obtain ⟨a1, a2⟩ := sameSz_iff.1 s1
    obtain ⟨b1, b2⟩ := sameSz_iff.1 s2
    have hm : mpre B.2.2 Y.2.2 X.2.2 B.2.2.length = mpre B.2.2 X.2.2 Y.2.2 B.2.2.length := by
      unfold mpre
      apply List.map_congr_left
      intro i hi
      have hc := cpre_nil e2 i (by simpa using hi)
      unfold clash at hc
      have hc' : ¬ (at0 X.2.2 i ≠ at0 B.2.2 i ∧ at0 Y.2.2 i ≠ at0 B.2.2 i ∧ at0 X.2.2 i ≠ at0 Y.2.2 i) := by
        rintro ⟨q1, q2, q3⟩
        simp [q1, q2, q3] at hc
      by_cases q1 : at0 X.2.2 i = at0 B.2.2 i
      · rw [if_pos q1]
        by_cases q2 : at0 Y.2.2 i = at0 B.2.2 i
        · rw [if_pos q2, q1, q2]
        · rw [if_neg q2]
      · rw [if_neg q1]
        by_cases q2 : at0 Y.2.2 i = at0 B.2.2 i
        · rw [if_pos q2]
        · rw [if_neg q2]
          by_cases q3 : at0 X.2.2 i = at0 Y.2.2 i
          · exact q3
          · exact absurd ⟨q1, q2, q3⟩ hc'
    rw [hm, ← a1, ← a2, ← b1, ← b2]
  · rw [if_neg e, if_neg e]

theorem okP_rows {W H : Nat} {l : List Int} (w : 1 ≤ W ∧ W ≤ 8) (h : 1 ≤ H ∧ H ≤ 8) (n : l.length = rowN W (2 * H)) (b : ∀ x ∈ l, 0 ≤ x ∧ x ≤ 2) : okP ((W : Int), (H : Int), l) = true := by
  refine okP_iff.2 ⟨by simp only; omega, by simp only; omega, ?_, b⟩
  simp only
  rw [n, rowN_end (by omega) (by omega) w.1 h.1]
  rfl
theorem okP_len {W H : Nat} {l : List Int} (ok : OkP ((W : Int), (H : Int), l)) : l.length = rowN W (2 * H) := by
  have n := ok.n
  have w := ok.w
  have h := ok.h
  simp only at n w h
  have := inner_row (w := W) (h := H) (by omega) (by omega) (by omega) (by omega)
  omega
theorem part_paste {P Q Y : Pan} {x y : Int} (h : pasteAns P x y Q = (Y, 0)) : partAns Y x y Q.1 Q.2.1 = (Q, 0) ∧ siz shPanel Y ≤ 1048576 := by
  obtain ⟨W, H, a⟩ := P
  obtain ⟨w, v, b⟩ := Q
  unfold pasteAns at h
  split at h
  · rename_i hok
    simp only [Bool.and_eq_true] at hok
    have o1 := okP_iff.1 hok.1
    have o2 := okP_iff.1 hok.2
    split at h
    · rename_i hp
      simp only [Prod.mk.injEq, and_true] at h
      have hq := hasPart_iff.1 hp
      have q1 := o1.w; have q2 := o1.h; have q3 := o2.w; have q4 := o2.h
      simp only at q1 q2 q3 q4 hq
      obtain ⟨W, rfl⟩ := Int.eq_ofNat_of_zero_le (show 0 ≤ W by omega)
      obtain ⟨H, rfl⟩ := Int.eq_ofNat_of_zero_le (show 0 ≤ H by omega)
      obtain ⟨w, rfl⟩ := Int.eq_ofNat_of_zero_le (show 0 ≤ w by omega)
      obtain ⟨v, rfl⟩ := Int.eq_ofNat_of_zero_le (show 0 ≤ v by omega)
      obtain ⟨x, rfl⟩ := Int.eq_ofNat_of_zero_le (show 0 ≤ x by omega)
      obtain ⟨y, rfl⟩ := Int.eq_ofNat_of_zero_le (show 0 ≤ y by omega)
      have n2 := okP_len o2
      subst h
      unfold pasteP
      simp only [Int.toNat_natCast]
      obtain ⟨l, hl⟩ : ∃ l, l = fillG (at0 a) (pasteF W H w x y b) (inPart W H w v x y (rowN w (2 * v))) (rowN W (2 * H)) := ⟨_, rfl⟩
      rw [← hl]
      have ll : l.length = rowN W (2 * H) := by rw [hl, fillG_len]
      have lb : ∀ z ∈ l, 0 ≤ z ∧ z ≤ 2 := by
        intro z hz
        rw [hl] at hz
        unfold fillG at hz
        obtain ⟨j, _, rfl⟩ := List.mem_map.1 hz
        split
        · exact at0_rng o2.b _
        · exact at0_rng o1.b _
      have okY := okP_rows (W := W) (H := H) (by omega) (by omega) ll lb
      have hY : hasPart ((W : Int), (H : Int), l) x y w v = true := hasPart_iff.2 (by simp only; exact hq)
      refine ⟨?_, ?_⟩
      · unfold partAns
        rw [okY, hY]
        simp only [if_true]
        unfold partP
        simp only [Int.toNat_natCast]
        have : (List.range (rowN w (2 * v))).map (prt l W w v x y) = b := by
          apply List.ext_getElem
          · simp [n2]
          · intro k h1 h2
            simp only [List.length_map, List.length_range] at h1
            rw [List.getElem_map, List.getElem_range]
            obtain ⟨px, py, hpt⟩ := IsPt.ex (W := w) (H := v) (by omega) (by omega) h1
            obtain ⟨d1, d2, d3⟩ := hpt.bd
            have d4 := hpt.y1
            have d5 := hpt.y2
            unfold prt
            rw [thePt_eq hpt]
            simp only
            have hN := numP_pt (W := W) (H := H) (x := px + 2 * x) (y := py + 2 * y) (by omega) (by omega) (by omega)
            have hlt := numP_lt (W := W) (H := H) (x := px + 2 * x) (y := py + 2 * y) (by omega) (by omega) (by omega)
            rw [at0_of (by omega)]
            have e : l[numP W (px + 2 * x) (py + 2 * y)]'(by omega) = (fillG (at0 a) (pasteF W H w x y b) (inPart W H w v x y (rowN w (2 * v))) (rowN W (2 * H)))[numP W (px + 2 * x) (py + 2 * y)]'(by rw [fillG_len]; exact hlt) := by simp only [hl]
            rw [e]
            unfold fillG
            rw [List.getElem_map, List.getElem_range]
            have hin : inPart W H w v x y (rowN w (2 * v)) (numP W (px + 2 * x) (py + 2 * y)) = true := by
              unfold inPart
              rw [thePt_eq hN, decide_eq_true_eq]
              simp only
              refine ⟨by omega, by omega, by omega, by omega, ?_⟩
              rw [Nat.add_sub_cancel, Nat.add_sub_cancel, hpt.num]; exact h1
            rw [if_pos hin, ← paste_fits (W := W) (H := H) (by omega) (by omega) (by omega) (by omega) k px py hpt h1, at0_of h2]
        rw [this]
      · rw [siz_panel, ll]
        have := rowN_le (W := W) (by omega) (y := 2 * H) (by omega)
        omega
    · simp at h
  · simp at h
theorem join_count {X Y J : Pan} (h : joinAns X Y = (J, 0)) : curveA X = ((curveN X : Int), 0) ∧ curveA Y = ((curveN Y : Int), 0) ∧ curveA J = ((curveN X + curveN Y : Int), 0) ∧ siz shPanel J ≤ 1048576 := by
  unfold joinAns at h
  split at h
  · rename_i hok
    simp only [Bool.and_eq_true] at hok
    have o1 := okP_iff.1 hok.1
    have o2 := okP_iff.1 hok.2
    split at h
    · rename_i hH
      split at h
      · rename_i hle
        simp only [Prod.mk.injEq, and_true] at h
        have hc := curve_joinP o1 o2 hH
        subst h
        have okJ : okP (joinP X Y) = true := by
          obtain ⟨A, H, a⟩ := X
          obtain ⟨B, H', b⟩ := Y
          have q1 := o1.w; have q2 := o1.h; have q3 := o2.w
          simp only at q1 q2 q3 hH hle
          subst hH
          obtain ⟨A, rfl⟩ := Int.eq_ofNat_of_zero_le (show 0 ≤ A by omega)
          obtain ⟨B, rfl⟩ := Int.eq_ofNat_of_zero_le (show 0 ≤ B by omega)
          obtain ⟨H, rfl⟩ := Int.eq_ofNat_of_zero_le (show 0 ≤ H by omega)
          unfold joinP
          simp only [Int.toNat_natCast]
          rw [← Int.natCast_add]
          refine okP_rows (by omega) (by omega) (by simp) ?_
          intro z hz
          obtain ⟨j, _, rfl⟩ := List.mem_map.1 hz
          exact joinF_rng o1.b o2.b j
        refine ⟨by simp [curveA, hok.1], by simp [curveA, hok.2], ?_, ?_⟩
        · unfold curveA; rw [if_pos okJ, hc]; simp
        · have := (okP_iff.1 okJ).siz
          rw [show joinP X Y = ((joinP X Y).1, (joinP X Y).2.1, (joinP X Y).2.2) from rfl, siz_panel]; omega
      · simp at h
    · simp at h
  · simp at h
end Am
