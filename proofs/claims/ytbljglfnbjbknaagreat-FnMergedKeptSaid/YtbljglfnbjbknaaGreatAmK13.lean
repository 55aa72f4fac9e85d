/- Contracts: AmV3, AmV4, AmV5, AmV6, AmV7, AmV8, AmV9. -/
import Derived.Test.YtbljglfnbjbknaaGreatAmK12
import Derived.Test.YtbljglfnbjbknaaGreatAmK4
import Derived.Test.YtbljglfnbjbknaaGreatAmK7
import Derived.Test.YtbljglfnbjbknaaGreatAmK9
import Derived.Test.YtbljglfnbjbknaaGreatAmK11
set_option linter.unusedVariables false
set_option linter.unusedSimpArgs false
set_option maxHeartbeats 4000000
set_option maxRecDepth 40000
namespace Am
open Go
theorem c434 (h : Heap) (a b : Int) : ACall Gam 434 [I a, I b] h fun r h' => r = I (min a b) ∧ h' = h := by
 refine ACall_intro g434 rfl ?_
 unfold fn434
 simp (disch := omega)
 refine fork_dec (fun h1 => ?_) (fun h1 => ?_)
 ·simp (disch := omega)
  omega
 ·simp (disch := omega)
  omega
theorem c499 (h : Heap) : ACall Gam 499 [I 2, I 3] h fun r h' => r = I 2187 ∧ h' = h := by
 refine ACall_intro g499 rfl ?_
 unfold fn499
 simp (disch := omega)
 refine callW_of (c448 2 3 (by omega) (by omega) h) ?_
 rintro _ h1 ⟨rfl, rfl⟩
 try refine ⟨fun e => (by cases e), ?_⟩
 have e7 : inner 2 3 = 7 := by decide
 rw [e7]
 try simp (disch := omega)
 refine awp_loop (fun (i : Nat) σ h' => i ≤ 7 ∧ h' = h1 ∧ σ 5 = I ((3 ^ i : Nat) : Int) ∧ σ 6 = I (7 - (i : Int))) (fun (i : Nat) => 7 - i) 0 ?_ ?_
 ·simp
 ·rintro i σ h' ⟨hi, rfl, p5, p6⟩
  simp (disch := omega) [p6]
  refine fork_dec (fun hlt => ?_) (fun hge => ?_)
  ·have i1 : i < 7 := by omega
   have hb : 3 ^ (i + 1) ≤ 3 ^ 7 := Nat.pow_le_pow_right (by omega) (by omega)
   have e3 : 3 ^ (i + 1) = 3 * 3 ^ i := by rw [Nat.pow_succ]; omega
   obtain ⟨n, hn⟩ : ∃ n, n = 3 ^ i := ⟨_, rfl⟩
   rw [← hn] at p5 e3
   have hb' : 3 * n ≤ 2187 := by rw [← e3]; exact hb
   simp (disch := omega) [p5, wrap64]
   refine callW_of (c434 _ _ _) ?_
   rintro _ h2 ⟨rfl, rfl⟩
   try refine ⟨fun e => (by cases e), ?_⟩
   have em : min (2501 : Int) (3 * (n : Int)) = ((3 ^ (i + 1) : Nat) : Int) := by rw [e3]; omega
   rw [em]
   simp (disch := omega) [p6, wrap64]
   exact ⟨i + 1, ⟨by omega, rfl, by omega⟩, by omega⟩
  ·have : i = 7 := by omega
   subst this
   simp (disch := omega) [p5]
theorem c498 (h : Heap) (hp : 0 < h.length) (n : Nat) (hn : n ≤ 100000) : ACall Gam 498 [I 2, I 3, I n] h fun r h' => ∃ P : Pan, OkP P ∧ Grows h h' ∧ Vo h' h.length h'.length shPanel r P := by
 refine ACall_intro g498 rfl ?_
 unfold fn498
 rw [awp_seq, awp_reg]
 generalize hK : seqQ Gam _ _ 0 = K
 simp (disch := omega)
 subst hK
 simp only [seqQ_zero]
 rw [awp_seq, awp_reg]
 generalize hK : seqQ Gam _ _ 0 = K
 simp (disch := omega)
 refine callW_of (c450s h 2 3 (by omega) (by omega)) ?_
 rintro _ h1 ⟨rfl, e1⟩
 have g1 : Grows h h1 := ⟨_, e1⟩
 try refine ⟨fun e => (by first | exact g1 | cases e), ?_⟩
 have e7 : (inner 2 3).toNat = 7 := by decide
 rw [e7] at e1 ⊢
 have b1 : h1[h.length]? = some ⟨ints (List.replicate 7 0), true⟩ := by rw [e1]; simp
 obtain ⟨bb, ebb⟩ : ∃ bb, bb = h.length := ⟨_, rfl⟩
 rw [← ebb] at b1 ⊢
 simp (disch := omega)
 subst hK
 simp only [seqQ_zero]
 rw [awp_seq]
 generalize hK : seqQ Gam _ _ = K
 simp (disch := omega) [wrap64]
 refine awp_loop (fun (i : Nat) σ h' => i ≤ 7 ∧ Grows h h' ∧ σ 6 = .agg #[I 0, I 0, sl 0 0 0 0] ∧ σ 7 = .agg #[I 2, I 3, sl bb 0 7 1] ∧ σ 8 = I (6 - (i : Int)) ∧ ∃ (k : Nat) (l : List Int), σ 2 = I k ∧ k ≤ 100000 ∧ h'[bb]? = some ⟨ints l, true⟩ ∧ l.length = 7 ∧ ∀ x ∈ l, 0 ≤ x ∧ x ≤ 2) (fun (i : Nat) => 7 - i) 0 ?_ ?_
 ·refine ⟨by omega, g1, by simp, by simp, by simp, n, List.replicate 7 0, by simp, hn, b1, by simp, ?_⟩
  intro x hx
  have := List.eq_of_mem_replicate hx
  omega
 ·rintro i σ h' ⟨hi, g, p6, p7, p8, k, l, p2, hk, bk, ll, lr⟩
  simp (disch := omega) [p8]
  refine fork_dec (fun hlt => ?_) (fun hge => ?_)
  ·have i1 : i < 7 := by omega
   obtain ⟨j, hj⟩ : ∃ j, j + i = 6 := ⟨6 - i, by omega⟩
   have ej : (6 : Int) - i = (j : Int) := by omega
   have j1 : j < 7 := by omega
   have j2 : (j : Int) < 7 := by omega
   obtain ⟨d, hd⟩ : ∃ d : Int, d = ((k % 3 : Nat) : Int) := ⟨_, rfl⟩
   obtain ⟨q, hq⟩ : ∃ q : Nat, q = k / 3 := ⟨_, rfl⟩
   have t1 : (k : Int).tmod 3 = d := by rw [hd]; rfl
   have t2 : (k : Int).tdiv 3 = (q : Int) := by rw [hq]; rfl
   have st := store_int (v := d) bk (k := j) (by omega)
   simp (disch := omega) [p2, p7, p8, ej, j1, j2, t1, t2, st, wrap64]
   refine ⟨i + 1, ⟨by omega, g.put (by omega) _, by simp [p6], by omega, q, rfl, by omega, l.set j d, (by rw [List.getElem?_set_self (at_lt bk)]), by simp [ll], ?_⟩, by omega⟩
   ·intro x hx
    rcases List.mem_or_eq_of_mem_set hx with hx | rfl
    ·exact lr x hx
    ·omega
  ·have : i = 7 := by omega
   subst this
   have vo : Vo h' h.length h'.length shPanel (.agg #[I 2, I 3, sl bb 0 7 1]) ((2, 3, l) : Pan) := by
    have o := Vo.of_ints (h := h') (b := bb) (lo := h.length) (hi := h'.length) (z := 1) (X := l) (.inl rfl) (by rw [maxLen_eq]; omega) (fun x hx => by have := lr x hx; unfold I64; omega) (.inr ⟨bk, by omega, at_lt bk⟩)
    rw [ll] at o
    exact Vo.of_panel (by unfold I64; omega) (by unfold I64; omega) o
   have okP : OkP ((2, 3, l) : Pan) := ⟨by simp only; omega, by simp only; omega, by simp only [ll]; decide, lr⟩
   simp (disch := omega)
   subst hK
   simp (disch := omega) [p6, p7, resOf, resAll, resOne, aField]
   exact ⟨_, _, _, okP, g, vo⟩
/-- Entries of a wide library. -/
def Wd (L : List Row) : Prop := ∀ q ∈ L, OkP q.1.2 ∧ q.1.1.length = 3
theorem c546 (h : Heap) (hp : 0 < h.length) (m : Nat) (hm : m ≤ 100) : ACall Gam 546 [I m] h fun r h' => Grows h h' ∧ ∃ L : List Row, KB h h' r L ∧ L.length ≤ m ∧ Wd L := by
 refine ACall_intro g546 rfl ?_
 unfold fn546
 rw [awp_seq, awp_reg]
 generalize hK : seqQ Gam _ _ 0 = K
 simp (disch := omega)
 subst hK
 simp only [seqQ_zero]
 rw [awp_seq, awp_reg]
 generalize hK : seqQ Gam _ _ 0 = K
 simp (disch := omega)
 subst hK
 simp only [seqQ_zero]
 rw [awp_seq]
 generalize hK : seqQ Gam _ _ = K
 simp (disch := omega)
 refine awp_loop (fun (n : Nat) σ h' => n ≤ 2187 ∧ Grows h h' ∧ σ 0 = I m ∧ σ 4 = I n ∧ ∃ L, KB h h' (σ 3) L ∧ L.length ≤ m ∧ Wd L) (fun (n : Nat) => 2187 - n) 0 ?_ ?_
 ·exact ⟨by omega, Grows.refl _, by simp, by simp, [], by simpa using KB.nil, by simp, by simp [Wd]⟩
 ·rintro n σ h' ⟨hn, g, p0, p4, L, kb, hl, wd⟩
  obtain ⟨lb, e3⟩ := kb.len
  have fin : ∀ σ' : Nat → Value, σ' 3 = σ 3 → K 0 σ' h' := by
   intro σ' q3
   subst hK
   rw [e3] at q3
   simp (disch := omega) [q3]
   rw [e3] at kb
   exact ⟨g, L, kb, hl, wd⟩
  have hpp := pos_of hp g
  by_cases hlm : L.length < m
  rotate_left
  ·have h1 : ¬ (L.length : Int) < m := by omega
   simp (disch := omega) [e3, p0, hlm, h1]
   exact fin _ (by simp [e3])
  have h1 : (L.length : Int) < m := by omega
  simp (disch := omega) [e3, p0, hlm, h1, p4]
  refine callW_of (c499 h') ?_
  rintro _ hx ⟨rfl, rfl⟩
  try refine ⟨fun e => (by cases e), ?_⟩
  simp (disch := omega)
  refine fork_dec (fun hlt => ?_) (fun hge => ?_)
  rotate_left
  ·simp (disch := omega)
   exact fin _ (by simp [e3])
  clear fin
  simp (disch := omega) [p4]
  refine callW_of (c498 hx hpp n (by omega)) ?_
  rintro _ h2 ⟨⟨W, H, br⟩, okP', g2, oP⟩
  try refine ⟨fun e => (by first | exact g2 | cases e), ?_⟩
  have hp2 := pos_of hpp g2
  obtain ⟨s, rfl, w64, h64, oI⟩ := oP.panel
  have hsb : storeAt (h2 ++ [⟨[I 0, I 0, sl 0 0 0 0], true⟩]) h2.length 0 [I W, I H, s] = some (h2 ++ [⟨[I W, I H, s], true⟩]) := store_box rfl
  obtain ⟨ib, iz, es, _⟩ := oI.ints
  subst es
  simp (disch := omega) [hsb]
  obtain ⟨h3, e3'⟩ : ∃ h3, h3 = h2 ++ [⟨[I W, I H, sl ib 0 br.length iz], true⟩] := ⟨_, rfl⟩
  have g3 : Grows h2 h3 := ⟨_, e3'⟩
  have f3 : h3[h2.length]? = some ⟨[I W, I H, sl ib 0 br.length iz], true⟩ := by rw [e3']; simp
  rw [← e3']
  clear e3' hsb
  have oP3 := oP.grow g3
  have pp3 : PtP h3 (pt h2.length 0) (W, H, br) := PtP.at f3 (oI.vr.grow g3) w64 h64
  have hp3 := pos_of hp2 g3
  refine callW_of (c476 h3 hp3 _ (W, H, br) pp3 okP') ?_
  rintro _ h4 ⟨g4, oC⟩
  try refine ⟨fun e => (by first | exact g4 | cases e), ?_⟩
  have hp4 := pos_of hp3 g4
  obtain ⟨C, hC⟩ : ∃ C, C = canonP (W, H, br) := ⟨_, rfl⟩
  rw [← hC] at oC
  obtain ⟨W2, H2, br2⟩ := C
  obtain ⟨s2, rfl, w264, h264, oI2⟩ := oC.panel
  obtain ⟨ib2, iz2, es, _⟩ := oI2.ints
  subst es
  have hsb : storeAt (h4 ++ [⟨[I 0, I 0, sl 0 0 0 0], true⟩]) h4.length 0 [I W2, I H2, sl ib2 0 br2.length iz2] = some (h4 ++ [⟨[I W2, I H2, sl ib2 0 br2.length iz2], true⟩]) := store_box rfl
  simp (disch := omega) [hsb]
  obtain ⟨h5, e5⟩ : ∃ h5, h5 = h4 ++ [⟨[I W2, I H2, sl ib2 0 br2.length iz2], true⟩] := ⟨_, rfl⟩
  have g5 : Grows h4 h5 := ⟨_, e5⟩
  have f5 : h5[h4.length]? = some ⟨[I W2, I H2, sl ib2 0 br2.length iz2], true⟩ := by rw [e5]; simp
  rw [← e5]
  clear e5 hsb
  have pp5 : PtP h5 (pt h4.length 0) (W2, H2, br2) := PtP.at f5 (oI2.vr.grow g5) w264 h264
  have g35 := g4.trans g5
  refine callW_of (c456 h5 _ _ (W2, H2, br2) (W, H, br) pp5 (pp3.grow g35)) ?_
  rintro _ hy ⟨rfl, rfl⟩
  try refine ⟨fun e => (by cases e), ?_⟩
  have G : Grows h hy := ((g.trans g2).trans g3).trans g35
  cases hsame : samP (W2, H2, br2) (W, H, br)
  ·simp (disch := omega) [p0, p4, wrap64]
   exact ⟨n + 1, ⟨by omega, G, by omega, L, kb.grow (((g2.trans g3).trans g35)), hl, wd⟩, by omega⟩
  ·have f6 : hy[h2.length]? = some ⟨[I W, I H, sl ib 0 br.length iz], true⟩ := g35.at f3
   have hc6 : cellsAt hy h2.length 0 3 = some [I W, I H, sl ib 0 br.length iz] := cellsAt_all f6 rfl
   obtain ⟨k, hk⟩ : ∃ k, k = L.length := ⟨_, rfl⟩
   have t1 : (k : Int).tdiv 26 = ((k / 26 : Nat) : Int) := rfl
   have t2 : (k : Int).tmod 26 = ((k % 26 : Nat) : Int) := rfl
   obtain ⟨a, ha⟩ : ∃ a : UInt8, a = UInt8.ofNat (97 + k / 26) := ⟨_, rfl⟩
   obtain ⟨b, hb⟩ : ∃ b : UInt8, b = UInt8.ofNat (97 + k % 26) := ⟨_, rfl⟩
   have a1 : a.toNat = 97 + k / 26 := by rw [ha]; simp [UInt8.toNat_ofNat]; omega
   have b1 : b.toNat = 97 + k % 26 := by rw [hb]; simp [UInt8.toNat_ofNat]; omega
   rw [← hk] at e3
   have wa : IntKind.u8.wrap (97 + (k : Int) / 26) = (a.toNat : Int) := by rw [wrap8 (by omega) (by omega)]; omega
   have wb : IntKind.u8.wrap (97 + (k : Int) % 26) = (b.toNat : Int) := by rw [wrap8 (by omega) (by omega)]; omega
   obtain ⟨h7, e7⟩ : ∃ h7, h7 = hy ++ [⟨bytesV [a, b], true⟩] := ⟨_, rfl⟩
   have g7 : Grows hy h7 := ⟨_, e7⟩
   have f7 : h7[hy.length]? = some ⟨bytesV [a, b], true⟩ := by rw [e7]; simp
   have bs : aBuildSlice 1 2 hy [(0, .agg #[U 0, U 0]), (1, U a.toNat), (1001, U b.toNat)] = some (sl hy.length 0 2 1, h7) := by
    rw [e7]; simp [aBuildSlice, bytesV]
   have cv := text_pre f7 (n := 2) (by simp)
   have c7 : cellsAt h7 h2.length 0 3 = some [I W, I H, sl ib 0 br.length iz] := cellsAt_all (g7.at f6) rfl
   have tk : List.take 2 [a, b] = [a, b] := rfl
   rw [tk] at cv
   simp (disch := omega) [e3, wrap64, t1, t2, wa, wb, bs, cv, c7]
   rw [hk] at e3
   rw [hk, ← e3]
   refine kb_snoc (n := [112, a, b]) (W := W) (H := H) (br := br) hp kb g (((g2.trans g3).trans g35).trans g7) ?_ (by rw [maxLen_eq]; simp) (by omega) ?_
   ·exact ((oP3.grow g35).grow g7).wide (Nat.le_refl _) ((g3.trans g35).trans g7).le
   ·intro v8 h8 r g8 kb8 er
    simp (disch := omega) [p0, p4, wrap64]
    refine ⟨n + 1, ⟨by omega, g8, by omega, L ++ [r], kb8, by simp; omega, ?_⟩, by omega⟩
    intro q hq
    rcases List.mem_append.1 hq with hq | hq
    ·exact wd q hq
    ·simp at hq; subst hq
     rw [er]; exact ⟨okP', rfl⟩
theorem rowsC_split {L : List Row} {i : Nat} (hi : i < L.length) : rowsC L = rowsC (L.take i) ++ (rowC L[i] ++ rowsC (L.drop (i + 1))) ∧ (rowsC (L.take i)).length = i * 4 := by
 have e : L = L.take i ++ L[i] :: L.drop (i + 1) := by rw [← List.drop_eq_getElem_cons hi, List.take_append_drop]
 refine ⟨?_, by rw [rowsC_len, List.length_take]; omega⟩
 conv => lhs; rw [e]
 rw [rowsC_append, rowsC_cons]
theorem row_store {h : Heap} {b i o : Nat} {L : List Row} {r : Row} {vs : List Value} (hb : h[b]? = some ⟨rowsC L, true⟩) (hi : i < L.length) (ho : o + vs.length ≤ 4) (hr : rowC r = splice (rowC L[i]) o vs) : storeAt h b (i * 4 + o) vs = some (h.set b ⟨rowsC (L.set i r), true⟩) := by
 obtain ⟨e, l1⟩ := rowsC_split hi
 have l2 := rowsC_len L
 have l3 : (rowC L[i]).length = 4 := rfl
 unfold storeAt
 rw [hb]
 simp only
 rw [if_pos ⟨trivial, by rw [l2]; omega⟩]
 congr 3
 have e2 : L.set i r = L.take i ++ r :: L.drop (i + 1) := by rw [List.set_eq_take_append_cons_drop, if_pos hi]
 rw [e2, rowsC_append, rowsC_cons, hr, e]
 unfold splice
 rw [← l1, List.take_length_add_append, List.take_append_of_le_length (by omega), Nat.add_assoc, List.drop_length_add_append, List.drop_append_of_le_length (by omega)]
 simp only [List.append_assoc]
theorem DK.put {h : Heap} {lo lo' b z i : Nat} {L : List Row} {r : Row} (d : DK h lo lo' (Am.sl b 0 L.length z) L) (hb : h[b]? = some ⟨rowsC L, true⟩) (hz : z = 4) (hlo : lo' ≤ b) (hi : i < L.length) (hr : EntO h r ∧ ∀ c ∈ rowB r, lo ≤ c) : DK (h.set b ⟨rowsC (L.set i r), true⟩) lo lo' (Am.sl b 0 L.length z) (L.set i r) := by
 subst hz
 have hne : L ≠ [] := by intro e; subst e; simp at hi
 refine ⟨.inr ⟨b, by simp, hlo, by rw [List.getElem?_set_self (at_lt hb)]⟩, fun q hq => ?_⟩
 have key : ∀ q, EntO h q → EntO (h.set b ⟨rowsC (L.set i r), true⟩) q := by
  intro q e
  have nb := row_first e hb hne
  exact e.frame fun c hc => by rw [set_other (fun e => nb (by rw [← e]; exact hc))]
 rcases List.mem_or_eq_of_mem_set hq with hq | rfl
 ·exact ⟨key q (d.row q hq).1, (d.row q hq).2⟩
 ·exact ⟨key q hr.1, hr.2⟩
theorem DK.of_kb {h0 h : Heap} {v : Value} {L : List Row} (k : KB h0 h v L) : DK h h0.length h0.length v L := by
 have hl := rowsC_len L
 refine ⟨?_, fun r hr => ⟨k.el r hr, k.rg r hr⟩⟩
 rcases k.b with ⟨e1, e2⟩ | ⟨b, n, e1, e2, e3, e4⟩
 ·left
  have : L = [] := by rw [e1] at hl; simp at hl; exact List.length_eq_zero_iff.1 (by omega)
  exact ⟨this, _, e2⟩
 ·right
  rw [hl] at e2
  have : n = L.length := by omega
  subst this
  exact ⟨b, e1, e3, e4⟩
/-- Rows of bounded size. -/
def SmR (L : List Row) : Prop := ∀ q ∈ L, q.1.1.length ≤ 12 ∧ q.1.2.2.2.length ≤ 200
theorem smr_siz {L : List Row} {n : Nat} (hl : L.length ≤ n) (hs : SmR L) : siz shKepts (L.map (·.1)) ≤ 250 * n := by
 have key : ∀ Y : List Row, SmR Y → (Y.map (·.1)).length + sizL (Y.map (·.1)) ≤ 250 * Y.length := by
  intro Y
  induction Y with
  | nil => intro _; simp [sizL]
  | cons y Y ih =>
   intro hy
   have h1 := ih fun z hz => hy z (by simp [hz])
   obtain ⟨a, b⟩ := hy y (by simp)
   have h3 : siz shKept y.1 = y.1.1.length + y.1.2.2.2.length := siz_kept _ _ _ _
   have h4 : sizL ((y :: Y).map (·.1)) = siz shKept y.1 + sizL (Y.map (·.1)) := by simp [sizL]
   rw [h4, h3]
   simp only [List.length_cons, List.length_map] at h1 ⊢; omega
 have := key L hs
 rw [siz_kepts]; omega
theorem good_smr {L : List Row} (g : KGood (L.map (·.1))) : SmR L := by
 intro q hq
 have ok := good_iff.2 g
 obtain ⟨a, b⟩ := ok.small q.1 (List.mem_map.2 ⟨q, hq, rfl⟩)
 exact ⟨a, by omega⟩
theorem wd_smr {L : List Row} (w : Wd L) : SmR L := by
 intro q hq
 obtain ⟨a, b⟩ := w q hq
 have := a.siz
 exact ⟨by omega, by omega⟩
theorem Mod.own2 {b lb : Nat} {h h1 : Heap} {k : Blk} (x : Mod b (b + 1) h h1) (h0 : 0 < 1) (hl : h.length ≤ lb) : Mod b (b + 1) h (h1.set lb k) :=
 ⟨by have := x.1; simpa using this, fun c hc hn => by rw [set_other (by omega)]; exact x.2 c hc hn⟩
theorem Src.set2 {h : Heap} {b m m' lb : Nat} {k : Blk} (x : Src h b m) (hm : m ≤ m') (hl : b < lb) : Src (h.set lb k) b m' :=
 (x.mod (lo := lb) (hi := lb + 1) ⟨by simp, fun c hc hn => by rw [set_other (by omega)]⟩ hl).mono hm
theorem c536 (h : Heap) (b m : Nat) (hs : Src h b m) (hm : m ≤ 100000) (hb : b < h.length) (hp : 0 < b) : ACall Gam 536 [pt b 0] h fun r h' => ∃ L : List Row, (L.length ≤ 60 ∧ SmR L) ∧ Mod b (b + 1) h h' ∧ DK h' h.length h.length r L ∧ Src h' b (m + 10000) := by
 refine ACall_intro g536 rfl ?_
 unfold fn536
 rw [awp_seq, awp_reg]
 generalize hK : seqQ Gam _ _ 0 = K
 simp (disch := omega)
 subst hK
 simp only [seqQ_zero]
 rw [awp_seq]
 generalize hK : seqQ Gam _ _ = K
 simp (disch := omega)
 refine callW_of (c6 h b m 30 hs (by omega) (by unfold I64; omega)) ?_
 rintro _ h1 ⟨w, rfl, md1, l1, hs1⟩
 try refine ⟨fun e => (by cases e), ?_⟩
 cases w
 rotate_left
 ·simp (disch := omega)
  refine callW_of (c7 h1 b _ 2 hs1 (by omega) (by unfold I64; omega)) ?_
  rintro _ h2 ⟨q, rfl, _, q1, md2, l2, hs2⟩
  try refine ⟨fun e => (by cases e), ?_⟩
  have q2 := q1 (by omega)
  obtain ⟨n, en⟩ : ∃ n : Nat, n = 40 + q := ⟨_, rfl⟩
  have en' : (40 : Int) + q = (n : Int) := by omega
  simp (disch := omega) [wrap64, en']
  refine callW_of (c546 h2 (by omega) n (by omega)) ?_
  rintro v3 h3 ⟨g3, L, kb, hl, wd⟩
  try refine ⟨fun e => (by first | exact g3 | cases e), ?_⟩
  have d := (DK.of_kb kb).low (show h.length ≤ h2.length by omega) (show h.length ≤ h2.length by omega)
  obtain ⟨lb, lz, e3, _⟩ := d.sl
  subst e3
  try simp (disch := omega)
  subst hK
  simp (disch := omega)
  exact ⟨L, ⟨by omega, wd_smr wd⟩, (md1.trans md2).trans g3.mod, d, (hs2.grow g3).mono (by omega)⟩
 simp (disch := omega)
 subst hK
 simp only [seqQ_zero]
 rw [awp_seq, awp_reg]
 generalize hK : seqQ Gam _ _ 0 = K
 simp (disch := omega)
 refine callW_of (c537 h1 b _ hs1 (by omega) (by omega) hp) ?_
 rintro v3 h2 ⟨L, gL, md2, d2, hs2⟩
 try refine ⟨fun e => (by cases e), ?_⟩
 rw [l1] at d2
 have md02 := md1.trans md2
 have sm := good_smr gL
 have gl := gL.len
 simp at gl
 obtain ⟨lb, lz, rfl, _, hlb⟩ := d2.sl
 try simp (disch := omega)
 subst hK
 simp only [seqQ_zero]
 rw [awp_seq]
 generalize hK : seqQ Gam _ _ = K
 by_cases h0 : L.length = 0
 ·simp (disch := omega) [h0]
  subst hK
  rw [h0] at d2
  simp (disch := omega)
  exact ⟨L, ⟨by omega, sm⟩, md02, d2, hs2.mono (by omega)⟩
 have hne : L ≠ [] := by intro e; subst e; simp at h0
 obtain ⟨rfl, lb1, lb2⟩ := hlb.resolve_left hne
 have h0' : ¬ (L.length : Int) = 0 := by omega
 simp (disch := omega) [h0, h0']
 subst hK
 simp only [seqQ_zero]
 rw [awp_seq, awp_reg]
 generalize hK : seqQ Gam _ _ 0 = K
 simp (disch := omega)
 have lpos : 0 < L.length := by omega
 refine callW_of (c7 h2 b _ L.length hs2 (by omega) (by unfold I64; omega)) ?_
 rintro _ h3 ⟨at_, rfl, a1, a2, md3, l3, hs3⟩
 try refine ⟨fun e => (by cases e), ?_⟩
 have hat : at_ < L.length := by
  by_cases q : 1 < (L.length : Int)
  ·have := a2 q; omega
  ·have := a1 (by omega); omega
 try simp (disch := omega)
 subst hK
 simp only [seqQ_zero]
 rw [awp_seq]
 generalize hK : seqQ Gam _ _ = K
 have md03 := md02.trans md3
 have d3 := d2.mod md3 hb hb
 have lb3 : h3[lb]? = some ⟨rowsC L, true⟩ := by rw [md3.2 lb (at_lt lb2) (by omega)]; exact lb2
 have tail : ∀ (σ' : Nat → Value) (h4 : Heap) (L' : List Row), σ' 3 = σ' 3 → L'.length ≤ 60 → SmR L' → Mod b (b + 1) h h4 → DK h4 h.length h.length (σ' 3) L' → Src h4 b (m + 10000) → K 0 σ' h4 := by
  intro σ' h4 L' _ hl hsm md4 d4 hs4
  obtain ⟨cb, cz, e3, _⟩ := d4.sl
  rw [e3] at d4
  subst hK
  simp (disch := omega) [e3]
  exact ⟨L', ⟨hl, hsm⟩, md4, d4, hs4⟩
 rw [awp_seq, awp_reg]
 generalize hK2 : seqQ Gam _ _ 0 = K2
 simp (disch := omega)
 refine callW_of (c7 h3 b _ 20 hs3 (by omega) (by unfold I64; omega)) ?_
 rintro _ h4 ⟨k, rfl, _, k1, md4, l4, hs4⟩
 try refine ⟨fun e => (by cases e), ?_⟩
 have k2 := k1 (by omega)
 have md04 := md03.trans md4
 have d4 := d3.mod md4 hb hb
 have lb4 : h4[lb]? = some ⟨rowsC L, true⟩ := by rw [md4.2 lb (at_lt lb3) (by omega)]; exact lb3
 try simp (disch := omega)
 subst hK2
 simp only [seqQ_zero]
 rw [awp_block]
 have tail' : ∀ (σ' : Nat → Value) (h4 : Heap) (L' : List Row), L'.length ≤ 60 → SmR L' → Mod b (b + 1) h h4 → DK h4 h.length h.length (σ' 3) L' → Src h4 b (m + 10000) → blockQ 0 K 0 σ' h4 := by
  intro σ' h4 L' hl hsm md4 d4 hs4
  rw [blockQ_eq, if_neg (by omega)]
  exact tail σ' h4 L' rfl hl hsm md4 d4 hs4
 clear tail
 generalize blockQ 0 K = B1 at tail' ⊢
 have hat' : (at_ : Int) < L.length := by omega
 have er := (d4.row L[at_] (List.getElem_mem hat))
 have sr := sm L[at_] (List.getElem_mem hat)
 have smset : ∀ r : Row, r.1.1.length ≤ 12 → r.1.2.2.2.length ≤ 200 → SmR (L.set at_ r) := by
  intro r x1 x2 q hq
  rcases List.mem_or_eq_of_mem_set hq with hq | rfl
  ·exact sm q hq
  ·exact ⟨x1, x2⟩
 by_cases e0 : k = 0
 ·subst e0
  simp (disch := omega)
  refine callW_of (c540 h4 b _ hs4 (by omega) (by have := md04.1; omega)) ?_
  rintro _ h5 ⟨s, rfl, sl5, md5, hs5⟩
  try refine ⟨fun e => (by cases e), ?_⟩
  have d5 := d4.mod md5 hb hb
  have lb5 : h5[lb]? = some ⟨rowsC L, true⟩ := by rw [md5.2 lb (at_lt lb4) (by omega)]; exact lb4
  have er5 := (d5.row L[at_] (List.getElem_mem hat))
  have st := row_store (o := 0) (r := ((s, L[at_].1.2), L[at_].2)) (vs := [S s]) lb5 hat (by simp) (by simp [splice, rowC, rowS, rbr])
  simp only [Nat.add_zero] at st
  simp (disch := omega) [hat, hat', st]
  have hr : EntO h5 ((s, L[at_].1.2), L[at_].2) := ⟨er5.1.z, er5.1.m, er5.1.x, er5.1.b, er5.1.w, er5.1.h, by rw [maxLen_eq]; simp only; omega⟩
  have d6 := d5.put lb5 rfl lb1 hat ⟨hr, er5.2⟩
  have md6 : Mod b (b + 1) h (h5.set lb ⟨rowsC (L.set at_ ((s, L[at_].1.2), L[at_].2)), true⟩) := (md04.trans md5).own2 (by omega) lb1
  refine tail' _ _ (L.set at_ ((s, L[at_].1.2), L[at_].2)) (by simp; omega) (smset _ (by simp only; omega) sr.2) md6 (by simpa using d6) (hs5.set2 (by omega) (by omega))
 by_cases e1 : k = 1
 ·subst e1
  simp (disch := omega)
  refine callW_of (c443 h4 b _ hs4 (by omega)) ?_
  rintro _ h5 ⟨⟨W, H, br⟩, hbl, md5, oP, hs5⟩
  try refine ⟨fun e => (by cases e), ?_⟩
  obtain ⟨s, rfl, w64, h64, oI⟩ := oP.panel
  obtain ⟨ib, iz, rfl, hiz, him, hix, hib⟩ := oI.ints
  have hbl : br.length ≤ 200 := hbl
  have d5 := d4.mod md5 hb hb
  have lb5 : h5[lb]? = some ⟨rowsC L, true⟩ := by rw [md5.2 lb (at_lt lb4) (by omega)]; exact lb4
  have er5 := (d5.row L[at_] (List.getElem_mem hat))
  obtain ⟨r, er'⟩ : ∃ r : Row, r = ((L[at_].1.1, W, H, br), ib, iz) := ⟨_, rfl⟩
  have hC : rowC r = [S L[at_].1.1, I W, I H, sl ib 0 br.length iz] := by rw [er']; rfl
  have st := row_store (o := 1) (r := r) (vs := [I W, I H, sl ib 0 br.length iz]) lb5 hat (by simp) (by rw [hC]; simp [splice, rowC])
  simp (disch := omega) [hat, hat', st]
  have l04 := md04.1
  have hr : EntO h5 r ∧ ∀ c ∈ rowB r, h.length ≤ c := by
   rw [er']
   refine ⟨⟨hiz, him, hix, hib.imp id fun q => q.1, w64, h64, er5.1.n⟩, fun c hc => ?_⟩
   unfold rowB at hc
   split at hc
   ·simp at hc
   ·rename_i hne'
    simp at hc
    have := (hib.resolve_left hne').2.1
    omega
  have d6 := d5.put lb5 rfl lb1 hat hr
  have md6 : Mod b (b + 1) h (h5.set lb ⟨rowsC (L.set at_ r), true⟩) := (md04.trans md5).own2 (by omega) lb1
  refine tail' _ _ (L.set at_ r) (by simp; omega) (smset _ (by rw [er']; exact sr.1) (by rw [er']; exact hbl)) md6 (by simpa using d6) (hs5.set2 (by omega) (by omega))
 by_cases e2 : k = 2
 ·subst e2
  have cc := rowsC_cells lb4 hat
  rw [rowC_agg] at cc
  have l04 := md04.1
  simp (disch := omega) [hat, hat', cc]
  refine dk_app (h := h4) (lo := h.length) (lo' := h.length) (by omega) l04 d4 er (by omega) fun v' h5 md5 d5 => ?_
  try simp (disch := omega)
  refine tail' _ _ (L ++ [L[at_]]) (by simp; omega) ?_ ?_ (by simpa using d5) ((hs4.mod md5 hb).mono (by omega))
  ·intro q hq
   rcases List.mem_append.1 hq with hq | hq
   ·exact sm q hq
   ·simp at hq; subst hq; exact sr
  ·exact ⟨by have := md5.1; omega, fun c hc hn => by rw [md5.2 c (by omega) (by omega)]; exact md04.2 c hc hn⟩
 ·have k0 : ¬ (k : Int) = 0 := by omega
  have k1 : ¬ (k : Int) = 1 := by omega
  have k2 : ¬ (k : Int) = 2 := by omega
  simp (disch := omega) [k0, k1, k2, e0, e1, e2]
  exact tail' _ h4 L (by omega) sm md04 (by simpa using d4) (hs4.mono (by omega))
/-- What may be written as a text. -/
structure TxOk (X : Lib) : Prop where
 len : X.length ≤ 100
 ent : ∀ x ∈ X, OkP x.2 ∧ x.1.length ≤ 12
theorem TxOk.getOk {X : Lib} (ok : TxOk X) {i : Nat} (hi : i < X.length) : OkP X[i].2 ∧ X[i].1.length ≤ 12 := ok.ent _ (List.getElem_mem hi)
theorem txt_len {X : Lib} (ok : TxOk X) : ∀ k, k ≤ X.length → (kTxt (X.take k)).length ≤ 150 * k
 | 0, _ => by simp [kTxt]
 | k + 1, h => by
  have ih := txt_len ok k (by omega)
  obtain ⟨o1, o2⟩ := ok.getOk (show k < X.length by omega)
  have := pTxt_len o1
  have := o1.siz
  rw [kTxt_take (by omega), List.length_append]
  have e : (lineK X[k]).length = X[k].1.length + (pTxt X[k].2).length + 2 := by simp [lineK]; omega
  omega
theorem c545w (h : Heap) (hp : 0 < h.length) (b o z : Nat) (X : Lib) (hX : KAt h b o z X) (ok : TxOk X) : ACall Gam 545 [sl b o X.length z] h fun r h' => r = S (kTxt X) ∧ Grows h h' := by
 have h40 := ok.len
 refine ACall_intro g545 rfl ?_
 unfold fn545
 simp (disch := omega)
 refine awp_loop (fun k σ h' => Grows h h' ∧ k ≤ X.length ∧ Buf h h' (σ 3) 1 (bytesV (kTxt (X.take k))) ∧ σ 0 = sl b o X.length z ∧ σ 4 = I k) (fun k => X.length - k) 0 ?_ ?_
 ·exact ⟨Grows.refl _, by omega, by simpa [kTxt, bytesV] using Buf.nil, by simp, by simp⟩
 ·rintro k σ h' ⟨g, hk, B, q0, q4⟩
  simp (disch := omega) [q0, q4]
  refine fork_dec (fun hlt => ?_) (fun hge => ?_)
  ·have k1 : k < X.length := by omega
   obtain ⟨s, c, c1, vp, pp, _⟩ := (hX.grow g).cells k1
   obtain ⟨okp, hn⟩ := ok.getOk k1
   have hlen := txt_len ok k hk
   have hpl := pTxt_len okp
   have h128 := okp.siz
   have hl := g.le
   have e1 : X[k].1.length + 1 ≤ 4611686018427387904 := by omega
   simp (disch := omega) [q0, q4, k1, c1, e1]
   refine callW_of (c472 _ X[k].2 h' (by omega) pp okp) ?_
   rintro _ h2 ⟨rfl, g2⟩
   refine ⟨fun _ => g2, ?_⟩
   have hst := kTxt_take k1
   have e3 : X[k].1.length + (4 + X[k].2.2.2.length + 1) ≤ 4611686018427387903 := by omega
   have e2 : X[k].1.length + 1 + (4 + X[k].2.2.2.length) ≤ 4611686018427387904 := by omega
   have hll : (lineK X[k]).length ≤ 150 := by simp [lineK, hpl]; omega
   have hll2 : X[k].1 ++ 32 :: (pTxt X[k].2 ++ [10]) = lineK X[k] := by simp [lineK]
   have hne : lineK X[k] ≠ [] := by simp [lineK]
   simp (disch := omega) [hpl, e2, e3, hll2]
   refine append_text hp (by omega) (g.trans g2) (B.grow g2) hne fun v3 h3 g3 b3 => ?_
   simp (disch := omega) [q0, q4, wrap64]
   exact ⟨k + 1, ⟨g3, by omega, by rw [hst]; exact b3, by omega⟩, by omega⟩
  ·have : k = X.length := by omega
   subst this
   rw [List.take_length] at B
   simp (disch := omega) [text_buf B, g]
theorem KGood.tx {X : Lib} (g : KGood X) : TxOk X := by
 have ok := good_iff.2 g
 exact ⟨by have := g.len; omega, fun x hx => ⟨(g.ent x hx).2.1, (ok.small x hx).1⟩⟩
theorem wd_tx {L : List Row} (w : Wd L) (hl : L.length ≤ 100) : TxOk (L.map (·.1)) := by
 refine ⟨by simpa using hl, fun x hx => ?_⟩
 obtain ⟨q, hq, rfl⟩ := List.mem_map.1 hx
 obtain ⟨a, b⟩ := w q hq
 exact ⟨a, by omega⟩
def Drawn (h h' : Heap) (r : Value) : Prop := ∃ X : Lib, Vr h' shKepts r X ∧ siz shKepts X ≤ 20000 ∧ Grows h h'
theorem c356 (h : Heap) (v : Value) (X : List Int) (hp : 0 < h.length) (hv : Vr h shBytes v X) : ACall Gam 356 [v] h fun r h' => Drawn h h' r := by
 refine ACall_intro g356 rfl ?_
 unfold fn356
 rw [awp_seq, awp_reg]
 generalize hK : seqQ Gam _ _ 0 = K
 simp (disch := omega)
 subst hK
 simp only [seqQ_zero]
 try simp (disch := omega)
 refine callW_of (c431 h v X hv) ?_
 rintro _ h1 ⟨rfl, g1, l1, hs1⟩
 try refine ⟨fun e => (by first | exact g1 | cases e), ?_⟩
 try simp (disch := omega)
 refine callW_of (c536 h1 h.length 0 hs1 (by omega) (by omega) hp) ?_
 rintro v2 h2 ⟨L, ⟨hl, hsm⟩, md2, d2, hs2⟩
 try refine ⟨fun e => (by cases e), ?_⟩
 have vr := d2.vr (by omega)
 obtain ⟨lb, lz, rfl, _⟩ := d2.sl
 try simp (disch := omega)
 exact ⟨_, vr, by have := smr_siz (n := 60) hl hsm; omega, md2.grows g1 (Nat.le_refl _)⟩
theorem c361 (h : Heap) (v : Value) (X : List Int) (hp : 0 < h.length) (hv : Vr h shBytes v X) : ACall Gam 361 [v] h fun r h' => Drawn h h' r := by
 refine ACall_intro g361 rfl ?_
 unfold fn361
 rw [awp_seq, awp_reg]
 generalize hK : seqQ Gam _ _ 0 = K
 simp (disch := omega)
 subst hK
 simp only [seqQ_zero]
 try simp (disch := omega)
 refine callW_of (c431 h v X hv) ?_
 rintro _ h1 ⟨rfl, g1, l1, hs1⟩
 try refine ⟨fun e => (by first | exact g1 | cases e), ?_⟩
 try simp (disch := omega)
 refine callW_of (c536 h1 h.length 0 hs1 (by omega) (by omega) hp) ?_
 rintro v2 h2 ⟨L, ⟨hl, hsm⟩, md2, d2, hs2⟩
 try refine ⟨fun e => (by cases e), ?_⟩
 have vr := d2.vr (by omega)
 obtain ⟨lb, lz, rfl, _⟩ := d2.sl
 try simp (disch := omega)
 exact ⟨_, vr, by have := smr_siz (n := 60) hl hsm; omega, md2.grows g1 (Nat.le_refl _)⟩
theorem c358 (h : Heap) (v : Value) (X : List Int) (hp : 0 < h.length) (hv : Vr h shBytes v X) : ACall Gam 358 [v] h fun r h' => ∃ (A B : Lib) (r0 r1 : Value), r = .tuple #[r0, r1] ∧ Vr h' shKepts r0 A ∧ Vr h' shKepts r1 B ∧ (siz shKepts A ≤ 20000 ∧ siz shKepts B ≤ 20000) ∧ Grows h h' := by
 refine ACall_intro g358 rfl ?_
 unfold fn358
 rw [awp_seq, awp_reg]
 generalize hK : seqQ Gam _ _ 0 = K
 simp (disch := omega)
 subst hK
 simp only [seqQ_zero]
 rw [awp_seq, awp_reg]
 generalize hK : seqQ Gam _ _ 0 = K
 simp (disch := omega)
 refine callW_of (c431 h v X hv) ?_
 rintro _ h1 ⟨rfl, g1, l1, hs1⟩
 try refine ⟨fun e => (by first | exact g1 | cases e), ?_⟩
 try simp (disch := omega)
 subst hK
 simp only [seqQ_zero]
 rw [awp_seq, awp_reg]
 generalize hK : seqQ Gam _ _ 0 = K
 simp (disch := omega)
 refine callW_of (c536 h1 h.length 0 hs1 (by omega) (by omega) hp) ?_
 rintro v2 h2 ⟨L, ⟨hl, hsm⟩, md2, d2, hs2⟩
 try refine ⟨fun e => (by cases e), ?_⟩
 obtain ⟨lb, lz, rfl, _⟩ := d2.sl
 try simp (disch := omega)
 subst hK
 simp only [seqQ_zero]
 simp (disch := omega)
 have l2 := md2.1
 refine callW_of (c536 h2 h.length _ hs2 (by omega) (by omega) hp) ?_
 rintro v3 h3 ⟨L2, ⟨hl2, hsm2⟩, md3, d3, hs3⟩
 try refine ⟨fun e => (by cases e), ?_⟩
 have d2' := d2.mod md3 (by omega) (by omega)
 have vr := d2'.vr (by omega)
 have vr2 := d3.vr (by omega)
 obtain ⟨lb2, lz2, rfl, _⟩ := d3.sl
 simp (disch := omega)
 exact ⟨_, _, _, _, ⟨rfl, rfl⟩, vr, vr2, ⟨by have := smr_siz (n := 60) hl hsm; omega, by have := smr_siz (n := 60) hl2 hsm2; omega⟩, (md2.trans md3).grows g1 (Nat.le_refl _)⟩
theorem txt_len' {X : Lib} (ok : TxOk X) : (kTxt X).length ≤ 15000 := by
 have := txt_len ok X.length (Nat.le_refl _)
 rw [List.take_length] at this
 have := ok.len
 omega
theorem c370 (h : Heap) (v : Value) (X : List Int) (hp : 0 < h.length) (hv : Vr h shBytes v X) : ACall Gam 370 [v] h fun r h' => ∃ s : List UInt8, r = S s ∧ s.length ≤ 20000 ∧ Grows h h' := by
 refine ACall_intro g370 rfl ?_
 unfold fn370
 rw [awp_seq, awp_reg]
 generalize hK : seqQ Gam _ _ 0 = K
 simp (disch := omega)
 subst hK
 simp only [seqQ_zero]
 rw [awp_seq, awp_reg]
 generalize hK : seqQ Gam _ _ 0 = K
 try simp (disch := omega)
 refine callW_of (c431 h v X hv) ?_
 rintro _ h1 ⟨rfl, g1, l1, hs1⟩
 try refine ⟨fun e => (by first | exact g1 | cases e), ?_⟩
 try simp (disch := omega)
 subst hK
 simp only [seqQ_zero]
 rw [awp_seq, awp_reg]
 generalize hK : seqQ Gam _ _ 0 = K
 try simp (disch := omega)
 refine callW_of (c537 h1 h.length 0 hs1 (by omega) (by omega) hp) ?_
 rintro v2 h2 ⟨L, gL, md2, d2, hs2⟩
 try refine ⟨fun e => (by cases e), ?_⟩
 have gl := gL.len
 simp at gl
 have vr := d2.vr (by omega)
 obtain ⟨lb, lo, lz, rfl, ka⟩ := vr.kat
 have l2 := md2.1
 try simp (disch := omega)
 have tx := gL.tx
 have tl := txt_len' tx
 have hc := c545w h2 (by omega) lb lo lz _ ka tx
 rw [List.length_map] at hc
 refine callW_of hc ?_
 rintro _ h3 ⟨rfl, g3⟩
 try refine ⟨fun e => (by first | exact g3 | cases e), ?_⟩
 obtain ⟨T, hT⟩ : ∃ T, T = kTxt (L.map (·.1)) := ⟨_, rfl⟩
 rw [← hT] at tl ⊢
 have hs3 := hs2.grow g3
 have G3 : Grows h h3 := (md2.grows g1 (Nat.le_refl _)).trans g3
 have l3 := G3.le
 have l13 := g1.le
 try simp (disch := omega)
 subst hK
 simp only [seqQ_zero]
 rw [awp_seq]
 generalize hK : seqQ Gam _ _ = K
 try simp (disch := omega)
 refine callW_of (c6 h3 h.length _ 3 hs3 (by omega) (by unfold I64; omega)) ?_
 rintro _ h4 ⟨w, rfl, md4, l4, hs4⟩
 try refine ⟨fun e => (by cases e), ?_⟩
 cases w
 rotate_left
 ·try simp (disch := omega)
  refine callW_of (c442 h4 h.length _ T hs4 (by omega) (by omega)) ?_
  rintro _ h5 ⟨t, rfl, tl', md5⟩
  try refine ⟨fun e => (by cases e), ?_⟩
  try simp (disch := omega)
  subst hK
  try simp (disch := omega)
  exact ⟨by omega, (md4.trans md5).grows G3 (Nat.le_refl _)⟩
 try simp (disch := omega)
 subst hK
 simp only [seqQ_zero]
 rw [awp_seq]
 generalize hK : seqQ Gam _ _ = K
 try simp (disch := omega)
 refine callW_of (c6 h4 h.length _ 30 hs4 (by omega) (by unfold I64; omega)) ?_
 rintro _ h5 ⟨w, rfl, md5, l5, hs5⟩
 try refine ⟨fun e => (by cases e), ?_⟩
 cases w
 ·try simp (disch := omega)
  subst hK
  try simp (disch := omega)
  exact ⟨by omega, (md4.trans md5).grows G3 (Nat.le_refl _)⟩
 ·try simp (disch := omega)
  refine callW_of (c7 h5 h.length _ 2 hs5 (by omega) (by unfold I64; omega)) ?_
  rintro _ h6 ⟨q, rfl, _, q1, md6, l6, hs6⟩
  try refine ⟨fun e => (by cases e), ?_⟩
  have q2 := q1 (by omega)
  obtain ⟨n, en⟩ : ∃ n : Nat, n = 40 + q := ⟨_, rfl⟩
  have en' : (40 : Int) + q = (n : Int) := by omega
  simp (disch := omega) [wrap64, en']
  refine callW_of (c546 h6 (by omega) n (by omega)) ?_
  rintro v7 h7 ⟨g7, L2, kb, hl2, wd⟩
  try refine ⟨fun e => (by first | exact g7 | cases e), ?_⟩
  have vr2 := (DK.of_kb kb).vr (by omega)
  obtain ⟨lb2, lo2, lz2, rfl, ka2⟩ := vr2.kat
  have tx2 := wd_tx wd (by omega)
  have tl2 := txt_len' tx2
  have l7 := g7.le
  try simp (disch := omega)
  have hc := c545w h7 (by omega) lb2 lo2 lz2 _ ka2 tx2
  rw [List.length_map] at hc
  refine callW_of hc ?_
  rintro _ h8 ⟨rfl, g8⟩
  try refine ⟨fun e => (by first | exact g8 | cases e), ?_⟩
  try simp (disch := omega)
  subst hK
  try simp (disch := omega)
  exact ⟨by omega, ((((md4.trans md5).trans md6).trans g7.mod).trans g8.mod).grows G3 (Nat.le_refl _)⟩
theorem c374 (h : Heap) (v : Value) (X : List Int) (hp : 0 < h.length) (hv : Vr h shBytes v X) : ACall Gam 374 [v] h fun r h' => ∃ s : List UInt8, r = S s ∧ s.length ≤ 20000 ∧ Grows h h' := by
 refine ACall_intro g374 rfl ?_
 unfold fn374
 rw [awp_seq, awp_reg]
 generalize hK : seqQ Gam _ _ 0 = K
 simp (disch := omega)
 subst hK
 simp only [seqQ_zero]
 rw [awp_seq, awp_reg]
 generalize hK : seqQ Gam _ _ 0 = K
 try simp (disch := omega)
 refine callW_of (c431 h v X hv) ?_
 rintro _ h1 ⟨rfl, g1, l1, hs1⟩
 try refine ⟨fun e => (by first | exact g1 | cases e), ?_⟩
 try simp (disch := omega)
 subst hK
 simp only [seqQ_zero]
 rw [awp_seq, awp_reg]
 generalize hK : seqQ Gam _ _ 0 = K
 try simp (disch := omega)
 refine callW_of (c537 h1 h.length 0 hs1 (by omega) (by omega) hp) ?_
 rintro v2 h2 ⟨L, gL, md2, d2, hs2⟩
 try refine ⟨fun e => (by cases e), ?_⟩
 have gl := gL.len
 simp at gl
 have vr := d2.vr (by omega)
 obtain ⟨lb, lo, lz, rfl, ka⟩ := vr.kat
 have l2 := md2.1
 try simp (disch := omega)
 have ok := good_iff.2 gL
 have hc := c569 h2 (by omega) lb lo lz _ ka ok
 have pl := packBodyK_len ok (L.map (·.1)).length (Nat.le_refl _)
 rw [List.take_length] at pl
 have pl2 : (packK (L.map (·.1))).length = 4 + (packBodyK (L.map (·.1))).length := packK_len
 rw [List.length_map] at hc pl
 obtain ⟨P, hP⟩ : ∃ P, P = packK (L.map (·.1)) := ⟨_, rfl⟩
 rw [← hP] at hc pl2
 have Pl : 4 ≤ P.length ∧ P.length ≤ 3000 := by omega
 refine callW_of hc ?_
 rintro _ h3 ⟨rfl, g3⟩
 try refine ⟨fun e => (by first | exact g3 | cases e), ?_⟩
 have hs3 := hs2.grow g3
 have G3 : Grows h h3 := (md2.grows g1 (Nat.le_refl _)).trans g3
 have l13 := g1.le
 have l23 := g3.le
 obtain ⟨h4, e4⟩ : ∃ h4, h4 = h3 ++ [⟨bytesV P, true⟩] := ⟨_, rfl⟩
 have g4 : Grows h3 h4 := ⟨_, e4⟩
 have f4 : h4[h3.length]? = some ⟨bytesV P, true⟩ := by rw [e4]; simp
 have l4 : h4.length = h3.length + 1 := by rw [e4]; simp
 have cv : aConv 20 (S P) h3 = some (sl h3.length 0 P.length 1, h4) := by rw [aConv_str (by unfold maxSize; omega), e4]; rfl
 obtain ⟨ob, eob⟩ : ∃ ob, ob = h3.length := ⟨_, rfl⟩
 rw [← eob] at f4 cv
 simp (disch := omega) [cv]
 clear e4
 have hs4 := hs3.grow g4
 have G4 := G3.trans g4
 subst hK
 simp only [seqQ_zero]
 rw [awp_seq, awp_reg]
 generalize hK : seqQ Gam _ _ 0 = K
 try simp (disch := omega)
 refine callW_of (c7 h4 h.length _ P.length hs4 (by omega) (by unfold I64; omega)) ?_
 rintro _ h5 ⟨at_, rfl, _, a2, md5, l5, hs5⟩
 try refine ⟨fun e => (by cases e), ?_⟩
 have hat := a2 (by omega)
 have hat' : at_ < P.length := by omega
 try simp (disch := omega)
 subst hK
 simp only [seqQ_zero]
 have f5 : h5[ob]? = some ⟨bytesV P, true⟩ := by rw [md5.2 ob (by omega) (by omega)]; exact f4
 have G5 := md5.grows G4 (Nat.le_refl _)
 rw [awp_seq]
 generalize hK : seqQ Gam _ _ = K
 have tail : ∀ (σ' : Nat → Value) (h' : Heap) (Q : List UInt8), σ' 4 = sl ob 0 P.length 1 → Grows h h' → h'[ob]? = some ⟨bytesV Q, true⟩ → Q.length = P.length → K 0 σ' h' := by
  intro σ' h' Q q4 g' f' ql
  have tp := text_pre f' (n := P.length) (by omega)
  subst hK
  simp (disch := omega) [q4, tp]
  exact ⟨by omega, g'⟩
 rw [awp_seq, awp_reg]
 generalize hK2 : seqQ Gam _ _ 0 = K2
 simp (disch := omega)
 refine callW_of (c7 h5 h.length _ 8 hs5 (by omega) (by unfold I64; omega)) ?_
 rintro _ h6 ⟨k, rfl, _, k1, md6, l6, hs6⟩
 try refine ⟨fun e => (by cases e), ?_⟩
 have k2 := k1 (by omega)
 have f6 : h6[ob]? = some ⟨bytesV P, true⟩ := by rw [md6.2 ob (by omega) (by omega)]; exact f5
 have G6 := md6.grows G5 (Nat.le_refl _)
 try simp (disch := omega)
 subst hK2
 simp only [seqQ_zero]
 rw [awp_block]
 by_cases e0 : k = 0
 ·subst e0
  simp (disch := omega)
  refine callW_of (c7 h6 h.length _ 256 hs6 (by omega) (by unfold I64; omega)) ?_
  rintro _ h7 ⟨x, rfl, _, x1, md7, l7, hs7⟩
  try refine ⟨fun e => (by cases e), ?_⟩
  have x2 := x1 (by omega)
  have f7 : h7[ob]? = some ⟨bytesV P, true⟩ := by rw [md7.2 ob (by omega) (by omega)]; exact f6
  have G7 := md7.grows G6 (Nat.le_refl _)
  obtain ⟨c, hc'⟩ : ∃ c : UInt8, c = UInt8.ofNat x := ⟨_, rfl⟩
  have cn : (c.toNat : Int) = (x : Int) := by rw [hc']; simp [UInt8.toNat_ofNat]; omega
  have st := store_bt (c := c) (x := (x : Int)) cn.symm f7 (k := at_) hat'
  have wx : IntKind.u8.wrap (x : Int) = (x : Int) := by rw [wrap8 (by omega) (by omega)]
  simp (disch := omega) [wx, hat, hat', st]
  refine tail _ _ (P.set at_ c) (by simp) (G7.put (by omega) _) (by rw [List.getElem?_set_self (at_lt f7)]) (by simp)
 by_cases e1 : k = 1
 ·subst e1
  have tp := text_pre f6 (n := at_) (by omega)
  simp (disch := omega) [slice_sl, tp]
  subst hK
  simp (disch := omega)
  exact ⟨by omega, G6⟩
 by_cases e2 : k = 2
 ·subst e2
  obtain ⟨N, hN⟩ : ∃ N, N + 2 = P.length := ⟨P.length - 2, by omega⟩
  have eN : (P.length : Int) - 2 = (N : Int) := by omega
  simp (disch := omega) [wrap64, eN]
  refine callW_of (c7 h6 h.length _ N hs6 (by omega) (by unfold I64; omega)) ?_
  rintro _ h7 ⟨y, rfl, y0, y1, md7, l7, hs7⟩
  try refine ⟨fun e => (by cases e), ?_⟩
  have hy : y < P.length := by
   by_cases q : 1 < (N : Int)
   ·have := y1 q; omega
   ·have := y0 (by omega); omega
  have hy' : (y : Int) < P.length := by omega
  try simp (disch := omega)
  refine callW_of (c7 h7 h.length _ 40 hs7 (by omega) (by unfold I64; omega)) ?_
  rintro _ h8 ⟨x, rfl, _, x1, md8, l8, hs8⟩
  try refine ⟨fun e => (by cases e), ?_⟩
  have x2 := x1 (by omega)
  have f8 : h8[ob]? = some ⟨bytesV P, true⟩ := by rw [md8.2 ob (by omega) (by omega), md7.2 ob (by omega) (by omega)]; exact f6
  have G8 := md8.grows (md7.grows G6 (Nat.le_refl _)) (Nat.le_refl _)
  obtain ⟨c, hc'⟩ : ∃ c : UInt8, c = UInt8.ofNat x := ⟨_, rfl⟩
  have cn : (c.toNat : Int) = (x : Int) := by rw [hc']; simp [UInt8.toNat_ofNat]; omega
  have st := store_bt (c := c) (x := (x : Int)) cn.symm f8 (k := y) hy
  have wx : IntKind.u8.wrap (x : Int) = (x : Int) := by rw [wrap8 (by omega) (by omega)]
  obtain ⟨Q, hQ⟩ : ∃ Q, Q = P.set y c := ⟨_, rfl⟩
  have Ql : Q.length = P.length := by rw [hQ, List.length_set]
  obtain ⟨h9, e9⟩ : ∃ h9, h9 = h8.set ob ⟨bytesV Q, true⟩ := ⟨_, rfl⟩
  have f9 : h9[ob]? = some ⟨bytesV Q, true⟩ := by rw [e9, List.getElem?_set_self (at_lt f8)]
  have G9 : Grows h h9 := by rw [e9]; exact G8.put (by omega) _
  rw [← hQ, ← e9] at st
  have hNl : (Q.take N).length = N := by rw [List.length_take]; omega
  have f9' : h9[ob]? = some ⟨bytesV (Q.take N ++ Q.drop N), true⟩ := by rw [List.take_append_drop]; exact f9
  have hc := c568p (Q.take N) (Q.drop N) (by omega) h9 ob (by omega) f9'
  rw [hNl] at hc
  simp (disch := omega) [wx, hy, hy', st, wrap64, eN, slice_sl]
  refine callW_of hc ?_
  rintro _ h10 ⟨rfl, md10⟩
  try refine ⟨fun e => (by cases e), ?_⟩
  try simp (disch := omega)
  subst hK
  try simp (disch := omega)
  exact ⟨by rw [ended_len]; omega, md10.grows G9 (by omega)⟩
 ·have k0 : ¬ (k : Int) = 0 := by omega
  have k1 : ¬ (k : Int) = 1 := by omega
  have k2 : ¬ (k : Int) = 2 := by omega
  simp (disch := omega) [k0, k1, k2, e0, e1, e2]
  exact tail _ h6 P (by simp) G6 f6 rfl
theorem vr_tail {h : Heap} {lo lo' b : Nat} {L : List Row} (d : DK h lo lo' (Am.sl b 0 L.length 4) L) (hb : h[b]? = some ⟨rowsC L, true⟩) (hne : L ≠ []) (hl : L.length ≤ 1000) : Vr h shKepts (Am.sl b 4 (L.length - 1) 4) (L.tail.map (·.1)) := by
 obtain ⟨q, T, rfl⟩ : ∃ q T, L = q :: T := by cases L with
  | nil => exact absurd rfl hne
  | cons q T => exact ⟨q, T, rfl⟩
 have hlen := rowsC_len T
 refine ⟨[Am.sl b 4 ((q :: T).length - 1) 4], ⟨b, 4, 4, T.map rowC, by simp, .inl rfl, ?_, rd_rows fun r hr => (d.row r (by simp [hr])).1, ?_⟩, rfl⟩
 ·rw [maxLen_eq]; simp at hl ⊢; omega
 ·right
  rw [cellsAt_of hb (by have e4 : shKept.n = 4 := rfl; rw [rowsC_cons, List.length_append, hlen, e4]; simp [rowC])]
  simp only [rowsC_cons]
  have : (rowC q).length = 4 := rfl
  rw [← this, List.drop_left, List.take_of_length_le (by have e4 : shKept.n = 4 := rfl; rw [hlen, e4]; simp)]
  rfl
theorem slice_tail {h : Heap} {b n : Nat} (hn : 1 ≤ n) : aSlice 9 h (sl b 0 n 4) (some (.int .i64 1)) none none = some (sl b 4 (n - 1) 4, h) := by
 simp [aSlice, sl, bound, hn]
theorem smr_siz2 {L : List Row} {n : Nat} (hl : L.length ≤ n) (hs : ∀ q ∈ L, q.1.1.length ≤ 20 ∧ q.1.2.2.2.length ≤ 200) : siz shKepts (L.map (·.1)) ≤ 250 * n := by
 have key : ∀ Y : List Row, (∀ q ∈ Y, q.1.1.length ≤ 20 ∧ q.1.2.2.2.length ≤ 200) → (Y.map (·.1)).length + sizL (Y.map (·.1)) ≤ 250 * Y.length := by
  intro Y
  induction Y with
  | nil => intro _; simp [sizL]
  | cons y Y ih =>
   intro hy
   have h1 := ih fun z hz => hy z (by simp [hz])
   obtain ⟨a, b⟩ := hy y (by simp)
   have h3 : siz shKept y.1 = y.1.1.length + y.1.2.2.2.length := siz_kept _ _ _ _
   have h4 : sizL ((y :: Y).map (·.1)) = siz shKept y.1 + sizL (Y.map (·.1)) := by simp [sizL]
   rw [h4, h3]
   simp only [List.length_cons, List.length_map] at h1 ⊢; omega
 have := key L hs
 rw [siz_kepts]; omega
theorem c373 (h : Heap) (v : Value) (X : List Int) (hp : 0 < h.length) (hv : Vr h shBytes v X) : ACall Gam 373 [v] h fun r h' => ∃ (A B : Lib) (r0 r1 : Value), r = .tuple #[r0, r1] ∧ Vr h' shKepts r0 A ∧ Vr h' shKepts r1 B ∧ (siz shKepts A ≤ 20000 ∧ siz shKepts B ≤ 20000) ∧ Grows h h' := by
 refine ACall_intro g373 rfl ?_
 unfold fn373
 rw [awp_seq, awp_reg]
 generalize hK : seqQ Gam _ _ 0 = K
 simp (disch := omega)
 subst hK
 simp only [seqQ_zero]
 rw [awp_seq, awp_reg]
 generalize hK : seqQ Gam _ _ 0 = K
 try simp (disch := omega)
 refine callW_of (c431 h v X hv) ?_
 rintro _ h1 ⟨rfl, g1, l1, hs1⟩
 try refine ⟨fun e => (by first | exact g1 | cases e), ?_⟩
 try simp (disch := omega)
 subst hK
 simp only [seqQ_zero]
 rw [awp_seq, awp_reg]
 generalize hK : seqQ Gam _ _ 0 = K
 try simp (disch := omega)
 refine callW_of (c537 h1 h.length 0 hs1 (by omega) (by omega) hp) ?_
 rintro v2 h2 ⟨LA, gL, md2, d2, hs2⟩
 try refine ⟨fun e => (by cases e), ?_⟩
 have gl := gL.len
 simp at gl
 have vr := d2.vr (by omega)
 obtain ⟨ab, ao, az, rfl, ka⟩ := vr.kat
 rw [List.length_map] at d2 vr
 have l2 := md2.1
 try simp (disch := omega)
 subst hK
 simp only [seqQ_zero]
 rw [awp_seq, awp_reg]
 generalize hK : seqQ Gam _ _ 0 = K
 have smA := good_smr gL
 have hc := c542 h2 (by omega) ab ao az _ ka (by simp; omega) (fun i hi => by
  simp at hi
  have := (smA _ (List.getElem_mem hi)).2
  simp only [List.getElem_map]; omega)
 rw [List.length_map] at hc
 try simp (disch := omega)
 refine callW_of hc ?_
 rintro v3 h3 ⟨g3, L, eL, kb⟩
 try refine ⟨fun e => (by first | exact g3 | cases e), ?_⟩
 have hs3 := hs2.grow g3
 have G3 : Grows h h3 := (md2.grows g1 (Nat.le_refl _)).trans g3
 have l13 := g1.le
 have l23 := g3.le
 have Ll : L.length ≤ 40 := by
  have := congrArg List.length eL
  simp at this; omega
 have gLb : KGood (L.map (·.1)) := by rw [eL]; exact gL
 have smL := good_smr gLb
 have d3 := DK.of_kb kb
 have vr3 := vr.grow g3
 obtain ⟨lb, e3⟩ := kb.len
 subst e3
 have sA : siz shKepts (LA.map (·.1)) ≤ 20000 := by have := smr_siz (n := 60) (L := LA) (by omega) smA; omega
 try simp (disch := omega)
 subst hK
 simp only [seqQ_zero]
 rw [awp_seq]
 generalize hK : seqQ Gam _ _ = K
 have tail : ∀ (σ' : Nat → Value) (h' : Heap) (B : Lib) (o n z c : Nat), σ' 5 = sl ab ao LA.length az → σ' 6 = sl c o n z → Grows h h' → Vr h' shKepts (sl ab ao LA.length az) (LA.map (·.1)) → Vr h' shKepts (sl c o n z) B → siz shKepts B ≤ 20000 → K 0 σ' h' := by
  intro σ' h' B o n z c q5 q6 g' va vb sb
  subst hK
  simp (disch := omega) [q5, q6]
  exact ⟨_, _, _, _, ⟨rfl, rfl⟩, va, vb, ⟨sA, sb⟩, g'⟩
 have d3v := d3.vr (by omega)
 have sB : siz shKepts (L.map (·.1)) ≤ 20000 := by have := smr_siz (n := 60) (L := L) (by omega) smL; omega
 by_cases h0 : L.length = 0
 ·rw [h0] at d3v
  simp (disch := omega) [h0]
  exact tail _ h3 _ 0 0 4 lb (by simp) (by simp) G3 vr3 d3v sB
 have hne : L ≠ [] := by intro e; subst e; simp at h0
 have h0' : (0 : Int) < L.length := by omega
 have h0'' : 0 < L.length := by omega
 obtain ⟨lb1, lb2⟩ : h2.length ≤ lb ∧ h3[lb]? = some ⟨rowsC L, true⟩ := by
  rcases d3.out with ⟨q, _⟩ | ⟨b', q1, q2, q3⟩
  ·exact absurd q hne
  ·simp [sl] at q1
   subst q1
   exact ⟨q2, q3⟩
 simp (disch := omega) [h0', h0'']
 refine callW_of (c7 h3 h.length _ 4 hs3 (by omega) (by unfold I64; omega)) ?_
 rintro _ h4 ⟨k, rfl, _, k1, md4, l4, hs4⟩
 try refine ⟨fun e => (by cases e), ?_⟩
 have k2 := k1 (by omega)
 have d4 := d3.mod md4 (by omega) (by omega)
 have lb4 : h4[lb]? = some ⟨rowsC L, true⟩ := by rw [md4.2 lb (at_lt lb2) (by omega)]; exact lb2
 have d2' := (d2.grow g3).mod md4 (by omega) (by omega)
 have vr4 := d2'.vr (by omega)
 have G4 := md4.grows G3 (Nat.le_refl _)
 have er := d4.row L[0] (List.getElem_mem h0'')
 have cc := rowsC_cells lb4 h0''
 have c0 := (cell_in (i := 0) cc (by omega)).1
 have c1 := (cell_in (i := 1) cc (by omega)).1
 simp only [Nat.zero_mul, Nat.zero_add, rowC_agg] at c0 c1
 simp at c0 c1
 have gE := gLb.ent L[0].1 (List.mem_map.2 ⟨L[0], List.getElem_mem h0'', rfl⟩)
 have s0 := smL L[0] (List.getElem_mem h0'')
 -- what is stored leaves the first library
 have keepA : ∀ (r : Row), Vr (h4.set lb ⟨rowsC (L.set 0 r), true⟩) shKepts (sl ab ao LA.length az) (LA.map (·.1)) := by
  intro r
  refine DK.vr (d2.same fun c hc hn => ?_) (by omega)
  rw [set_other (by omega), md4.2 c (by omega) (by omega), g3.look hc]
 try simp (disch := omega)
 by_cases e0 : k = 0
 ·subst e0
  obtain ⟨r, hr'⟩ : ∃ r : Row, r = ((L[0].1.1 ++ [120], L[0].1.2), L[0].2) := ⟨_, rfl⟩
  have hC : rowC r = [S (L[0].1.1 ++ [120]), I L[0].1.2.1, I L[0].1.2.2.1, rowS L[0]] := by rw [hr']; rfl
  have st := row_store (o := 0) (r := r) (vs := [S (L[0].1.1 ++ [120])]) lb4 h0'' (by simp) (by rw [hC]; simp [splice, rowC])
  simp only [Nat.add_zero, Nat.zero_mul] at st
  have eE : EntO h4 r := by rw [hr']; exact ⟨er.1.z, er.1.m, er.1.x, er.1.b, er.1.w, er.1.h, by rw [maxLen_eq]; simp; omega⟩
  have d6 := d4.put lb4 rfl lb1 h0'' ⟨eE, by rw [hr']; exact er.2⟩
  have sm6 : SmR (L.set 0 r) ∨ True := .inr trivial
  have hl6 : siz shKepts ((L.set 0 r).map (·.1)) ≤ 20000 := by
   have := smr_siz2 (n := 40) (L := L.set 0 r) (by simp; omega) (by
    intro q hq
    rcases List.mem_or_eq_of_mem_set hq with hq | rfl
    ·have := smL q hq; omega
    ·rw [hr']; simp; omega)
   omega
  have v6 := d6.vr (by simp; omega)
  have hnm : L[0].1.1.length ≤ 4611686018427387903 := by omega
  simp (disch := omega) [h0', h0'', c0, st, hnm]
  refine tail _ _ _ 0 L.length 4 lb (by simp) (by simp) (G4.put (by omega) _) (keepA r) v6 hl6
 by_cases e1 : k = 1
 ·subst e1
  have w8 := gE.2.1.w
  obtain ⟨W, hW⟩ : ∃ W, W = L[0].1.2.1 := ⟨_, rfl⟩
  rw [← hW] at c1
  have w8' : 1 ≤ W ∧ W ≤ 8 := by rw [hW]; exact w8
  obtain ⟨r, hr'⟩ : ∃ r : Row, r = ((L[0].1.1, W + 1, L[0].1.2.2.1, L[0].1.2.2.2), L[0].2) := ⟨_, rfl⟩
  have hC : rowC r = [S L[0].1.1, I (W + 1), I L[0].1.2.2.1, rowS L[0]] := by rw [hr']; rfl
  have st := row_store (o := 1) (r := r) (vs := [I (W + 1)]) lb4 h0'' (by simp) (by rw [hC]; simp [splice, rowC])
  simp only [Nat.zero_add, Nat.zero_mul] at st
  have eE : EntO h4 r := by rw [hr']; exact ⟨er.1.z, er.1.m, er.1.x, er.1.b, by simp only; unfold I64; omega, er.1.h, er.1.n⟩
  have d6 := d4.put lb4 rfl lb1 h0'' ⟨eE, by rw [hr']; exact er.2⟩
  have hl6 : siz shKepts ((L.set 0 r).map (·.1)) ≤ 20000 := by
   have := smr_siz2 (n := 40) (L := L.set 0 r) (by simp; omega) (by
    intro q hq
    rcases List.mem_or_eq_of_mem_set hq with hq | rfl
    ·have := smL q hq; omega
    ·rw [hr']; simp; omega)
   omega
  have v6 := d6.vr (by simp; omega)
  simp (disch := omega) [h0', h0'', c1, st, wrap64]
  refine tail _ _ _ 0 L.length 4 lb (by simp) (by simp) (G4.put (by omega) _) (keepA r) v6 hl6
 by_cases e2 : k = 2
 ·subst e2
  have v6 := vr_tail d4 lb4 hne (by omega)
  have hl6 : siz shKepts (L.tail.map (·.1)) ≤ 20000 := by
   have := smr_siz2 (n := 40) (L := L.tail) (by simp; omega) (by
    intro q hq
    have := smL q (List.mem_of_mem_tail hq); omega)
   omega
  simp (disch := omega) [slice_tail]
  refine tail _ _ _ 4 (L.length - 1) 4 lb (by simp) (by simp) G4 vr4 v6 hl6
 ·have k0 : ¬ (k : Int) = 0 := by omega
  have k1 : ¬ (k : Int) = 1 := by omega
  have k2 : ¬ (k : Int) = 2 := by omega
  simp (disch := omega) [k0, k1, k2, e0, e1, e2]
  refine tail _ _ _ 0 L.length 4 lb (by simp) (by simp) G4 vr4 (d4.vr (by omega)) sB
end Am
