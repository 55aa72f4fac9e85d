/- Contracts: AmJ8, AmJ9, AmJ10, AmJ11, AmJ12, AmJ13, AmJ14, AmJ15, AmS1, AmS2. -/
import Derived.Test.YtaeaaogpdipjfaaAmK3
/-! AmJ8 -/
set_option linter.unusedVariables false
set_option linter.unusedSimpArgs false
set_option maxHeartbeats 4000000
set_option maxRecDepth 4000
namespace Am
open Go

end Am
/-! AmJ9 -/
set_option linter.unusedVariables false
set_option linter.unusedSimpArgs false
set_option maxHeartbeats 4000000
set_option maxRecDepth 4000
namespace Am
open Go

/-- JM with its parts named. -/
def JMx (h : Heap) (lo jb : Nat) (X : Jrn) (rest : List Value) (b1 z1 b2 z2 b3 z3 : Nat) : Prop :=
  h[jb]? = some ⟨[I X.1.1, I X.1.2.1, sl b1 0 X.1.2.2.length z1, sl b2 0 X.2.1.length z2, sl b3 0 X.2.2.length z3], true⟩ ∧ lo ≤ jb ∧ 0 < lo ∧ (z1 = 1 ∨ b1 = 0 ∧ X.1.2.2 = []) ∧
  (X.1.2.2 = [] ∨ h[b1]? = some ⟨ints X.1.2.2, true⟩ ∧ lo ≤ b1 ∧ b1 ≠ jb ∧ b1 ≠ b2 ∧ b1 ≠ b3) ∧
  (X.2.1 = [] ∧ b2 = 0 ∨ z2 = 3 ∧ h[b2]? = some ⟨trips X.2.1 ++ rest, true⟩ ∧ lo ≤ b2 ∧ b2 ≠ jb ∧ b2 ≠ b3) ∧
  (X.2.2 = [] ∧ b3 = 0 ∨ z3 = 3 ∧ h[b3]? = some ⟨trips X.2.2, true⟩ ∧ lo ≤ b3 ∧ b3 ≠ jb) ∧ Jwf X
theorem JMx.jm {h : Heap} {lo jb : Nat} {X : Jrn} {rest : List Value} {b1 z1 b2 z2 b3 z3 : Nat} (x : JMx h lo jb X rest b1 z1 b2 z2 b3 z3) : JM h lo jb X rest := ⟨_, _, _, _, _, _, x⟩

theorem JMx.brs {h : Heap} {lo jb : Nat} {W H : Int} {br : List Int} {p f : List Trip} {rest : List Value} {b1 z1 b2 z2 b3 z3 : Nat} (x : JMx h lo jb ((W, H, br), p, f) rest b1 z1 b2 z2 b3 z3) {k : Nat} {v : Int} (hk : k < br.length) (hv : I64 v) :
    ∃ h', storeAt h b1 k [I v] = some h' ∧ JMx h' lo jb ((W, H, br.set k v), p, f) rest b1 z1 b2 z2 b3 z3 ∧ Mod lo h.length h h' ∧ h'.length = h.length := by
  obtain ⟨hjb, hlo, hpos, hz1, i1, i2, i3, w1, w2, x1, x2, x3, y1, y2, y3⟩ := x
  simp only at hjb hz1 i1 i2 i3 w1 w2 x1 x2 x3 y1 y2 y3
  have hne : br ≠ [] := by intro e; rw [e] at hk; simp at hk
  obtain ⟨hb1, j1, j2, j3, j4⟩ := i1.resolve_left hne
  have hl := at_lt hb1
  refine ⟨_, store_int hb1 hk, ⟨?_, hlo, hpos, ?_, .inr ⟨?_, j1, j2, j3, j4⟩, i2.imp id fun e => ⟨e.1, ?_, e.2.2.1, e.2.2.2.1, e.2.2.2.2⟩, i3.imp id fun e => ⟨e.1, ?_, e.2.2.1, e.2.2.2⟩, ⟨w1, w2, ?_, x2, x3, by simpa using y1, y2, y3⟩⟩, ⟨by simp, ?_⟩, by simp⟩
  · rw [set_other (by omega), hjb]; simp
  · exact .inl (hz1.resolve_right fun e => hne e.2)
  · simp [hl]
  · rw [set_other (by omega)]; exact e.2.1
  · rw [set_other (by omega)]; exact e.2.1
  · intro y hy
    rcases List.mem_or_eq_of_mem_set hy with hy | rfl
    · exact x1 y hy
    · exact hv
  · intro c hc hn
    rw [set_other (by omega)]

theorem JMx.past {h h1 : Heap} {lo jb : Nat} {W H : Int} {br : List Int} {p f p' : List Trip} {rest rest' : List Value} {b1 z1 b2 z2 b3 z3 nb : Nat} (x : JMx h lo jb ((W, H, br), p, f) rest b1 z1 b2 z2 b3 z3)
    (hl : h.length ≤ h1.length) (hk : ∀ c, c < h.length → c ≠ b2 ∨ b2 = 0 → h1[c]? = h[c]?) (hn : h1[nb]? = some ⟨trips p' ++ rest', true⟩) (hnb : h.length ≤ nb ∨ nb = b2 ∧ p ≠ []) (hp : ∀ t ∈ p', T64 t) (hpl : p'.length ≤ 1048576) :
    ∃ h', storeAt h1 jb 3 [sl nb 0 p'.length 3] = some h' ∧ JMx h' lo jb ((W, H, br), p', f) rest' b1 z1 nb 3 b3 z3 ∧ Mod lo h.length h h' ∧ h'.length = h1.length := by
  obtain ⟨hjb, hlo, hpos, hz1, i1, i2, i3, w1, w2, x1, x2, x3, y1, y2, y3⟩ := x
  simp only at hjb hz1 i1 i2 i3 w1 w2 x1 x2 x3 y1 y2 y3
  have hjl := at_lt hjb
  have j2 : jb ≠ b2 ∨ b2 = 0 := by rcases i2 with e | e <;> omega
  have hj1 : h1[jb]? = some ⟨[I W, I H, sl b1 0 br.length z1, sl b2 0 p.length z2, sl b3 0 f.length z3], true⟩ := by rw [hk jb hjl j2]; exact hjb
  have hs := store_one (v := sl nb 0 p'.length 3) (o := 3) hj1 (by simp)
  refine ⟨_, hs, ⟨?_, hlo, hpos, hz1, i1.imp id fun e => ⟨?_, e.2.1, e.2.2.1, ?_, e.2.2.2.2⟩, .inr ⟨rfl, ?_, ?_, ?_, ?_⟩, i3.imp id fun e => ⟨e.1, ?_, e.2.2.1, e.2.2.2⟩, ⟨w1, w2, x1, hp, x3, y1, hpl, y3⟩⟩, ⟨by simp; exact hl, ?_⟩, by simp⟩
  · simp [at_lt hj1]
  · rw [set_other (by omega), hk b1 (at_lt e.1) (by omega)]; exact e.1
  · have := at_lt e.1
    rcases hnb with e' | e'
    · omega
    · omega
  · have hne : nb ≠ jb := by
      rcases hnb with e' | e'
      · omega
      · have := i2.resolve_left fun e => e'.2 e.1
        omega
    rw [set_other hne]; exact hn
  · rcases hnb with e' | e'
    · omega
    · have := i2.resolve_left fun e => e'.2 e.1
      omega
  · rcases hnb with e' | e'
    · omega
    · have := i2.resolve_left fun e => e'.2 e.1
      omega
  · rcases hnb with e' | e'
    · rcases i3 with e | e
      · omega
      · have := at_lt e.2.1; omega
    · have := i2.resolve_left fun e => e'.2 e.1
      omega
  · rw [set_other (by omega), hk b3 (at_lt e.2.1) (by rcases i2 with e' | e' <;> omega)]; exact e.2.1
  · intro c hc hn
    rw [set_other (by omega), hk c hc (by rcases i2 with e' | e' <;> omega)]

theorem JMx.fut {h h1 : Heap} {lo jb : Nat} {W H : Int} {br : List Int} {p f f' : List Trip} {rest : List Value} {b1 z1 b2 z2 b3 z3 nb : Nat} (x : JMx h lo jb ((W, H, br), p, f) rest b1 z1 b2 z2 b3 z3)
    (hl : h.length ≤ h1.length) (hk : ∀ c, c < h.length → c ≠ b3 ∨ b3 = 0 → h1[c]? = h[c]?) (hn : nb = 0 ∧ f' = [] ∨ h1[nb]? = some ⟨trips f', true⟩ ∧ h.length ≤ nb) (hp : ∀ t ∈ f', T64 t) (hpl : f'.length ≤ 1048576) :
    ∃ h', storeAt h1 jb 4 [sl nb 0 f'.length 3] = some h' ∧ JMx h' lo jb ((W, H, br), p, f') rest b1 z1 b2 z2 nb 3 ∧ Mod lo h.length h h' ∧ h'.length = h1.length := by
  obtain ⟨hjb, hlo, hpos, hz1, i1, i2, i3, w1, w2, x1, x2, x3, y1, y2, y3⟩ := x
  simp only at hjb hz1 i1 i2 i3 w1 w2 x1 x2 x3 y1 y2 y3
  have hjl := at_lt hjb
  have j2 : jb ≠ b3 ∨ b3 = 0 := by rcases i3 with e | e <;> omega
  have hj1 : h1[jb]? = some ⟨[I W, I H, sl b1 0 br.length z1, sl b2 0 p.length z2, sl b3 0 f.length z3], true⟩ := by rw [hk jb hjl j2]; exact hjb
  have hs := store_one (v := sl nb 0 f'.length 3) (o := 4) hj1 (by simp)
  refine ⟨_, hs, ⟨?_, hlo, hpos, hz1, i1.imp id fun e => ⟨?_, e.2.1, e.2.2.1, e.2.2.2.1, ?_⟩, i2.imp id fun e => ⟨e.1, ?_, e.2.2.1, e.2.2.2.1, ?_⟩, ?_, ⟨w1, w2, x1, x2, hp, y1, y2, hpl⟩⟩, ⟨by simp; exact hl, ?_⟩, by simp⟩
  · simp [at_lt hj1]
  · rw [set_other (by omega), hk b1 (at_lt e.1) (by omega)]; exact e.1
  · have := at_lt e.1
    rcases hn with e' | e' <;> omega
  · rw [set_other (by omega), hk b2 (at_lt e.2.1) (by omega)]; exact e.2.1
  · have := at_lt e.2.1
    rcases hn with e' | e' <;> omega
  · rcases hn with e' | e'
    · exact .inl ⟨e'.2, e'.1⟩
    · exact .inr ⟨rfl, by rw [set_other (by omega)]; exact e'.1, by omega, by omega⟩
  · intro c hc hn
    rw [set_other (by omega), hk c hc (by rcases i3 with e' | e' <;> omega)]

theorem JMx.cells {h : Heap} {lo jb : Nat} {X : Jrn} {rest : List Value} {b1 z1 b2 z2 b3 z3 : Nat} (x : JMx h lo jb X rest b1 z1 b2 z2 b3 z3) :
    cell h jb 2 = some (sl b1 0 X.1.2.2.length z1) ∧ cell h jb 3 = some (sl b2 0 X.2.1.length z2) ∧ cell h jb 4 = some (sl b3 0 X.2.2.length z3) := by
  have := x.1
  simp [cell, this]
theorem trip_last {h : Heap} {b : Nat} {s : Trip} {p : List Trip} {r : List Value} {w : Bool} (hb : h[b]? = some ⟨trips (p ++ [s]) ++ r, w⟩) : cellsAt h b (p.length * 3) 3 = some [I s.1, I s.2.1, I s.2.2] := by
  rw [cellsAt_of hb (by simp [trips_append, trips_cons, trips_nil, trips_len]; omega)]
  rw [trips_append, List.append_assoc, List.drop_append_of_le_length (by rw [trips_len]; omega), List.drop_of_length_le (by rw [trips_len]; omega)]
  simp [trips_cons, trips_nil]

theorem Mod.tr {lo : Nat} {a b c : Heap} (x : Mod lo a.length a b) (y : Mod lo b.length b c) : Mod lo a.length a c :=
  ⟨Nat.le_trans x.1 y.1, fun k hk hn => by rw [y.2 k (Nat.lt_of_lt_of_le hk x.1) (by omega), x.2 k hk hn]⟩
/-- Steps put behind one step in a block of our own. -/
theorem append_one {h : Heap} {x : Value} {b : Nat} {s : Trip} {f : List Trip} {k : Value → Heap → Prop} (hb : h[b]? = some ⟨trips [s], true⟩) (h0 : b ≠ 0) (hn : newCells 3 h x = some (trips f)) (hf : f.length ≤ 1048576)
    (hk : ∀ nb h', h.length ≤ h'.length → (∀ c, c < h.length → c ≠ b → h'[c]? = h[c]?) → h'[nb]? = some ⟨trips (s :: f), true⟩ → b ≤ nb → k (sl nb 0 (f.length + 1) 3) h') : bindW (aAppend 3 h x (sl b 0 1 3)) k := by
  have hl := at_lt hb
  by_cases hfe : f = []
  · subst hfe
    have e : aAppend 3 h x (sl b 0 1 3) = some (sl b 0 1 3, h) := by simp [aAppend, hn, trips_nil]
    rw [e]
    exact hk b h (Nat.le_refl _) (fun c _ _ => rfl) hb (Nat.le_refl _)
  · have hne : trips f ≠ [] := fun e => hfe (trips_inj_nil e)
    have e : aAppend 3 h x (sl b 0 1 3) = some (sl h.length 0 (f.length + 1) 3, h.set b ⟨[], false⟩ ++ [⟨trips (s :: f), true⟩]) := by
      simp only [aAppend, hn]
      rw [if_neg (by omega), if_neg hne, if_neg (by rw [trips_len]; simp [maxSize]; omega), if_neg h0]
      simp only [hb]
      rw [if_pos ⟨trivial, trivial⟩, cellsAt_all hb (by rw [trips_len]; rfl), trips_len]
      simp only [trips_cons, trips_nil, Nat.mul_div_cancel _ (show 0 < 3 by omega), Nat.add_comm 1, List.cons_append, List.append_nil, List.nil_append, Nat.mul_comm 3, trip]
      try rw [Nat.mul_div_cancel _ (show 0 < 3 by omega)]
    rw [e]
    refine hk _ _ (by simp) (fun c hc hn => ?_) (by simp) (by omega)
    rw [List.getElem?_append_left (by simpa using hc), List.getElem?_set_ne (by omega)]

theorem c564 (h : Heap) (lo jb : Nat) (W H : Int) (br : List Int) (p f : List Trip) (a x y : Int) (rest : List Value) (hJ : JM h lo jb ((W, H, br), p ++ [(a, x, y)], f) rest) (ha : 0 ≤ a) (hb : a < br.length) (hp : p.length ≤ 1000) (hf : f.length ≤ 1000) :
    ACall Gam 564 [pt jb 0] h fun _ h' => Mod lo h.length h h' ∧ JM h' lo jb ((W, H, br.set a.toNat x), p, (a, x, y) :: f) (trips [(a, x, y)] ++ rest) := by
  obtain ⟨b1, z1, b2, z2, b3, z3, hJ⟩ := hJ
  have hJ : JMx h lo jb ((W, H, br), p ++ [(a, x, y)], f) rest b1 z1 b2 z2 b3 z3 := hJ
  obtain ⟨an, rfl⟩ := Int.eq_ofNat_of_zero_le ha
  rw [Int.toNat_natCast]
  have han : an < br.length := by omega
  have wf := hJ.2.2.2.2.2.2.2
  have wft : T64 ((an : Int), x, y) := wf.p _ (by simp)
  have wfb : ∀ t ∈ f, T64 t := wf.f
  have wfp : ∀ t ∈ p, T64 t := fun t ht => wf.p _ (by simp [ht])
  obtain ⟨k2, k3, k4⟩ := hJ.cells
  simp only [List.length_append, List.length_cons, List.length_nil, Nat.zero_add] at k2 k3 k4
  obtain ⟨z2e, hb2, _⟩ := hJ.2.2.2.2.2.1.resolve_left (by simp)
  simp only at hb2
  have c2 := trip_last hb2
  simp only at c2
  refine ACall_intro g564 rfl ?_
  unfold fn564
  rw [awp_seq, awp_reg]
  generalize hK : seqQ Gam _ _ 0 = K
  simp (disch := omega) [k3]
  subst hK
  simp only [seqQ_zero]
  rw [awp_seq, awp_reg]
  generalize hK : seqQ Gam _ _ 0 = K
  have e1 : ((p.length : Int) + 1 - 1) = p.length := by omega
  have hlt : ((p.length : Int) < p.length + 1) = True := by simp; omega
  simp (disch := omega) [k3, e1, c2, wrap64, hlt]
  subst hK
  simp only [seqQ_zero]
  rw [awp_seq, awp_reg]
  generalize hK : seqQ Gam _ _ 0 = K
  obtain ⟨h1, s1, J1, m1, l1⟩ := hJ.brs han wft.2.1
  simp (disch := omega) [k2, han, s1]
  subst hK
  simp only [seqQ_zero]
  rw [awp_seq, awp_reg]
  generalize hK : seqQ Gam _ _ 0 = K
  obtain ⟨k2, k3, k4⟩ := J1.cells
  simp only [List.length_append, List.length_cons, List.length_nil, Nat.zero_add, List.length_set] at k2 k3 k4
  have i2 := J1.2.2.2.2.2.1.resolve_left (by simp)
  simp only at i2
  obtain ⟨h2, s2, J2, m2, l2⟩ := J1.past (h1 := h1) (p' := p) (rest' := trips [((an : Int), x, y)] ++ rest) (nb := b2) (Nat.le_refl _) (fun c _ _ => rfl) (by rw [i2.2.1]; simp [trips_append]) (.inr ⟨rfl, by simp⟩) wfp (by omega)
  have es : aSlice 7 h1 (sl b2 0 (p.length + 1) 3) none (some (I p.length)) none = some (sl b2 0 p.length 3, h1) := by
    simp [aSlice, bound]
  rw [z2e] at k3
  simp (disch := omega) [k3, e1, wrap64, es, s2]
  subst hK
  simp only [seqQ_zero]
  obtain ⟨k2, k3, k4⟩ := J2.cells
  simp only [List.length_append, List.length_cons, List.length_nil, Nat.zero_add, List.length_set] at k2 k3 k4
  have k4' : cell (h2 ++ [⟨[I an, I x, I y], true⟩]) jb 4 = some (sl b3 0 f.length z3) := by
    simp only [cell] at k4 ⊢
    rw [List.getElem?_append_left (at_lt J2.1)]; exact k4
  simp (disch := omega) [aBuildSlice, k4']
  have i3 := J2.2.2.2.2.2.2.1
  simp only at i3
  have hn : newCells 3 (h2 ++ [⟨[I an, I x, I y], true⟩]) (sl b3 0 f.length z3) = some (trips f) := by
    by_cases hfe : f = []
    · subst hfe; rfl
    · have : f.length ≠ 0 := fun e => hfe (List.length_eq_zero_iff.1 e)
      have i3 := i3.resolve_left fun e => hfe e.1
      simp only [newCells, if_neg this]
      exact cellsAt_all (push_at i3.2.1) (by rw [trips_len]; omega)
  have hl2 : 0 < h2.length := by have := at_lt J2.1; omega
  refine append_one (s := ((an : Int), x, y)) (by simp [trips_cons, trips_nil]) (by omega) hn (by omega) fun nb h5 hl5 hk5 hn5 hb5 => ?_
  simp only [List.length_append, List.length_cons, List.length_nil] at hl5 hk5
  obtain ⟨h6, s6, J6, m6, e6⟩ := J2.fut (h1 := h5) (f' := ((an : Int), x, y) :: f) (nb := nb) (by omega) (fun c hc _ => by rw [hk5 c (by omega) (by omega), List.getElem?_append_left (by omega)]) (.inr ⟨hn5, hb5⟩) (by
      intro t ht
      rcases List.mem_cons.1 ht with rfl | ht
      · exact wft
      · exact wfb t ht) (by simp; omega)
  simp only [List.length_cons] at s6
  simp (disch := omega) [s6]
  exact ⟨m1.tr (m2.tr m6), J6.jm⟩
end Am
/-! AmJ10 -/
set_option linter.unusedVariables false
set_option linter.unusedSimpArgs false
set_option maxHeartbeats 4000000
set_option maxRecDepth 4000
namespace Am
open Go

/-- All steps fit the branches; there are not many. -/
structure JK (X : Jrn) : Prop where
  p : ∀ t ∈ X.2.1, 0 ≤ t.1 ∧ t.1 < X.1.2.2.length
  f : ∀ t ∈ X.2.2, 0 ≤ t.1 ∧ t.1 < X.1.2.2.length
  n : X.2.1.length + X.2.2.length ≤ 50
theorem runB_keys : ∀ (l : List Trip) (br : List Int), (runB l br).isSome = true → ∀ t ∈ l, 0 ≤ t.1 ∧ t.1 < br.length
  | [], _, _ => by simp
  | s :: l, br, h => by
    unfold runB at h
    by_cases hc : (okStep br.length s && decide (at0 br s.1.toNat = s.2.2)) = true
    · rw [if_pos hc] at h
      have := runB_keys l _ h
      rw [List.length_set] at this
      intro t ht
      rcases List.mem_cons.1 ht with rfl | ht
      · exact (okStep_iff.1 (by simp at hc; exact hc.1)).1
      · exact this t ht
    · rw [if_neg hc] at h; simp at h
theorem runF_keys : ∀ (l : List Trip) (br : List Int), (runF l br).isSome = true → ∀ t ∈ l, 0 ≤ t.1 ∧ t.1 < br.length
  | [], _, _ => by simp
  | s :: l, br, h => by
    unfold runF at h
    by_cases hc : (okStep br.length s && decide (at0 br s.1.toNat = s.2.1)) = true
    · rw [if_pos hc] at h
      have := runF_keys l _ h
      rw [List.length_set] at this
      intro t ht
      rcases List.mem_cons.1 ht with rfl | ht
      · exact (okStep_iff.1 (by simp at hc; exact hc.1)).1
      · exact this t ht
    · rw [if_neg hc] at h; simp at h
theorem JK.of {X : Jrn} (h : okJ X = true) : JK X := by
  unfold okJ at h
  simp only [Bool.and_eq_true, decide_eq_true_eq] at h
  exact ⟨fun t ht => runB_keys _ _ h.2.2.1 t (by simpa using ht), runF_keys _ _ h.2.2.2, h.2.1⟩

def redoJ (X : Jrn) : Jrn := match X.2.2 with
  | [] => X
  | s :: f => ((X.1.1, X.1.2.1, X.1.2.2.set s.1.toNat s.2.2), X.2.1 ++ [s], f)
def redoAns (X : Jrn) : Jrn × Int := if okJ X then (if X.2.2 = [] then (noJ, 6) else (redoJ X, 0)) else (noJ, 1)
end Am
/-! AmJ11 -/
set_option linter.unusedVariables false
set_option linter.unusedSimpArgs false
set_option maxHeartbeats 4000000
set_option maxRecDepth 4000
namespace Am
open Go

/-- As Vo, with cells behind Past. -/
def VoJ (h : Heap) (lo hi : Nat) (v : Value) (X : Jrn) : Prop := ∃ b1 z1 b2 z2 b3 z3 rest,
  v = .agg #[I X.1.1, I X.1.2.1, sl b1 0 X.1.2.2.length z1, sl b2 0 X.2.1.length z2, sl b3 0 X.2.2.length z3] ∧ (z1 = 1 ∨ b1 = 0 ∧ X.1.2.2 = []) ∧
  (X.1.2.2 = [] ∨ h[b1]? = some ⟨ints X.1.2.2, true⟩ ∧ lo ≤ b1 ∧ b1 < hi ∧ b1 ≠ b2 ∧ b1 ≠ b3) ∧
  (X.2.1 = [] ∧ b2 = 0 ∨ z2 = 3 ∧ h[b2]? = some ⟨trips X.2.1 ++ rest, true⟩ ∧ lo ≤ b2 ∧ b2 < hi ∧ b2 ≠ b3) ∧
  (X.2.2 = [] ∧ b3 = 0 ∨ z3 = 3 ∧ h[b3]? = some ⟨trips X.2.2, true⟩ ∧ lo ≤ b3 ∧ b3 < hi) ∧ Jwf X
theorem JM.voj {h : Heap} {lo jb : Nat} {X : Jrn} {rest : List Value} (x : JM h lo jb X rest) : ∃ cs, h[jb]? = some ⟨cs, true⟩ ∧ cs.length = 5 ∧ VoJ h lo h.length (.agg cs.toArray) X := by
  obtain ⟨b1, z1, b2, z2, b3, z3, hjb, hlo, hpos, hz1, i1, i2, i3, wf⟩ := x
  exact ⟨_, hjb, rfl, b1, z1, b2, z2, b3, z3, rest, rfl, hz1, i1.imp id fun e => ⟨e.1, e.2.1, at_lt e.1, e.2.2.2⟩, i2.imp id fun e => ⟨e.1, e.2.1, e.2.2.1, at_lt e.2.1, e.2.2.2.2⟩, i3.imp id fun e => ⟨e.1, e.2.1, e.2.2.1, at_lt e.2.1⟩, wf⟩
theorem VoJ.no {h : Heap} {lo hi : Nat} : VoJ h lo hi (.agg #[I 0, I 0, sl 0 0 0 0, sl 0 0 0 0, sl 0 0 0 0]) noJ :=
  ⟨0, 0, 0, 0, 0, 0, [], rfl, .inr ⟨rfl, rfl⟩, .inl rfl, .inl ⟨rfl, rfl⟩, .inl ⟨rfl, rfl⟩, by constructor <;> simp [noJ, I64]⟩
theorem VoJ.mod {h h' : Heap} {lo hi lo' hi' : Nat} {v : Value} {X : Jrn} (x : VoJ h lo hi v X) (m : Mod lo' hi' h h') (hd : hi ≤ lo' ∨ hi' ≤ lo) : VoJ h' lo hi v X := by
  obtain ⟨b1, z1, b2, z2, b3, z3, rest, e, hz1, i1, i2, i3, wf⟩ := x
  exact ⟨b1, z1, b2, z2, b3, z3, rest, e, hz1, i1.imp id fun e => ⟨by rw [m.2 _ (at_lt e.1) (by omega)]; exact e.1, e.2⟩, i2.imp id fun e => ⟨e.1, by rw [m.2 _ (at_lt e.2.1) (by omega)]; exact e.2.1, e.2.2⟩, i3.imp id fun e => ⟨e.1, by rw [m.2 _ (at_lt e.2.1) (by omega)]; exact e.2.1, e.2.2⟩, wf⟩
theorem VoJ.grow {h h' : Heap} {lo hi : Nat} {v : Value} {X : Jrn} (x : VoJ h lo hi v X) (g : Grows h h') : VoJ h' lo hi v X := by
  obtain ⟨b1, z1, b2, z2, b3, z3, rest, e, hz1, i1, i2, i3, wf⟩ := x
  exact ⟨b1, z1, b2, z2, b3, z3, rest, e, hz1, i1.imp id fun e => ⟨by rw [g.look (at_lt e.1)]; exact e.1, e.2⟩, i2.imp id fun e => ⟨e.1, by rw [g.look (at_lt e.2.1)]; exact e.2.1, e.2.2⟩, i3.imp id fun e => ⟨e.1, by rw [g.look (at_lt e.2.1)]; exact e.2.1, e.2.2⟩, wf⟩
theorem VoJ.wide {h : Heap} {lo hi lo' hi' : Nat} {v : Value} {X : Jrn} (x : VoJ h lo hi v X) (h1 : lo' ≤ lo) (h2 : hi ≤ hi') : VoJ h lo' hi' v X := by
  obtain ⟨b1, z1, b2, z2, b3, z3, rest, e, hz1, i1, i2, i3, wf⟩ := x
  exact ⟨b1, z1, b2, z2, b3, z3, rest, e, hz1, i1.imp id fun e => ⟨e.1, by omega, by omega, e.2.2.2⟩, i2.imp id fun e => ⟨e.1, e.2.1, by omega, by omega, e.2.2.2.2⟩, i3.imp id fun e => ⟨e.1, e.2.1, by omega, by omega⟩, wf⟩

theorem VoJ.vr {h : Heap} {lo hi : Nat} {v : Value} {X : Jrn} (x : VoJ h lo hi v X) : Vr h shJournal v X := by
  obtain ⟨⟨W, H, br⟩, p, f⟩ := X
  obtain ⟨b1, z1, b2, z2, b3, z3, rest, rfl, hz1, i1, i2, i3, w1, w2, x1, x2, x3, y1, y2, y3⟩ := x
  simp only at hz1 i1 i2 i3 w1 w2 x1 x2 x3 y1 y2 y3
  refine Vr.of_journal w1 w2 (Vr.of_ints hz1 (by rw [maxLen_eq]; simp only; omega) x1 (i1.imp id fun e => cellsAt_all e.1 (by simp [ints])))
    (Vr.of_trips (i2.elim (fun e => .inr ⟨e.2, e.1⟩) fun e => .inl e.1) (by rw [maxLen_eq]; simp only; omega) x2 (i2.imp (fun e => e.1) fun e => ?_))
    (Vr.of_trips (i3.elim (fun e => .inr ⟨e.2, e.1⟩) fun e => .inl e.1) (by rw [maxLen_eq]; simp only; omega) x3 (i3.imp (fun e => e.1) fun e => cellsAt_all e.2.1 (by rw [trips_len]; omega)))
  rw [cellsAt_of e.2.1 (by simp [trips_len]; omega)]
  simp [trips_len, Nat.mul_comm]

end Am
/-! AmJ12 -/
set_option linter.unusedVariables false
set_option linter.unusedSimpArgs false
set_option maxHeartbeats 4000000
set_option maxRecDepth 4000
namespace Am
open Go

def undoJ (X : Jrn) : Jrn := match X.2.1.reverse with
  | [] => X
  | s :: r => ((X.1.1, X.1.2.1, X.1.2.2.set s.1.toNat s.2.1), r.reverse, s :: X.2.2)
def undoAns (X : Jrn) : Jrn × Int := if okJ X then (if X.2.1 = [] then (noJ, 6) else (undoJ X, 0)) else (noJ, 1)
theorem undoJ_len (X : Jrn) : (undoJ X).1.2.2.length = X.1.2.2.length ∧ (undoJ X).2.1.length + (undoJ X).2.2.length = X.2.1.length + X.2.2.length := by
  unfold undoJ
  split
  · exact ⟨rfl, rfl⟩
  · rename_i h
    have := congrArg List.length h
    simp at this
    simp; omega
theorem undo_s (h : Heap) (lo jb : Nat) (X : Jrn) (rest : List Value) (hJ : JM h lo jb X rest) (hk : JK X) (hne : X.2.1 ≠ []) :
    ACall Gam 564 [pt jb 0] h fun _ h' => Mod lo h.length h h' ∧ ∃ rest, JM h' lo jb (undoJ X) rest := by
  obtain ⟨⟨W, H, br⟩, p, f'⟩ := X
  simp only at hne
  unfold undoJ
  simp only
  split
  · rename_i e; exact absurd (by simpa using e) hne
  rename_i s r e
  obtain rfl : p = r.reverse ++ [s] := by rw [← List.reverse_reverse p, e]; simp
  obtain ⟨a, x, y⟩ := s
  have k1 := hk.p (a, x, y) (by simp)
  have k2 := hk.n
  simp only [List.length_append, List.length_cons, List.length_nil] at k1 k2
  exact (c564 h lo jb W H br r.reverse f' a x y rest hJ k1.1 k1.2 (by omega) (by omega)).mono fun _ _ h => ⟨h.1, _, h.2⟩

end Am
/-! AmJ13 -/
set_option linter.unusedVariables false
set_option linter.unusedSimpArgs false
set_option maxHeartbeats 4000000
set_option maxRecDepth 4000
namespace Am
open Go

def undoN : Nat → Jrn → Jrn
  | 0, X => X
  | k + 1, X => undoN k (undoJ X)
def redoN : Nat → Jrn → Jrn
  | 0, X => X
  | k + 1, X => redoN k (redoJ X)
def goJ (X : Jrn) (n : Nat) : Jrn := redoN (n - (undoN (X.2.1.length - n) X).2.1.length) (undoN (X.2.1.length - n) X)
def goAns (X : Jrn) (n : Int) : Jrn × Int := if okJ X then (if inR n 0 (X.2.1.length + X.2.2.length : Nat) then (goJ X n.toNat, 0) else (noJ, 2)) else (noJ, 1)
/-- A journal of ours on the way to its goal. -/
def Way (lo jb n : Nat) (u : Bool) (Z : Jrn) (tot : Nat) (h : Heap) (m : Nat) : Prop := ∃ Y rest, JM h lo jb Y rest ∧ JK Y ∧ Y.2.1.length + Y.2.2.length = tot ∧ m = (if u then Y.2.1.length - n else n - Y.2.1.length) ∧ Z = if u then undoN m Y else redoN m Y

end Am
/-! AmJ14 -/
set_option linter.unusedVariables false
set_option linter.unusedSimpArgs false
set_option maxHeartbeats 4000000
set_option maxRecDepth 4000
namespace Am
open Go

end Am
/-! AmJ15 -/
set_option linter.unusedVariables false
set_option linter.unusedSimpArgs false
set_option maxHeartbeats 4000000
namespace Am
open Go

theorem at0_set {l : List Int} {k : Nat} {v : Int} (hk : k < l.length) : at0 (l.set k v) k = v := by
  rw [at0_of (by simpa using hk)]; simp
theorem set_at0 {l : List Int} {k : Nat} (hk : k < l.length) : l.set k (at0 l k) = l := by
  rw [at0_of hk, List.set_getElem_self]
theorem okP_set {W H : Int} {br : List Int} {k : Nat} {v : Int} (h : okP (W, H, br) = true) (hv : 0 ≤ v ∧ v ≤ 2) : okP (W, H, br.set k v) = true := by
  rw [okP_iff] at h ⊢
  refine ⟨h.w, h.h, by simpa using h.n, fun x hx => ?_⟩
  rcases List.mem_or_eq_of_mem_set hx with hx | rfl
  · exact h.b x hx
  · exact hv
theorem okJ_iff {X : Jrn} : okJ X = true ↔ okP X.1 = true ∧ X.2.1.length + X.2.2.length ≤ 50 ∧ (∃ c, runB X.2.1.reverse X.1.2.2 = some c) ∧ ∃ c, runF X.2.2 X.1.2.2 = some c := by
  unfold okJ
  simp only [Bool.and_eq_true, decide_eq_true_eq, Option.isSome_iff_exists]
theorem runB_cons {s : Trip} {l : List Trip} {br c : List Int} (h : runB (s :: l) br = some c) : okStep br.length s = true ∧ at0 br s.1.toNat = s.2.2 ∧ runB l (br.set s.1.toNat s.2.1) = some c := by
  simp only [runB] at h
  split at h
  · rename_i hc; simp at hc; exact ⟨hc.1, hc.2, h⟩
  · cases h
theorem runB_mk {s : Trip} {l : List Trip} {br c : List Int} (h1 : okStep br.length s = true) (h2 : at0 br s.1.toNat = s.2.2) (h : runB l (br.set s.1.toNat s.2.1) = some c) : runB (s :: l) br = some c := by
  simp only [runB, h1, h2, decide_true, Bool.and_self, if_true]; exact h
theorem runF_step {s : Trip} {l : List Trip} {br c : List Int} (h1 : okStep br.length s = true) (h2 : at0 br s.1.toNat = s.2.1) (h : runF l (br.set s.1.toNat s.2.2) = some c) : runF (s :: l) br = some c := by
  simp only [runF, h1, h2, decide_true, Bool.and_self, if_true]; exact h
theorem step_bd {n : Nat} {s : Trip} (h : okStep n s = true) : s.1.toNat < n ∧ (0 ≤ s.2.1 ∧ s.2.1 ≤ 2) ∧ (0 ≤ s.2.2 ∧ s.2.2 ≤ 2) := by
  have := okStep_iff.1 h; omega

/-- One step back, in plain terms. -/
theorem undo_law {W H : Int} {br : List Int} {p f : List Trip} {s : Trip} (h : okJ ((W, H, br), p ++ [s], f) = true) :
    undoJ ((W, H, br), p ++ [s], f) = ((W, H, br.set s.1.toNat s.2.1), p, s :: f) ∧ okJ ((W, H, br.set s.1.toNat s.2.1), p, s :: f) = true ∧
    redoJ ((W, H, br.set s.1.toNat s.2.1), p, s :: f) = ((W, H, br), p ++ [s], f) ∧ startB ((W, H, br.set s.1.toNat s.2.1), p, s :: f) = startB ((W, H, br), p ++ [s], f) := by
  obtain ⟨h1, h2, ⟨c, h3⟩, ⟨d, h4⟩⟩ := okJ_iff.1 h
  simp only [List.reverse_append, List.reverse_cons, List.reverse_nil, List.nil_append, List.singleton_append, List.length_append, List.length_cons, List.length_nil] at h1 h2 h3 h4
  obtain ⟨g1, g2, g3⟩ := runB_cons h3
  obtain ⟨e1, e2, e3⟩ := step_bd g1
  have back : (br.set s.1.toNat s.2.1).set s.1.toNat s.2.2 = br := by rw [List.set_set, ← g2, set_at0 e1]
  refine ⟨by simp [undoJ], okJ_iff.2 ⟨okP_set h1 e2, by simp only [List.length_cons]; omega, ⟨c, g3⟩, d, ?_⟩, by simp [redoJ, back], ?_⟩
  · exact runF_step (by simpa using g1) (at0_set e1) (by rw [back]; exact h4)
  · simp only [startB, List.reverse_append, List.reverse_cons, List.reverse_nil, List.nil_append, List.singleton_append, h3, g3]
/-- A step made. -/
theorem do_law {W H : Int} {br : List Int} {p f : List Trip} {k kind : Int} (h : okJ ((W, H, br), p, f) = true) (hc : doCode ((W, H, br), p, f) k kind = 0) :
    okJ (doJ ((W, H, br), p, f) k kind) = true ∧ (undoJ (doJ ((W, H, br), p, f) k kind)).1 = (W, H, br) := by
  obtain ⟨h1, h2, ⟨c, h3⟩, ⟨d, h4⟩⟩ := okJ_iff.1 h
  unfold doCode at hc
  split at hc
  rotate_left
  · simp at hc
  rename_i hq
  simp only [Bool.and_eq_true, inR_iff, okBr_iff] at hq
  split at hc
  · simp at hc
  rename_i hne
  split at hc
  · simp at hc
  rename_i hp
  simp only at hq hp hne h1 h2 h3 h4
  obtain ⟨kn, rfl⟩ := Int.eq_ofNat_of_zero_le hq.1.1
  have hk : kn < br.length := by omega
  rw [Int.toNat_natCast] at hne
  have hb : 0 ≤ at0 br kn ∧ at0 br kn ≤ 2 := by
    rw [at0_of hk]; exact (okP_iff.1 h1).b _ (List.getElem_mem hk)
  have hs : okStep br.length ((kn : Int), at0 br kn, kind) = true := okStep_iff.2 ⟨⟨by simp, by simpa using hk⟩, hb, hq.2, hne⟩
  have hJ : okJ ((W, H, br.set kn kind), p ++ [((kn : Int), at0 br kn, kind)], []) = true := by
    refine okJ_iff.2 ⟨okP_set h1 hq.2, by simp only [List.length_append, List.length_cons, List.length_nil]; omega, ⟨c, ?_⟩, _, rfl⟩
    have := runB_mk (s := ((kn : Int), at0 br kn, kind)) (l := p.reverse) (br := br.set kn kind) (c := c) (by simpa using hs) (at0_set hk) (by simp only [Int.toNat_natCast]; rw [List.set_set, set_at0 hk]; exact h3)
    simpa using this
  simp only [doJ, Int.toNat_natCast]
  refine ⟨hJ, ?_⟩
  rw [(undo_law hJ).1]
  simp only [Int.toNat_natCast]
  rw [List.set_set, set_at0 hk]
/-- One step back, however the journal is given. -/
theorem undo_ok {X : Jrn} (h : okJ X = true) (hne : X.2.1 ≠ []) : okJ (undoJ X) = true ∧ redoJ (undoJ X) = X ∧ startB (undoJ X) = startB X ∧ (undoJ X).2.2 ≠ [] ∧ (undoJ X).1.1 = X.1.1 ∧ (undoJ X).1.2.1 = X.1.2.1 := by
  obtain ⟨⟨W, H, br⟩, p, f⟩ := X
  simp only at hne
  obtain ⟨p', s, rfl⟩ : ∃ p' s, p = p' ++ [s] := by
    rcases List.eq_nil_or_concat p with e | ⟨p', s, e⟩
    · exact absurd e hne
    · exact ⟨p', s, by simpa using e⟩
  obtain ⟨e, h1, h2, h3⟩ := undo_law h
  rw [e]
  exact ⟨h1, h2, h3, by simp, rfl, rfl⟩
end Am
/-! AmS1 -/
set_option linter.unusedVariables false
set_option linter.unusedSimpArgs false
set_option maxHeartbeats 4000000
set_option maxRecDepth 4000
namespace Am
open Go

/-- A source in a box of our own: its code lies behind it, and it has given at most m bytes. -/
def Src (h : Heap) (b m : Nat) : Prop := ∃ (cb co n z a : Nat) (s : Int), h[b]? = some ⟨[sl cb co n z, I a, .int .u64 s], true⟩ ∧ a ≤ m ∧ 0 ≤ s ∧ s < 18446744073709551616 ∧ (n = 0 ∨ cb < b) ∧ n ≤ 9223372036854775807 ∧ ∀ i, i < n → ∃ x : Nat, cell h cb (co + i) = some (.int .u8 x) ∧ x < 256
theorem Src.mono {h : Heap} {b m m' : Nat} (x : Src h b m) (hm : m ≤ m') : Src h b m' := by
  obtain ⟨cb, co, n, z, a, s, h1, h2, h3⟩ := x
  exact ⟨cb, co, n, z, a, s, h1, by omega, h3⟩
theorem Src.mod {h h' : Heap} {b m lo hi : Nat} (x : Src h b m) (md : Mod lo hi h h') (hb : b < lo) : Src h' b m := by
  obtain ⟨cb, co, n, z, a, s, h1, h2, h3, h4, h5, h6, h7⟩ := x
  have hl := at_lt h1
  refine ⟨cb, co, n, z, a, s, by rw [md.2 b hl (.inl hb)]; exact h1, h2, h3, h4, h5, h6, fun i hi => ?_⟩
  obtain ⟨x, e1, e2⟩ := h7 i hi
  exact ⟨x, by unfold cell at e1 ⊢; rw [md.2 cb (by omega) (.inl (by omega))]; exact e1, e2⟩
theorem Src.grow {h h' : Heap} {b m : Nat} (x : Src h b m) (g : Grows h h') : Src h' b m := by
  obtain ⟨cb, co, n, z, a, s, h1, h2, h3, h4, h5, h6, h7⟩ := x
  have hl := at_lt h1
  refine ⟨cb, co, n, z, a, s, by rw [g.look hl]; exact h1, h2, h3, h4, h5, h6, fun i hi => ?_⟩
  obtain ⟨x, e1, e2⟩ := h7 i hi
  exact ⟨x, g.cell e1, e2⟩
theorem wrap_u64 (n : Int) : 0 ≤ IntKind.u64.wrap n ∧ IntKind.u64.wrap n < 18446744073709551616 := by
  simp only [IntKind.wrap, IntKind.signed, IntKind.bits]
  have h1 := Int.emod_nonneg n (show (2 ^ 64 : Int) ≠ 0 by decide)
  have h2 := Int.emod_lt_of_pos n (show (0 : Int) < 2 ^ 64 by decide)
  simp at *
  omega
theorem wrapUs {n : Int} (h1 : 0 ≤ n) (h2 : n < 18446744073709551616) : IntKind.u64.wrap n = n := wrap_unsigned (M := 18446744073709551616) rfl (by decide) h1 h2
theorem and_255 (a : Int) : ∃ x : Nat, bitsOp .u64 (· &&& ·) a 255 = .int .u64 x ∧ x < 256 := by
  obtain ⟨x, hx⟩ : ∃ x : Nat, x = (BitVec.ofInt 64 a &&& BitVec.ofInt 64 255).toNat := ⟨_, rfl⟩
  have hb : x < 256 := by
    rw [hx, BitVec.toNat_and]
    have : (BitVec.ofInt 64 255).toNat = 255 := by decide
    rw [this]
    have := @Nat.and_le_right (BitVec.ofInt 64 a).toNat 255
    omega
  refine ⟨x, ?_, hb⟩
  show Value.int .u64 (IntKind.u64.wrap ((BitVec.ofInt 64 a &&& BitVec.ofInt 64 255).toNat : Int)) = _
  rw [← hx, wrapUs (by omega) (by omega)]

theorem c5 (h : Heap) (b m : Nat) (hs : Src h b m) (hm : m ≤ 1099511627776) : ACall Gam 5 [pt b 0] h fun r h' => ∃ x : Nat, r = I x ∧ x < 256 ∧ Mod b (b + 1) h h' ∧ h'.length = h.length ∧ Src h' b (m + 1) := by
  obtain ⟨cb, co, n, z, a, s, h1, h2, h3, h4, h5, h6, h7⟩ := hs
  have hl := at_lt h1
  have k0 : cell h b 0 = some (sl cb co n z) := by simp [cell, h1]
  have k1 : cell h b 1 = some (I a) := by simp [cell, h1]
  have k2 : cell h b 2 = some (.int .u64 s) := by simp [cell, h1]
  refine ACall_intro g5 rfl ?_
  unfold fn5
  rw [awp_seq, awp_reg]
  generalize hK : seqQ Gam _ _ 0 = K
  simp (disch := omega)
  subst hK
  simp only [seqQ_zero]
  rw [awp_seq, awp_reg]
  generalize hK : seqQ Gam _ _ 0 = K
  simp (disch := omega)
  subst hK
  simp only [seqQ_zero]
  rw [awp_seq]
  generalize hK : seqQ Gam _ _ = K
  have step : ∀ (σ : Nat → Value) (x : Nat), x < 256 → σ 0 = pt b 0 → σ 3 = I x → K 0 σ h := by
    intro σ x hx q0 q3
    subst hK
    simp only [seqQ_zero]
    rw [awp_seq, awp_reg]
    generalize hK : seqQ Gam _ _ 0 = K
    have s1 := store_one (v := I ((a : Int) + 1)) (o := 1) h1 (by simp)
    obtain ⟨h', eh⟩ : ∃ h', h' = h.set b ⟨[sl cb co n z, I ((a : Int) + 1), .int .u64 s], true⟩ := ⟨_, rfl⟩
    simp only [List.set_cons_succ, List.set_cons_zero, ← eh] at s1
    simp (disch := omega) [q0, k1, s1, wrap64]
    subst hK
    simp only [seqQ_zero]
    have hb' : h'[b]? = some ⟨[sl cb co n z, I ((a : Int) + 1), .int .u64 s], true⟩ := by rw [eh]; simp [hl]
    have k0 : cell h' b 0 = some (sl cb co n z) := by simp [cell, hb']
    have k1 : cell h' b 1 = some (I ((a : Int) + 1)) := by simp [cell, hb']
    have k2 : cell h' b 2 = some (.int .u64 s) := by simp [cell, hb']
    rw [awp_seq, awp_reg]
    generalize hK : seqQ Gam _ _ 0 = K
    simp (disch := omega) [q0, q3, k2]
    obtain ⟨t, ht⟩ : ∃ t, t = IntKind.u64.wrap (IntKind.u64.wrap (IntKind.u64.wrap (s * 6364136223846793005) + IntKind.u64.wrap ↑x) + 1442695040888963407) := ⟨_, rfl⟩
    have tb := wrap_u64 (IntKind.u64.wrap (IntKind.u64.wrap (s * 6364136223846793005) + IntKind.u64.wrap ↑x) + 1442695040888963407)
    rw [← ht] at tb ⊢
    have s2 := store_one (v := .int .u64 t) (o := 2) hb' (by simp)
    obtain ⟨h2', eh2⟩ : ∃ h2', h2' = h'.set b ⟨[sl cb co n z, I ((a : Int) + 1), .int .u64 t], true⟩ := ⟨_, rfl⟩
    simp only [List.set_cons_succ, List.set_cons_zero, ← eh2] at s2
    rw [s2]
    have hb2 : h2'[b]? = some ⟨[sl cb co n z, I ((a : Int) + 1), .int .u64 t], true⟩ := by rw [eh2]; simp [at_lt hb']
    have k0 : cell h2' b 0 = some (sl cb co n z) := by simp [cell, hb2]
    have k1 : cell h2' b 1 = some (I ((a : Int) + 1)) := by simp [cell, hb2]
    have k2 : cell h2' b 2 = some (.int .u64 t) := by simp [cell, hb2]
    have hl2 : h2'.length = h.length := by rw [eh2, eh]; simp
    have ho : ∀ c, c ≠ b → h2'[c]? = h[c]? := fun c hc => by rw [eh2, set_other hc, eh, set_other hc]
    have md : Mod b (b + 1) h h2' := ⟨by omega, fun c hc hn => ho c (by omega)⟩
    have src : Src h2' b (m + 1) := ⟨cb, co, n, z, a + 1, t, by rw [hb2]; rfl, by omega, tb.1, tb.2, h5, h6, fun i hi => by
      obtain ⟨x, e1, e2⟩ := h7 i hi
      exact ⟨x, by unfold cell at e1 ⊢; rw [ho cb (by omega)]; exact e1, e2⟩⟩
    simp (disch := omega)
    subst hK
    simp only [seqQ_zero]
    rw [awp_seq]
    generalize hK : seqQ Gam _ _ = K
    simp (disch := omega) [q0, k0, k1]
    refine fork_dec (fun h3 => ?_) (fun h3 => ?_)
    · subst hK
      simp (disch := omega) [q3]
      exact ⟨x, rfl, hx, md, hl2, src⟩
    · simp (disch := omega)
      subst hK
      simp only [seqQ_zero]
      obtain ⟨y, ey, hy⟩ := and_255 (t.fdiv (2 ^ min 40 IntKind.u64.bits))
      simp (disch := omega) [q0, k2, ey, wrap64]
      exact ⟨y, rfl, hy, md, hl2, src⟩
  simp (disch := omega) [k0, k1]
  refine fork_dec (fun h3 => ?_) (fun h3 => ?_)
  · obtain ⟨x, e1, e2⟩ := h7 a (by omega)
    simp (disch := omega) [k0, k1, e1, h3, wrap64]
    exact step _ x e2 (by simp) (by simp)
  · simp (disch := omega)
    exact step _ 0 (by omega) (by simp) (by simp)
/-- What a draw leaves: a number from 0 to n - 1. -/
theorem c7 (h : Heap) (b m : Nat) (n : Int) (hs : Src h b m) (hm : m ≤ 1000000000) (hn : I64 n) : ACall Gam 7 [pt b 0, I n] h fun r h' => ∃ x : Nat, r = I x ∧ (n ≤ 1 → x = 0) ∧ (1 < n → (x : Int) < n) ∧ Mod b (b + 1) h h' ∧ h'.length = h.length ∧ Src h' b (m + 2) := by
  refine ACall_intro g7 rfl ?_
  unfold fn7
  rw [awp_seq, awp_reg]
  generalize hK : seqQ Gam _ _ 0 = K
  simp (disch := omega)
  subst hK
  simp only [seqQ_zero]
  rw [awp_seq]
  generalize hK : seqQ Gam _ _ = K
  simp (disch := omega)
  refine fork_dec (fun h1 => ?_) (fun h1 => ?_)
  · subst hK
    simp (disch := omega)
    exact ⟨0, rfl, fun _ => rfl, fun h => by omega, Mod.refl _ _ _, hs.mono (by omega)⟩
  simp (disch := omega)
  subst hK
  simp only [seqQ_zero]
  rw [awp_seq, awp_reg]
  generalize hK : seqQ Gam _ _ 0 = K
  simp (disch := omega)
  refine callW_of (c5 h b m hs (by omega)) ?_
  rintro _ h2 ⟨x, rfl, hx, md, hl, hs2⟩
  simp (disch := omega)
  subst hK
  simp only [seqQ_zero]
  rw [awp_seq]
  generalize hK : seqQ Gam _ _ = K
  have fin : ∀ (σ : Nat → Value) (h' : Heap) (y : Nat), σ 1 = I n → σ 5 = I y → y < 100000 → Mod b (b + 1) h h' → h'.length = h.length → Src h' b (m + 2) → K 0 σ h' := by
    intro σ h' y q1 q5 hy md hl hs'
    subst hK
    simp only [seqQ_zero]
    obtain ⟨nn, rfl⟩ := Int.eq_ofNat_of_zero_le (show 0 ≤ n by omega)
    have e : (y : Int).tmod nn = ((y % nn : Nat) : Int) := by rw [tmod_pos (by omega), Int.natCast_emod]
    have hn0 : nn ≠ 0 := by omega
    have lt := Nat.mod_lt y (show 0 < nn by omega)
    obtain ⟨r, hr⟩ : ∃ r, r = y % nn := ⟨_, rfl⟩
    rw [← hr] at e lt
    simp (disch := omega) [q1, q5, e, hn0]
    exact ⟨r, rfl, by omega, by omega, md, hl, hs'⟩
  simp (disch := omega)
  refine fork_dec (fun h3 => ?_) (fun h3 => ?_)
  · simp (disch := omega) [wrap64]
    refine callW_of (c5 h2 b (m + 1) hs2 (by omega)) ?_
    rintro _ h4 ⟨y, rfl, hy, md2, hl2, hs4⟩
    simp (disch := omega) [wrap64]
    exact fin _ h4 (x * 256 + y) (by simp) (by simp) (by omega) (md.trans md2) (by omega) (hs4.mono (by omega))
  · simp (disch := omega)
    exact fin _ h2 x (by simp) (by simp) (by omega) md hl (hs2.mono (by omega))
theorem c6 (h : Heap) (b m : Nat) (n : Int) (hs : Src h b m) (hm : m ≤ 1000000000) (hn : I64 n) : ACall Gam 6 [pt b 0, I n] h fun r h' => ∃ x : Bool, r = B x ∧ Mod b (b + 1) h h' ∧ h'.length = h.length ∧ Src h' b (m + 2) := by
  refine ACall_intro g6 rfl ?_
  unfold fn6
  simp (disch := omega)
  refine callW_of (c7 h b m n hs hm hn) ?_
  rintro _ h2 ⟨x, rfl, _, _, md, hl, hs2⟩
  simp (disch := omega)
  exact ⟨by omega, md, hl, hs2⟩
def shBytes : Shp := .slice (.int .u8)
theorem byte_at {h : Heap} {v : Value} {X : List Int} (hv : Vr h shBytes v X) : ∃ b o z, v = sl b o X.length z ∧ X.length ≤ 9223372036854775807 ∧ ∀ i, i < X.length → ∃ x : Nat, cell h b (o + i) = some (.int .u8 x) ∧ x < 256 := by
  obtain ⟨b, o, z, rfl, hz, hm, hel⟩ := hv.slice
  refine ⟨b, o, z, rfl, by rw [← maxLen_eq]; exact hm, fun i hi => ?_⟩
  obtain ⟨c, hc, ⟨rfl, w⟩⟩ := hel i hi
  have e := (cell_in (i := 0) hc (by simp [Shp.n])).1
  have w' : 0 ≤ X[i] ∧ X[i] < 256 := by
    simp [Lit.wf, IntKind.min, IntKind.max, IntKind.signed, IntKind.bits] at w
    omega
  refine ⟨X[i].toNat, ?_, by omega⟩
  simp only [Shp.n, Nat.mul_one, Nat.add_zero] at e
  rw [e, Int.toNat_of_nonneg w'.1]
  rfl
theorem c431 (h : Heap) (v : Value) (X : List Int) (hv : Vr h shBytes v X) : ACall Gam 431 [v] h fun r h' => r = pt h.length 0 ∧ Grows h h' ∧ h'.length = h.length + 1 ∧ Src h' h.length 0 := by
  obtain ⟨b, o, z, rfl, hm, hel⟩ := byte_at hv
  refine ACall_intro g431 rfl ?_
  unfold fn431
  simp (disch := omega)
  refine ⟨⟨_, rfl⟩, b, o, X.length, z, 0, 0, by simp, by omega, by omega, by omega, ?_, hm, fun i hi => ?_⟩
  · by_cases h0 : X.length = 0
    · exact .inl h0
    · obtain ⟨x, e, _⟩ := hel 0 (by omega)
      right
      unfold cell at e
      cases hk : h[b]? with
      | none => rw [hk] at e; simp at e
      | some k => exact at_lt hk
  · obtain ⟨x, e1, e2⟩ := hel i hi
    exact ⟨x, Grows.cell ⟨_, rfl⟩ e1, e2⟩
end Am
/-! AmS2 -/
set_option linter.unusedVariables false
set_option linter.unusedSimpArgs false
set_option maxHeartbeats 4000000
set_option maxRecDepth 4000
namespace Am
open Go

def IntsAt (h : Heap) (b : Nat) (l : List Int) : Prop := h[b]? = some ⟨ints l, true⟩
theorem c450s (h : Heap) (W H : Int) (hW : 1 ≤ W ∧ W ≤ 8) (hH : 1 ≤ H ∧ H ≤ 8) : ACall Gam 450 [I W, I H] h fun r h' => r = .agg #[I W, I H, sl h.length 0 (inner W H).toNat 1] ∧ h' = h ++ [⟨ints (List.replicate (inner W H).toNat 0), true⟩] := by
  have hi := inner_bd hW hH
  refine ACall_intro g450 rfl ?_
  unfold fn450
  simp (disch := omega)
  refine callW_of (c448 W H hW hH h) ?_
  rintro v' h' ⟨rfl, rfl⟩
  simp (disch := omega) [aMake, maxSize]
  rw [if_pos (by omega)]
  simp (disch := omega) [resOf_box, aField]
  simp [reps, ints]
/-- A valid panel drawn, in memory of its own behind the source; its row is a block of its own. -/
theorem c445s (h : Heap) (b m : Nat) (n : Int) (hs : Src h b m) (hm : m ≤ 100000000) (hn : 1 ≤ n ∧ n ≤ 8) : ACall Gam 445 [pt b 0, I n] h fun r h' => ∃ (P : Pan) (bb : Nat), OkP P ∧ P.1 ≤ n ∧ P.2.1 ≤ n ∧ Mod b (b + 1) h h' ∧ r = .agg #[I P.1, I P.2.1, sl bb 0 P.2.2.length 1] ∧ IntsAt h' bb P.2.2 ∧ h.length ≤ bb ∧ bb < h'.length ∧ Src h' b (m + 1000) := by
  refine ACall_intro g445 rfl ?_
  unfold fn445
  rw [awp_seq, awp_reg]
  generalize hK : seqQ Gam _ _ 0 = K
  simp (disch := omega)
  subst hK
  simp only [seqQ_zero]
  rw [awp_seq, awp_reg]
  generalize hK : seqQ Gam _ _ 0 = K
  simp (disch := omega)
  refine callW_of (c7 h b m n hs (by omega) (by unfold I64; omega)) ?_
  rintro _ h1 ⟨w, rfl, w1, w2, md1, l1, hs1⟩
  simp (disch := omega) [wrap64]
  subst hK
  simp only [seqQ_zero]
  rw [awp_seq, awp_reg]
  generalize hK : seqQ Gam _ _ 0 = K
  simp (disch := omega)
  refine callW_of (c7 h1 b _ n hs1 (by omega) (by unfold I64; omega)) ?_
  rintro _ h2 ⟨v, rfl, v1, v2, md2, l2, hs2⟩
  have hp : 0 < h2.length := by
    obtain ⟨_, _, _, _, _, _, e, _⟩ := hs2
    have := at_lt e; omega
  have hb2 : b < h2.length := by
    obtain ⟨_, _, _, _, _, _, e, _⟩ := hs2
    exact at_lt e
  simp (disch := omega) [wrap64]
  refine callW_of (c450s h2 (1 + w) (1 + v) (by omega) (by omega)) ?_
  rintro _ h3 ⟨rfl, e3⟩
  have g3 : Grows h2 h3 := ⟨_, e3⟩
  have hs3 := hs2.grow g3
  refine ⟨fun e => (by cases e), ?_⟩
  have ok0 := newP_ok (W := 1 + w) (H := 1 + v) (by omega) (by omega)
  have hl0 : (inner (1 + w) (1 + v)).toNat = (List.replicate (inner (1 + w) (1 + v)).toNat (0 : Int)).length := by simp
  rw [hl0]
  obtain ⟨br0, hbr0⟩ : ∃ br0, br0 = List.replicate (inner (1 + w) (1 + v)).toNat (0 : Int) := ⟨_, rfl⟩
  unfold newP at ok0
  rw [← hbr0] at ok0 e3 ⊢
  obtain ⟨b3, hb30⟩ : ∃ b3, b3 = h2.length := ⟨_, rfl⟩
  have hb3 : h3[b3]? = some ⟨ints br0, true⟩ := by rw [e3, hb30]; simp
  rw [← hb30]
  have hn0 := ok_len ok0
  have L3 : h3.length = h2.length + 1 := by rw [e3]; simp
  have MD3 : Mod b (b + 1) h h3 := (md1.trans md2).trans (g3.mod)
  simp (disch := omega)
  subst hK
  simp only [seqQ_zero]
  rw [awp_seq, awp_reg]
  generalize hK : seqQ Gam _ _ 0 = K
  simp (disch := omega)
  refine callW_of (c7 h3 b _ 4 hs3 (by omega) (by unfold I64; omega)) ?_
  rintro _ h4 ⟨some', rfl, _, so2, md4, l4, hs4⟩
  simp (disch := omega)
  subst hK
  simp only [seqQ_zero]
  rw [awp_seq]
  generalize hK : seqQ Gam _ _ = K
  simp (disch := omega)
  have hb4 : h4[b3]? = some ⟨ints br0, true⟩ := by rw [md4.2 b3 (at_lt hb3) (by omega)]; exact hb3
  have hlb : h.length ≤ b3 := by have := md1.1; omega
  refine awp_loop (fun (i : Nat) σ h' => i ≤ br0.length ∧ Mod b (b + 1) h h' ∧ h4.length ≤ h'.length ∧ σ 0 = pt b 0 ∧ σ 4 = .agg #[I 0, I 0, sl 0 0 0 0] ∧ σ 6 = .agg #[I (1 + w), I (1 + v), sl b3 0 br0.length 1] ∧ σ 7 = I some' ∧ σ 8 = I i ∧ Src h' b (m + 6 + 4 * i) ∧ ∃ br : List Int, br.length = br0.length ∧ OkP (1 + w, 1 + v, br) ∧ IntsAt h' b3 br) (fun i => br0.length - i) 0 ?_ ?_
  · refine ⟨by omega, MD3.trans md4, by omega, by simp, by simp, by simp, by simp, by simp, hs4, br0, rfl, ok0, hb4⟩
  · rintro i σ h' ⟨hi, md, hle, q0, q4, q6, q7, q8, hs', br, hbl, okb, hb'⟩
    simp (disch := omega) [q6, q8]
    refine fork_dec (fun hlt => ?_) (fun hge => ?_)
    · have hlt : i < br0.length := by omega
      have hbb : h'[b3]? = some ⟨ints br, true⟩ := hb'
      simp (disch := omega) [q0, q6, q7, q8]
      refine callW_of (c7 h' b _ 4 hs' (by omega) (by unfold I64; omega)) ?_
      rintro _ h5 ⟨x, rfl, _, _, md5, l5, hs5⟩
      have hb5 : h5[b3]? = some ⟨ints br, true⟩ := by
        rw [md5.2 b3 (at_lt hbb) (by omega)]; exact hbb
      simp (disch := omega) [q0, q6, q7, q8]
      refine fork_dec (fun h6 => ?_) (fun h6 => ?_)
      · simp (disch := omega) [q0, q6, q7, q8]
        refine callW_of (c7 h5 b _ 2 hs5 (by omega) (by unfold I64; omega)) ?_
        rintro _ h7 ⟨y, rfl, _, y2, md7, l7, hs7⟩
        have hb7 : h7[b3]? = some ⟨ints br, true⟩ := by
          rw [md7.2 b3 (at_lt hb5) (by omega)]; exact hb5
        have hst := store_int (v := 1 + (y : Int)) hb7 (show i < br.length by omega)
        have hb2' : b < b3 := by omega
        have hil : (i : Int) < br0.length := by omega
        obtain ⟨h8, e8⟩ : ∃ h8, h8 = h7.set b3 ⟨ints (br.set i (1 + (y : Int))), true⟩ := ⟨_, rfl⟩
        rw [← e8] at hst
        have l8 : h8.length = h7.length := by rw [e8]; simp
        have o8 : ∀ c, c ≠ b3 → h8[c]? = h7[c]? := fun c hc => by rw [e8]; exact set_other hc
        have mm := (md.trans md5).trans md7
        have m8 : Mod b (b + 1) h h8 := ⟨by have := mm.1; omega, fun c hc hn => by rw [o8 c (by omega)]; exact mm.2 c hc hn⟩
        have hs8 : Src h8 b (m + 6 + 4 * (i + 1)) := (hs7.mono (by omega)).mod (lo := b3) (hi := b3 + 1) ⟨by omega, fun c hc hn => o8 c (by omega)⟩ (by omega)
        have hb8 : h8[b3]? = some ⟨ints (br.set i (1 + (y : Int))), true⟩ := by rw [e8]; simp [at_lt hb7]
        have ok8 : OkP (1 + w, 1 + v, br.set i (1 + (y : Int))) := okP_iff.1 (okP_set (okP_iff.2 okb) (by omega))
        simp (disch := omega) [q0, q6, q7, q8, wrap64, hlt, hst]
        exact ⟨i + 1, ⟨by omega, m8, by omega, q4, by omega, hs8, br.set i (1 + (y : Int)), by simpa using hbl, ok8, hb8⟩, by omega⟩
      · simp (disch := omega) [q0, q6, q7, q8, wrap64]
        exact ⟨i + 1, ⟨by omega, md.trans md5, by omega, q4, by omega, hs5.mono (by omega), br, hbl, okb, hb5⟩, by omega⟩
    · subst hK
      simp (disch := omega) [q4, q6, resOf, resAll, resOne, aField]
      refine ⟨1 + w, 1 + v, br, okb, by omega, by omega, md, ?_⟩
      first
        | exact ⟨b3, by simp [hbl], hb', hlb, at_lt hb', hs'.mono (by omega)⟩
        | (rw [← hbl]; exact ⟨hb', hlb, at_lt hb', hs'.mono (by omega)⟩)
/-- A valid panel drawn, in memory of its own behind the source. -/
theorem c445 (h : Heap) (b m : Nat) (n : Int) (hs : Src h b m) (hm : m ≤ 100000000) (hn : 1 ≤ n ∧ n ≤ 8) : ACall Gam 445 [pt b 0, I n] h fun r h' => ∃ P : Pan, OkP P ∧ P.1 ≤ n ∧ P.2.1 ≤ n ∧ Mod b (b + 1) h h' ∧ Vo h' h.length h'.length shPanel r P ∧ Src h' b (m + 1000) := by
  refine (c445s h b m n hs hm hn).mono ?_
  rintro r h' ⟨P, bb, ok, p1, p2, md, rfl, hb, l1, l2, hs'⟩
  obtain ⟨W, H, br⟩ := P
  have o1 : 1 ≤ W ∧ W ≤ 8 := ok.w
  have o2 : 1 ≤ H ∧ H ≤ 8 := ok.h
  have ol := ok_len ok
  refine ⟨_, ok, p1, p2, md, ?_, hs'⟩
  exact Vo.of_panel (W := W) (H := H) (br := br) (by unfold I64; omega) (by unfold I64; omega) (Vo.of_ints (.inl rfl) (by rw [maxLen_eq]; show br.length ≤ _; omega) (fun x hx => by have := ok.b x hx; unfold I64; omega) (.inr ⟨hb, l1, l2⟩))
end Am
