/- Contracts: AmJ8, AmJ9, AmJ10, AmJ11, AmJ12, AmJ13, AmJ14. -/
import Derived.Test.YtaeaaogpdipjfaaAmK3
/-! AmJ8 -/
set_option linter.unusedVariables false
set_option linter.unusedSimpArgs false
set_option maxHeartbeats 4000000
set_option maxRecDepth 4000
namespace Am
open Go

theorem wf_vr {h : Heap} {v : Value} {X : Jrn} (x : Vr h shJournal v X) (hs : siz shJournal X ≤ 1048576) : Jwf X := by
  obtain ⟨⟨W, H, br⟩, p, f⟩ := X
  rw [siz_journal] at hs
  obtain ⟨s, sp, sf, rfl, w1, w2, r1, r2, r3⟩ := x.journal
  obtain ⟨_, _, _, _, _, _, hx1, _⟩ := r1.ints
  obtain ⟨_, _, _, _, _, _, hx2, _⟩ := r2.trips
  obtain ⟨_, _, _, _, _, _, hx3, _⟩ := r3.trips
  exact ⟨w1, w2, hx1, hx2, hx3, by simp only; omega, by simp only; omega, by simp only; omega⟩

end Am
/-! AmJ9 -/
set_option linter.unusedVariables false
set_option linter.unusedSimpArgs false
set_option maxHeartbeats 4000000
set_option maxRecDepth 4000
namespace Am
open Go

/-- JM with its parts named. -/
def JMx (h : Heap) (lo jb : Nat) (X : Jrn) (rest : List Value) (b1 z1 b2 z2 b3 z3 : Nat) : Prop :=
  h[jb]? = some ⟨[I X.1.1, I X.1.2.1, sl b1 0 X.1.2.2.length z1, sl b2 0 X.2.1.length z2, sl b3 0 X.2.2.length z3], true⟩ ∧ lo ≤ jb ∧ 0 < lo ∧ (z1 = 1 ∨ b1 = 0 ∧ X.1.2.2 = []) ∧
  (X.1.2.2 = [] ∨ h[b1]? = some ⟨ints X.1.2.2, true⟩ ∧ lo ≤ b1 ∧ b1 ≠ jb ∧ b1 ≠ b2 ∧ b1 ≠ b3) ∧
  (X.2.1 = [] ∧ b2 = 0 ∨ z2 = 3 ∧ h[b2]? = some ⟨trips X.2.1 ++ rest, true⟩ ∧ lo ≤ b2 ∧ b2 ≠ jb ∧ b2 ≠ b3) ∧
  (X.2.2 = [] ∧ b3 = 0 ∨ z3 = 3 ∧ h[b3]? = some ⟨trips X.2.2, true⟩ ∧ lo ≤ b3 ∧ b3 ≠ jb) ∧ Jwf X
theorem JMx.jm {h : Heap} {lo jb : Nat} {X : Jrn} {rest : List Value} {b1 z1 b2 z2 b3 z3 : Nat} (x : JMx h lo jb X rest b1 z1 b2 z2 b3 z3) : JM h lo jb X rest := ⟨_, _, _, _, _, _, x⟩

theorem JMx.brs {h : Heap} {lo jb : Nat} {W H : Int} {br : List Int} {p f : List Trip} {rest : List Value} {b1 z1 b2 z2 b3 z3 : Nat} (x : JMx h lo jb ((W, H, br), p, f) rest b1 z1 b2 z2 b3 z3) {k : Nat} {v : Int} (hk : k < br.length) (hv : I64 v) :
    ∃ h', storeAt h b1 k [I v] = some h' ∧ JMx h' lo jb ((W, H, br.set k v), p, f) rest b1 z1 b2 z2 b3 z3 ∧ Mod lo h.length h h' ∧ h'.length = h.length := by
  obtain ⟨hjb, hlo, hpos, hz1, i1, i2, i3, w1, w2, x1, x2, x3, y1, y2, y3⟩ := x
  simp only at hjb hz1 i1 i2 i3 w1 w2 x1 x2 x3 y1 y2 y3
  have hne : br ≠ [] := by intro e; rw [e] at hk; simp at hk
  obtain ⟨hb1, j1, j2, j3, j4⟩ := i1.resolve_left hne
  have hl := at_lt hb1
  refine ⟨_, store_int hb1 hk, ⟨?_, hlo, hpos, ?_, .inr ⟨?_, j1, j2, j3, j4⟩, i2.imp id fun e => ⟨e.1, ?_, e.2.2.1, e.2.2.2.1, e.2.2.2.2⟩, i3.imp id fun e => ⟨e.1, ?_, e.2.2.1, e.2.2.2⟩, ⟨w1, w2, ?_, x2, x3, by simpa using y1, y2, y3⟩⟩, ⟨by simp, ?_⟩, by simp⟩
  · rw [set_other (by omega), hjb]; simp
  · exact .inl (hz1.resolve_right fun e => hne e.2)
  · simp [hl]
  · rw [set_other (by omega)]; exact e.2.1
  · rw [set_other (by omega)]; exact e.2.1
  · intro y hy
    rcases List.mem_or_eq_of_mem_set hy with hy | rfl
    · exact x1 y hy
    · exact hv
  · intro c hc hn
    rw [set_other (by omega)]

theorem JMx.past {h h1 : Heap} {lo jb : Nat} {W H : Int} {br : List Int} {p f p' : List Trip} {rest rest' : List Value} {b1 z1 b2 z2 b3 z3 nb : Nat} (x : JMx h lo jb ((W, H, br), p, f) rest b1 z1 b2 z2 b3 z3)
    (hl : h.length ≤ h1.length) (hk : ∀ c, c < h.length → c ≠ b2 ∨ b2 = 0 → h1[c]? = h[c]?) (hn : h1[nb]? = some ⟨trips p' ++ rest', true⟩) (hnb : h.length ≤ nb ∨ nb = b2 ∧ p ≠ []) (hp : ∀ t ∈ p', T64 t) (hpl : p'.length ≤ 1048576) :
    ∃ h', storeAt h1 jb 3 [sl nb 0 p'.length 3] = some h' ∧ JMx h' lo jb ((W, H, br), p', f) rest' b1 z1 nb 3 b3 z3 ∧ Mod lo h.length h h' ∧ h'.length = h1.length := by
  obtain ⟨hjb, hlo, hpos, hz1, i1, i2, i3, w1, w2, x1, x2, x3, y1, y2, y3⟩ := x
  simp only at hjb hz1 i1 i2 i3 w1 w2 x1 x2 x3 y1 y2 y3
  have hjl := at_lt hjb
  have j2 : jb ≠ b2 ∨ b2 = 0 := by rcases i2 with e | e <;> omega
  have hj1 : h1[jb]? = some ⟨[I W, I H, sl b1 0 br.length z1, sl b2 0 p.length z2, sl b3 0 f.length z3], true⟩ := by rw [hk jb hjl j2]; exact hjb
  have hs := store_one (v := sl nb 0 p'.length 3) (o := 3) hj1 (by simp)
  refine ⟨_, hs, ⟨?_, hlo, hpos, hz1, i1.imp id fun e => ⟨?_, e.2.1, e.2.2.1, ?_, e.2.2.2.2⟩, .inr ⟨rfl, ?_, ?_, ?_, ?_⟩, i3.imp id fun e => ⟨e.1, ?_, e.2.2.1, e.2.2.2⟩, ⟨w1, w2, x1, hp, x3, y1, hpl, y3⟩⟩, ⟨by simp; exact hl, ?_⟩, by simp⟩
  · simp [at_lt hj1]
  · rw [set_other (by omega), hk b1 (at_lt e.1) (by omega)]; exact e.1
  · have := at_lt e.1
    rcases hnb with e' | e'
    · omega
    · omega
  · have hne : nb ≠ jb := by
      rcases hnb with e' | e'
      · omega
      · have := i2.resolve_left fun e => e'.2 e.1
        omega
    rw [set_other hne]; exact hn
  · rcases hnb with e' | e'
    · omega
    · have := i2.resolve_left fun e => e'.2 e.1
      omega
  · rcases hnb with e' | e'
    · omega
    · have := i2.resolve_left fun e => e'.2 e.1
      omega
  · rcases hnb with e' | e'
    · rcases i3 with e | e
      · omega
      · have := at_lt e.2.1; omega
    · have := i2.resolve_left fun e => e'.2 e.1
      omega
  · rw [set_other (by omega), hk b3 (at_lt e.2.1) (by rcases i2 with e' | e' <;> omega)]; exact e.2.1
  · intro c hc hn
    rw [set_other (by omega), hk c hc (by rcases i2 with e' | e' <;> omega)]

theorem JMx.fut {h h1 : Heap} {lo jb : Nat} {W H : Int} {br : List Int} {p f f' : List Trip} {rest : List Value} {b1 z1 b2 z2 b3 z3 nb : Nat} (x : JMx h lo jb ((W, H, br), p, f) rest b1 z1 b2 z2 b3 z3)
    (hl : h.length ≤ h1.length) (hk : ∀ c, c < h.length → c ≠ b3 ∨ b3 = 0 → h1[c]? = h[c]?) (hn : nb = 0 ∧ f' = [] ∨ h1[nb]? = some ⟨trips f', true⟩ ∧ h.length ≤ nb) (hp : ∀ t ∈ f', T64 t) (hpl : f'.length ≤ 1048576) :
    ∃ h', storeAt h1 jb 4 [sl nb 0 f'.length 3] = some h' ∧ JMx h' lo jb ((W, H, br), p, f') rest b1 z1 b2 z2 nb 3 ∧ Mod lo h.length h h' ∧ h'.length = h1.length := by
  obtain ⟨hjb, hlo, hpos, hz1, i1, i2, i3, w1, w2, x1, x2, x3, y1, y2, y3⟩ := x
  simp only at hjb hz1 i1 i2 i3 w1 w2 x1 x2 x3 y1 y2 y3
  have hjl := at_lt hjb
  have j2 : jb ≠ b3 ∨ b3 = 0 := by rcases i3 with e | e <;> omega
  have hj1 : h1[jb]? = some ⟨[I W, I H, sl b1 0 br.length z1, sl b2 0 p.length z2, sl b3 0 f.length z3], true⟩ := by rw [hk jb hjl j2]; exact hjb
  have hs := store_one (v := sl nb 0 f'.length 3) (o := 4) hj1 (by simp)
  refine ⟨_, hs, ⟨?_, hlo, hpos, hz1, i1.imp id fun e => ⟨?_, e.2.1, e.2.2.1, e.2.2.2.1, ?_⟩, i2.imp id fun e => ⟨e.1, ?_, e.2.2.1, e.2.2.2.1, ?_⟩, ?_, ⟨w1, w2, x1, x2, hp, y1, y2, hpl⟩⟩, ⟨by simp; exact hl, ?_⟩, by simp⟩
  · simp [at_lt hj1]
  · rw [set_other (by omega), hk b1 (at_lt e.1) (by omega)]; exact e.1
  · have := at_lt e.1
    rcases hn with e' | e' <;> omega
  · rw [set_other (by omega), hk b2 (at_lt e.2.1) (by omega)]; exact e.2.1
  · have := at_lt e.2.1
    rcases hn with e' | e' <;> omega
  · rcases hn with e' | e'
    · exact .inl ⟨e'.2, e'.1⟩
    · exact .inr ⟨rfl, by rw [set_other (by omega)]; exact e'.1, by omega, by omega⟩
  · intro c hc hn
    rw [set_other (by omega), hk c hc (by rcases i3 with e' | e' <;> omega)]

theorem JMx.cells {h : Heap} {lo jb : Nat} {X : Jrn} {rest : List Value} {b1 z1 b2 z2 b3 z3 : Nat} (x : JMx h lo jb X rest b1 z1 b2 z2 b3 z3) :
    cell h jb 2 = some (sl b1 0 X.1.2.2.length z1) ∧ cell h jb 3 = some (sl b2 0 X.2.1.length z2) ∧ cell h jb 4 = some (sl b3 0 X.2.2.length z3) := by
  have := x.1
  simp [cell, this]
theorem trip_first {h : Heap} {b : Nat} {s : Trip} {f : List Trip} {r : List Value} {w : Bool} (hb : h[b]? = some ⟨trips (s :: f) ++ r, w⟩) : cellsAt h b 0 3 = some [I s.1, I s.2.1, I s.2.2] := by
  rw [cellsAt_of hb (by simp [trips_cons])]
  simp [trips_cons]
theorem trip_last {h : Heap} {b : Nat} {s : Trip} {p : List Trip} {r : List Value} {w : Bool} (hb : h[b]? = some ⟨trips (p ++ [s]) ++ r, w⟩) : cellsAt h b (p.length * 3) 3 = some [I s.1, I s.2.1, I s.2.2] := by
  rw [cellsAt_of hb (by simp [trips_append, trips_cons, trips_nil, trips_len]; omega)]
  rw [trips_append, List.append_assoc, List.drop_append_of_le_length (by rw [trips_len]; omega), List.drop_of_length_le (by rw [trips_len]; omega)]
  simp [trips_cons, trips_nil]

theorem Mod.tr {lo : Nat} {a b c : Heap} (x : Mod lo a.length a b) (y : Mod lo b.length b c) : Mod lo a.length a c :=
  ⟨Nat.le_trans x.1 y.1, fun k hk hn => by rw [y.2 k (Nat.lt_of_lt_of_le hk x.1) (by omega), x.2 k hk hn]⟩
/-- Steps put behind one step in a block of our own. -/
theorem append_one {h : Heap} {x : Value} {b : Nat} {s : Trip} {f : List Trip} {k : Value → Heap → Prop} (hb : h[b]? = some ⟨trips [s], true⟩) (h0 : b ≠ 0) (hn : newCells 3 h x = some (trips f)) (hf : f.length ≤ 1048576)
    (hk : ∀ nb h', h.length ≤ h'.length → (∀ c, c < h.length → c ≠ b → h'[c]? = h[c]?) → h'[nb]? = some ⟨trips (s :: f), true⟩ → b ≤ nb → k (sl nb 0 (f.length + 1) 3) h') : bindW (aAppend 3 h x (sl b 0 1 3)) k := by
  have hl := at_lt hb
  by_cases hfe : f = []
  · subst hfe
    have e : aAppend 3 h x (sl b 0 1 3) = some (sl b 0 1 3, h) := by simp [aAppend, hn, trips_nil]
    rw [e]
    exact hk b h (Nat.le_refl _) (fun c _ _ => rfl) hb (Nat.le_refl _)
  · have hne : trips f ≠ [] := fun e => hfe (trips_inj_nil e)
    have e : aAppend 3 h x (sl b 0 1 3) = some (sl h.length 0 (f.length + 1) 3, h.set b ⟨[], false⟩ ++ [⟨trips (s :: f), true⟩]) := by
      simp only [aAppend, hn]
      rw [if_neg (by omega), if_neg hne, if_neg (by rw [trips_len]; simp [maxSize]; omega), if_neg h0]
      simp only [hb]
      rw [if_pos ⟨trivial, trivial⟩, cellsAt_all hb (by rw [trips_len]; rfl), trips_len]
      simp only [trips_cons, trips_nil, Nat.mul_div_cancel _ (show 0 < 3 by omega), Nat.add_comm 1, List.cons_append, List.append_nil, List.nil_append, Nat.mul_comm 3, trip]
      try rw [Nat.mul_div_cancel _ (show 0 < 3 by omega)]
    rw [e]
    refine hk _ _ (by simp) (fun c hc hn => ?_) (by simp) (by omega)
    rw [List.getElem?_append_left (by simpa using hc), List.getElem?_set_ne (by omega)]

theorem c310 (h : Heap) (b : Nat) (s : Trip) (f : List Trip) (hb : h[b]? = some ⟨trips (s :: f), true⟩) (h0 : b ≠ 0) :
    ACall Gam 310 [sl b 0 (f.length + 1) 3, I 0, I 1] h fun r h' => r = sl h.length 0 f.length 3 ∧ h' = h.set b ⟨[], false⟩ ++ [⟨trips f, true⟩] := by
  have hd : primDelete 3 [sl b 0 (f.length + 1) 3, I 0, I 1] h = some (sl h.length 0 f.length 3, h.set b ⟨[], false⟩ ++ [⟨trips f, true⟩]) := by
    simp [primDelete, hb, h0]
    refine ⟨by omega, ?_⟩
    rw [cellsAt_all hb (by simp [trips_cons, trips_len]; omega)]
    simp [trips_cons]
  exact ACall_prim g310 rfl rfl hd ⟨rfl, rfl⟩
theorem c317 (h : Heap) (b c z : Nat) (s : Trip) (f : List Trip) (hb : f = [] ∧ b = 0 ∨ z = 3 ∧ b ≠ 0 ∧ h[b]? = some ⟨trips f, true⟩) (hc : h[c]? = some ⟨trips [s], true⟩) (hne : c ≠ b) (hf : f.length ≤ 1048576) :
    ACall Gam 317 [sl b 0 f.length z, I 0, sl c 0 1 3] h fun r h' => r = sl h.length 0 (f.length + 1) 3 ∧ h.length < h'.length ∧ (∀ k, k < h.length → k ≠ b ∨ b = 0 → h'[k]? = h[k]?) ∧ h'[h.length]? = some ⟨trips (s :: f), true⟩ := by
  have hn : newCells 3 h (sl c 0 1 3) = some [I s.1, I s.2.1, I s.2.2] := by
    simp only [newCells, if_neg (show ¬ (1 : Nat) = 0 by omega)]
    rw [cellsAt_all hc (by rw [trips_len]; rfl)]
    simp [trips_cons, trips_nil]
  rcases hb with ⟨rfl, rfl⟩ | ⟨rfl, h0, hb⟩
  · have hi : primInsert 3 [sl 0 0 0 z, I 0, sl c 0 1 3] h = some (sl h.length 0 1 3, h ++ [⟨[I s.1, I s.2.1, I s.2.2], true⟩]) := by
      simp [primInsert, hn, maxSize, hne]
    exact ACall_prim g317 rfl rfl hi ⟨rfl, by simp, fun k hk _ => List.getElem?_append_left hk, by simp [trips_cons, trips_nil]⟩
  · have hi : primInsert 3 [sl b 0 f.length 3, I 0, sl c 0 1 3] h = some (sl h.length 0 (f.length + 1) 3, h.set b ⟨[], false⟩ ++ [⟨trips (s :: f), true⟩]) := by
      simp only [primInsert, hn]
      rw [if_neg (by simp [maxSize]; omega), if_neg h0]
      simp only [hb, hc]
      rw [if_pos ⟨trivial, trivial, trivial⟩, cellsAt_all hb (by rw [trips_len]; omega)]
      simp [trips_cons]
    exact ACall_prim g317 rfl rfl hi ⟨rfl, by simp, fun k hk hn => by rw [List.getElem?_append_left (by simpa using hk), set_other (by omega)], by simp⟩
theorem c1 (h : Heap) (lo jb : Nat) (W H : Int) (br : List Int) (p f : List Trip) (a x y : Int) (rest : List Value) (hJ : JM h lo jb ((W, H, br), p, (a, x, y) :: f) rest) (ha : 0 ≤ a) (hb : a < br.length) (hp : p.length ≤ 1000) (hf : f.length ≤ 1000) :
    ACall Gam 1 [pt jb 0] h fun _ h' => Mod lo h.length h h' ∧ JM h' lo jb ((W, H, br.set a.toNat y), p ++ [(a, x, y)], f) [] := by
  obtain ⟨b1, z1, b2, z2, b3, z3, hJ⟩ := hJ
  have hJ : JMx h lo jb ((W, H, br), p, (a, x, y) :: f) rest b1 z1 b2 z2 b3 z3 := hJ
  obtain ⟨an, rfl⟩ := Int.eq_ofNat_of_zero_le ha
  rw [Int.toNat_natCast]
  have han : an < br.length := by omega
  have wf := hJ.2.2.2.2.2.2.2
  have wft : T64 ((an : Int), x, y) := wf.f _ (by simp)
  have wfb : ∀ t ∈ f, T64 t := fun t ht => wf.f _ (by simp [ht])
  have wfp : ∀ t ∈ p, T64 t := wf.p
  obtain ⟨k2, k3, k4⟩ := hJ.cells
  simp only [List.length_cons] at k2 k3 k4
  obtain ⟨z3e, hb3, _⟩ := hJ.2.2.2.2.2.2.1.resolve_left (by simp)
  have hb30 : b3 ≠ 0 := by omega
  have c3 := trip_first (r := []) (by rw [List.append_nil]; exact hb3)
  simp only at c3
  refine ACall_intro g1 rfl ?_
  unfold fn1
  rw [awp_seq, awp_reg]
  generalize hK : seqQ Gam _ _ 0 = K
  simp (disch := omega) [k4, c3]
  subst hK
  simp only [seqQ_zero]
  rw [awp_seq, awp_reg]
  generalize hK : seqQ Gam _ _ 0 = K
  obtain ⟨h1, s1, J1, m1, e1⟩ := hJ.brs han wft.2.2
  simp (disch := omega) [k2, han, s1]
  subst hK
  simp only [seqQ_zero]
  rw [awp_seq, awp_reg]
  generalize hK : seqQ Gam _ _ 0 = K
  obtain ⟨k2, k3, k4⟩ := J1.cells
  simp only [List.length_cons, List.length_set] at k2 k3 k4
  have i3 := J1.2.2.2.2.2.2.1.resolve_left (by simp)
  simp (disch := omega) [k4]
  have hb := i3.2.1
  simp only at hb
  rw [z3e]
  refine callW_of (c310 h1 b3 _ f hb hb30) ?_
  rintro _ h2 ⟨rfl, e2⟩
  obtain ⟨h6, s6, J6, m6, e6⟩ := J1.fut (h1 := h2) (f' := f) (nb := h1.length) (by rw [e2]; simp) (fun c hc hn => by rw [e2, List.getElem?_append_left (by simpa using hc), set_other (by omega)]) (.inr ⟨by rw [e2]; simp, Nat.le_refl _⟩) wfb (by omega)
  simp (disch := omega) [s6]
  subst hK
  simp only [seqQ_zero]
  obtain ⟨k2, k3, k4⟩ := J6.cells
  simp only [List.length_cons, List.length_set] at k2 k3 k4
  simp (disch := omega) [k3, aBuildSlice]
  have i2 := J6.2.2.2.2.2.1
  simp only at i2
  refine append_rest (cs := trips p) (rest := rest) (new := [I an, I x, I y]) ?_ ?_ ?_ (by omega) (by simp) (by simp) (by rw [trips_len]; simp [maxSize]; omega) ?_
  · rcases i2 with ⟨e1, e2⟩ | ⟨e1, e2, e3, e4, e5⟩
    · left; exact ⟨by rw [e1]; rfl, by rw [e1]; rfl, e2⟩
    · right
      refine ⟨by have := J1.2.2.1; omega, by rw [trips_len]; omega, ?_⟩
      rw [List.getElem?_append_left (at_lt e2)]; exact e2
  · rcases i2 with ⟨e1, e2⟩ | ⟨e1, e2, e3, e4, e5⟩
    · exact .inl e2
    · exact .inr e1
  · simp [newCells]
    rw [cellsAt_of (k := ⟨[I an, I x, I y], true⟩) (by simp) (by simp)]
    simp
  intro h3 hl3 hk3 hn3
  simp only [List.length_append, List.length_cons, List.length_nil] at hl3 hk3 hn3
  obtain ⟨h4, s4, J4, m4, e4⟩ := J6.past (h1 := h3) (p' := p ++ [((an : Int), x, y)]) (rest' := []) (nb := h6.length + 1) (by omega) (fun c hc hn => by rw [hk3 c (by omega) hn, List.getElem?_append_left (by omega)])
    (by rw [hn3]; simp [trips_append, trips_cons, trips_nil]) (.inl (by omega)) (by
      intro t ht
      rcases List.mem_append.1 ht with ht | ht
      · exact wfp t ht
      · simp at ht; subst ht; exact wft) (by simp; omega)
  simp only [List.length_append, List.length_cons, List.length_nil, Nat.zero_add] at s4
  simp (disch := omega) [s4]
  exact ⟨m1.tr (m6.tr m4), J4.jm⟩
theorem c564 (h : Heap) (lo jb : Nat) (W H : Int) (br : List Int) (p f : List Trip) (a x y : Int) (rest : List Value) (hJ : JM h lo jb ((W, H, br), p ++ [(a, x, y)], f) rest) (ha : 0 ≤ a) (hb : a < br.length) (hp : p.length ≤ 1000) (hf : f.length ≤ 1000) :
    ACall Gam 564 [pt jb 0] h fun _ h' => Mod lo h.length h h' ∧ JM h' lo jb ((W, H, br.set a.toNat x), p, (a, x, y) :: f) (trips [(a, x, y)] ++ rest) := by
  obtain ⟨b1, z1, b2, z2, b3, z3, hJ⟩ := hJ
  have hJ : JMx h lo jb ((W, H, br), p ++ [(a, x, y)], f) rest b1 z1 b2 z2 b3 z3 := hJ
  obtain ⟨an, rfl⟩ := Int.eq_ofNat_of_zero_le ha
  rw [Int.toNat_natCast]
  have han : an < br.length := by omega
  have wf := hJ.2.2.2.2.2.2.2
  have wft : T64 ((an : Int), x, y) := wf.p _ (by simp)
  have wfb : ∀ t ∈ f, T64 t := wf.f
  have wfp : ∀ t ∈ p, T64 t := fun t ht => wf.p _ (by simp [ht])
  obtain ⟨k2, k3, k4⟩ := hJ.cells
  simp only [List.length_append, List.length_cons, List.length_nil, Nat.zero_add] at k2 k3 k4
  obtain ⟨z2e, hb2, _⟩ := hJ.2.2.2.2.2.1.resolve_left (by simp)
  simp only at hb2
  have c2 := trip_last hb2
  simp only at c2
  refine ACall_intro g564 rfl ?_
  unfold fn564
  rw [awp_seq, awp_reg]
  generalize hK : seqQ Gam _ _ 0 = K
  simp (disch := omega) [k3]
  subst hK
  simp only [seqQ_zero]
  rw [awp_seq, awp_reg]
  generalize hK : seqQ Gam _ _ 0 = K
  have e1 : ((p.length : Int) + 1 - 1) = p.length := by omega
  have hlt : ((p.length : Int) < p.length + 1) = True := by simp; omega
  simp (disch := omega) [k3, e1, c2, wrap64, hlt]
  subst hK
  simp only [seqQ_zero]
  rw [awp_seq, awp_reg]
  generalize hK : seqQ Gam _ _ 0 = K
  obtain ⟨h1, s1, J1, m1, l1⟩ := hJ.brs han wft.2.1
  simp (disch := omega) [k2, han, s1]
  subst hK
  simp only [seqQ_zero]
  rw [awp_seq, awp_reg]
  generalize hK : seqQ Gam _ _ 0 = K
  obtain ⟨k2, k3, k4⟩ := J1.cells
  simp only [List.length_append, List.length_cons, List.length_nil, Nat.zero_add, List.length_set] at k2 k3 k4
  have i2 := J1.2.2.2.2.2.1.resolve_left (by simp)
  simp only at i2
  obtain ⟨h2, s2, J2, m2, l2⟩ := J1.past (h1 := h1) (p' := p) (rest' := trips [((an : Int), x, y)] ++ rest) (nb := b2) (Nat.le_refl _) (fun c _ _ => rfl) (by rw [i2.2.1]; simp [trips_append]) (.inr ⟨rfl, by simp⟩) wfp (by omega)
  have es : aSlice 7 h1 (sl b2 0 (p.length + 1) 3) none (some (I p.length)) none = some (sl b2 0 p.length 3, h1) := by
    simp [aSlice, bound]
  rw [z2e] at k3
  simp (disch := omega) [k3, e1, wrap64, es, s2]
  subst hK
  simp only [seqQ_zero]
  obtain ⟨k2, k3, k4⟩ := J2.cells
  simp only [List.length_append, List.length_cons, List.length_nil, Nat.zero_add, List.length_set] at k2 k3 k4
  have k4' : cell (h2 ++ [⟨[I an, I x, I y], true⟩]) jb 4 = some (sl b3 0 f.length z3) := by
    simp only [cell] at k4 ⊢
    rw [List.getElem?_append_left (at_lt J2.1)]; exact k4
  simp (disch := omega) [aBuildSlice, k4']
  have i3 := J2.2.2.2.2.2.2.1
  simp only at i3
  have hn : newCells 3 (h2 ++ [⟨[I an, I x, I y], true⟩]) (sl b3 0 f.length z3) = some (trips f) := by
    by_cases hfe : f = []
    · subst hfe; rfl
    · have : f.length ≠ 0 := fun e => hfe (List.length_eq_zero_iff.1 e)
      have i3 := i3.resolve_left fun e => hfe e.1
      simp only [newCells, if_neg this]
      exact cellsAt_all (push_at i3.2.1) (by rw [trips_len]; omega)
  have hl2 : 0 < h2.length := by have := at_lt J2.1; omega
  refine append_one (s := ((an : Int), x, y)) (by simp [trips_cons, trips_nil]) (by omega) hn (by omega) fun nb h5 hl5 hk5 hn5 hb5 => ?_
  simp only [List.length_append, List.length_cons, List.length_nil] at hl5 hk5
  obtain ⟨h6, s6, J6, m6, e6⟩ := J2.fut (h1 := h5) (f' := ((an : Int), x, y) :: f) (nb := nb) (by omega) (fun c hc _ => by rw [hk5 c (by omega) (by omega), List.getElem?_append_left (by omega)]) (.inr ⟨hn5, hb5⟩) (by
      intro t ht
      rcases List.mem_cons.1 ht with rfl | ht
      · exact wft
      · exact wfb t ht) (by simp; omega)
  simp only [List.length_cons] at s6
  simp (disch := omega) [s6]
  exact ⟨m1.tr (m2.tr m6), J6.jm⟩
theorem c2 (h : Heap) (lo jb : Nat) (W H : Int) (br : List Int) (p f : List Trip) (a x y : Int) (rest : List Value) (hJ : JM h lo jb ((W, H, br), p ++ [(a, x, y)], f) rest) (ha : 0 ≤ a) (hb : a < br.length) (hp : p.length ≤ 1000) (hf : f.length ≤ 1000) :
    ACall Gam 2 [pt jb 0] h fun _ h' => Mod lo h.length h h' ∧ JM h' lo jb ((W, H, br.set a.toNat x), p, (a, x, y) :: f) (trips [(a, x, y)] ++ rest) := by
  obtain ⟨b1, z1, b2, z2, b3, z3, hJ⟩ := hJ
  have hJ : JMx h lo jb ((W, H, br), p ++ [(a, x, y)], f) rest b1 z1 b2 z2 b3 z3 := hJ
  obtain ⟨an, rfl⟩ := Int.eq_ofNat_of_zero_le ha
  rw [Int.toNat_natCast]
  have han : an < br.length := by omega
  have wf := hJ.2.2.2.2.2.2.2
  have wft : T64 ((an : Int), x, y) := wf.p _ (by simp)
  have wfb : ∀ t ∈ f, T64 t := wf.f
  have wfp : ∀ t ∈ p, T64 t := fun t ht => wf.p _ (by simp [ht])
  obtain ⟨k2, k3, k4⟩ := hJ.cells
  simp only [List.length_append, List.length_cons, List.length_nil, Nat.zero_add] at k2 k3 k4
  obtain ⟨z2e, hb2, _⟩ := hJ.2.2.2.2.2.1.resolve_left (by simp)
  simp only at hb2
  have cl := trip_last hb2
  simp only at cl
  refine ACall_intro g2 rfl ?_
  unfold fn2
  rw [awp_seq, awp_reg]
  generalize hK : seqQ Gam _ _ 0 = K
  have e1 : ((p.length : Int) + 1 - 1) = p.length := by omega
  simp (disch := omega) [k3, e1, wrap64]
  subst hK
  simp only [seqQ_zero]
  rw [awp_seq, awp_reg]
  generalize hK : seqQ Gam _ _ 0 = K
  have hlt : ((p.length : Int) < p.length + 1) = True := by simp; omega
  simp (disch := omega) [k3, e1, cl, wrap64, hlt]
  subst hK
  simp only [seqQ_zero]
  rw [awp_seq, awp_reg]
  generalize hK : seqQ Gam _ _ 0 = K
  obtain ⟨h1, s1, J1, m1, l1⟩ := hJ.brs han wft.2.1
  simp (disch := omega) [k2, han, s1]
  subst hK
  simp only [seqQ_zero]
  rw [awp_seq, awp_reg]
  generalize hK : seqQ Gam _ _ 0 = K
  obtain ⟨k2, k3, k4⟩ := J1.cells
  simp only [List.length_append, List.length_cons, List.length_nil, Nat.zero_add, List.length_set] at k2 k3 k4
  have i2 := J1.2.2.2.2.2.1.resolve_left (by simp)
  simp only at i2
  obtain ⟨h2, s2, J2, m2, l2⟩ := J1.past (h1 := h1) (p' := p) (rest' := trips [((an : Int), x, y)] ++ rest) (nb := b2) (Nat.le_refl _) (fun c _ _ => rfl) (by rw [i2.2.1]; simp [trips_append]) (.inr ⟨rfl, by simp⟩) wfp (by omega)
  have es : aSlice 7 h1 (sl b2 0 (p.length + 1) 3) none (some (I p.length)) none = some (sl b2 0 p.length 3, h1) := by
    simp [aSlice, bound]
  rw [z2e] at k3
  simp (disch := omega) [k3, e1, wrap64, es, s2]
  subst hK
  simp only [seqQ_zero]
  obtain ⟨k2, k3, k4⟩ := J2.cells
  simp only [List.length_append, List.length_cons, List.length_nil, Nat.zero_add, List.length_set] at k2 k3 k4
  have k4' : cell (h2 ++ [⟨[I an, I x, I y], true⟩]) jb 4 = some (sl b3 0 f.length z3) := by
    simp only [cell] at k4 ⊢
    rw [List.getElem?_append_left (at_lt J2.1)]; exact k4
  simp (disch := omega) [aBuildSlice, k4]
  have i3 := J2.2.2.2.2.2.2.1
  simp only at i3
  have hi := c317 (h2 ++ [⟨[I an, I x, I y], true⟩]) b3 h2.length z3 ((an : Int), x, y) f (i3.imp id fun e => ⟨e.1, by have := J2.2.2.1; omega, push_at e.2.1⟩) (by simp [trips_cons, trips_nil]) (by
    have := at_lt J2.1
    rcases i3 with e | e
    · omega
    · have := at_lt e.2.1; omega) (by omega)
  refine callW_of hi ?_
  rintro _ h5 ⟨rfl, hl5, hk5, hn5⟩
  simp only [List.length_append, List.length_cons, List.length_nil] at hl5 hk5 hn5
  obtain ⟨h6, s6, J6, m6, e6⟩ := J2.fut (h1 := h5) (f' := ((an : Int), x, y) :: f) (nb := h2.length + 1) (by omega) (fun c hc hn => by rw [hk5 c (by omega) hn, List.getElem?_append_left (by omega)]) (.inr ⟨hn5, by omega⟩) (by
      intro t ht
      rcases List.mem_cons.1 ht with rfl | ht
      · exact wft
      · exact wfb t ht) (by simp; omega)
  simp only [List.length_cons] at s6
  simp (disch := omega) [s6]
  exact ⟨m1.tr (m2.tr m6), J6.jm⟩
end Am
/-! AmJ10 -/
set_option linter.unusedVariables false
set_option linter.unusedSimpArgs false
set_option maxHeartbeats 4000000
set_option maxRecDepth 4000
namespace Am
open Go

/-- All steps fit the branches; there are not many. -/
structure JK (X : Jrn) : Prop where
  p : ∀ t ∈ X.2.1, 0 ≤ t.1 ∧ t.1 < X.1.2.2.length
  f : ∀ t ∈ X.2.2, 0 ≤ t.1 ∧ t.1 < X.1.2.2.length
  n : X.2.1.length + X.2.2.length ≤ 50
theorem runB_keys : ∀ (l : List Trip) (br : List Int), (runB l br).isSome = true → ∀ t ∈ l, 0 ≤ t.1 ∧ t.1 < br.length
  | [], _, _ => by simp
  | s :: l, br, h => by
    unfold runB at h
    by_cases hc : (okStep br.length s && decide (at0 br s.1.toNat = s.2.2)) = true
    · rw [if_pos hc] at h
      have := runB_keys l _ h
      rw [List.length_set] at this
      intro t ht
      rcases List.mem_cons.1 ht with rfl | ht
      · exact (okStep_iff.1 (by simp at hc; exact hc.1)).1
      · exact this t ht
    · rw [if_neg hc] at h; simp at h
theorem runF_keys : ∀ (l : List Trip) (br : List Int), (runF l br).isSome = true → ∀ t ∈ l, 0 ≤ t.1 ∧ t.1 < br.length
  | [], _, _ => by simp
  | s :: l, br, h => by
    unfold runF at h
    by_cases hc : (okStep br.length s && decide (at0 br s.1.toNat = s.2.1)) = true
    · rw [if_pos hc] at h
      have := runF_keys l _ h
      rw [List.length_set] at this
      intro t ht
      rcases List.mem_cons.1 ht with rfl | ht
      · exact (okStep_iff.1 (by simp at hc; exact hc.1)).1
      · exact this t ht
    · rw [if_neg hc] at h; simp at h
theorem JK.of {X : Jrn} (h : okJ X = true) : JK X := by
  unfold okJ at h
  simp only [Bool.and_eq_true, decide_eq_true_eq] at h
  exact ⟨fun t ht => runB_keys _ _ h.2.2.1 t (by simpa using ht), runF_keys _ _ h.2.2.2, h.2.1⟩

def redoJ (X : Jrn) : Jrn := match X.2.2 with
  | [] => X
  | s :: f => ((X.1.1, X.1.2.1, X.1.2.2.set s.1.toNat s.2.2), X.2.1 ++ [s], f)
def redoAns (X : Jrn) : Jrn × Int := if okJ X then (if X.2.2 = [] then (noJ, 6) else (redoJ X, 0)) else (noJ, 1)
theorem redoJ_len (X : Jrn) : (redoJ X).1.2.2.length = X.1.2.2.length ∧ (redoJ X).2.1.length + (redoJ X).2.2.length = X.2.1.length + X.2.2.length := by
  unfold redoJ
  split
  · exact ⟨rfl, rfl⟩
  · rename_i h; simp [h]; omega
theorem ok_siz {X Y : Jrn} (h : okJ X = true) (hb : Y.1.2.2.length = X.1.2.2.length) (hn : Y.2.1.length + Y.2.2.length ≤ 50) : siz shJournal Y ≤ 16777216 := by
  obtain ⟨⟨W, H, br⟩, p, f⟩ := X
  obtain ⟨⟨W', H', br'⟩, p', f'⟩ := Y
  obtain ⟨ok, hle, _⟩ := okJ_parts h
  have := ok_len ok
  simp only at hb hn
  rw [siz_journal]; omega
theorem redo_siz (X : Jrn) : siz shJournal (redoAns X).1 ≤ 16777216 := by
  unfold redoAns
  split
  · rename_i h
    split
    · rw [noJ_siz]; omega
    · exact ok_siz h (redoJ_len X).1 (by have := (redoJ_len X).2; have := (JK.of h).n; simp only at *; omega)
  · rw [noJ_siz]; omega
theorem redo_i (h : Heap) (lo jb : Nat) (X : Jrn) (rest : List Value) (hJ : JM h lo jb X rest) (hk : JK X) (hne : X.2.2 ≠ []) :
    ACall Gam 1 [pt jb 0] h fun _ h' => Mod lo h.length h h' ∧ JM h' lo jb (redoJ X) [] := by
  obtain ⟨⟨W, H, br⟩, p, f'⟩ := X
  cases f' with
  | nil => exact absurd rfl hne
  | cons s f' =>
    obtain ⟨a, x, y⟩ := s
    have k1 := hk.f (a, x, y) (by simp)
    have k2 := hk.n
    simp only [List.length_cons] at k1 k2
    exact c1 h lo jb W H br p f' a x y rest hJ k1.1 k1.2 (by omega) (by omega)
theorem c123 (h : Heap) (hp : 0 < h.length) (v0 : Value) (X0 : Jrn) (hv0 : Vr h shJournal v0 X0) (hs0 : siz shJournal X0 ≤ 1048576) :
    ACall Gam 123 [v0] h fun r h' => Grows h h' ∧ ∃ r0, r = .tuple #[r0, I (redoAns X0).2] ∧ Vo h' h.length h'.length shJournal r0 (redoAns X0).1 ∧ siz shJournal (redoAns X0).1 ≤ 16777216 := by
  have hsz := redo_siz X0
  have wf := wf_vr hv0 hs0
  obtain ⟨⟨W, H, br⟩, p, f⟩ := X0
  obtain ⟨s, sp, sf, rfl, w1, w2, r1, r2, r3⟩ := hv0.journal
  refine ACall_intro g123 rfl ?_
  unfold fn123
  rw [awp_seq, awp_reg]
  generalize hK : seqQ Gam _ _ 0 = K
  simp (disch := omega)
  subst hK
  simp only [seqQ_zero]
  rw [awp_seq]
  generalize hK : seqQ Gam _ _ = K
  simp (disch := omega)
  have hv0' := hv0
  obtain ⟨pb, po, pz, e3, hpm, _⟩ := trips_at r3
  rw [maxLen_eq] at hpm
  subst e3
  refine callW_of (c138 h hp _ _ hv0' hs0) ?_
  rintro _ h1 ⟨G1, rfl⟩
  cases q : okJ ((W, H, br), p, f)
  · have e : redoAns ((W, H, br), p, f) = (noJ, 1) := by simp [redoAns, q]
    subst hK
    rw [e] at hsz ⊢
    simp (disch := omega) [resOf, resAll, resOne, aField]
    exact ⟨G1, Vo.no_journal, hsz⟩
  simp (disch := omega)
  subst hK
  simp only [seqQ_zero]
  rw [awp_seq]
  generalize hK : seqQ Gam _ _ = K
  simp (disch := omega)
  refine fork_dec (fun h3 => ?_) (fun h3 => ?_)
  · have h3 : f = [] := List.length_eq_zero_iff.1 (by simpa using h3)
    have e : redoAns ((W, H, br), p, f) = (noJ, 6) := by unfold redoAns; rw [q]; simp [h3]
    subst hK
    rw [e] at hsz ⊢
    simp (disch := omega) [resOf, resAll, resOne, aField]
    exact ⟨G1, Vo.no_journal, hsz⟩
  have hfe : f ≠ [] := by intro e; subst e; simp at h3
  have e : redoAns ((W, H, br), p, f) = (redoJ ((W, H, br), p, f), 0) := by unfold redoAns; rw [q]; simp [hfe]
  simp (disch := omega)
  subst hK
  rw [e] at hsz ⊢
  simp only [seqQ_zero]
  rw [awp_seq, awp_reg]
  generalize hK : seqQ Gam _ _ 0 = K
  simp (disch := omega)
  refine callW_of (c148 h1 (pos_of hp G1) _ _ (hv0'.grow G1) hs0) ?_
  rintro _ h2 x5
  obtain ⟨b1, z1, b2, z2, b3, z3, rfl, hJ⟩ := JM.own (pos_of hp G1) x5 wf
  have g2 := x5.1
  simp only at hJ
  have hsb : storeAt (h2 ++ [⟨[I 0, I 0, sl 0 0 0 0, sl 0 0 0 0, sl 0 0 0 0], true⟩]) h2.length 0 [I W, I H, sl b1 0 br.length z1, sl b2 0 p.length z2, sl b3 0 f.length z3] = some (h2 ++ [⟨[I W, I H, sl b1 0 br.length z1, sl b2 0 p.length z2, sl b3 0 f.length z3], true⟩]) := store_box rfl
  simp (disch := omega) [hsb]
  subst hK
  simp only [seqQ_zero]
  rw [awp_seq, awp_reg]
  generalize hK : seqQ Gam _ _ 0 = K
  simp (disch := omega)
  obtain ⟨h3, e3⟩ : ∃ h3, h3 = h2 ++ [⟨[I W, I H, sl b1 0 br.length z1, sl b2 0 p.length z2, sl b3 0 f.length z3], true⟩] := ⟨_, rfl⟩
  rw [← e3] at hJ ⊢
  have G3 : Grows h1 h3 := g2.trans ⟨_, e3⟩
  refine callW_of (redo_i h3 h1.length h2.length _ [] hJ (JK.of q) hfe) ?_
  rintro _ h4 ⟨md, hJ2⟩
  simp (disch := omega)
  subst hK
  simp only [seqQ_zero]
  have L1 := G1.le
  obtain ⟨cs, hk, hl, ov⟩ := hJ2.vo
  have cw : cellsAt h4 h2.length 0 5 = some cs := cellsAt_all hk hl.symm
  have G4 := md.grows G3 (Nat.le_refl _)
  simp (disch := omega) [cw, hl, resOf, resAll, resOne, aField]
  have et : cs.take 5 = cs := List.take_of_length_le (by omega)
  try rw [et]
  exact ⟨G1.trans G4, ov.wide L1 (Nat.le_refl _), hsz⟩
end Am
/-! AmJ11 -/
set_option linter.unusedVariables false
set_option linter.unusedSimpArgs false
set_option maxHeartbeats 4000000
set_option maxRecDepth 4000
namespace Am
open Go

/-- As Vo, with cells behind Past. -/
def VoJ (h : Heap) (lo hi : Nat) (v : Value) (X : Jrn) : Prop := ∃ b1 z1 b2 z2 b3 z3 rest,
  v = .agg #[I X.1.1, I X.1.2.1, sl b1 0 X.1.2.2.length z1, sl b2 0 X.2.1.length z2, sl b3 0 X.2.2.length z3] ∧ (z1 = 1 ∨ b1 = 0 ∧ X.1.2.2 = []) ∧
  (X.1.2.2 = [] ∨ h[b1]? = some ⟨ints X.1.2.2, true⟩ ∧ lo ≤ b1 ∧ b1 < hi ∧ b1 ≠ b2 ∧ b1 ≠ b3) ∧
  (X.2.1 = [] ∧ b2 = 0 ∨ z2 = 3 ∧ h[b2]? = some ⟨trips X.2.1 ++ rest, true⟩ ∧ lo ≤ b2 ∧ b2 < hi ∧ b2 ≠ b3) ∧
  (X.2.2 = [] ∧ b3 = 0 ∨ z3 = 3 ∧ h[b3]? = some ⟨trips X.2.2, true⟩ ∧ lo ≤ b3 ∧ b3 < hi) ∧ Jwf X
theorem JM.voj {h : Heap} {lo jb : Nat} {X : Jrn} {rest : List Value} (x : JM h lo jb X rest) : ∃ cs, h[jb]? = some ⟨cs, true⟩ ∧ cs.length = 5 ∧ VoJ h lo h.length (.agg cs.toArray) X := by
  obtain ⟨b1, z1, b2, z2, b3, z3, hjb, hlo, hpos, hz1, i1, i2, i3, wf⟩ := x
  exact ⟨_, hjb, rfl, b1, z1, b2, z2, b3, z3, rest, rfl, hz1, i1.imp id fun e => ⟨e.1, e.2.1, at_lt e.1, e.2.2.2⟩, i2.imp id fun e => ⟨e.1, e.2.1, e.2.2.1, at_lt e.2.1, e.2.2.2.2⟩, i3.imp id fun e => ⟨e.1, e.2.1, e.2.2.1, at_lt e.2.1⟩, wf⟩
theorem VoJ.no {h : Heap} {lo hi : Nat} : VoJ h lo hi (.agg #[I 0, I 0, sl 0 0 0 0, sl 0 0 0 0, sl 0 0 0 0]) noJ :=
  ⟨0, 0, 0, 0, 0, 0, [], rfl, .inr ⟨rfl, rfl⟩, .inl rfl, .inl ⟨rfl, rfl⟩, .inl ⟨rfl, rfl⟩, by constructor <;> simp [noJ, I64]⟩
theorem VoJ.mod {h h' : Heap} {lo hi lo' hi' : Nat} {v : Value} {X : Jrn} (x : VoJ h lo hi v X) (m : Mod lo' hi' h h') (hd : hi ≤ lo' ∨ hi' ≤ lo) : VoJ h' lo hi v X := by
  obtain ⟨b1, z1, b2, z2, b3, z3, rest, e, hz1, i1, i2, i3, wf⟩ := x
  exact ⟨b1, z1, b2, z2, b3, z3, rest, e, hz1, i1.imp id fun e => ⟨by rw [m.2 _ (at_lt e.1) (by omega)]; exact e.1, e.2⟩, i2.imp id fun e => ⟨e.1, by rw [m.2 _ (at_lt e.2.1) (by omega)]; exact e.2.1, e.2.2⟩, i3.imp id fun e => ⟨e.1, by rw [m.2 _ (at_lt e.2.1) (by omega)]; exact e.2.1, e.2.2⟩, wf⟩
theorem VoJ.grow {h h' : Heap} {lo hi : Nat} {v : Value} {X : Jrn} (x : VoJ h lo hi v X) (g : Grows h h') : VoJ h' lo hi v X := by
  obtain ⟨b1, z1, b2, z2, b3, z3, rest, e, hz1, i1, i2, i3, wf⟩ := x
  exact ⟨b1, z1, b2, z2, b3, z3, rest, e, hz1, i1.imp id fun e => ⟨by rw [g.look (at_lt e.1)]; exact e.1, e.2⟩, i2.imp id fun e => ⟨e.1, by rw [g.look (at_lt e.2.1)]; exact e.2.1, e.2.2⟩, i3.imp id fun e => ⟨e.1, by rw [g.look (at_lt e.2.1)]; exact e.2.1, e.2.2⟩, wf⟩
theorem VoJ.wide {h : Heap} {lo hi lo' hi' : Nat} {v : Value} {X : Jrn} (x : VoJ h lo hi v X) (h1 : lo' ≤ lo) (h2 : hi ≤ hi') : VoJ h lo' hi' v X := by
  obtain ⟨b1, z1, b2, z2, b3, z3, rest, e, hz1, i1, i2, i3, wf⟩ := x
  exact ⟨b1, z1, b2, z2, b3, z3, rest, e, hz1, i1.imp id fun e => ⟨e.1, by omega, by omega, e.2.2.2⟩, i2.imp id fun e => ⟨e.1, e.2.1, by omega, by omega, e.2.2.2.2⟩, i3.imp id fun e => ⟨e.1, e.2.1, by omega, by omega⟩, wf⟩

theorem VoJ.vr {h : Heap} {lo hi : Nat} {v : Value} {X : Jrn} (x : VoJ h lo hi v X) : Vr h shJournal v X := by
  obtain ⟨⟨W, H, br⟩, p, f⟩ := X
  obtain ⟨b1, z1, b2, z2, b3, z3, rest, rfl, hz1, i1, i2, i3, w1, w2, x1, x2, x3, y1, y2, y3⟩ := x
  simp only at hz1 i1 i2 i3 w1 w2 x1 x2 x3 y1 y2 y3
  refine Vr.of_journal w1 w2 (Vr.of_ints hz1 (by rw [maxLen_eq]; simp only; omega) x1 (i1.imp id fun e => cellsAt_all e.1 (by simp [ints])))
    (Vr.of_trips (i2.elim (fun e => .inr ⟨e.2, e.1⟩) fun e => .inl e.1) (by rw [maxLen_eq]; simp only; omega) x2 (i2.imp (fun e => e.1) fun e => ?_))
    (Vr.of_trips (i3.elim (fun e => .inr ⟨e.2, e.1⟩) fun e => .inl e.1) (by rw [maxLen_eq]; simp only; omega) x3 (i3.imp (fun e => e.1) fun e => cellsAt_all e.2.1 (by rw [trips_len]; omega)))
  rw [cellsAt_of e.2.1 (by simp [trips_len]; omega)]
  simp [trips_len, Nat.mul_comm]

end Am
/-! AmJ12 -/
set_option linter.unusedVariables false
set_option linter.unusedSimpArgs false
set_option maxHeartbeats 4000000
set_option maxRecDepth 4000
namespace Am
open Go

def undoJ (X : Jrn) : Jrn := match X.2.1.reverse with
  | [] => X
  | s :: r => ((X.1.1, X.1.2.1, X.1.2.2.set s.1.toNat s.2.1), r.reverse, s :: X.2.2)
def undoAns (X : Jrn) : Jrn × Int := if okJ X then (if X.2.1 = [] then (noJ, 6) else (undoJ X, 0)) else (noJ, 1)
theorem undoJ_len (X : Jrn) : (undoJ X).1.2.2.length = X.1.2.2.length ∧ (undoJ X).2.1.length + (undoJ X).2.2.length = X.2.1.length + X.2.2.length := by
  unfold undoJ
  split
  · exact ⟨rfl, rfl⟩
  · rename_i h
    have := congrArg List.length h
    simp at this
    simp; omega
theorem undo_siz (X : Jrn) : siz shJournal (undoAns X).1 ≤ 16777216 := by
  unfold undoAns
  split
  · rename_i h
    split
    · rw [noJ_siz]; omega
    · exact ok_siz h (undoJ_len X).1 (by have := (undoJ_len X).2; have := (JK.of h).n; simp only at *; omega)
  · rw [noJ_siz]; omega
theorem undo_i (h : Heap) (lo jb : Nat) (X : Jrn) (rest : List Value) (hJ : JM h lo jb X rest) (hk : JK X) (hne : X.2.1 ≠ []) :
    ACall Gam 2 [pt jb 0] h fun _ h' => Mod lo h.length h h' ∧ ∃ rest, JM h' lo jb (undoJ X) rest := by
  obtain ⟨⟨W, H, br⟩, p, f'⟩ := X
  simp only at hne
  unfold undoJ
  simp only
  split
  · rename_i e; exact absurd (by simpa using e) hne
  rename_i s r e
  obtain rfl : p = r.reverse ++ [s] := by rw [← List.reverse_reverse p, e]; simp
  obtain ⟨a, x, y⟩ := s
  have k1 := hk.p (a, x, y) (by simp)
  have k2 := hk.n
  simp only [List.length_append, List.length_cons, List.length_nil] at k1 k2
  exact (c2 h lo jb W H br r.reverse f' a x y rest hJ k1.1 k1.2 (by omega) (by omega)).mono fun _ _ h => ⟨h.1, _, h.2⟩
theorem undo_s (h : Heap) (lo jb : Nat) (X : Jrn) (rest : List Value) (hJ : JM h lo jb X rest) (hk : JK X) (hne : X.2.1 ≠ []) :
    ACall Gam 564 [pt jb 0] h fun _ h' => Mod lo h.length h h' ∧ ∃ rest, JM h' lo jb (undoJ X) rest := by
  obtain ⟨⟨W, H, br⟩, p, f'⟩ := X
  simp only at hne
  unfold undoJ
  simp only
  split
  · rename_i e; exact absurd (by simpa using e) hne
  rename_i s r e
  obtain rfl : p = r.reverse ++ [s] := by rw [← List.reverse_reverse p, e]; simp
  obtain ⟨a, x, y⟩ := s
  have k1 := hk.p (a, x, y) (by simp)
  have k2 := hk.n
  simp only [List.length_append, List.length_cons, List.length_nil] at k1 k2
  exact (c564 h lo jb W H br r.reverse f' a x y rest hJ k1.1 k1.2 (by omega) (by omega)).mono fun _ _ h => ⟨h.1, _, h.2⟩

theorem c134 (h : Heap) (hp : 0 < h.length) (v0 : Value) (X0 : Jrn) (hv0 : Vr h shJournal v0 X0) (hs0 : siz shJournal X0 ≤ 1048576) :
    ACall Gam 134 [v0] h fun r h' => Grows h h' ∧ ∃ r0, r = .tuple #[r0, I (undoAns X0).2] ∧ VoJ h' h.length h'.length r0 (undoAns X0).1 ∧ siz shJournal (undoAns X0).1 ≤ 16777216 := by
  have hsz := undo_siz X0
  have wf := wf_vr hv0 hs0
  obtain ⟨⟨W, H, br⟩, p, f⟩ := X0
  obtain ⟨s, sp, sf, rfl, w1, w2, r1, r2, r3⟩ := hv0.journal
  refine ACall_intro g134 rfl ?_
  unfold fn134
  rw [awp_seq, awp_reg]
  generalize hK : seqQ Gam _ _ 0 = K
  simp (disch := omega)
  subst hK
  simp only [seqQ_zero]
  rw [awp_seq]
  generalize hK : seqQ Gam _ _ = K
  simp (disch := omega)
  have hv0' := hv0
  obtain ⟨pb, po, pz, e3, hpm, _⟩ := trips_at r2
  rw [maxLen_eq] at hpm
  subst e3
  refine callW_of (c138 h hp _ _ hv0' hs0) ?_
  rintro _ h1 ⟨G1, rfl⟩
  cases q : okJ ((W, H, br), p, f)
  · have e : undoAns ((W, H, br), p, f) = (noJ, 1) := by simp [undoAns, q]
    subst hK
    rw [e] at hsz ⊢
    simp (disch := omega) [resOf, resAll, resOne, aField]
    exact ⟨G1, VoJ.no, hsz⟩
  simp (disch := omega)
  subst hK
  simp only [seqQ_zero]
  rw [awp_seq]
  generalize hK : seqQ Gam _ _ = K
  simp (disch := omega)
  refine fork_dec (fun h3 => ?_) (fun h3 => ?_)
  · have h3 : p = [] := List.length_eq_zero_iff.1 (by simpa using h3)
    have e : undoAns ((W, H, br), p, f) = (noJ, 6) := by unfold undoAns; rw [q]; simp [h3]
    subst hK
    rw [e] at hsz ⊢
    simp (disch := omega) [resOf, resAll, resOne, aField]
    exact ⟨G1, VoJ.no, hsz⟩
  have hfe : p ≠ [] := by intro e; subst e; simp at h3
  have e : undoAns ((W, H, br), p, f) = (undoJ ((W, H, br), p, f), 0) := by unfold undoAns; rw [q]; simp [hfe]
  simp (disch := omega)
  subst hK
  rw [e] at hsz ⊢
  simp only [seqQ_zero]
  rw [awp_seq, awp_reg]
  generalize hK : seqQ Gam _ _ 0 = K
  simp (disch := omega)
  refine callW_of (c148 h1 (pos_of hp G1) _ _ (hv0'.grow G1) hs0) ?_
  rintro _ h2 x5
  obtain ⟨b1, z1, b2, z2, b3, z3, rfl, hJ⟩ := JM.own (pos_of hp G1) x5 wf
  have g2 := x5.1
  simp only at hJ
  have hsb : storeAt (h2 ++ [⟨[I 0, I 0, sl 0 0 0 0, sl 0 0 0 0, sl 0 0 0 0], true⟩]) h2.length 0 [I W, I H, sl b1 0 br.length z1, sl b2 0 p.length z2, sl b3 0 f.length z3] = some (h2 ++ [⟨[I W, I H, sl b1 0 br.length z1, sl b2 0 p.length z2, sl b3 0 f.length z3], true⟩]) := store_box rfl
  simp (disch := omega) [hsb]
  subst hK
  simp only [seqQ_zero]
  rw [awp_seq, awp_reg]
  generalize hK : seqQ Gam _ _ 0 = K
  simp (disch := omega)
  obtain ⟨h3, e3⟩ : ∃ h3, h3 = h2 ++ [⟨[I W, I H, sl b1 0 br.length z1, sl b2 0 p.length z2, sl b3 0 f.length z3], true⟩] := ⟨_, rfl⟩
  rw [← e3] at hJ ⊢
  have G3 : Grows h1 h3 := g2.trans ⟨_, e3⟩
  refine callW_of (undo_i h3 h1.length h2.length _ [] hJ (JK.of q) hfe) ?_
  rintro _ h4 ⟨md, rest, hJ2⟩
  simp (disch := omega)
  subst hK
  simp only [seqQ_zero]
  have L1 := G1.le
  obtain ⟨cs, hk, hl, ov⟩ := hJ2.voj
  have cw : cellsAt h4 h2.length 0 5 = some cs := cellsAt_all hk hl.symm
  have G4 := md.grows G3 (Nat.le_refl _)
  simp (disch := omega) [cw, hl, resOf, resAll, resOne, aField]
  have et : cs.take 5 = cs := List.take_of_length_le (by omega)
  try rw [et]
  exact ⟨G1.trans G4, ov.wide L1 (Nat.le_refl _), hsz⟩
end Am
/-! AmJ13 -/
set_option linter.unusedVariables false
set_option linter.unusedSimpArgs false
set_option maxHeartbeats 4000000
set_option maxRecDepth 4000
namespace Am
open Go

def undoN : Nat → Jrn → Jrn
  | 0, X => X
  | k + 1, X => undoN k (undoJ X)
def redoN : Nat → Jrn → Jrn
  | 0, X => X
  | k + 1, X => redoN k (redoJ X)
def goJ (X : Jrn) (n : Nat) : Jrn := redoN (n - (undoN (X.2.1.length - n) X).2.1.length) (undoN (X.2.1.length - n) X)
def goAns (X : Jrn) (n : Int) : Jrn × Int := if okJ X then (if inR n 0 (X.2.1.length + X.2.2.length : Nat) then (goJ X n.toNat, 0) else (noJ, 2)) else (noJ, 1)
theorem JK.undo {X : Jrn} (h : JK X) : JK (undoJ X) := by
  obtain ⟨⟨W, H, br⟩, p, f⟩ := X
  obtain ⟨hp, hf, hn⟩ := h
  simp only at hp hf hn
  have hl := undoJ_len ((W, H, br), p, f)
  unfold undoJ at hl ⊢
  split at hl
  · exact ⟨hp, hf, hn⟩
  · rename_i s r e
    simp only at e hl ⊢
    have ep : p = r.reverse ++ [s] := by rw [← List.reverse_reverse p, e]; simp
    subst ep
    refine ⟨fun t ht => ?_, fun t ht => ?_, by simp only; omega⟩
    · simp only [List.length_set] at *
      exact hp t (by simp only [List.mem_append]; exact .inl ht)
    · simp only [List.length_set] at *
      rcases List.mem_cons.1 ht with rfl | ht
      · exact hp t (by simp)
      · exact hf t ht
theorem JK.redo {X : Jrn} (h : JK X) : JK (redoJ X) := by
  obtain ⟨⟨W, H, br⟩, p, f⟩ := X
  obtain ⟨hp, hf, hn⟩ := h
  simp only at hp hf hn
  cases f with
  | nil => exact ⟨hp, hf, hn⟩
  | cons s f =>
    unfold redoJ
    simp only
    refine ⟨fun t ht => ?_, fun t ht => ?_, by simp at hn ⊢; omega⟩
    · simp only [List.length_set] at *
      rcases List.mem_append.1 ht with ht | ht
      · exact hp t ht
      · simp at ht; subst ht; exact hf t (by simp)
    · simp only [List.length_set] at *
      exact hf t (by simp [ht])
theorem undoN_len (k : Nat) (X : Jrn) : (undoN k X).1.2.2.length = X.1.2.2.length ∧ (undoN k X).2.1.length + (undoN k X).2.2.length = X.2.1.length + X.2.2.length := by
  induction k generalizing X with
  | zero => exact ⟨rfl, rfl⟩
  | succ k ih => have := ih (undoJ X); have := undoJ_len X; simp only [undoN]; omega
theorem redoN_len (k : Nat) (X : Jrn) : (redoN k X).1.2.2.length = X.1.2.2.length ∧ (redoN k X).2.1.length + (redoN k X).2.2.length = X.2.1.length + X.2.2.length := by
  induction k generalizing X with
  | zero => exact ⟨rfl, rfl⟩
  | succ k ih => have := ih (redoJ X); have := redoJ_len X; simp only [redoN]; omega
theorem go_siz (X : Jrn) (n : Int) : siz shJournal (goAns X n).1 ≤ 16777216 := by
  unfold goAns
  split
  · rename_i h
    split
    · have hn := (JK.of h).n
      unfold goJ
      have h1 := undoN_len (X.2.1.length - n.toNat) X
      have h2 := redoN_len (n.toNat - (undoN (X.2.1.length - n.toNat) X).2.1.length) (undoN (X.2.1.length - n.toNat) X)
      exact ok_siz h (by simp only; omega) (by simp only; omega)
    · rw [noJ_siz]; omega
  · rw [noJ_siz]; omega
theorem undoJ_past {X : Jrn} (h : X.2.1 ≠ []) : (undoJ X).2.1.length = X.2.1.length - 1 := by
  unfold undoJ
  split
  · rename_i e; exact absurd (by simpa using e) h
  · rename_i e
    have := congrArg List.length e
    simp at this
    simp; omega
theorem redoJ_past {X : Jrn} (h : X.2.2 ≠ []) : (redoJ X).2.1.length = X.2.1.length + 1 := by
  unfold redoJ
  split
  · rename_i e; exact absurd e h
  · simp
/-- A journal of ours on the way to its goal. -/
def Way (lo jb n : Nat) (u : Bool) (Z : Jrn) (tot : Nat) (h : Heap) (m : Nat) : Prop := ∃ Y rest, JM h lo jb Y rest ∧ JK Y ∧ Y.2.1.length + Y.2.2.length = tot ∧ m = (if u then Y.2.1.length - n else n - Y.2.1.length) ∧ Z = if u then undoN m Y else redoN m Y

end Am
/-! AmJ14 -/
set_option linter.unusedVariables false
set_option linter.unusedSimpArgs false
set_option maxHeartbeats 4000000
set_option maxRecDepth 4000
namespace Am
open Go

theorem c86 (h : Heap) (hp : 0 < h.length) (v0 : Value) (X0 : Jrn) (hv0 : Vr h shJournal v0 X0) (hs0 : siz shJournal X0 ≤ 1048576) (n : Int) (wn : I64 n) :
    ACall Gam 86 [v0, I n] h fun r h' => Grows h h' ∧ ∃ r0, r = .tuple #[r0, I (goAns X0 n).2] ∧ VoJ h' h.length h'.length r0 (goAns X0 n).1 ∧ siz shJournal (goAns X0 n).1 ≤ 16777216 := by
  have hsz := go_siz X0 n
  have wf := wf_vr hv0 hs0
  obtain ⟨⟨W, H, br⟩, p, f⟩ := X0
  obtain ⟨s, sp, sf, rfl, w1, w2, r1, r2, r3⟩ := hv0.journal
  refine ACall_intro g86 rfl ?_
  unfold fn86
  rw [awp_seq, awp_reg]
  generalize hK : seqQ Gam _ _ 0 = K
  simp (disch := omega)
  subst hK
  simp only [seqQ_zero]
  rw [awp_seq]
  generalize hK : seqQ Gam _ _ = K
  simp (disch := omega)
  have hv0' := hv0
  obtain ⟨pb, po, pz, e3, hpm, _⟩ := trips_at r2
  rw [maxLen_eq] at hpm
  subst e3
  obtain ⟨fb, fo, fz, e3, hfm, _⟩ := trips_at r3
  rw [maxLen_eq] at hfm
  subst e3
  refine callW_of (c138 h hp _ _ hv0' hs0) ?_
  rintro _ h1 ⟨G1, rfl⟩
  cases q : okJ ((W, H, br), p, f)
  · have e : goAns ((W, H, br), p, f) n = (noJ, 1) := by unfold goAns; rw [q]; simp
    subst hK
    rw [e] at hsz ⊢
    simp (disch := omega) [resOf, resAll, resOne, aField]
    exact ⟨G1, VoJ.no, hsz⟩
  have hK50 := (JK.of q).n
  simp only at hK50
  simp (disch := omega)
  subst hK
  simp only [seqQ_zero]
  rw [awp_seq]
  generalize hK : seqQ Gam _ _ = K
  simp (disch := omega) [wrap64]
  refine callW_of (c164 n 0 ((p.length : Int) + f.length) h1) ?_
  rintro _ h1' ⟨rfl, rfl⟩
  have en : ((p.length + f.length : Nat) : Int) = (p.length : Int) + f.length := by omega
  cases q1 : inR n 0 ((p.length : Int) + f.length)
  · have e : goAns ((W, H, br), p, f) n = (noJ, 2) := by unfold goAns; rw [q]; simp only [en, q1]; rfl
    subst hK
    rw [e] at hsz ⊢
    simp (disch := omega) [resOf, resAll, resOne, aField]
    exact ⟨G1, VoJ.no, hsz⟩
  have e : goAns ((W, H, br), p, f) n = (goJ ((W, H, br), p, f) n.toNat, 0) := by unfold goAns; rw [q]; simp only [en, q1]; rfl
  rw [inR_iff] at q1
  simp (disch := omega)
  subst hK
  rw [e] at hsz ⊢
  obtain ⟨nn, rfl⟩ := Int.eq_ofNat_of_zero_le q1.1
  rw [Int.toNat_natCast] at hsz ⊢
  simp only [seqQ_zero]
  rw [awp_seq, awp_reg]
  generalize hK : seqQ Gam _ _ 0 = K
  simp (disch := omega)
  refine callW_of (c148 h1' (pos_of hp G1) _ _ (hv0'.grow G1) hs0) ?_
  rintro _ h2 x5
  obtain ⟨b1, z1, b2, z2, b3, z3, rfl, hJ⟩ := JM.own (pos_of hp G1) x5 wf
  have g2 := x5.1
  simp only at hJ
  have hsb : storeAt (h2 ++ [⟨[I 0, I 0, sl 0 0 0 0, sl 0 0 0 0, sl 0 0 0 0], true⟩]) h2.length 0 [I W, I H, sl b1 0 br.length z1, sl b2 0 p.length z2, sl b3 0 f.length z3] = some (h2 ++ [⟨[I W, I H, sl b1 0 br.length z1, sl b2 0 p.length z2, sl b3 0 f.length z3], true⟩]) := store_box rfl
  simp (disch := omega) [hsb]
  subst hK
  simp only [seqQ_zero]
  obtain ⟨h3, e3⟩ : ∃ h3, h3 = h2 ++ [⟨[I W, I H, sl b1 0 br.length z1, sl b2 0 p.length z2, sl b3 0 f.length z3], true⟩] := ⟨_, rfl⟩
  rw [← e3] at hJ ⊢
  have G3 : Grows h1' h3 := g2.trans ⟨_, e3⟩
  generalize hjb : h2.length = jb at *
  rw [awp_seq]
  generalize hK : seqQ Gam _ _ = K
  have hlo : h1'.length ≤ h3.length := G3.le
  have J0 : Way h1'.length jb nn true (undoN (p.length - nn) ((W, H, br), p, f)) (p.length + f.length) h3 (p.length - nn) := ⟨_, _, hJ, JK.of q, rfl, rfl, rfl⟩
  simp (disch := omega)
  refine awp_loop (fun (m : Nat) σ h' => Grows h1' h' ∧ σ 1 = I nn ∧ σ 6 = pt jb 0 ∧ σ 4 = .agg #[I 0, I 0, sl 0 0 0 0, sl 0 0 0 0, sl 0 0 0 0] ∧ Way h1'.length jb nn true (undoN (p.length - nn) ((W, H, br), p, f)) (p.length + f.length) h' m) (fun m => m) (p.length - nn) ?_ ?_
  · exact ⟨G3, by simp, by simp, by simp, J0⟩
  · rintro m σ h' ⟨g', q1', q6, q4, Y, rest, JY, KY, hT, hm, hZ⟩
    obtain ⟨b1, z1, b2, z2, b3, z3, hx⟩ := JY
    have JY : JM h' h1'.length jb Y rest := ⟨b1, z1, b2, z2, b3, z3, hx⟩
    have hx : JMx h' h1'.length jb Y rest b1 z1 b2 z2 b3 z3 := hx
    have k3 := hx.cells.2.1
    have hn := KY.n
    simp (disch := omega) [q6, q1', k3]
    refine fork_dec (fun hlt => ?_) (fun hge => ?_)
    · have hlt : (nn : Int) < Y.2.1.length := by first | exact hlt | omega
      have hne : Y.2.1 ≠ [] := by intro e; rw [e] at hlt; simp at hlt
      simp (disch := omega) [q6, q1', k3]
      refine callW_of (undo_i h' _ jb Y rest JY KY hne) ?_
      rintro _ h5 ⟨md, rest', J5⟩
      have G5 := md.grows g' (Nat.le_refl _)
      simp (disch := omega) [q6, q1', q4]
      refine ⟨m - 1, ⟨G5, _, rest', J5, KY.undo, ?_, ?_, ?_⟩, ?_⟩
      · have := (undoJ_len Y).2; omega
      · rw [undoJ_past hne]; simp at hm ⊢; omega
      · obtain ⟨m', rfl⟩ : ∃ m', m = m' + 1 := ⟨m - 1, by simp at hm; omega⟩
        simpa [undoN] using hZ
      · simp at hm; omega
    · simp (disch := omega) [q6, q1', k3]
      have hm0 : m = 0 := by simp at hm; omega
      subst hm0
      have hge : Y.2.1.length ≤ nn := by omega
      have eZ : undoN (p.length - nn) ((W, H, br), p, f) = Y := by simpa [undoN] using hZ
      have eG : goJ ((W, H, br), p, f) nn = redoN (nn - Y.2.1.length) Y := by unfold goJ; simp only [eZ]
      subst hK
      rw [eG] at hsz ⊢
      obtain ⟨Z, hZ2⟩ : ∃ Z, Z = redoN (nn - Y.2.1.length) Y := ⟨_, rfl⟩
      rw [← hZ2] at hsz ⊢
      have J1 : Way h1'.length jb nn false Z (p.length + f.length) h' (nn - Y.2.1.length) := ⟨Y, rest, JY, KY, hT, rfl, hZ2⟩
      generalize hm1 : nn - Y.2.1.length = m1 at J1
      simp only [seqQ_zero]
      rw [awp_seq]
      generalize hK : seqQ Gam _ _ = K
      simp (disch := omega)
      refine awp_loop (fun (m : Nat) σ h' => Grows h1' h' ∧ σ 1 = I nn ∧ σ 6 = pt jb 0 ∧ σ 4 = .agg #[I 0, I 0, sl 0 0 0 0, sl 0 0 0 0, sl 0 0 0 0] ∧ Way h1'.length jb nn false Z (p.length + f.length) h' m) (fun m => m) m1 ?_ ?_
      · exact ⟨g', by simpa using q1', by simpa using q6, by simpa using q4, J1⟩
      · clear J1 hZ2 JY hx k3 KY
        rintro m σ h' ⟨g', q1', q6, q4, Y, rest, JY, KY, hT, hm, hZ⟩
        obtain ⟨b1, z1, b2, z2, b3, z3, hx⟩ := JY
        have JY : JM h' h1'.length jb Y rest := ⟨b1, z1, b2, z2, b3, z3, hx⟩
        have hx : JMx h' h1'.length jb Y rest b1 z1 b2 z2 b3 z3 := hx
        have k3 := hx.cells.2.1
        have hn := KY.n
        simp (disch := omega) [q6, q1', k3]
        refine fork_dec (fun hlt => ?_) (fun hge => ?_)
        · have hlt : (Y.2.1.length : Int) < nn := by first | exact hlt | omega
          have hne : Y.2.2 ≠ [] := by intro e; rw [e] at hT; simp at hT; omega
          simp (disch := omega) [q6, q1', k3]
          refine callW_of (redo_i h' _ jb Y rest JY KY hne) ?_
          rintro _ h5 ⟨md, J5⟩
          have G5 := md.grows g' (Nat.le_refl _)
          simp (disch := omega) [q6, q1', q4]
          refine ⟨m - 1, ⟨G5, _, _, J5, KY.redo, ?_, ?_, ?_⟩, ?_⟩
          · have := (redoJ_len Y).2; omega
          · rw [redoJ_past hne]; simp at hm ⊢; omega
          · obtain ⟨m', rfl⟩ : ∃ m', m = m' + 1 := ⟨m - 1, by simp at hm; omega⟩
            simpa [redoN] using hZ
          · simp at hm; omega
        · simp (disch := omega) [q6, q1', k3]
          have hm0 : m = 0 := by simp at hm; omega
          subst hm0
          have eZ : Z = Y := by simpa [redoN] using hZ
          subst eZ
          subst hK
          simp only [seqQ_zero]
          have L1 := G1.le
          obtain ⟨cs, hk, hl, ov⟩ := JY.voj
          have cw : cellsAt h' jb 0 5 = some cs := cellsAt_all hk hl.symm
          simp (disch := omega) [cw, hl, q6, q4, resOf, resAll, resOne, aField]
          have et : cs.take 5 = cs := List.take_of_length_le (by omega)
          try rw [et]
          exact ⟨G1.trans g', ov.wide L1 (Nat.le_refl _), hsz⟩
end Am
