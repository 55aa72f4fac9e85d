/- Contracts: clashes, merged panels. -/
import Derived.Test.YtljclhpcpjkihaaAmP4
set_option linter.unusedVariables false
set_option linter.unusedSimpArgs false
set_option maxHeartbeats 4000000
namespace Am
open Go

theorem append_int {h h' : Heap} {v : Value} {l : List Int} {a : Int} {K : Value → Heap → Prop} (hp : 0 < h.length) (hl : l.length ≤ 1048576) (hg : Grows h h') (hv : Buf h h' v 1 (ints l))
    (hK : ∀ v' h'', Grows h h'' → Buf h h'' v' 1 (ints (l ++ [a])) → (∀ c kk, h'[c]? = some kk → (∀ n, v ≠ sl c 0 n 1) → h''[c]? = some kk) → K v' h'') :
    bindW (aBuildSlice 1 1 h' [(0, .agg #[I 0]), (1, I a)]) fun y h'' => bindW (aAppend 1 h'' y v) K := by
  have e : aBuildSlice 1 1 h' [(0, .agg #[I 0]), (1, I a)] = some (sl h'.length 0 1 1, h' ++ [⟨[I a], true⟩]) := by simp [aBuildSlice]
  rw [e]
  simp only [bindW_some]
  refine append_buf hp (hg.push _) (hv.grow ⟨_, rfl⟩) (new := [I a]) ?_ (by omega) (by simp) (by simp) (by simp [ints, maxSize]; omega) ?_
  · simp [newCells]
    rw [cellsAt_of (k := ⟨[I a], true⟩) (by simp) (by simp)]
    simp
  · intro v' h'' g1 b1 k1
    refine hK v' h'' g1 (by rw [ints_append]; exact b1) fun c kk hc hne => k1 c kk (push_at hc) hne

def clash (o a b : List Int) (i : Nat) : Bool := decide (at0 a i ≠ at0 o i) && (decide (at0 b i ≠ at0 o i) && decide (at0 a i ≠ at0 b i))
def cpre (o a b : List Int) (n : Nat) : List Int := (List.range n).flatMap fun i => if clash o a b i then [(i : Int)] else []
theorem cpre_succ (o a b : List Int) (n : Nat) : cpre o a b (n + 1) = cpre o a b n ++ if clash o a b n then [(n : Int)] else [] := by simp [cpre, List.range_succ]
theorem cpre_len (o a b : List Int) (n : Nat) : (cpre o a b n).length ≤ n := by
  induction n with
  | zero => simp [cpre]
  | succ n ih => rw [cpre_succ]; simp; split <;> simp <;> omega
theorem cpre_64 {o a b : List Int} {n : Nat} (hn : n ≤ 1048576) : ∀ x ∈ cpre o a b n, I64 x := by
  intro x hx
  obtain ⟨i, hi, hx⟩ := List.mem_flatMap.1 hx
  have := List.mem_range.1 hi
  split at hx
  · simp at hx; subst hx; unfold I64; omega
  · simp at hx
def clashCode (X0 X1 X2 : Pan) : Int := if okP X0 && (okP X1 && okP X2) then (if sameSz X0 X1 && sameSz X0 X2 then 0 else 6) else 1
def clashAns (X0 X1 X2 : Pan) : List Int × Int := (if clashCode X0 X1 X2 = 0 then cpre X0.2.2 X1.2.2 X2.2.2 X0.2.2.length else [], clashCode X0 X1 X2)
theorem clash_siz (X Y Z : Pan) (hs : X.2.2.length ≤ 1048576) : siz shInts (clashAns X Y Z).1 ≤ 16777216 := by
  rw [siz_ints]
  unfold clashAns
  simp only
  split
  · have := cpre_len X.2.2 Y.2.2 Z.2.2 X.2.2.length; omega
  · simp
theorem clashCode_zero {X Y Z : Pan} (h : clashCode X Y Z = 0) : OkP X ∧ OkP Y ∧ OkP Z ∧ sameSz X Y = true ∧ sameSz X Z = true := by
  unfold clashCode at h
  split at h
  · rename_i h1
    simp only [Bool.and_eq_true] at h1
    split at h
    · rename_i h2
      simp only [Bool.and_eq_true] at h2
      exact ⟨okP_iff.1 h1.1, okP_iff.1 h1.2.1, okP_iff.1 h1.2.2, h2.1, h2.2⟩
    · cases h
  · cases h
theorem sizes3 (X Y Z : Pan) : sizesCode [X, Y, Z] = clashCode X Y Z := by
  simp only [sizesCode, clashCode, List.all_cons, List.all_nil, Bool.and_true, List.drop_succ_cons, List.drop_zero, List.headD_cons]
  rw [sameSz_comm Y, sameSz_comm Z]

theorem c548 (h : Heap) (hp : 0 < h.length) (v0 v1 v2 : Value) (X0 X1 X2 : Pan) (p0 : PtP h v0 X0) (p1 : PtP h v1 X1) (p2 : PtP h v2 X2) (hs : X0.2.2.length ≤ 1048576) (h01 : X0.2.2.length = X1.2.2.length) (h02 : X0.2.2.length = X2.2.2.length) :
    ACall Gam 548 [v0, v1, v2] h fun r h' => Grows h h' ∧ Vo h' h.length h'.length shInts r (cpre X0.2.2 X1.2.2 X2.2.2 X0.2.2.length) := by
  obtain ⟨W0, H0, o⟩ := X0
  obtain ⟨W1, H1, a⟩ := X1
  obtain ⟨W2, H2, b⟩ := X2
  obtain ⟨q0, i0, s0, rfl, _, _, f0, r0, _⟩ := p0
  obtain ⟨q1, i1, s1, rfl, _, _, f1, r1, _⟩ := p1
  obtain ⟨q2, i2, s2, rfl, _, _, f2, r2, _⟩ := p2
  obtain ⟨b0, o0, z0, rfl, _, hm0, hx0, hc0⟩ := r0.ints
  obtain ⟨b1, o1, z1, rfl, _, hm1, hx1, hc1⟩ := r1.ints
  obtain ⟨b2, o2, z2, rfl, _, hm2, hx2, hc2⟩ := r2.ints
  simp only at hs h01 h02
  refine ACall_intro g548 rfl ?_
  unfold fn548
  simp (disch := omega)
  refine awp_loop (fun k σ h' => k ≤ o.length ∧ Grows h h' ∧ σ 0 = pt q0 i0 ∧ σ 1 = pt q1 i1 ∧ σ 2 = pt q2 i2 ∧ σ 8 = I k ∧ Buf h h' (σ 7) 1 (ints (cpre o a b k))) (fun k => o.length - k) 0 ?_ ?_
  · exact ⟨by omega, Grows.refl _, by simp, by simp, by simp, by simp, by simp [cpre, ints_nil]; exact Buf.nil⟩
  · rintro k σ h' ⟨hk, hg, t0, t1, t2, t8, hb⟩
    have d0 := hg.cell f0
    have d1 := hg.cell f1
    have d2 := hg.cell f2
    simp (disch := omega) [t0, t8, d0]
    refine fork_dec (fun hlt => ?_) (fun hge => ?_)
    · have l0 : k < o.length := by omega
      have l1 : k < a.length := by omega
      have l2 : k < b.length := by omega
      have c0 := ints_cell (hc0.imp id (grows_cellsAt hg)) l0
      have c1 := ints_cell (hc1.imp id (grows_cellsAt hg)) l1
      have c2 := ints_cell (hc2.imp id (grows_cellsAt hg)) l2
      rw [← at0_of l0] at c0
      rw [← at0_of l1] at c1
      rw [← at0_of l2] at c2
      simp (disch := omega) [t0, t1, t2, t8, d0, d1, d2, l0, l1, l2, c0, c1, c2]
      have skip : clash o a b k = false → Buf h h' (σ 7) 1 (ints (cpre o a b (k + 1))) := fun hf => by rw [cpre_succ, hf]; simpa using hb
      refine fork_dec (fun e1 => ?_) (fun e1 => ?_)
      · simp (disch := omega) [t0, t1, t2, t8, wrap64, e1]
        exact ⟨k + 1, ⟨by omega, hg, by omega, skip (by simp [clash, e1])⟩, by omega⟩
      · simp (disch := omega) [t0, t1, t2, t8, d0, d1, d2, l0, l1, l2, c0, c1, c2, e1]
        refine fork_dec (fun e2 => ?_) (fun e2 => ?_)
        · simp (disch := omega) [t0, t1, t2, t8, wrap64, e1, e2]
          exact ⟨k + 1, ⟨by omega, hg, by omega, skip (by simp [clash, e2])⟩, by omega⟩
        · simp (disch := omega) [t0, t1, t2, t8, e1, e2]
          refine fork_dec (fun e3 => ?_) (fun e3 => ?_)
          · simp (disch := omega) [t0, t1, t2, t8, wrap64, e1, e2, e3]
            exact ⟨k + 1, ⟨by omega, hg, by omega, skip (by simp [clash, e3])⟩, by omega⟩
          · simp (disch := omega) [t0, t1, t2, t8, e1, e2, e3]
            refine append_int hp (by have := cpre_len o a b k; omega) hg hb fun v' h'' g1 b1 _ => ?_
            simp (disch := omega) [t0, t1, t2, t8, wrap64]
            have hcl : clash o a b k = true := by simp [clash, e1, e2, e3]
            exact ⟨k + 1, ⟨by omega, g1, by omega, by rw [cpre_succ, hcl]; exact b1⟩, by omega⟩
    · have : k = o.length := by omega
      subst this
      have hvo := hb.ints (by have := cpre_len o a b o.length; rw [maxLen_eq]; omega) (cpre_64 hs)
      obtain ⟨bb, zz, e, _⟩ := hvo.ints
      rw [e] at hvo
      simp (disch := omega) [t0, t8, e]
      exact ⟨hg, hvo⟩

/-- Three panels put into boxes, and a slice of pointers to them. -/
theorem boxes3 {h hh : Heap} {W0 H0 W1 H1 W2 H2 : Int} {s0 s1 s2 : Value} {o a b : List Int} {l : List Blk} (e : hh = h ++ ⟨[I W0, I H0, s0], true⟩ :: ⟨[I W1, I H1, s1], true⟩ :: ⟨[I W2, I H2, s2], true⟩ :: l)
    (r0 : Vr h shInts s0 o) (r1 : Vr h shInts s1 a) (r2 : Vr h shInts s2 b) (w0 : I64 W0) (x0 : I64 H0) (w1 : I64 W1) (x1 : I64 H1) (w2 : I64 W2) (x2 : I64 H2) :
    Grows h hh ∧ PtP hh (pt h.length 0) (W0, H0, o) ∧ PtP hh (pt (h.length + 1) 0) (W1, H1, a) ∧ PtP hh (pt (h.length + 2) 0) (W2, H2, b) ∧ hh[h.length]? = some ⟨[I W0, I H0, s0], true⟩ ∧ hh[h.length + 1]? = some ⟨[I W1, I H1, s1], true⟩ ∧ hh[h.length + 2]? = some ⟨[I W2, I H2, s2], true⟩ := by
  have G : Grows h hh := ⟨_, e⟩
  have k0 : hh[h.length]? = some ⟨[I W0, I H0, s0], true⟩ := by rw [e]; simp
  have k1 : hh[h.length + 1]? = some ⟨[I W1, I H1, s1], true⟩ := by rw [e, List.getElem?_append_right (by omega)]; simp
  have k2 : hh[h.length + 2]? = some ⟨[I W2, I H2, s2], true⟩ := by rw [e, List.getElem?_append_right (by omega)]; simp
  exact ⟨G, PtP.of_block k0 (r0.grow G) w0 x0, PtP.of_block k1 (r1.grow G) w1 x1, PtP.of_block k2 (r2.grow G) w2 x2, k0, k1, k2⟩

theorem c334 (h : Heap) (hp : 0 < h.length) (v0 : Value) (X0 : Pan) (hv0 : Vr h shPanel v0 X0) (hs0 : siz shPanel X0 ≤ 1048576) (v1 : Value) (X1 : Pan) (hv1 : Vr h shPanel v1 X1) (hs1 : siz shPanel X1 ≤ 1048576) (v2 : Value) (X2 : Pan) (hv2 : Vr h shPanel v2 X2) (hs2 : siz shPanel X2 ≤ 1048576) :
    ACall Gam 334 [v0, v1, v2] h fun r h' => Grows h h' ∧ ∃ r0, r = .tuple #[r0, I (clashAns X0 X1 X2).2] ∧ Vo h' h.length h'.length shInts r0 (clashAns X0 X1 X2).1 ∧ siz shInts (clashAns X0 X1 X2).1 ≤ 16777216 := by
  obtain ⟨W0, H0, o⟩ := X0
  obtain ⟨W1, H1, a⟩ := X1
  obtain ⟨W2, H2, b⟩ := X2
  rw [siz_panel] at hs0 hs1 hs2
  have hsz := clash_siz (W0, H0, o) (W1, H1, a) (W2, H2, b) hs0
  obtain ⟨s0, rfl, w0, x0, r0⟩ := hv0.panel
  obtain ⟨s1, rfl, w1, x1, r1⟩ := hv1.panel
  obtain ⟨s2, rfl, w2, x2, r2⟩ := hv2.panel
  refine ACall_intro g334 rfl ?_
  unfold fn334
  simp (disch := omega) [aBuildSlice]
  obtain ⟨hh, ehh⟩ : ∃ hh, hh = h ++ [⟨[I W0, I H0, s0], true⟩, ⟨[I W1, I H1, s1], true⟩, ⟨[I W2, I H2, s2], true⟩, ⟨[pt h.length 0, pt (h.length + 1) 0, pt (h.length + 2) 0], true⟩] := ⟨_, rfl⟩
  rw [← ehh]
  obtain ⟨G, p0, p1, p2, k0, k1, k2⟩ := boxes3 ehh r0 r1 r2 w0 x0 w1 x1 w2 x2
  have k3 : hh[h.length + 3]? = some ⟨[pt h.length 0, pt (h.length + 1) 0, pt (h.length + 2) 0], true⟩ := by rw [ehh, List.getElem?_append_right (by omega)]; simp
  refine callW_of (c552 hh (h.length + 3) 0 [pt h.length 0, pt (h.length + 1) 0, pt (h.length + 2) 0] [(W0, H0, o), (W1, H1, a), (W2, H2, b)] (by simp) (by simp) rfl (by rw [cellsAt_of k3 (by simp)]; simp) (fun i hi => by
    have : i = 0 ∨ i = 1 ∨ i = 2 := by simp at hi; omega
    rcases this with rfl | rfl | rfl
    · exact ⟨_, rfl, p0⟩
    · exact ⟨_, rfl, p1⟩
    · exact ⟨_, rfl, p2⟩)) ?_
  rintro _ h1 ⟨rfl, rfl⟩
  rw [sizes3]
  simp (disch := omega)
  refine fork_dec (fun hz => ?_) (fun hz => ?_)
  · obtain ⟨ok0, ok1, ok2, sm1, sm2⟩ := clashCode_zero hz
    have eA : clashAns (W0, H0, o) (W1, H1, a) (W2, H2, b) = (cpre o a b o.length, 0) := by simp [clashAns, hz]
    rw [eA] at hsz ⊢
    simp (disch := omega)
    refine callW_of (c548 h1 (pos_of hp G) _ _ _ _ _ _ p0 p1 p2 hs0 (same_len ok0 ok1 sm1) (same_len ok0 ok2 sm2)) ?_
    rintro r h2 ⟨g2, ho⟩
    obtain ⟨bb, zz, e, _⟩ := ho.ints
    have ho' := ho.wide (lo' := h.length) (hi' := h2.length) G.le (Nat.le_refl _)
    subst e
    simp (disch := omega)
    exact ⟨G.trans g2, ho', hsz⟩
  · have eA : clashAns (W0, H0, o) (W1, H1, a) (W2, H2, b) = ([], clashCode (W0, H0, o) (W1, H1, a) (W2, H2, b)) := by simp [clashAns, hz]
    rw [eA] at hsz ⊢
    simp (disch := omega)
    exact ⟨G, Vo.no_ints, hsz⟩

theorem c65 (h : Heap) (hp : 0 < h.length) (v0 : Value) (X0 : Pan) (hv0 : Vr h shPanel v0 X0) (hs0 : siz shPanel X0 ≤ 1048576) (v1 : Value) (X1 : Pan) (hv1 : Vr h shPanel v1 X1) (hs1 : siz shPanel X1 ≤ 1048576) (v2 : Value) (X2 : Pan) (hv2 : Vr h shPanel v2 X2) (hs2 : siz shPanel X2 ≤ 1048576) :
    ACall Gam 65 [v0, v1, v2] h fun r h' => Grows h h' ∧ ∃ r0, r = .tuple #[r0, I (clashAns X0 X1 X2).2] ∧ Vo h' h.length h'.length shInts r0 (clashAns X0 X1 X2).1 ∧ siz shInts (clashAns X0 X1 X2).1 ≤ 16777216 := by
  obtain ⟨W0, H0, o⟩ := X0
  obtain ⟨W1, H1, a⟩ := X1
  obtain ⟨W2, H2, b⟩ := X2
  rw [siz_panel] at hs0 hs1 hs2
  have hsz := clash_siz (W0, H0, o) (W1, H1, a) (W2, H2, b) hs0
  have hv0' := hv0
  have hv1' := hv1
  have hv2' := hv2
  obtain ⟨s0, rfl, w0, x0, r0⟩ := hv0.panel
  obtain ⟨s1, rfl, w1, x1, r1⟩ := hv1.panel
  obtain ⟨s2, rfl, w2, x2, r2⟩ := hv2.panel
  have bad : ∀ c : Int, clashCode (W0, H0, o) (W1, H1, a) (W2, H2, b) = c → c ≠ 0 → clashAns (W0, H0, o) (W1, H1, a) (W2, H2, b) = ([], c) := by
    intro c hc hn; unfold clashAns; rw [hc, if_neg hn]
  refine ACall_intro g65 rfl ?_
  unfold fn65
  simp (disch := omega)
  refine callW_of (c140 _ _ h hv0') ?_
  rintro _ h1 ⟨rfl, rfl⟩
  cases q0 : okP (W0, H0, o)
  · rw [bad 1 (by simp [clashCode, q0]) (by decide)] at hsz ⊢
    simp
    exact ⟨Grows.refl _, Vo.no_ints, hsz⟩
  simp (disch := omega)
  refine callW_of (c140 _ _ h1 hv1') ?_
  rintro _ h1 ⟨rfl, rfl⟩
  cases q1 : okP (W1, H1, a)
  · rw [bad 1 (by simp [clashCode, q1]) (by decide)] at hsz ⊢
    simp
    exact ⟨Grows.refl _, Vo.no_ints, hsz⟩
  simp (disch := omega)
  refine callW_of (c140 _ _ h1 hv2') ?_
  rintro _ h1 ⟨rfl, rfl⟩
  cases q2 : okP (W2, H2, b)
  · rw [bad 1 (by simp [clashCode, q2]) (by decide)] at hsz ⊢
    simp
    exact ⟨Grows.refl _, Vo.no_ints, hsz⟩
  simp (disch := omega)
  refine callW_of (c186 h1 _ _ _ _ hv0' hv1') ?_
  rintro _ h1 ⟨rfl, rfl⟩
  cases m1 : sameSz (W0, H0, o) (W1, H1, a)
  · rw [bad 6 (by simp [clashCode, q0, q1, q2, m1]) (by decide)] at hsz ⊢
    simp
    exact ⟨Grows.refl _, Vo.no_ints, hsz⟩
  simp (disch := omega)
  refine callW_of (c186 h1 _ _ _ _ hv0' hv2') ?_
  rintro _ h1 ⟨rfl, rfl⟩
  cases m2 : sameSz (W0, H0, o) (W2, H2, b)
  · rw [bad 6 (by simp [clashCode, q0, q1, q2, m1, m2]) (by decide)] at hsz ⊢
    simp
    exact ⟨Grows.refl _, Vo.no_ints, hsz⟩
  have hz : clashCode (W0, H0, o) (W1, H1, a) (W2, H2, b) = 0 := by simp [clashCode, q0, q1, q2, m1, m2]
  have eA : clashAns (W0, H0, o) (W1, H1, a) (W2, H2, b) = (cpre o a b o.length, 0) := by simp [clashAns, hz]
  rw [eA] at hsz ⊢
  have hl1 : o.length = a.length := same_len (okP_iff.1 q0) (okP_iff.1 q1) m1
  have hl2 : o.length = b.length := same_len (okP_iff.1 q0) (okP_iff.1 q2) m2
  obtain ⟨b0, o0, z0, rfl, _, hm0, hx0, hc0⟩ := r0.ints
  obtain ⟨b1, o1, z1, rfl, _, hm1, hx1, hc1⟩ := r1.ints
  obtain ⟨b2, o2, z2, rfl, _, hm2, hx2, hc2⟩ := r2.ints
  simp (disch := omega)
  refine awp_loop (fun k σ h' => k ≤ o.length ∧ Grows h1 h' ∧ σ 4 = .agg #[I W1, I H1, sl b1 o1 a.length z1] ∧ σ 5 = .agg #[I W2, I H2, sl b2 o2 b.length z2] ∧ σ 38 = sl b0 o0 o.length z0 ∧ σ 39 = I o.length ∧ σ 40 = I k ∧ Buf h1 h' (σ 8) 1 (ints (cpre o a b k))) (fun k => o.length - k) 0 ?_ ?_
  · exact ⟨by omega, Grows.refl _, by simp, by simp, by simp, by simp, by simp, by simp [cpre, ints_nil]; exact Buf.nil⟩
  · rintro k σ h' ⟨hk, hg, t4, t5, t38, t39, t40, hb⟩
    simp (disch := omega) [t39, t40]
    refine fork_dec (fun hlt => ?_) (fun hge => ?_)
    · have l0 : k < o.length := by omega
      have l1 : k < a.length := by omega
      have l2 : k < b.length := by omega
      have c0 := ints_cell (hc0.imp id (grows_cellsAt hg)) l0
      have c1 := ints_cell (hc1.imp id (grows_cellsAt hg)) l1
      have c2 := ints_cell (hc2.imp id (grows_cellsAt hg)) l2
      rw [← at0_of l0] at c0
      rw [← at0_of l1] at c1
      rw [← at0_of l2] at c2
      simp (disch := omega) [t4, t5, t38, t39, t40, l0, l1, l2, c0, c1, c2]
      have skip : clash o a b k = false → Buf h1 h' (σ 8) 1 (ints (cpre o a b (k + 1))) := fun hf => by rw [cpre_succ, hf]; simpa using hb
      refine fork_dec (fun e1 => ?_) (fun e1 => ?_)
      · simp (disch := omega) [t4, t5, t38, t39, t40, wrap64, e1]
        exact ⟨k + 1, ⟨by omega, hg, by omega, skip (by simp [clash, e1])⟩, by omega⟩
      · simp (disch := omega) [t4, t5, t38, t39, t40, e1]
        refine fork_dec (fun e2 => ?_) (fun e2 => ?_)
        · simp (disch := omega) [t4, t5, t38, t39, t40, wrap64, e1, e2]
          exact ⟨k + 1, ⟨by omega, hg, by omega, skip (by simp [clash, e2])⟩, by omega⟩
        · simp (disch := omega) [t4, t5, t38, t39, t40, e1, e2]
          refine fork_dec (fun e3 => ?_) (fun e3 => ?_)
          · simp (disch := omega) [t4, t5, t38, t39, t40, wrap64, e1, e2, e3]
            exact ⟨k + 1, ⟨by omega, hg, by omega, skip (by simp [clash, e3])⟩, by omega⟩
          · simp (disch := omega) [t4, t5, t38, t39, t40, e1, e2, e3]
            refine append_int hp (by have := cpre_len o a b k; omega) hg hb fun v' h'' g1 b1 _ => ?_
            simp (disch := omega) [t4, t5, t38, t39, t40, wrap64]
            have hcl : clash o a b k = true := by simp [clash, e1, e2, e3]
            exact ⟨k + 1, ⟨by omega, g1, by omega, by rw [cpre_succ, hcl]; exact b1⟩, by omega⟩
    · have : k = o.length := by omega
      subst this
      have hvo := hb.ints (by have := cpre_len o a b o.length; rw [maxLen_eq]; omega) (cpre_64 hs0)
      obtain ⟨bb, zz, e, _⟩ := hvo.ints
      rw [e] at hvo
      simp (disch := omega) [t39, t40, e]
      exact ⟨hg, hvo, hsz⟩
end Am
