/- Contracts: AmY9, AmY10, AmY11, AmY13, AmY5, AmY6, AmY12. -/
import Derived.Test.YtikhbjdcomgemaaAmK5
import Derived.Test.YtikhbjdcomgemaaAmK6
import Derived.Test.YtikhbjdcomgemaaAmK1
import Derived.Test.YtikhbjdcomgemaaAmK3
/-! AmY9 -/
set_option linter.unusedVariables false
set_option linter.unusedSimpArgs false
set_option maxHeartbeats 4000000
set_option maxRecDepth 4000
namespace Am
open Go

theorem c440 (c : UInt8) (h : Heap) : ACall Gam 440 [U c.toNat] h fun r h' => r = B (small c) ∧ h' = h := by
  refine ACall_intro g440 rfl ?_
  unfold fn440
  by_cases h1 : (97 : Int) ≤ c.toNat
  · simp (disch := omega) [h1, small]
  · simp (disch := omega) [h1, small]
theorem take_all {s : List UInt8} {k : Nat} (hk : k < s.length) : (s.take (k + 1)).all nameC = ((s.take k).all nameC && nameC (at8 s k)) := by
  rw [List.take_succ_eq_append_getElem hk, List.all_append, at8_eq hk]; simp
theorem take_not {s : List UInt8} {k : Nat} (hk : k < s.length) (h : nameC (at8 s k) = false) : s.all nameC = false := by
  rw [List.all_eq_false]
  exact ⟨s[k], List.getElem_mem hk, by rw [at8_eq hk, h]; simp⟩
theorem nameOk_not {s : List UInt8} {k : Nat} (hk : k < s.length) (h : nameC (at8 s k) = false) : nameOk s = false := by
  unfold nameOk; rw [take_not hk h]; simp
theorem name_dash (c : UInt8) : decide (c = 45) = decide ((c.toNat : Int) = 45) := by
  have : (c.toNat : Int) = 45 ↔ c = 45 := by
    have := u8_eq (a := c) (b := 45)
    exact this
  simp [this]
theorem c383 (h : Heap) (s : List UInt8) (hs : s.length ≤ 1048576) : ACall Gam 383 [S s] h fun r h' => r = B (nameOk s) ∧ h' = h := by
  refine ACall_intro g383 rfl ?_
  unfold fn383
  by_cases e0 : s = []
  · subst e0
    simp (disch := omega) [nameOk]
  have l0 : 0 < s.length := List.length_pos_iff.2 e0
  by_cases e1 : ¬ s.length ≤ 12
  · have e1' : (12 : Int) < s.length := by omega
    simp (disch := omega) [e0, e1', nameOk, e1]
  have e1' : ¬ (12 : Int) < s.length := by omega
  have e1 : s.length ≤ 12 := by omega
  have ha0 := at8_of l0
  simp (disch := omega) [e0, e1', l0, ha0, at8_eq l0]
  refine callW_of (c440 _ h) ?_
  rintro _ h' ⟨rfl, rfl⟩
  cases hsm : small (at8 s 0)
  · simp (disch := omega) [nameOk, hsm]
  · simp (disch := omega)
    refine awp_loop (fun (k : Nat) σ h'' => h'' = h' ∧ k ≤ s.length ∧ σ 0 = S s ∧ σ 3 = I k ∧ (s.take k).all nameC = true) (fun k => s.length - k) 0 ?_ ?_
    · simp
    · rintro k σ h'' ⟨rfl, hk, q0, q3, ha⟩
      simp (disch := omega) [q0, q3]
      refine fork_dec (fun hlt => ?_) (fun hge => ?_)
      · have k1 : k < s.length := by omega
        have hat := at8_of k1
        have ht := take_all k1
        have hn := name_dash (at8 s k)
        simp (disch := omega) [q0, q3, k1, hat, at8_eq k1]
        refine callW_of (c440 _ h'') ?_
        rintro _ h' ⟨rfl, rfl⟩
        cases q1 : small (at8 s k)
        · simp (disch := omega) [q0, q3, k1, hat, at8_eq k1]
          refine callW_of (c438 _ h') ?_
          rintro _ h' ⟨rfl, rfl⟩
          cases q2 : isDig (at8 s k)
          · by_cases q4 : ((at8 s k).toNat : Int) = 45
            · have hc : nameC (at8 s k) = true := by unfold nameC; rw [hn, q1, q2]; simp [q4]
              rw [ha, hc] at ht
              simp (disch := omega) [q0, q3, k1, hat, at8_eq k1, q4, wrap64]
              exact ⟨k + 1, ⟨by omega, by omega, by simpa using ht⟩, by omega⟩
            · have hc : nameC (at8 s k) = false := by unfold nameC; rw [hn, q1, q2]; simp [q4]
              have := nameOk_not k1 hc
              simp (disch := omega) [q0, q3, k1, hat, at8_eq k1, q4, wrap64, this]
          · have hc : nameC (at8 s k) = true := by unfold nameC; rw [q1, q2]; simp
            rw [ha, hc] at ht
            simp (disch := omega) [q0, q3, wrap64]
            exact ⟨k + 1, ⟨by omega, by omega, by simpa using ht⟩, by omega⟩
        · have hc : nameC (at8 s k) = true := by unfold nameC; rw [q1]; simp
          rw [ha, hc] at ht
          simp (disch := omega) [q0, q3, wrap64]
          exact ⟨k + 1, ⟨by omega, by omega, by simpa using ht⟩, by omega⟩
      · have : k = s.length := by omega
        subst this
        rw [List.take_length] at ha
        simp only [List.all_eq_true] at ha
        simp (disch := omega) [nameOk, hsm, e1]
        exact ⟨by omega, ha⟩
theorem isDig_eq (c : UInt8) : isDig c = (!(decide ((c.toNat : Int) < 48) || decide ((57 : Int) < c.toNat))) := by
  unfold isDig
  by_cases a : (48 : Int) ≤ c.toNat <;> by_cases b : (c.toNat : Int) ≤ 57
  all_goals
    simp [a, b]
    try omega
theorem c90 (h : Heap) (s : List UInt8) (hs : s.length ≤ 1048576) : ACall Gam 90 [S s] h fun r h' => r = B (nameOk s) ∧ h' = h := by
  refine ACall_intro g90 rfl ?_
  unfold fn90
  by_cases e0 : s.length < 1
  · have e0' : (s.length : Int) < 1 := by omega
    simp (disch := omega) [nameOk, e0', show ¬ 1 ≤ s.length by omega]
  have e0' : ¬ (s.length : Int) < 1 := by omega
  by_cases e1 : ¬ s.length ≤ 12
  · have e1' : (12 : Int) < s.length := by omega
    simp (disch := omega) [e0', e1', nameOk, e1]
  have e1' : ¬ (12 : Int) < s.length := by omega
  have e1 : s.length ≤ 12 := by omega
  simp (disch := omega) [e0', e1']
  refine awp_loop (fun (k : Nat) σ h'' => h'' = h ∧ k ≤ s.length ∧ σ 0 = S s ∧ σ 14 = I s.length ∧ σ 15 = I k ∧ (s.take k).all nameC = true ∧ (0 < k → small (at8 s 0) = true)) (fun k => s.length - k) 0 ?_ ?_
  · simp
  · rintro k σ h'' ⟨rfl, hk, q0, q14, q15, ha, hsm⟩
    simp (disch := omega) [q14, q15]
    refine fork_dec (fun hlt => ?_) (fun hge => ?_)
    · have k1 : k < s.length := by omega
      have hat := at8_of k1
      have ht := take_all k1
      have hn := name_dash (at8 s k)
      have hd := isDig_eq (at8 s k)
      obtain ⟨c, hc⟩ : ∃ c : Int, c = ((at8 s k).toNat : Int) := ⟨_, rfl⟩
      have hnot : nameC (at8 s k) = false ∨ k = 0 ∧ small (at8 s k) = false → nameOk s = false := by
        rintro (q | ⟨q, q'⟩)
        · exact nameOk_not k1 q
        · subst q; unfold nameOk; rw [q']; simp
      have hyes : nameC (at8 s k) = true → (s.take (k + 1)).all nameC = true := by intro q; rw [ht, ha, q]; rfl
      have hsmall : small (at8 s k) = (decide ((97 : Int) ≤ c) && decide (c ≤ 122)) := by rw [hc]; rfl
      rw [← hc] at hn hd
      by_cases p1 : (97 : Int) ≤ c ∧ c ≤ 122
      · have hs1 : small (at8 s k) = true := by rw [hsmall]; simp [p1.1, p1.2]
        have hnc : nameC (at8 s k) = true := by unfold nameC; rw [hs1]; rfl
        simp (disch := omega) [q0, q14, q15, k1, hat, at8_eq k1, ← hc, p1.1, p1.2, wrap64]
        refine ⟨k + 1, ⟨by omega, by omega, by simpa using hyes hnc, fun _ => ?_⟩, by omega⟩
        by_cases e : k = 0
        · subst e; exact hs1
        · exact hsm (by omega)
      · have hs1 : small (at8 s k) = false := by
          rw [hsmall]; rw [Bool.and_eq_false_iff]; simp only [decide_eq_false_iff_not]; omega
        have step : ∀ {x : Int} {K : Prop}, True := fun {_ _} => trivial
        by_cases e : k = 0
        · subst e
          have := hnot (.inr ⟨rfl, hs1⟩)
          by_cases p2 : (97 : Int) ≤ c
          · have p3 : ¬ c ≤ 122 := fun x => p1 ⟨p2, x⟩
            simp (disch := omega) [q0, q14, q15, k1, hat, at8_eq k1, ← hc, p2, p3, this]
          · simp (disch := omega) [q0, q14, q15, k1, hat, at8_eq k1, ← hc, p2, this]
        · have e' : ¬ (k : Int) = 0 := by omega
          by_cases p4 : c = 45
          · have hnc : nameC (at8 s k) = true := by unfold nameC; rw [hn]; simp [p4]
            have hy := hyes hnc
            by_cases p2 : (97 : Int) ≤ c
            · omega
            · simp (disch := omega) [q0, q14, q15, k1, hat, at8_eq k1, ← hc, p2, e, e', p4, wrap64]
              exact ⟨k + 1, ⟨by omega, by omega, by simpa using hy, fun _ => hsm (by omega)⟩, by omega⟩
          · by_cases p5 : c < 48
            · have hnc : nameC (at8 s k) = false := by unfold nameC; rw [hn, hs1, hd]; simp [p4, p5]
              have := hnot (.inl hnc)
              by_cases p2 : (97 : Int) ≤ c
              · omega
              · simp (disch := omega) [q0, q14, q15, k1, hat, at8_eq k1, ← hc, p2, e, e', p4, p5, this]
            · by_cases p6 : 57 < c
              · have hnc : nameC (at8 s k) = false := by unfold nameC; rw [hn, hs1, hd]; simp [p4, p5, p6]
                have := hnot (.inl hnc)
                by_cases p2 : (97 : Int) ≤ c
                · have p3 : ¬ c ≤ 122 := fun x => p1 ⟨p2, x⟩
                  simp (disch := omega) [q0, q14, q15, k1, hat, at8_eq k1, ← hc, p2, p3, e, e', p4, p5, p6, this]
                · simp (disch := omega) [q0, q14, q15, k1, hat, at8_eq k1, ← hc, p2, e, e', p4, p5, p6, this]
              · have hnc : nameC (at8 s k) = true := by unfold nameC; rw [hn, hs1, hd]; simp [p4, p5, p6]
                have hy := hyes hnc
                by_cases p2 : (97 : Int) ≤ c
                · omega
                · simp (disch := omega) [q0, q14, q15, k1, hat, at8_eq k1, ← hc, p2, e, e', p4, p5, p6, wrap64]
                  exact ⟨k + 1, ⟨by omega, by omega, by simpa using hy, fun _ => hsm (by omega)⟩, by omega⟩
    · have : k = s.length := by omega
      subst this
      rw [List.take_length] at ha
      have := hsm (by omega)
      simp only [List.all_eq_true] at ha
      simp (disch := omega) [nameOk, this, e1]
      exact ⟨by omega, ha⟩
end Am
/-! AmY10 -/
set_option linter.unusedVariables false
set_option linter.unusedSimpArgs false
set_option maxHeartbeats 4000000
set_option maxRecDepth 4000
namespace Am
open Go

/-- A library's entries are there. -/
def KAt (h : Heap) (b o z : Nat) (X : Lib) : Prop := (X.length ≤ maxLen ∧ (z = 4 ∨ b = 0)) ∧ ∀ i (hi : i < X.length), ∃ s, cellsAt h b (o + i * 4) 4 = some [S X[i].1, I X[i].2.1, I X[i].2.2.1, s] ∧ Vr h shInts s X[i].2.2.2 ∧ I64 X[i].2.1 ∧ I64 X[i].2.2.1 ∧ X[i].1.length ≤ 9223372036854775807
theorem Vr.kat {h : Heap} {v : Value} {X : Lib} (x : Vr h shKepts v X) : ∃ b o z, v = sl b o X.length z ∧ KAt h b o z X := by
  have x0 := x
  obtain ⟨b, o, z, rfl, hm, hel⟩ := kepts_at x
  have hz : z = 4 ∨ b = 0 := by
    obtain ⟨b', o', z', e, hz', _⟩ := x0.slice
    simp at e
    obtain ⟨⟨rfl, rfl⟩, rfl⟩ := e
    exact hz'.imp id fun q => q.1
  refine ⟨b, o, z, rfl, ⟨hm, hz⟩, fun i hi => ?_⟩
  obtain ⟨s, c1, r1, vk⟩ := hel i hi
  obtain ⟨_, _, w0, w1, w2, _⟩ := vk.kept
  exact ⟨s, c1, r1, w1, w2, w0⟩
theorem KAt.grow {h h' : Heap} {b o z : Nat} {X : Lib} (x : KAt h b o z X) (g : Grows h h') : KAt h' b o z X :=
  ⟨x.1, fun i hi => by
    obtain ⟨s, c, r, w⟩ := x.2 i hi
    exact ⟨s, g.cellsAt c, r.grow g, w⟩⟩
theorem KAt.take {h : Heap} {b o z : Nat} {X : Lib} (x : KAt h b o z X) (i : Nat) : KAt h b o z (X.take i) :=
  ⟨⟨by rw [List.length_take]; have := x.1.1; omega, x.1.2⟩, fun j hj => by
    have hj' : j < X.length := by rw [List.length_take] at hj; omega
    obtain ⟨s, c, r, w⟩ := x.2 j hj'
    refine ⟨s, ?_, ?_, ?_⟩ <;> simp only [List.getElem_take] <;> assumption⟩
theorem KAt.cells {h : Heap} {b o z : Nat} {X : Lib} (x : KAt h b o z X) {i : Nat} (hi : i < X.length) : ∃ s, cellsAt h b (o + i * 4) 4 = some [S X[i].1, I X[i].2.1, I X[i].2.2.1, s] ∧ cell h b (o + i * 4) = some (S X[i].1) ∧ Vr h shPanel (.agg #[I X[i].2.1, I X[i].2.2.1, s]) X[i].2 ∧ PtP h (pt b (o + i * 4 + 1)) X[i].2 ∧ Vr h shInts s X[i].2.2.2 ∧ I64 X[i].2.1 ∧ I64 X[i].2.2.1 := by
  obtain ⟨s, c, r, w1, w2, w0⟩ := x.2 i hi
  have a1 := (cell_in (i := 0) c (by omega)).1
  have a2 := (cell_in (i := 1) c (by omega)).1
  have a3 := (cell_in (i := 2) c (by omega)).1
  have a4 := (cell_in (i := 3) c (by omega)).1
  refine ⟨s, c, by simpa using a1, Vr.of_panel w1 w2 r, ⟨b, o + i * 4 + 1, s, rfl, by simpa using a2, by simpa [Nat.add_assoc] using a3, by simpa [Nat.add_assoc] using a4, r, w1, w2⟩, r, w1, w2⟩
theorem like_none {X : Lib} {p : Pan} (hn : ∀ j (hj : j < X.length), X[j].2 ≠ p) : likeN X p = X.length := by
  unfold likeN
  rw [List.findIdx_eq_length]
  intro x hx
  obtain ⟨j, hj, rfl⟩ := List.getElem_of_mem hx
  simp [hn j hj]
/-- A test that a list's entries are put to. -/
theorem c315 (h : Heap) (b o z : Nat) (X : Lib) (hX : KAt h b o z X) (F : Nat) (cap : Value) (T : Kpt → Bool) (hT : ∀ i (hi : i < X.length) s, cellsAt h b (o + i * 4) 4 = some [S X[i].1, I X[i].2.1, I X[i].2.2.1, s] → ACall Gam F [.agg #[S X[i].1, I X[i].2.1, I X[i].2.2.1, s], cap] h fun r h' => r = B (T X[i]) ∧ h' = h) :
    ACall Gam 315 [sl b o X.length z, .func (.func F) #[] #[cap]] h fun r h' => r = I (ixI (X.findIdx T) X.length) ∧ h' = h := by
  have hm := hX.1.1
  rw [maxLen_eq] at hm
  refine ACall_intro g315 rfl ?_
  unfold fn315
  simp (disch := omega)
  refine awp_loop (fun k σ h' => h' = h ∧ k ≤ X.length ∧ (∀ j (hj : j < X.length), j < k → T X[j] = false) ∧ σ 0 = sl b o X.length z ∧ σ 1 = .func (.func F) #[] #[cap] ∧ σ 7 = I X.length ∧ σ 8 = I k) (fun k => X.length - k) 0 ?_ ?_
  · simp
  · rintro k σ h' ⟨rfl, hk, hn, q0, q1, q7, q8⟩
    simp (disch := omega) [q7, q8]
    refine fork_dec (fun hlt => ?_) (fun hge => ?_)
    · have k1 : k < X.length := by omega
      obtain ⟨s, c, c1, vp, pp, _⟩ := hX.cells k1
      simp (disch := omega) [q0, q1, q8, k1, c]
      refine callW_of (hT k k1 s c) ?_
      rintro _ h' ⟨rfl, rfl⟩
      cases he : T X[k]
      · simp (disch := omega) [q0, q1, q7, q8, wrap64]
        refine ⟨k + 1, ⟨by omega, fun j hj hlt => ?_, by omega⟩, by omega⟩
        by_cases e : j = k
        · subst e; exact he
        · exact hn j hj (by omega)
      · have : X.findIdx T = k := by
          rw [List.findIdx_eq k1]
          exact ⟨he, fun j hj => hn j (by omega) hj⟩
        simp (disch := omega) [q8, this, ixI, k1]
    · have : X.findIdx T = X.length := by
        rw [List.findIdx_eq_length]
        intro x hx
        obtain ⟨j, hj, rfl⟩ := List.getElem_of_mem hx
        exact hn j hj (by omega)
      simp (disch := omega) [ixI, this]
theorem c162 (h : Heap) (n : List UInt8) (W H : Int) (s : Value) (b o : Nat) (s' : Value) (X p : Pan) (hv : Vr h shPanel (.agg #[I W, I H, s]) X) (cl : cellsAt h b o 3 = some [I p.1, I p.2.1, s']) (hw : Vr h shPanel (.agg #[I p.1, I p.2.1, s']) p) : ACall Gam 162 [.agg #[S n, I W, I H, s], pt b o] h fun r h' => r = B (decide (X = p)) ∧ h' = h := by
  refine ACall_intro g162 rfl ?_
  unfold fn162
  simp (disch := omega) [cl]
  refine callW_of (c130 h _ _ X p hv hw) ?_
  rintro _ h' ⟨rfl, rfl⟩
  simp [samP]
theorem c161 (h : Heap) (b o z : Nat) (X : Lib) (hX : KAt h b o z X) (w : Value) (p : Pan) (hw : Vr h shPanel w p) : ACall Gam 161 [sl b o X.length z, w] h fun r h' => r = I (ixI (likeN X p) X.length) ∧ Grows h h' := by
  obtain ⟨W, H, br⟩ := p
  obtain ⟨s', rfl, w1, w2, r⟩ := hw.panel
  refine ACall_intro g161 rfl ?_
  unfold fn161
  simp (disch := omega)
  obtain ⟨h1, e1⟩ : ∃ h1, h1 = h ++ [⟨[I W, I H, s'], true⟩] := ⟨_, rfl⟩
  rw [← e1]
  have g1 : Grows h h1 := ⟨_, e1⟩
  have kb : h1[h.length]? = some ⟨[I W, I H, s'], true⟩ := by rw [e1]; simp
  refine callW_of (c315 h1 b o z X (hX.grow g1) 162 (pt h.length 0) (fun k => decide (k.2 = (W, H, br))) fun i hi s c => ?_) ?_
  · obtain ⟨s2, c2, _, vp, _⟩ := (hX.grow g1).cells hi
    rw [c] at c2
    simp at c2
    subst c2
    exact c162 h1 _ _ _ s h.length 0 s' X[i].2 (W, H, br) vp (cellsAt_all kb rfl) (Vr.of_panel w1 w2 (r.grow g1))
  · rintro _ h2 ⟨rfl, rfl⟩
    simp (disch := omega)
    exact ⟨rfl, g1⟩
end Am
/-! AmY11 -/
set_option linter.unusedVariables false
set_option linter.unusedSimpArgs false
set_option maxHeartbeats 4000000
set_option maxRecDepth 4000
namespace Am
open Go

theorem ent_eq {X : Lib} {k : Nat} (hk : k < X.length) : entOk X k = (nameOk X[k].1 && (okP X[k].2 && ((decide (k = 0) || lexLt (kN X (k - 1)) X[k].1) && (samP (canonP X[k].2) X[k].2 && decide (likeN (X.take k) X[k].2 = k))))) := by
  unfold entOk; rw [kN_of hk, kP_of hk]
theorem like_take {X : Lib} {k : Nat} (hk : k ≤ X.length) {p : Pan} (hn : ∀ j (hj : j < X.length), j < k → X[j].2 ≠ p) : likeN (X.take k) p = k := by
  have : likeN (X.take k) p = (X.take k).length := like_none fun j hj => by
    rw [List.length_take] at hj
    rw [List.getElem_take]; exact hn j (by omega) (by omega)
  rw [this, List.length_take]; omega
theorem like_took {X : Lib} {k j : Nat} (hk : k < X.length) (hj : j < k) (he : X[j].2 = X[k].2) : likeN (X.take k) X[k].2 ≠ k := by
  have : likeN (X.take k) X[k].2 < (X.take k).length := by
    rw [likeN_lt]
    exact ⟨X[j], List.mem_take_iff_getElem.2 ⟨j, by omega, rfl⟩, he⟩
  rw [List.length_take] at this
  omega
theorem KAt.short {X : Lib} (hs : siz shKepts X ≤ 1048576) {k : Nat} (hk : k < X.length) : X[k].1.length ≤ 1048576 := by
  have h1 := sizL_take hk
  have h2 := sizL_le X (k + 1)
  rw [siz_kepts] at hs
  have h3 : siz shKept X[k] = X[k].1.length + X[k].2.2.2.length := siz_kept _ _ _ _
  omega

theorem c541 (h : Heap) (hp : 0 < h.length) (b o z : Nat) (X : Lib) (hX : KAt h b o z X) (hs : ∀ k (hk : k < X.length), X[k].1.length ≤ 1048576) : ACall Gam 541 [sl b o X.length z] h fun r h' => r = B (keptOk X) ∧ Grows h h' := by
  have hm := hX.1.1
  rw [maxLen_eq] at hm
  refine ACall_intro g541 rfl ?_
  unfold fn541
  simp (disch := omega)
  refine awp_loop (fun k σ h' => Grows h h' ∧ k ≤ X.length ∧ allEnt X k = true ∧ σ 0 = sl b o X.length z ∧ σ 3 = I k) (fun k => X.length - k) 0 ?_ ?_
  · exact ⟨Grows.refl _, by omega, rfl, by simp, by simp⟩
  · rintro k σ h' ⟨g, hk, ha, q0, q3⟩
    simp (disch := omega) [q0, q3]
    refine fork_dec (fun hlt => ?_) (fun hge => ?_)
    · have k1 : k < X.length := by omega
      have hX' := hX.grow g
      obtain ⟨s, c, c1, vp, pp, _⟩ := hX'.cells k1
      have bad : entOk X k = false → keptOk X = false := fun e => keptOk_not k1 e
      rw [ent_eq k1] at bad
      simp (disch := omega) [q0, q3, k1, c1]
      refine callW_of (c383 h' X[k].1 (hs k k1)) ?_
      rintro _ h1 ⟨rfl, rfl⟩
      cases e1 : nameOk X[k].1
      · have := bad (by rw [e1]; rfl)
        simp (disch := omega) [this, g]
      simp (disch := omega)
      refine callW_of (c452 _ X[k].2 h1 pp) ?_
      rintro _ h1 ⟨rfl, rfl⟩
      cases e2 : okP X[k].2
      · have := bad (by rw [e1, e2]; rfl)
        simp (disch := omega) [this, g]
      have ok := okP_iff.1 e2
      refine ⟨fun e => (by cases e), ?_⟩
      generalize hK : seqQ Gam (Code.cond (Operand.tmp 45) _ _) _ = K
      have main : (k = 0 ∨ lexLt (kN X (k - 1)) X[k].1 = true) → ∀ σ, σ 0 = sl b o X.length z → σ 3 = I k → σ 4 = pt b (o + k * 4) → σ 45 = B false → K 0 σ h1 := by
        intro hord σ p0 p3 p4 p45
        have hordb : (decide (k = 0) || lexLt (kN X (k - 1)) X[k].1) = true := by
          rcases hord with q | q
          · simp [q]
          · simp [q]
        subst hK
        simp (disch := omega) [p4, p45]
        have hl1 := g.le
        refine callW_of (c476 h1 (by omega) _ X[k].2 pp ok) ?_
        rintro v2 h2 ⟨g2, o2⟩
        refine ⟨fun e => (by cases e), ?_⟩
        obtain ⟨Y, hY⟩ : ∃ Y, Y = canonP X[k].2 := ⟨_, rfl⟩
        rw [← hY] at o2 bad
        obtain ⟨W2, H2, br2⟩ := Y
        obtain ⟨s2, rfl, u1, u2, r2⟩ := o2.panel
        have st2 := store_box (h := h2) (cs := [I 0, I 0, sl 0 0 0 0]) (xs := [I W2, I H2, s2]) rfl
        simp (disch := omega) [st2, p4]
        obtain ⟨h3, e3⟩ : ∃ h3, h3 = h2 ++ [⟨[I W2, I H2, s2], true⟩] := ⟨_, rfl⟩
        rw [← e3]
        have g23 : Grows h2 h3 := ⟨_, e3⟩
        have g13 := g2.trans g23
        have kb3 : h3[h2.length]? = some ⟨[I W2, I H2, s2], true⟩ := by rw [e3]; simp
        refine callW_of (c456 h3 _ _ (W2, H2, br2) X[k].2 (PtP.at kb3 (r2.vr.grow g23) u1 u2) (pp.grow g13)) ?_
        rintro _ h3 ⟨rfl, rfl⟩
        cases e4 : samP (W2, H2, br2) X[k].2
        · have := bad (by rw [e1, e2, hordb, e4]; rfl)
          simp (disch := omega) [this]
          exact g.trans g13
        have g3 := g.trans g13
        simp (disch := omega)
        refine awp_loop (fun j σ h'' => h'' = h3 ∧ j ≤ k ∧ (∀ i (hi : i < X.length), i < j → X[i].2 ≠ X[k].2) ∧ σ 0 = sl b o X.length z ∧ σ 3 = I k ∧ σ 4 = pt b (o + k * 4) ∧ σ 6 = I j) (fun j => k - j) 0 ?_ ?_
        · simp [p0, p3, p4]
        · rintro j σ h'' ⟨rfl, hj, hn, r0, r3, r4, r6⟩
          simp (disch := omega) [r3, r6]
          refine fork_dec (fun hjlt => ?_) (fun hjge => ?_)
          · have j1 : j < X.length := by omega
            obtain ⟨sj, _, _, _, ppj, _⟩ := hX'.cells j1
            simp (disch := omega) [r0, r4, r6, j1]
            refine callW_of (c456 h'' _ _ X[j].2 X[k].2 (ppj.grow g13) (pp.grow g13)) ?_
            rintro _ h'' ⟨rfl, rfl⟩
            refine ⟨fun e => (by cases e), ?_⟩
            show fork Gam (.bool (decide (X[j].2 = X[k].2))) _ _
            refine fork_dec (fun he => ?_) (fun he => ?_)
            · have hne := like_took k1 (show j < k by omega) he
              have := bad (by rw [e1, e2, hordb, e4]; simp [hne])
              simp (disch := omega) [this, g3]
            · simp (disch := omega) [r0, r3, r4, r6, wrap64]
              refine ⟨j + 1, ⟨by omega, fun i hi hlt => ?_, by omega⟩, by omega⟩
              by_cases e : i = j
              · subst e; exact he
              · exact hn i hi (by omega)
          · have hjk : j = k := by omega
            subst hjk
            have hlk := like_take hk hn
            have hent : entOk X j = true := by
              rw [ent_eq k1, e1, e2, hordb, ← hY, e4, hlk]; simp
            have hall := allEnt_succ X j
            rw [ha, hent] at hall
            simp (disch := omega) [r0, r3, wrap64]
            exact ⟨j + 1, ⟨g3, by omega, by simpa using hall, by omega⟩, by omega⟩
      by_cases hk0 : k = 0
      · subst hk0
        simp (disch := omega) [q3]
        exact main (.inl rfl) _ (by simp [q0]) (by simp [q3]) (by simp) (by simp)
      · obtain ⟨q, rfl⟩ : ∃ q, k = q + 1 := ⟨k - 1, by omega⟩
        rw [Nat.add_sub_cancel] at bad main
        have k2 : q < X.length := by omega
        obtain ⟨s', c', c1', _⟩ := hX'.cells (i := q) k2
        have i1 : (q : Int) + 1 - 1 = q := by omega
        have i2 : (0 : Int) < (q : Int) + 1 := by omega
        cases e3 : lexLt X[q].1 X[q + 1].1
        · have := bad (by rw [e1, e2, kN_of k2, e3]; simp)
          simp (disch := omega) [q0, q3, wrap64, i1, i2, k2, c1, c1', e3]
          subst hK
          simp (disch := omega) [this, g]
        · simp (disch := omega) [q0, q3, wrap64, i1, i2, k2, c1, c1', e3]
          exact main (.inr (by rw [kN_of k2]; exact e3)) _ (by simp [q0]) (by simp [q3]) (by simp) (by simp)
    · have : k = X.length := by omega
      subst this
      simp (disch := omega) [q0]
      refine ⟨?_, g⟩
      simp [keptOk, ha]
      omega

theorem c139 (h : Heap) (hp : 0 < h.length) (b o z : Nat) (X : Lib) (hX : KAt h b o z X) (hs : ∀ k (hk : k < X.length), X[k].1.length ≤ 1048576) : ACall Gam 139 [sl b o X.length z] h fun r h' => r = B (keptOk X) ∧ Grows h h' := by
  have hm := hX.1.1
  rw [maxLen_eq] at hm
  have hz0 := hX.1.2
  refine ACall_intro g139 rfl ?_
  unfold fn139
  by_cases h40 : (40 : Int) < X.length
  · have : ¬ X.length ≤ 40 := by omega
    simp (disch := omega) [h40, keptOk, this]
    exact Grows.refl _
  simp (disch := omega) [h40]
  refine awp_loop (fun k σ h' => Grows h h' ∧ k ≤ X.length ∧ allEnt X k = true ∧ σ 0 = sl b o X.length z ∧ σ 8 = sl b o X.length z ∧ σ 9 = I X.length ∧ σ 10 = I k) (fun k => X.length - k) 0 ?_ ?_
  · exact ⟨Grows.refl _, by omega, rfl, by simp, by simp, by simp, by simp⟩
  · rintro k σ h' ⟨g, hk, ha, q0, q8, q9, q10⟩
    simp (disch := omega) [q9, q10]
    refine fork_dec (fun hlt => ?_) (fun hge => ?_)
    · have k1 : k < X.length := by omega
      have hX' := hX.grow g
      obtain ⟨s, c, c1, vp, pp, _⟩ := hX'.cells k1
      have bad : entOk X k = false → keptOk X = false := fun e => keptOk_not k1 e
      rw [ent_eq k1] at bad
      simp (disch := omega) [q0, q8, q9, q10, k1, c]
      refine callW_of (c90 h' X[k].1 (hs k k1)) ?_
      rintro _ h1 ⟨rfl, rfl⟩
      cases e1 : nameOk X[k].1
      · have := bad (by rw [e1]; rfl)
        simp (disch := omega) [this, g]
      have q3 : True := trivial
      have q4 : True := trivial
      by_cases hk0 : k = 0
      · have hordb : (decide (k = 0) || lexLt (kN X (k - 1)) X[k].1) = true := by simp [hk0]
        have i0 : ¬ 0 < k := by omega
        simp (disch := omega) [q0, q8, q9, q10, i0]
        refine callW_of (c140 _ X[k].2 h1 vp) ?_
        rintro _ h1 ⟨rfl, rfl⟩
        cases e2 : okP X[k].2
        · have := bad (by rw [e1, e2]; rfl)
          simp (disch := omega) [this, g]
        have ok := okP_iff.1 e2
        simp (disch := omega) [q4]
        refine callW_of (c147 h1 (by have := g.le; omega) _ X[k].2 vp ok) ?_
        rintro v2 h2 ⟨g2, o2⟩
        refine ⟨fun e => (by cases e), ?_⟩
        obtain ⟨Y, hY⟩ : ∃ Y, Y = canonP X[k].2 := ⟨_, rfl⟩
        rw [← hY] at o2 bad
        refine callW_of (c130 h2 _ _ X[k].2 Y (vp.grow g2) o2.vr) ?_
        rintro _ h2 ⟨rfl, rfl⟩
        have hsm : samP X[k].2 Y = samP Y X[k].2 := by simp [samP, eq_comm]
        rw [hsm]
        have g3 := g.trans g2
        cases e4 : samP Y X[k].2
        · have := bad (by rw [e1, e2, hordb, e4]; rfl)
          simp (disch := omega) [this, g3]
        have hX3 := (hX'.grow g2).take (k)
        have hlt' : (X.take (k)).length = k := by rw [List.length_take]; omega
        have hc := c161 h2 b o z (X.take (k)) hX3 _ X[k].2 (vp.grow g2)
        rw [hlt'] at hc
        have hz1 : z = 9 / 2 ∨ b = 0 := hz0
        simp (disch := omega) [q0, q3, q4, aSlice, bound, hz1, hz0, show (k) ≤ X.length by omega]
        have hkz : sl b o k z = sl b o 0 z := by rw [hk0]
        rw [hkz] at hc
        refine callW_of hc ?_
        rintro _ h3 ⟨rfl, g4⟩
        have g5 := g3.trans g4
        by_cases e5 : likeN (X.take (k)) X[k].2 = k
        · have hent : entOk X (k) = true := by
            rw [ent_eq k1, e1, e2, hordb, ← hY, e4, e5]; simp
          have hall := allEnt_succ X (k)
          rw [ha, hent] at hall
          have e6 : ixI (likeN (X.take (k)) X[k].2) (k) = -1 := by rw [e5]; unfold ixI; rw [if_neg (by omega)]
          simp (disch := omega) [e6, q0, q8, q9, q10, wrap64]
          exact ⟨k + 1, ⟨g5, by omega, by simpa using hall, by omega⟩, by omega⟩
        · have hle := likeN_le (X.take (k)) X[k].2
          rw [hlt'] at hle
          have := bad (by rw [e1, e2, hordb, e4]; simp [e5])
          exfalso; omega
      · obtain ⟨q, rfl⟩ : ∃ q, k = q + 1 := ⟨k - 1, by omega⟩
        have k2 : q < X.length := by omega
        obtain ⟨s', c', c1', _⟩ := hX'.cells (i := q) k2
        have i1 : (q : Int) + 1 - 1 = q := by omega
        have i2 : (0 : Int) < (q : Int) + 1 := by omega
        have hnot := lexLt_not X[q].1 X[q + 1].1
        cases e3 : (lexLt X[q + 1].1 X[q].1 || decide (X[q + 1].1 = X[q].1))
        · rw [e3] at hnot
          have hordb : (decide (q + 1 = 0) || lexLt (kN X (q + 1 - 1)) X[q + 1].1) = true := by
            rw [Nat.add_sub_cancel, kN_of k2, hnot]; rfl
          simp only [Bool.or_eq_false_iff, decide_eq_false_iff_not] at e3
          simp (disch := omega) [q0, q8, q9, q10, wrap64, i1, i2, k2, c1', e3.1, e3.2]
          refine callW_of (c140 _ X[q + 1].2 h1 vp) ?_
          rintro _ h1 ⟨rfl, rfl⟩
          cases e2 : okP X[q + 1].2
          · have := bad (by rw [e1, e2]; rfl)
            simp (disch := omega) [this, g]
          have ok := okP_iff.1 e2
          simp (disch := omega) [q4]
          refine callW_of (c147 h1 (by have := g.le; omega) _ X[q + 1].2 vp ok) ?_
          rintro v2 h2 ⟨g2, o2⟩
          refine ⟨fun e => (by cases e), ?_⟩
          obtain ⟨Y, hY⟩ : ∃ Y, Y = canonP X[q + 1].2 := ⟨_, rfl⟩
          rw [← hY] at o2 bad
          refine callW_of (c130 h2 _ _ X[q + 1].2 Y (vp.grow g2) o2.vr) ?_
          rintro _ h2 ⟨rfl, rfl⟩
          have hsm : samP X[q + 1].2 Y = samP Y X[q + 1].2 := by simp [samP, eq_comm]
          rw [hsm]
          have g3 := g.trans g2
          cases e4 : samP Y X[q + 1].2
          · have := bad (by rw [e1, e2, hordb, e4]; rfl)
            simp (disch := omega) [this, g3]
          have hX3 := (hX'.grow g2).take (q + 1)
          have hlt' : (X.take (q + 1)).length = q + 1 := by rw [List.length_take]; omega
          have hc := c161 h2 b o z (X.take (q + 1)) hX3 _ X[q + 1].2 (vp.grow g2)
          rw [hlt'] at hc
          have hz1 : z = 9 / 2 ∨ b = 0 := hz0
          have hq0 : (0 : Int) ≤ (q : Int) + 1 := by omega
          simp (disch := omega) [q0, q3, q4, aSlice, bound, hz1, hz0, hq0, show (q + 1) ≤ X.length by omega]
          refine callW_of hc ?_
          rintro _ h3 ⟨rfl, g4⟩
          have g5 := g3.trans g4
          by_cases e5 : likeN (X.take (q + 1)) X[q + 1].2 = q + 1
          · have hent : entOk X (q + 1) = true := by
              rw [ent_eq k1, e1, e2, hordb, ← hY, e4, e5]; simp
            have hall := allEnt_succ X (q + 1)
            rw [ha, hent] at hall
            have e6 : ixI (likeN (X.take (q + 1)) X[q + 1].2) (q + 1) = -1 := by rw [e5]; unfold ixI; rw [if_neg (by omega)]
            simp (disch := omega) [e6, q0, q8, q9, q10, wrap64]
            exact ⟨q + 1 + 1, ⟨g5, by omega, by simpa using hall, by omega⟩, by omega⟩
          · have hle := likeN_le (X.take (q + 1)) X[q + 1].2
            rw [hlt'] at hle
            have := bad (by rw [e1, e2, hordb, e4]; simp [e5])
            obtain ⟨m, hm⟩ : ∃ m, m = likeN (X.take (q + 1)) X[q + 1].2 := ⟨_, rfl⟩
            rw [← hm] at hle e5 ⊢
            have e6 : ixI m (q + 1) = (m : Int) := by unfold ixI; rw [if_pos (by omega)]
            have e7 : (0 : Int) ≤ (m : Int) := by omega
            simp (disch := omega) [e6, e7, this, g5]
        · rw [e3] at hnot
          have := bad (by rw [e1, Nat.add_sub_cancel, kN_of k2, hnot]; cases okP X[q + 1].2 <;> rfl)
          have e3' : lexLt X[q + 1].1 X[q].1 = true ∨ X[q + 1].1 = X[q].1 := by simpa using e3
          rcases e3' with e | e
          · simp (disch := omega) [q0, q8, q9, q10, wrap64, i1, i2, k2, c1', e, this, g]
          · simp (disch := omega) [q0, q8, q9, q10, wrap64, i1, i2, k2, c1', e, this, g]
    · have : k = X.length := by omega
      subst this
      simp (disch := omega)
      refine ⟨?_, g⟩
      simp [keptOk, ha]
      omega
end Am
/-! AmY13 -/
set_option linter.unusedVariables false
set_option linter.unusedSimpArgs false
set_option maxHeartbeats 4000000
set_option maxRecDepth 4000
namespace Am
open Go

end Am
/-! AmY5 -/
set_option linter.unusedVariables false
set_option linter.unusedSimpArgs false
set_option maxHeartbeats 4000000
set_option maxRecDepth 4000
namespace Am
open Go

def pTxt (X : Pan) : List UInt8 := decS X.1 ++ ([120] ++ (decS X.2.1 ++ ([58] ++ X.2.2.map signB)))
def dgB (W : Int) : UInt8 := UInt8.ofNat (48 + W.toNat)
theorem dec_side {W : Int} (h : 1 ≤ W ∧ W ≤ 8) : decS W = [dgB W] := by
  unfold decS dgB
  rw [if_neg (by omega), if_neg (by omega), decN_pos (by omega), show W.natAbs / 10 = 0 by omega, decN_zero]
  simp
  congr 1
  omega
theorem dgB_toNat {W : Int} (h : 1 ≤ W ∧ W ≤ 8) : (dgB W).toNat = 48 + W.toNat := by
  unfold dgB; rw [UInt8.toNat_ofNat']; omega
theorem pTxt_ok {X : Pan} (ok : OkP X) : pTxt X = dgB X.1 :: 120 :: dgB X.2.1 :: 58 :: X.2.2.map signB := by
  unfold pTxt; rw [dec_side ok.w, dec_side ok.h]; rfl
theorem kind_sign {b : Int} (h : 0 ≤ b ∧ b ≤ 2) : kindB (signB b) = b := by
  have : b = 0 ∨ b = 1 ∨ b = 2 := by omega
  rcases this with rfl | rfl | rfl <;> decide
theorem kind_signs : ∀ {l : List Int}, (∀ x ∈ l, 0 ≤ x ∧ x ≤ 2) → (l.map signB).map kindB = l
  | [], _ => rfl
  | a :: l, h => by
    simp only [List.map_cons]
    rw [kind_sign (h a (by simp)), kind_signs fun x hx => h x (by simp [hx])]
theorem sign_kind {c : UInt8} (h : okBr (kindB c) = true) : signB (kindB c) = c := by
  unfold okBr at h
  rw [inR_iff] at h
  unfold kindB at h ⊢
  split at h
  · rename_i e; rw [if_pos e, e]; decide
  · split at h
    · rename_i e1 e; rw [if_neg e1, if_pos e, e]; decide
    · split at h
      · rename_i e1 e2 e; rw [if_neg e1, if_neg e2, if_pos e, e]; decide
      · omega
theorem sign_kinds : ∀ {l : List UInt8}, (l.map kindB).all okBr = true → (l.map kindB).map signB = l
  | [], _ => rfl
  | a :: l, h => by
    simp only [List.map_cons, List.all_cons, Bool.and_eq_true] at h ⊢
    rw [sign_kind h.1, sign_kinds h.2]
theorem rdDec_dig {W : Int} (h : 1 ≤ W ∧ W ≤ 8) : rdDec [dgB W] = (W, true) := by
  have hd := dgB_toNat h
  have hne : dgB W ≠ 45 := by
    intro e
    have := congrArg UInt8.toNat e
    rw [hd] at this
    have h45 : (45 : UInt8).toNat = 45 := rfl
    omega
  have e1 : dgs [dgB W] = [dgB W] := by simp [dgs, hne]
  have e2 : rdV [dgB W] = W := by
    simp [rdV, e1, valN, hd]; omega
  have e3 : rdOk [dgB W] = true := by
    simp [rdOk, e1, e2, dec_side h, isDig, hd]; omega
  unfold rdDec
  rw [e3, e2]; rfl
theorem rdDec_true {s : List UInt8} (h : (rdDec s).2 = true) : decS (rdDec s).1 = s := by
  unfold rdDec at h ⊢
  cases q : rdOk s
  · rw [q] at h; simp at h
  · simp only [rdOk, Bool.and_eq_true, decide_eq_true_eq] at q
    simp [q.2.2.2]
theorem pTxt_idx {X : Pan} (ok : OkP X) : idx (pTxt X) 120 0 = 1 ∧ idx (pTxt X) 58 0 = 3 := by
  have h1 := dgB_toNat ok.w
  have h2 := dgB_toNat ok.h
  have hw := ok.w; have hh := ok.h
  have a : dgB X.1 ≠ 120 := by intro e; rw [e] at h1; have : (120 : UInt8).toNat = 120 := rfl; omega
  have b : dgB X.1 ≠ 58 := by intro e; rw [e] at h1; have : (58 : UInt8).toNat = 58 := rfl; omega
  have c : dgB X.2.1 ≠ 58 := by intro e; rw [e] at h2; have : (58 : UInt8).toNat = 58 := rfl; omega
  rw [pTxt_ok ok]
  simp [idx, a, b, c]

theorem pTxt_inj {X Y : Pan} (a : OkP X) (b : OkP Y) (h : pTxt X = pTxt Y) : X = Y := by
  rw [pTxt_ok a, pTxt_ok b] at h
  simp only [List.cons.injEq, true_and] at h
  obtain ⟨h1, h2, h3⟩ := h
  have e1 := dgB_toNat a.w
  have e2 := dgB_toNat b.w
  have e3 := dgB_toNat a.h
  have e4 := dgB_toNat b.h
  rw [h1] at e1
  rw [h2] at e3
  have q1 := a.w; have q2 := b.w; have q3 := a.h; have q4 := b.h
  have e5 := kind_signs a.b
  rw [h3, kind_signs b.b] at e5
  obtain ⟨W, H, br⟩ := X
  obtain ⟨W', H', br'⟩ := Y
  simp only at *
  rw [show W = W' by omega, show H = H' by omega, e5]

open Classical in
/-- The panel with a text; false if there is none. -/
noncomputable def readAns (s : List UInt8) : Pan × Bool := if e : ∃ X, OkP X ∧ pTxt X = s then (Classical.choose e, true) else ((0, 0, []), false)
theorem readAns_some {X : Pan} (ok : OkP X) : readAns (pTxt X) = (X, true) := by
  have e : ∃ Y, OkP Y ∧ pTxt Y = pTxt X := ⟨X, ok, rfl⟩
  unfold readAns
  rw [dif_pos e]
  have := Classical.choose_spec e
  rw [pTxt_inj this.1 ok this.2]
theorem readAns_none {s : List UInt8} (h : ∀ X, OkP X → pTxt X ≠ s) : readAns s = ((0, 0, []), false) := by
  unfold readAns
  rw [dif_neg]
  rintro ⟨X, a, b⟩
  exact h X a b
theorem readAns_cases (s : List UInt8) : (∃ X, OkP X ∧ pTxt X = s ∧ readAns s = (X, true)) ∨ ((∀ X, OkP X → pTxt X ≠ s) ∧ readAns s = ((0, 0, []), false)) := by
  by_cases e : ∃ X, OkP X ∧ pTxt X = s
  · obtain ⟨X, a, b⟩ := e
    subst b
    exact .inl ⟨X, a, rfl, readAns_some a⟩
  · right
    have : ∀ X, OkP X → pTxt X ≠ s := fun X a b => e ⟨X, a, b⟩
    exact ⟨this, readAns_none this⟩

/-! ### by places -/
def rpX (s : List UInt8) : Nat := (idx s 120 0).toNat
def rpC (s : List UInt8) : Nat := (idx s 58 0).toNat
def rpBad (s : List UInt8) : Prop := idx s 120 0 < 0 ∨ idx s 58 0 < idx s 120 0 ∨ (129 : Int) < s.length - idx s 58 0
def rpP (s : List UInt8) : Pan := ((rdDec (s.take (rpX s))).1, (rdDec ((s.take (rpC s)).drop (rpX s + 1))).1, (s.drop (rpC s + 1)).map kindB)
def rpOk (s : List UInt8) : Bool := (rdDec (s.take (rpX s))).2 && ((rdDec ((s.take (rpC s)).drop (rpX s + 1))).2 && (okP (rpP s) && decide (pTxt (rpP s) = s)))
theorem pTxt_len {X : Pan} (ok : OkP X) : (pTxt X).length = 4 + X.2.2.length := by rw [pTxt_ok ok]; simp; omega
theorem rp_text {X : Pan} (ok : OkP X) : ¬ rpBad (pTxt X) ∧ rpP (pTxt X) = X ∧ rpOk (pTxt X) = true := by
  obtain ⟨i1, i2⟩ := pTxt_idx ok
  have hl := pTxt_len ok
  have h128 := ok.siz
  have x1 : rpX (pTxt X) = 1 := by unfold rpX; rw [i1]; rfl
  have x2 : rpC (pTxt X) = 3 := by unfold rpC; rw [i2]; rfl
  have d1 : (rdDec ((pTxt X).take 1)) = (X.1, true) := by rw [pTxt_ok ok]; exact rdDec_dig ok.w
  have d2 : (rdDec (((pTxt X).take 3).drop 2)) = (X.2.1, true) := by rw [pTxt_ok ok]; exact rdDec_dig ok.h
  have d3 : ((pTxt X).drop 4).map kindB = X.2.2 := by rw [pTxt_ok ok]; exact kind_signs ok.b
  have eP : rpP (pTxt X) = X := by
    unfold rpP; rw [x1, x2, d1, d2, d3]
  refine ⟨?_, eP, ?_⟩
  · unfold rpBad; rw [i1, i2, hl]; omega
  · unfold rpOk
    rw [eP, x1, x2, d1, d2, okP_iff.2 ok]; simp
theorem rp_bad {s : List UInt8} (h : rpBad s) : readAns s = ((0, 0, []), false) := readAns_none fun X ok e => (rp_text ok).1 (e ▸ h)
theorem rp_yes {s : List UInt8} (h : rpOk s = true) : readAns s = (rpP s, true) := by
  simp only [rpOk, Bool.and_eq_true, decide_eq_true_eq] at h
  have := readAns_some (okP_iff.1 h.2.2.1)
  rw [h.2.2.2] at this
  exact this
theorem rp_no {s : List UInt8} (h : rpOk s = false) : readAns s = ((0, 0, []), false) := readAns_none fun X ok e => by
  have := (rp_text ok).2.2
  rw [e, h] at this; cases this

/-! ### by parts -/
theorem joinS_two (sep a b : List UInt8) : joinS sep [a, b] = a ++ sep ++ b := by simp [joinS]
theorem splitG_join (b : UInt8) : ∀ (s cur : List UInt8), joinS [b] (splitG b cur s) = cur ++ s
  | [], cur => by simp [splitG, joinS]
  | c :: r, cur => by
    simp only [splitG]
    split
    · rename_i e
      have hl := splitG_len b r []
      have ih := splitG_join b r []
      cases q : splitG b [] r with
      | nil => rw [q] at hl; simp at hl
      | cons x l =>
        rw [q] at ih
        simp only [joinS, List.nil_append] at ih ⊢
        rw [← ih, e]
        simp
    · rw [splitG_join b r (cur ++ [c])]; simp
theorem splitS_join (b : UInt8) (s : List UInt8) : joinS [b] (splitS b s) = s := by unfold splitS; rw [splitG_join]; simp
theorem splitG_none {b : UInt8} : ∀ {s cur : List UInt8}, b ∉ s → splitG b cur s = [cur ++ s]
  | [], cur, _ => by simp [splitG]
  | c :: r, cur, h => by
    simp only [List.mem_cons, not_or] at h
    simp only [splitG]
    rw [if_neg (fun e => h.1 e.symm), splitG_none h.2]; simp
theorem splitG_one {b : UInt8} : ∀ {s cur t : List UInt8}, b ∉ s → splitG b cur (s ++ b :: t) = (cur ++ s) :: splitG b [] t
  | [], cur, t, _ => by simp [splitG]
  | c :: r, cur, t, h => by
    simp only [List.mem_cons, not_or] at h
    simp only [List.cons_append, splitG]
    rw [if_neg (fun e => h.1 e.symm), splitG_one h.2]; simp
theorem split_two {b : UInt8} {s t : List UInt8} (h1 : b ∉ s) (h2 : b ∉ t) : splitS b (s ++ b :: t) = [s, t] := by
  unfold splitS; rw [splitG_one h1, splitG_none h2]; simp
def nth (l : List (List UInt8)) (i : Nat) : List UInt8 := l.getD i []
def spW (s : List UInt8) : List (List UInt8) := splitS 58 s
def spV (s : List UInt8) : List (List UInt8) := splitS 120 (nth (spW s) 0)
def spP (s : List UInt8) : Pan := ((rdDec (nth (spV s) 0)).1, (rdDec (nth (spV s) 1)).1, (nth (spW s) 1).map kindB)
def spOk (s : List UInt8) : Bool := (rdDec (nth (spV s) 0)).2 && (rdDec (nth (spV s) 1)).2
theorem sign_not (x : Int) : signB x ≠ 58 ∧ signB x ≠ 120 := by unfold signB; split <;> (try split) <;> decide
theorem sp_text {X : Pan} (ok : OkP X) : spW (pTxt X) = [[dgB X.1, 120, dgB X.2.1], X.2.2.map signB] ∧ spV (pTxt X) = [[dgB X.1], [dgB X.2.1]] := by
  have h1 := dgB_toNat ok.w
  have h2 := dgB_toNat ok.h
  have hw := ok.w; have hh := ok.h
  have a : dgB X.1 ≠ 120 := by intro e; rw [e] at h1; have : (120 : UInt8).toNat = 120 := rfl; omega
  have b : dgB X.1 ≠ 58 := by intro e; rw [e] at h1; have : (58 : UInt8).toNat = 58 := rfl; omega
  have c : dgB X.2.1 ≠ 58 := by intro e; rw [e] at h2; have : (58 : UInt8).toNat = 58 := rfl; omega
  have d : dgB X.2.1 ≠ 120 := by intro e; rw [e] at h2; have : (120 : UInt8).toNat = 120 := rfl; omega
  have e1 : spW (pTxt X) = [[dgB X.1, 120, dgB X.2.1], X.2.2.map signB] := by
    rw [pTxt_ok ok]
    refine split_two (s := [dgB X.1, 120, dgB X.2.1]) ?_ ?_
    · simp [Ne.symm b, Ne.symm c]
    · intro hm
      obtain ⟨x, _, hx⟩ := List.mem_map.1 hm
      exact (sign_not x).1 hx
  refine ⟨e1, ?_⟩
  unfold spV
  rw [e1]
  exact split_two (s := [dgB X.1]) (t := [dgB X.2.1]) (by simp [Ne.symm a]) (by simp [Ne.symm d])
theorem sp_w {s : List UInt8} (h : (spW s).length ≠ 2) : readAns s = ((0, 0, []), false) := readAns_none fun X ok e => h (by rw [← e, (sp_text ok).1]; rfl)
theorem sp_v {s : List UInt8} (h : (spV s).length ≠ 2) : readAns s = ((0, 0, []), false) := readAns_none fun X ok e => h (by rw [← e, (sp_text ok).2]; rfl)
theorem two_list {l : List (List UInt8)} (h : l.length = 2) : l = [nth l 0, nth l 1] := by
  match l, h with
  | [a, b], _ => rfl
theorem sp_yes {s : List UInt8} (hw : (spW s).length = 2) (hv : (spV s).length = 2) (h : spOk s = true) (ok : okP (spP s) = true) : readAns s = (spP s, true) := by
  have ok' := okP_iff.1 ok
  simp only [spOk, Bool.and_eq_true] at h
  have e : pTxt (spP s) = s := by
    have j1 := splitS_join 58 s
    have j2 := splitS_join 120 (nth (spW s) 0)
    rw [show splitS 58 s = spW s from rfl, two_list hw, joinS_two] at j1
    rw [show splitS 120 (nth (spW s) 0) = spV s from rfl, two_list hv, joinS_two] at j2
    have r1 := rdDec_true h.1
    have r2 := rdDec_true h.2
    have r3 : (spP s).2.2.map signB = nth (spW s) 1 := sign_kinds (by
      simp only [okP, Bool.and_eq_true] at ok
      exact ok.2.2)
    unfold pTxt
    rw [r3, show (spP s).1 = (rdDec (nth (spV s) 0)).1 from rfl, show (spP s).2.1 = (rdDec (nth (spV s) 1)).1 from rfl, r1, r2]
    calc nth (spV s) 0 ++ ([120] ++ (nth (spV s) 1 ++ ([58] ++ nth (spW s) 1))) = (nth (spV s) 0 ++ [120] ++ nth (spV s) 1) ++ [58] ++ nth (spW s) 1 := by simp only [List.append_assoc]
      _ = nth (spW s) 0 ++ [58] ++ nth (spW s) 1 := by rw [j2]
      _ = s := j1
  have := readAns_some ok'
  rw [e] at this
  exact this
theorem sp_no {s : List UInt8} (h : spOk s = false ∨ okP (spP s) = false) : readAns s = ((0, 0, []), false) := readAns_none fun X ok e => by
  obtain ⟨e1, e2⟩ := sp_text ok
  rw [e] at e1 e2
  have d1 : rdDec (nth (spV s) 0) = (X.1, true) := by rw [e2]; exact rdDec_dig ok.w
  have d2 : rdDec (nth (spV s) 1) = (X.2.1, true) := by rw [e2]; exact rdDec_dig ok.h
  have d3 : (nth (spW s) 1).map kindB = X.2.2 := by rw [e1]; exact kind_signs ok.b
  rcases h with h | h
  · simp [spOk, d1, d2] at h
  · have : spP s = X := by unfold spP; rw [d1, d2, d3]
    rw [this, okP_iff.2 ok] at h; cases h
end Am
/-! AmY6 -/
set_option linter.unusedVariables false
set_option linter.unusedSimpArgs false
set_option maxHeartbeats 4000000
set_option maxRecDepth 4000
namespace Am
open Go

def lineK (k : Kpt) : List UInt8 := k.1 ++ ([32] ++ (pTxt k.2 ++ [10]))
def kTxt (X : Lib) : List UInt8 := (X.map lineK).flatten
noncomputable def keptText (X : Lib) : List UInt8 := if keptOk X then kTxt X else []
theorem KeptOk.getOk {X : Lib} (ok : KeptOk X) {i : Nat} (hi : i < X.length) : OkP X[i].2 ∧ X[i].1.length ≤ 12 := by
  have h1 := (ok.ent i hi).ok
  have h2 := (ok.name12 hi).1
  rw [kP_of hi] at h1
  rw [kN_of hi] at h2
  exact ⟨h1, h2⟩
/-! ### packed -/
def packE (k : Kpt) : List UInt8 := byteI k.1.length :: (k.1 ++ packP k.2)
def packBodyK (X : Lib) : List UInt8 := (X.map packE).flatten
theorem packBodyK_take {X : Lib} {k : Nat} (hk : k < X.length) : packBodyK (X.take (k + 1)) = packBodyK (X.take k) ++ packE X[k] := by
  unfold packBodyK; rw [List.take_succ_eq_append_getElem hk, List.map_append, List.flatten_append]; simp
def packK (X : Lib) : List UInt8 := ended ([76, byteI X.length] ++ packBodyK X)
noncomputable def packAnsK (X : Lib) : List UInt8 × Int := if keptOk X then (packK X, 0) else ([], 1)

/-! ### found -/
def nameAt (X : Lib) (i : Nat) : List UInt8 := kN X i
noncomputable def nameOfAns (X : Lib) (p : Pan) : List UInt8 × Int := if keptOk X && okP p then (if likeN X (canonP p) < X.length then (kN X (likeN X (canonP p)), 0) else ([], 3)) else ([], 1)
noncomputable def namedAns (X : Lib) (s : List UInt8) : Pan × Int := if keptOk X then (if nameN X s < X.length then (kP X (nameN X s), 0) else ((0, 0, []), 3)) else ((0, 0, []), 1)
noncomputable def removeAns (X : Lib) (s : List UInt8) : Lib × Int := if keptOk X then (if nameN X s < X.length then (X.eraseIdx (nameN X s), 0) else ([], 3)) else ([], 1)
end Am
/-! AmY12 -/
set_option linter.unusedVariables false
set_option linter.unusedSimpArgs false
set_option maxHeartbeats 4000000
set_option maxRecDepth 4000
namespace Am
open Go

def pTxtK (X : Pan) (k : Nat) : List UInt8 := dgB X.1 :: 120 :: dgB X.2.1 :: 58 :: (X.2.2.take k).map signB
theorem pTxtK_len (X : Pan) (k : Nat) (hk : k ≤ X.2.2.length) : (pTxtK X k).length = 4 + k := by simp [pTxtK]; omega
theorem pTxtK_succ {X : Pan} {k : Nat} (hk : k < X.2.2.length) : pTxtK X (k + 1) = pTxtK X k ++ [signB X.2.2[k]] := by
  unfold pTxtK; rw [List.take_succ_eq_append_getElem hk, List.map_append]; rfl
theorem okBr_of {b : Int} (h : 0 ≤ b ∧ b ≤ 2) : okBr b = true := by unfold okBr; rw [inR_iff]; exact h
theorem c182 (v : Value) (X : Pan) (h : Heap) (hp : 0 < h.length) (hv : Vr h shPanel v X) (ok : OkP X) : ACall Gam 182 [v] h fun r h' => r = S (pTxt X) ∧ Grows h h' := by
  have h128 := ok.siz
  have ok0 := ok
  have hT := pTxt_ok ok
  obtain ⟨W, H, br⟩ := X
  obtain ⟨s, rfl, w1, w2, r⟩ := hv.panel
  obtain ⟨qW, qH, qn, qb⟩ := ok
  obtain ⟨b2, o2, z, rfl, _, hm, hx, hc⟩ := r.ints
  simp only at qW qH qn qb h128
  refine ACall_intro g182 rfl ?_
  unfold fn182
  simp (disch := omega)
  refine callW_of (c75 W w1 h hp) ?_
  rintro _ h1 ⟨rfl, g1⟩
  rw [dec_side qW]
  simp (disch := omega)
  refine callW_of (c75 H w2 h1 (by have := g1.le; omega)) ?_
  rintro _ h2 ⟨rfl, g2⟩
  rw [dec_side qH]
  simp (disch := omega)
  have g12 := g1.trans g2
  refine awp_loop (fun k σ h' => h' = h2 ∧ k ≤ br.length ∧ σ 3 = S (pTxtK (W, H, br) k) ∧ σ 16 = sl b2 o2 br.length z ∧ σ 17 = I br.length ∧ σ 18 = I k) (fun k => br.length - k) 0 ?_ ?_
  · simp [pTxtK]
  · rintro k σ h' ⟨rfl, hk, q3, q16, q17, q18⟩
    have hl := pTxtK_len (W, H, br) k hk
    simp (disch := omega) [q17, q18]
    refine fork_dec (fun hlt => ?_) (fun hge => ?_)
    · have k1 : k < br.length := by omega
      have hcell := ints_cell (hc.imp id (grows_cellsAt g12)) k1
      have hb := qb _ (List.getElem_mem k1)
      have hm := mark_slice (h := h') (okBr_of hb)
      have hst := pTxtK_succ (X := (W, H, br)) k1
      simp only at hst
      have hle4 : 4 + k ≤ 4611686018427387903 := by omega
      simp (disch := omega) [q3, q16, q17, q18, k1, hcell, wrap64, hm, hl, hle4]
      exact ⟨k + 1, ⟨by omega, by rw [hst], by omega⟩, by omega⟩
    · have : k = br.length := by omega
      subst this
      simp (disch := omega) [q3, hT, pTxtK]
      exact g12
end Am
