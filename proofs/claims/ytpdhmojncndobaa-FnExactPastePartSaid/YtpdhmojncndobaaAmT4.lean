/- The helpers of the laws for journals. -/
import Derived.Test.YtpdhmojncndobaaAmT3
set_option linter.unusedVariables false
set_option linter.unusedSimpArgs false
set_option maxHeartbeats 4000000
namespace Am
open Go

abbrev Pan3 := Int × Int × List Int
abbrev Jrn := Pan3 × List Trip × List Trip
theorem c292 : SzOk 292 shTrips := sz_trips (show Gam 292 = some fn296 from g292)
theorem c299 : ToOk 299 shTrip := to_trip (show Gam 299 = some fn304 from g299)
theorem c300 : ToOk 300 shTrips := to_trips (show Gam 299 = some fn304 from g299) g300
theorem c262 : EqTrue 262 shTrips := eq_trips (show Gam 261 = some fn266 from g261) g262
theorem c284 : MarkOk 284 shTrips := mark_trips (show Gam 284 = some fn287 from g284)
theorem c277 : HeldOk 277 shTrips := held_trips (show Gam 277 = some fn280 from g277)

theorem Rd.one {h : Heap} {a : Shp} {cs : List Value} {X : List a.T} (r : Rd h (.slice a) cs X) : ∃ s, cs = [s] := by
  have := r.len
  match cs, this with
  | [s], _ => exact ⟨s, rfl⟩
theorem Vr.journal {h : Heap} {v : Value} {W H : Int} {br : List Int} {p f : List Trip} (x : Vr h shJournal v ((W, H, br), p, f)) : ∃ s sp sf, v = .agg #[I W, I H, s, sp, sf] ∧ I64 W ∧ I64 H ∧ Vr h shInts s br ∧ Vr h shTrips sp p ∧ Vr h shTrips sf f := by
  obtain ⟨cs, ⟨c1, c2, rfl, ⟨c3, c4, rfl, ⟨rfl, w1⟩, c5, c6, rfl, ⟨rfl, w2⟩, r1⟩, c7, c8, rfl, r2, r3⟩, rfl⟩ := x
  obtain ⟨s, rfl⟩ := Rd.one r1
  obtain ⟨sp, rfl⟩ := Rd.one r2
  obtain ⟨sf, rfl⟩ := Rd.one r3
  exact ⟨s, sp, sf, rfl, wf_i64.1 w1, wf_i64.1 w2, ⟨_, r1, rfl⟩, ⟨_, r2, rfl⟩, ⟨_, r3, rfl⟩⟩
theorem Vr.of_journal {h : Heap} {W H : Int} {br : List Int} {p f : List Trip} {s sp sf : Value} (h1 : I64 W) (h2 : I64 H) (r1 : Vr h shInts s br) (r2 : Vr h shTrips sp p) (r3 : Vr h shTrips sf f) : Vr h shJournal (.agg #[I W, I H, s, sp, sf]) ((W, H, br), p, f) := by
  obtain ⟨_, r1, rfl⟩ := r1
  obtain ⟨_, r2, rfl⟩ := r2
  obtain ⟨_, r3, rfl⟩ := r3
  obtain ⟨s, rfl⟩ := Rd.one r1
  obtain ⟨sp, rfl⟩ := Rd.one r2
  obtain ⟨sf, rfl⟩ := Rd.one r3
  exact ⟨[I W, I H, s, sp, sf], ⟨[I W, I H, s], [sp, sf], rfl, ⟨[I W], [I H, s], rfl, ⟨rfl, wf_i64.2 h1⟩, [I H], [s], rfl, ⟨rfl, wf_i64.2 h2⟩, r1⟩, [sp], [sf], rfl, r2, r3⟩, rfl⟩

/-- The blocks from l on, before u: none, or within these bounds. -/
def Sub2 (lo hi l u : Nat) : Prop := l = u ∨ lo ≤ l ∧ u ≤ hi
theorem Mod.sub {l u lo hi : Nat} {h h' : Heap} (m : Mod l u h h') (s : Sub2 lo hi l u) : Mod lo hi h h' :=
  ⟨m.1, fun b hb hn => m.2 b hb (by rcases s with s | s <;> omega)⟩
theorem iv_ints {h : Heap} {cs : List Value} {X : List Int} {bs : List Nat} (r : Ow h shInts cs X bs) : ∃ s l u, cs = [s] ∧ Vo h l u shInts s X ∧ (bs = [] ∧ l = 0 ∧ u = 0 ∨ bs = [l] ∧ u = l + 1) := by
  obtain ⟨b, z, css, bss, rfl, hz, hm, h1, h2⟩ := r
  obtain ⟨e1, e2, e3⟩ := All3.ints h1
  rcases h2 with ⟨h2, h3⟩ | ⟨h2, h3, h4⟩
  · exact ⟨_, 0, 0, rfl, Vo.of_ints hz hm e2 (.inl h2), .inl ⟨h3, rfl, rfl⟩⟩
  · rw [e3] at h3; rw [e1] at h4
    exact ⟨_, b, b + 1, rfl, Vo.of_ints hz hm e2 (.inr ⟨h4, by omega, by omega⟩), .inr ⟨h3, rfl⟩⟩
theorem iv_trips {h : Heap} {cs : List Value} {X : List Trip} {bs : List Nat} (r : Ow h shTrips cs X bs) : ∃ s l u, cs = [s] ∧ Vo h l u shTrips s X ∧ (bs = [] ∧ l = 0 ∧ u = 0 ∨ bs = [l] ∧ u = l + 1) := by
  obtain ⟨b, z, css, bss, rfl, hz, hm, h1, h2⟩ := r
  obtain ⟨e1, e2, e3⟩ := All3.trips h1
  rcases h2 with ⟨h2, h3⟩ | ⟨h2, h3, h4⟩
  · exact ⟨_, 0, 0, rfl, Vo.of_trips hz hm e2 (.inl h2), .inl ⟨h3, rfl, rfl⟩⟩
  · rw [e3] at h3; rw [e1] at h4
    exact ⟨_, b, b + 1, rfl, Vo.of_trips hz hm e2 (.inr ⟨h4, by omega, by omega⟩), .inr ⟨h3, rfl⟩⟩
/-- Apart. -/
def Dis (l u l' u' : Nat) : Prop := u ≤ l' ∨ u' ≤ l
theorem Vo.journal {h : Heap} {lo hi : Nat} {v : Value} {W H : Int} {br : List Int} {p f : List Trip} (x : Vo h lo hi shJournal v ((W, H, br), p, f)) : ∃ s sp sf l1 u1 l2 u2 l3 u3, v = .agg #[I W, I H, s, sp, sf] ∧ I64 W ∧ I64 H ∧
    Vo h l1 u1 shInts s br ∧ Vo h l2 u2 shTrips sp p ∧ Vo h l3 u3 shTrips sf f ∧ Sub2 lo hi l1 u1 ∧ Sub2 lo hi l2 u2 ∧ Sub2 lo hi l3 u3 ∧ Dis l1 u1 l2 u2 ∧ Dis l1 u1 l3 u3 ∧ Dis l2 u2 l3 u3 := by
  obtain ⟨cs, bs, ⟨c1, c2, b1, b2, rfl, rfl, ⟨c3, c4, b3, b4, rfl, rfl, ⟨rfl, w1, rfl⟩, c5, c6, b5, b6, rfl, rfl, ⟨rfl, w2, rfl⟩, r1⟩, c7, c8, b7, b8, rfl, rfl, r2, r3⟩, rfl, nd, hb⟩ := x
  obtain ⟨s, l1, u1, rfl, o1, q1⟩ := iv_ints r1
  obtain ⟨sp, l2, u2, rfl, o2, q2⟩ := iv_trips r2
  obtain ⟨sf, l3, u3, rfl, o3, q3⟩ := iv_trips r3
  refine ⟨s, sp, sf, l1, u1, l2, u2, l3, u3, rfl, wf_i64.1 w1, wf_i64.1 w2, o1, o2, o3, ?_, ?_, ?_, ?_, ?_, ?_⟩
  all_goals
    (first | unfold Sub2 | unfold Dis) <;>
    rcases q1 with ⟨rfl, rfl, rfl⟩ | ⟨rfl, rfl⟩ <;> rcases q2 with ⟨rfl, rfl, rfl⟩ | ⟨rfl, rfl⟩ <;> rcases q3 with ⟨rfl, rfl, rfl⟩ | ⟨rfl, rfl⟩ <;> simp at nd hb <;> omega
theorem Vo.of_journal {h : Heap} {lo hi l1 u1 l2 u2 l3 u3 : Nat} {W H : Int} {br : List Int} {p f : List Trip} {s sp sf : Value} (h1 : I64 W) (h2 : I64 H) (r1 : Vo h l1 u1 shInts s br) (r2 : Vo h l2 u2 shTrips sp p) (r3 : Vo h l3 u3 shTrips sf f)
    (s1 : Sub2 lo hi l1 u1) (s2 : Sub2 lo hi l2 u2) (s3 : Sub2 lo hi l3 u3) (d1 : Dis l1 u1 l2 u2) (d2 : Dis l1 u1 l3 u3) (d3 : Dis l2 u2 l3 u3) : Vo h lo hi shJournal (.agg #[I W, I H, s, sp, sf]) ((W, H, br), p, f) := by
  obtain ⟨_, b1, r1, rfl, n1, k1⟩ := r1
  obtain ⟨_, b2, r2, rfl, n2, k2⟩ := r2
  obtain ⟨_, b3, r3, rfl, n3, k3⟩ := r3
  obtain ⟨s, rfl⟩ := Rd.one r1.rd
  obtain ⟨sp, rfl⟩ := Rd.one r2.rd
  obtain ⟨sf, rfl⟩ := Rd.one r3.rd
  refine ⟨[I W, I H, s, sp, sf], b1 ++ (b2 ++ b3), ⟨[I W, I H, s], [sp, sf], b1, b2 ++ b3, rfl, rfl, ⟨[I W], [I H, s], [], b1, rfl, rfl, ⟨rfl, wf_i64.2 h1, rfl⟩, [I H], [s], [], b1, rfl, rfl, ⟨rfl, wf_i64.2 h2, rfl⟩, r1⟩, [sp], [sf], b2, b3, rfl, rfl, r2, r3⟩, rfl, ?_, ?_⟩
  · rw [List.nodup_append, List.nodup_append]
    refine ⟨n1, ⟨n2, n3, fun a ha b hb e => ?_⟩, fun a ha b hb e => ?_⟩
    · subst e
      have := k2 a ha; have := k3 a hb
      unfold Dis at d3; omega
    · subst e
      have := k1 a ha
      unfold Dis at d1 d2
      rcases List.mem_append.1 hb with hb | hb
      · have := k2 a hb; omega
      · have := k3 a hb; omega
  · intro b hb
    unfold Sub2 at s1 s2 s3
    rcases List.mem_append.1 hb with hb | hb
    · have := k1 b hb; omega
    · rcases List.mem_append.1 hb with hb | hb
      · have := k2 b hb; omega
      · have := k3 b hb; omega

theorem siz_journal (W H : Int) (br : List Int) (p f : List Trip) : siz shJournal ((W, H, br), p, f) = br.length + (p.length + f.length) := by
  show siz shPanel (W, H, br) + (siz shTrips p + siz shTrips f) = _
  rw [siz_panel, siz_trips, siz_trips]
theorem cvd_journal (W H : Int) (br : List Int) (p f : List Trip) : cvd shJournal ((W, H, br), p, f) = br.length + (3 * p.length + 3 * f.length) := by
  show cvd shPanel (W, H, br) + (cvd shTrips p + cvd shTrips f) = _
  rw [cvd_panel, cvd_trips, cvd_trips]
theorem mvd_journal (W H : Int) (br : List Int) (p f : List Trip) (k : Nat) : mvd shJournal ((W, H, br), p, f) k = ((W, H, nums k br.length), tnums (k + br.length) p.length, tnums (k + br.length + 3 * p.length) f.length) := by
  show (mvd shPanel (W, H, br) k, mvd shTrips p (k + cvd shPanel (W, H, br)), mvd shTrips f (k + cvd shPanel (W, H, br) + cvd shTrips p)) = _
  rw [mvd_panel, mvd_trips, mvd_trips, cvd_panel, cvd_trips]
theorem cvd_le_shJournal (X : shJournal.T) : cvd shJournal X ≤ 4 * siz shJournal X := by
  obtain ⟨⟨W, H, br⟩, p, f⟩ := X
  rw [cvd_journal, siz_journal]; omega

theorem c291 : SzOk 291 shJournal := by
  rintro h v ⟨⟨(W : Int), (H : Int), (br : List Int)⟩, (p : List Trip), (f : List Trip)⟩ left hv hl
  obtain ⟨s, sp, sf, rfl, w1, w2, r1, r2, r3⟩ := hv.journal
  rw [siz_journal]
  have rp : Vr h shPanel (.agg #[I W, I H, s]) (W, H, br) := Vr.of_panel w1 w2 r1
  refine ACall_intro g291 rfl ?_
  unfold fn291
  simp (disch := omega)
  refine callW_of (c295 _ _ (W, H, br) left rp hl) ?_
  rintro v h' ⟨rfl, rfl⟩
  rw [siz_panel]
  by_cases h1 : br.length ≤ left
  rotate_left
  · rw [if_neg h1, if_neg (by omega)]; simp
  rw [if_pos h1]
  obtain ⟨l1, e1⟩ : ∃ k, k = left - br.length := ⟨_, rfl⟩
  rw [← e1]
  simp (disch := omega)
  refine callW_of (c292 _ _ p l1 r2 (by omega)) ?_
  rintro v h' ⟨rfl, rfl⟩
  rw [siz_trips]
  by_cases h2 : p.length ≤ l1
  rotate_left
  · rw [if_neg h2, if_neg (by omega)]; simp
  rw [if_pos h2]
  obtain ⟨l2, e2⟩ : ∃ k, k = l1 - p.length := ⟨_, rfl⟩
  rw [← e2]
  simp (disch := omega)
  refine callW_of (c292 _ _ f l2 r3 (by omega)) ?_
  rintro v h' ⟨rfl, rfl⟩
  rw [siz_trips]
  by_cases h3 : f.length ≤ l2
  rotate_left
  · rw [if_neg h3, if_neg (by omega)]; simp
  rw [if_pos h3, if_pos (by omega)]
  have e3 : l2 - f.length = left - (br.length + (p.length + f.length)) := by omega
  rw [e3]
  obtain ⟨l3, e4⟩ : ∃ k, k = left - (br.length + (p.length + f.length)) := ⟨_, rfl⟩
  rw [← e4]
  simp (disch := omega)

theorem c298 : ToOk 298 shJournal := by
  rintro h v ⟨⟨(W : Int), (H : Int), (br : List Int)⟩, (p : List Trip), (f : List Trip)⟩ hp hv hs
  obtain ⟨s, sp, sf, rfl, w1, w2, r1, r2, r3⟩ := hv.journal
  rw [siz_journal] at hs
  have rp : Vr h shPanel (.agg #[I W, I H, s]) (W, H, br) := Vr.of_panel w1 w2 r1
  refine ACall_intro g298 rfl ?_
  unfold fn298
  simp (disch := omega)
  refine callW_of (c303 _ _ (W, H, br) hp rp (by rw [siz_panel]; omega)) ?_
  rintro v h1 ⟨hg1, o1⟩
  obtain ⟨s', rfl, _, _, o1⟩ := o1.panel
  simp (disch := omega)
  refine callW_of (c300 _ _ p (pos_of hp hg1) (r2.grow hg1) (by rw [siz_trips]; omega)) ?_
  rintro v h2 ⟨hg2, o2⟩
  obtain ⟨b2, z2, e2, _⟩ := o2.trips
  subst e2
  simp (disch := omega)
  refine callW_of (c300 _ _ f (pos_of hp (hg1.trans hg2)) ((r3.grow hg1).grow hg2) (by rw [siz_trips]; omega)) ?_
  rintro v h3 ⟨hg3, o3⟩
  obtain ⟨b3, z3, e3, _⟩ := o3.trips
  subst e3
  have := hg1.le; have := hg2.le; have := hg3.le
  simp (disch := omega) [resOf_box, aField]
  refine ⟨(hg1.trans hg2).trans hg3, Vo.of_journal w1 w2 ((o1.grow hg2).grow hg3) (o2.grow hg3) o3 ?_ ?_ ?_ ?_ ?_ ?_⟩ <;> ((first | unfold Sub2 | unfold Dis) <;> omega)

theorem c260 : EqTrue 260 shJournal := by
  rintro h v w ⟨⟨(W : Int), (H : Int), (br : List Int)⟩, (p : List Trip), (f : List Trip)⟩ hv hw
  obtain ⟨s, sp, sf, rfl, w1, w2, r1, r2, r3⟩ := hv.journal
  obtain ⟨s', sp', sf', rfl, _, _, r1', r2', r3'⟩ := hw.journal
  refine ACall_intro g260 rfl ?_
  unfold fn260
  simp (disch := omega)
  refine callW_of (c265 _ _ _ (W, H, br) (Vr.of_panel w1 w2 r1) (Vr.of_panel w1 w2 r1')) ?_
  rintro v h' ⟨rfl, rfl⟩
  simp (disch := omega)
  refine callW_of (c262 _ _ _ p r2 r2') ?_
  rintro v h' ⟨rfl, rfl⟩
  simp (disch := omega)
  refine callW_of (c262 _ _ _ f r3 r3') ?_
  rintro v h' ⟨rfl, rfl⟩
  simp (disch := omega)

theorem c283 : MarkOk 283 shJournal := by
  rintro h lo hi v ⟨⟨(W : Int), (H : Int), (br : List Int)⟩, (p : List Trip), (f : List Trip)⟩ k hv hk
  obtain ⟨s, sp, sf, l1, u1, l2, u2, l3, u3, rfl, w1, w2, o1, o2, o3, s1, s2, s3, d1, d2, d3⟩ := hv.journal
  rw [cvd_journal] at hk ⊢
  rw [mvd_journal]
  refine ACall_intro g283 rfl ?_
  unfold fn283
  simp (disch := omega)
  refine callW_of (c286 _ l1 u1 _ (W, H, br) k (Vo.of_panel w1 w2 o1) (by rw [cvd_panel]; omega)) ?_
  rintro v h1 ⟨rfl, m1, q1⟩
  rw [mvd_panel] at q1
  rw [cvd_panel]
  obtain ⟨s', e, _, _, q1⟩ := q1.panel
  obtain rfl : s = s' := by simpa using e
  obtain ⟨k1, e1⟩ : ∃ j, j = k + br.length := ⟨_, rfl⟩
  rw [← e1]
  simp (disch := omega)
  refine callW_of (c284 _ l2 u2 _ p k1 (o2.mod m1 (by unfold Dis at d1; omega)) (by rw [cvd_trips]; omega)) ?_
  rintro v h2 ⟨rfl, m2, q2⟩
  rw [mvd_trips] at q2
  rw [cvd_trips]
  obtain ⟨k2, e2⟩ : ∃ j, j = k1 + 3 * p.length := ⟨_, rfl⟩
  rw [← e2]
  simp (disch := omega)
  refine callW_of (c284 _ l3 u3 _ f k2 ((o3.mod m1 (by unfold Dis at d2; omega)).mod m2 (by unfold Dis at d3; omega)) (by rw [cvd_trips]; omega)) ?_
  rintro v h3 ⟨rfl, m3, q3⟩
  rw [mvd_trips] at q3
  rw [cvd_trips]
  have e3 : k2 + 3 * f.length = k + (br.length + (3 * p.length + 3 * f.length)) := by omega
  rw [e3]
  obtain ⟨k3, e4⟩ : ∃ j, j = k + (br.length + (3 * p.length + 3 * f.length)) := ⟨_, rfl⟩
  rw [← e4]
  simp (disch := omega)
  refine ⟨by omega, ((m1.sub s1).trans (m2.sub s2)).trans (m3.sub s3), Vo.of_journal w1 w2 ((q1.mod m2 (by unfold Dis at d1; omega)).mod m3 (by unfold Dis at d2; omega)) (q2.mod m3 (by unfold Dis at d3; omega)) q3 s1 s2 s3 d1 d2 d3⟩

theorem c276 : HeldOk 276 shJournal := by
  rintro h v ⟨⟨(W : Int), (H : Int), (br : List Int)⟩, (p : List Trip), (f : List Trip)⟩ k hv hk
  rw [mvd_journal] at hv
  rw [cvd_journal] at hk ⊢
  obtain ⟨s, sp, sf, rfl, w1, w2, r1, r2, r3⟩ := hv.journal
  refine ACall_intro g276 rfl ?_
  unfold fn276
  simp (disch := omega)
  refine callW_of (c279 _ _ (W, H, br) k (by rw [mvd_panel]; exact Vr.of_panel w1 w2 r1) (by rw [cvd_panel]; omega)) ?_
  rintro v h1 ⟨rfl, m1⟩
  rw [cvd_panel]
  obtain ⟨k1, e1⟩ : ∃ j, j = k + br.length := ⟨_, rfl⟩
  rw [← e1] at r2 r3 ⊢
  simp (disch := omega)
  refine callW_of (c277 _ _ p k1 (by rw [mvd_trips]; exact r2.grow m1) (by rw [cvd_trips]; omega)) ?_
  rintro v h2 ⟨rfl, m2⟩
  rw [cvd_trips]
  obtain ⟨k2, e2⟩ : ∃ j, j = k1 + 3 * p.length := ⟨_, rfl⟩
  rw [← e2] at r3 ⊢
  simp (disch := omega)
  refine callW_of (c277 _ _ f k2 (by rw [mvd_trips]; exact (r3.grow m1).grow m2) (by rw [cvd_trips]; omega)) ?_
  rintro v h3 ⟨rfl, m3⟩
  rw [cvd_trips]
  have e3 : k2 + 3 * f.length = k + (br.length + (3 * p.length + 3 * f.length)) := by omega
  rw [e3]
  obtain ⟨k3, e4⟩ : ∃ j, j = k + (br.length + (3 * p.length + 3 * f.length)) := ⟨_, rfl⟩
  rw [← e4]
  simp (disch := omega)
  exact ⟨by omega, (m1.trans m2).trans m3⟩
end Am
