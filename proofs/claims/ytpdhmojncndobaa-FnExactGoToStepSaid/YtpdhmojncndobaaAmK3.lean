/- Contracts: AmT4, AmT5, AmP4, AmP7, AmP8, AmP2, AmP5, AmP6, AmP9, AmP10, AmP11. -/
import Derived.Test.YtpdhmojncndobaaAmK2
import Derived.Test.YtpdhmojncndobaaAmK1
/-! AmT4 -/
set_option linter.unusedVariables false
set_option linter.unusedSimpArgs false
set_option maxHeartbeats 4000000
namespace Am
open Go

abbrev Pan3 := Int × Int × List Int
abbrev Jrn := Pan3 × List Trip × List Trip
theorem c292 : SzOk 292 shTrips := sz_trips (show Gam 292 = some fn296 from g292)
theorem c299 : ToOk 299 shTrip := to_trip (show Gam 299 = some fn304 from g299)
theorem c300 : ToOk 300 shTrips := to_trips (show Gam 299 = some fn304 from g299) g300
theorem c262 : EqTrue 262 shTrips := eq_trips (show Gam 261 = some fn266 from g261) g262
theorem c284 : MarkOk 284 shTrips := mark_trips (show Gam 284 = some fn287 from g284)
theorem c277 : HeldOk 277 shTrips := held_trips (show Gam 277 = some fn280 from g277)

theorem Rd.one {h : Heap} {a : Shp} {cs : List Value} {X : List a.T} (r : Rd h (.slice a) cs X) : ∃ s, cs = [s] := by
  have := r.len
  match cs, this with
  | [s], _ => exact ⟨s, rfl⟩
theorem Vr.journal {h : Heap} {v : Value} {W H : Int} {br : List Int} {p f : List Trip} (x : Vr h shJournal v ((W, H, br), p, f)) : ∃ s sp sf, v = .agg #[I W, I H, s, sp, sf] ∧ I64 W ∧ I64 H ∧ Vr h shInts s br ∧ Vr h shTrips sp p ∧ Vr h shTrips sf f := by
  obtain ⟨cs, ⟨c1, c2, rfl, ⟨c3, c4, rfl, ⟨rfl, w1⟩, c5, c6, rfl, ⟨rfl, w2⟩, r1⟩, c7, c8, rfl, r2, r3⟩, rfl⟩ := x
  obtain ⟨s, rfl⟩ := Rd.one r1
  obtain ⟨sp, rfl⟩ := Rd.one r2
  obtain ⟨sf, rfl⟩ := Rd.one r3
  exact ⟨s, sp, sf, rfl, wf_i64.1 w1, wf_i64.1 w2, ⟨_, r1, rfl⟩, ⟨_, r2, rfl⟩, ⟨_, r3, rfl⟩⟩
theorem Vr.of_journal {h : Heap} {W H : Int} {br : List Int} {p f : List Trip} {s sp sf : Value} (h1 : I64 W) (h2 : I64 H) (r1 : Vr h shInts s br) (r2 : Vr h shTrips sp p) (r3 : Vr h shTrips sf f) : Vr h shJournal (.agg #[I W, I H, s, sp, sf]) ((W, H, br), p, f) := by
  obtain ⟨_, r1, rfl⟩ := r1
  obtain ⟨_, r2, rfl⟩ := r2
  obtain ⟨_, r3, rfl⟩ := r3
  obtain ⟨s, rfl⟩ := Rd.one r1
  obtain ⟨sp, rfl⟩ := Rd.one r2
  obtain ⟨sf, rfl⟩ := Rd.one r3
  exact ⟨[I W, I H, s, sp, sf], ⟨[I W, I H, s], [sp, sf], rfl, ⟨[I W], [I H, s], rfl, ⟨rfl, wf_i64.2 h1⟩, [I H], [s], rfl, ⟨rfl, wf_i64.2 h2⟩, r1⟩, [sp], [sf], rfl, r2, r3⟩, rfl⟩

/-- The blocks from l on, before u: none, or within these bounds. -/
def Sub2 (lo hi l u : Nat) : Prop := l = u ∨ lo ≤ l ∧ u ≤ hi
theorem Mod.sub {l u lo hi : Nat} {h h' : Heap} (m : Mod l u h h') (s : Sub2 lo hi l u) : Mod lo hi h h' :=
  ⟨m.1, fun b hb hn => m.2 b hb (by rcases s with s | s <;> omega)⟩
theorem iv_ints {h : Heap} {cs : List Value} {X : List Int} {bs : List Nat} (r : Ow h shInts cs X bs) : ∃ s l u, cs = [s] ∧ Vo h l u shInts s X ∧ (bs = [] ∧ l = 0 ∧ u = 0 ∨ bs = [l] ∧ u = l + 1) := by
  obtain ⟨b, z, css, bss, rfl, hz, hm, h1, h2⟩ := r
  obtain ⟨e1, e2, e3⟩ := All3.ints h1
  rcases h2 with ⟨h2, h3⟩ | ⟨h2, h3, h4⟩
  · exact ⟨_, 0, 0, rfl, Vo.of_ints hz hm e2 (.inl h2), .inl ⟨h3, rfl, rfl⟩⟩
  · rw [e3] at h3; rw [e1] at h4
    exact ⟨_, b, b + 1, rfl, Vo.of_ints hz hm e2 (.inr ⟨h4, by omega, by omega⟩), .inr ⟨h3, rfl⟩⟩
theorem iv_trips {h : Heap} {cs : List Value} {X : List Trip} {bs : List Nat} (r : Ow h shTrips cs X bs) : ∃ s l u, cs = [s] ∧ Vo h l u shTrips s X ∧ (bs = [] ∧ l = 0 ∧ u = 0 ∨ bs = [l] ∧ u = l + 1) := by
  obtain ⟨b, z, css, bss, rfl, hz, hm, h1, h2⟩ := r
  obtain ⟨e1, e2, e3⟩ := All3.trips h1
  rcases h2 with ⟨h2, h3⟩ | ⟨h2, h3, h4⟩
  · exact ⟨_, 0, 0, rfl, Vo.of_trips hz hm e2 (.inl h2), .inl ⟨h3, rfl, rfl⟩⟩
  · rw [e3] at h3; rw [e1] at h4
    exact ⟨_, b, b + 1, rfl, Vo.of_trips hz hm e2 (.inr ⟨h4, by omega, by omega⟩), .inr ⟨h3, rfl⟩⟩
/-- Apart. -/
def Dis (l u l' u' : Nat) : Prop := u ≤ l' ∨ u' ≤ l
theorem Vo.journal {h : Heap} {lo hi : Nat} {v : Value} {W H : Int} {br : List Int} {p f : List Trip} (x : Vo h lo hi shJournal v ((W, H, br), p, f)) : ∃ s sp sf l1 u1 l2 u2 l3 u3, v = .agg #[I W, I H, s, sp, sf] ∧ I64 W ∧ I64 H ∧
    Vo h l1 u1 shInts s br ∧ Vo h l2 u2 shTrips sp p ∧ Vo h l3 u3 shTrips sf f ∧ Sub2 lo hi l1 u1 ∧ Sub2 lo hi l2 u2 ∧ Sub2 lo hi l3 u3 ∧ Dis l1 u1 l2 u2 ∧ Dis l1 u1 l3 u3 ∧ Dis l2 u2 l3 u3 := by
  obtain ⟨cs, bs, ⟨c1, c2, b1, b2, rfl, rfl, ⟨c3, c4, b3, b4, rfl, rfl, ⟨rfl, w1, rfl⟩, c5, c6, b5, b6, rfl, rfl, ⟨rfl, w2, rfl⟩, r1⟩, c7, c8, b7, b8, rfl, rfl, r2, r3⟩, rfl, nd, hb⟩ := x
  obtain ⟨s, l1, u1, rfl, o1, q1⟩ := iv_ints r1
  obtain ⟨sp, l2, u2, rfl, o2, q2⟩ := iv_trips r2
  obtain ⟨sf, l3, u3, rfl, o3, q3⟩ := iv_trips r3
  refine ⟨s, sp, sf, l1, u1, l2, u2, l3, u3, rfl, wf_i64.1 w1, wf_i64.1 w2, o1, o2, o3, ?_, ?_, ?_, ?_, ?_, ?_⟩
  all_goals
    (first | unfold Sub2 | unfold Dis) <;>
    rcases q1 with ⟨rfl, rfl, rfl⟩ | ⟨rfl, rfl⟩ <;> rcases q2 with ⟨rfl, rfl, rfl⟩ | ⟨rfl, rfl⟩ <;> rcases q3 with ⟨rfl, rfl, rfl⟩ | ⟨rfl, rfl⟩ <;> simp at nd hb <;> omega
theorem Vo.of_journal {h : Heap} {lo hi l1 u1 l2 u2 l3 u3 : Nat} {W H : Int} {br : List Int} {p f : List Trip} {s sp sf : Value} (h1 : I64 W) (h2 : I64 H) (r1 : Vo h l1 u1 shInts s br) (r2 : Vo h l2 u2 shTrips sp p) (r3 : Vo h l3 u3 shTrips sf f)
    (s1 : Sub2 lo hi l1 u1) (s2 : Sub2 lo hi l2 u2) (s3 : Sub2 lo hi l3 u3) (d1 : Dis l1 u1 l2 u2) (d2 : Dis l1 u1 l3 u3) (d3 : Dis l2 u2 l3 u3) : Vo h lo hi shJournal (.agg #[I W, I H, s, sp, sf]) ((W, H, br), p, f) := by
  obtain ⟨_, b1, r1, rfl, n1, k1⟩ := r1
  obtain ⟨_, b2, r2, rfl, n2, k2⟩ := r2
  obtain ⟨_, b3, r3, rfl, n3, k3⟩ := r3
  obtain ⟨s, rfl⟩ := Rd.one r1.rd
  obtain ⟨sp, rfl⟩ := Rd.one r2.rd
  obtain ⟨sf, rfl⟩ := Rd.one r3.rd
  refine ⟨[I W, I H, s, sp, sf], b1 ++ (b2 ++ b3), ⟨[I W, I H, s], [sp, sf], b1, b2 ++ b3, rfl, rfl, ⟨[I W], [I H, s], [], b1, rfl, rfl, ⟨rfl, wf_i64.2 h1, rfl⟩, [I H], [s], [], b1, rfl, rfl, ⟨rfl, wf_i64.2 h2, rfl⟩, r1⟩, [sp], [sf], b2, b3, rfl, rfl, r2, r3⟩, rfl, ?_, ?_⟩
  · rw [List.nodup_append, List.nodup_append]
    refine ⟨n1, ⟨n2, n3, fun a ha b hb e => ?_⟩, fun a ha b hb e => ?_⟩
    · subst e
      have := k2 a ha; have := k3 a hb
      unfold Dis at d3; omega
    · subst e
      have := k1 a ha
      unfold Dis at d1 d2
      rcases List.mem_append.1 hb with hb | hb
      · have := k2 a hb; omega
      · have := k3 a hb; omega
  · intro b hb
    unfold Sub2 at s1 s2 s3
    rcases List.mem_append.1 hb with hb | hb
    · have := k1 b hb; omega
    · rcases List.mem_append.1 hb with hb | hb
      · have := k2 b hb; omega
      · have := k3 b hb; omega

theorem siz_journal (W H : Int) (br : List Int) (p f : List Trip) : siz shJournal ((W, H, br), p, f) = br.length + (p.length + f.length) := by
  show siz shPanel (W, H, br) + (siz shTrips p + siz shTrips f) = _
  rw [siz_panel, siz_trips, siz_trips]
theorem cvd_journal (W H : Int) (br : List Int) (p f : List Trip) : cvd shJournal ((W, H, br), p, f) = br.length + (3 * p.length + 3 * f.length) := by
  show cvd shPanel (W, H, br) + (cvd shTrips p + cvd shTrips f) = _
  rw [cvd_panel, cvd_trips, cvd_trips]
theorem mvd_journal (W H : Int) (br : List Int) (p f : List Trip) (k : Nat) : mvd shJournal ((W, H, br), p, f) k = ((W, H, nums k br.length), tnums (k + br.length) p.length, tnums (k + br.length + 3 * p.length) f.length) := by
  show (mvd shPanel (W, H, br) k, mvd shTrips p (k + cvd shPanel (W, H, br)), mvd shTrips f (k + cvd shPanel (W, H, br) + cvd shTrips p)) = _
  rw [mvd_panel, mvd_trips, mvd_trips, cvd_panel, cvd_trips]
theorem cvd_le_shJournal (X : shJournal.T) : cvd shJournal X ≤ 4 * siz shJournal X := by
  obtain ⟨⟨W, H, br⟩, p, f⟩ := X
  rw [cvd_journal, siz_journal]; omega

theorem c291 : SzOk 291 shJournal := by
  rintro h v ⟨⟨(W : Int), (H : Int), (br : List Int)⟩, (p : List Trip), (f : List Trip)⟩ left hv hl
  obtain ⟨s, sp, sf, rfl, w1, w2, r1, r2, r3⟩ := hv.journal
  rw [siz_journal]
  have rp : Vr h shPanel (.agg #[I W, I H, s]) (W, H, br) := Vr.of_panel w1 w2 r1
  refine ACall_intro g291 rfl ?_
  unfold fn291
  simp (disch := omega)
  refine callW_of (c295 _ _ (W, H, br) left rp hl) ?_
  rintro v h' ⟨rfl, rfl⟩
  rw [siz_panel]
  by_cases h1 : br.length ≤ left
  rotate_left
  · rw [if_neg h1, if_neg (by omega)]; simp
  rw [if_pos h1]
  obtain ⟨l1, e1⟩ : ∃ k, k = left - br.length := ⟨_, rfl⟩
  rw [← e1]
  simp (disch := omega)
  refine callW_of (c292 _ _ p l1 r2 (by omega)) ?_
  rintro v h' ⟨rfl, rfl⟩
  rw [siz_trips]
  by_cases h2 : p.length ≤ l1
  rotate_left
  · rw [if_neg h2, if_neg (by omega)]; simp
  rw [if_pos h2]
  obtain ⟨l2, e2⟩ : ∃ k, k = l1 - p.length := ⟨_, rfl⟩
  rw [← e2]
  simp (disch := omega)
  refine callW_of (c292 _ _ f l2 r3 (by omega)) ?_
  rintro v h' ⟨rfl, rfl⟩
  rw [siz_trips]
  by_cases h3 : f.length ≤ l2
  rotate_left
  · rw [if_neg h3, if_neg (by omega)]; simp
  rw [if_pos h3, if_pos (by omega)]
  have e3 : l2 - f.length = left - (br.length + (p.length + f.length)) := by omega
  rw [e3]
  obtain ⟨l3, e4⟩ : ∃ k, k = left - (br.length + (p.length + f.length)) := ⟨_, rfl⟩
  rw [← e4]
  simp (disch := omega)

theorem c298 : ToOk 298 shJournal := by
  rintro h v ⟨⟨(W : Int), (H : Int), (br : List Int)⟩, (p : List Trip), (f : List Trip)⟩ hp hv hs
  obtain ⟨s, sp, sf, rfl, w1, w2, r1, r2, r3⟩ := hv.journal
  rw [siz_journal] at hs
  have rp : Vr h shPanel (.agg #[I W, I H, s]) (W, H, br) := Vr.of_panel w1 w2 r1
  refine ACall_intro g298 rfl ?_
  unfold fn298
  simp (disch := omega)
  refine callW_of (c303 _ _ (W, H, br) hp rp (by rw [siz_panel]; omega)) ?_
  rintro v h1 ⟨hg1, o1⟩
  obtain ⟨s', rfl, _, _, o1⟩ := o1.panel
  simp (disch := omega)
  refine callW_of (c300 _ _ p (pos_of hp hg1) (r2.grow hg1) (by rw [siz_trips]; omega)) ?_
  rintro v h2 ⟨hg2, o2⟩
  obtain ⟨b2, z2, e2, _⟩ := o2.trips
  subst e2
  simp (disch := omega)
  refine callW_of (c300 _ _ f (pos_of hp (hg1.trans hg2)) ((r3.grow hg1).grow hg2) (by rw [siz_trips]; omega)) ?_
  rintro v h3 ⟨hg3, o3⟩
  obtain ⟨b3, z3, e3, _⟩ := o3.trips
  subst e3
  have := hg1.le; have := hg2.le; have := hg3.le
  simp (disch := omega) [resOf_box, aField]
  refine ⟨(hg1.trans hg2).trans hg3, Vo.of_journal w1 w2 ((o1.grow hg2).grow hg3) (o2.grow hg3) o3 ?_ ?_ ?_ ?_ ?_ ?_⟩ <;> ((first | unfold Sub2 | unfold Dis) <;> omega)

theorem c260 : EqTrue 260 shJournal := by
  rintro h v w ⟨⟨(W : Int), (H : Int), (br : List Int)⟩, (p : List Trip), (f : List Trip)⟩ hv hw
  obtain ⟨s, sp, sf, rfl, w1, w2, r1, r2, r3⟩ := hv.journal
  obtain ⟨s', sp', sf', rfl, _, _, r1', r2', r3'⟩ := hw.journal
  refine ACall_intro g260 rfl ?_
  unfold fn260
  simp (disch := omega)
  refine callW_of (c265 _ _ _ (W, H, br) (Vr.of_panel w1 w2 r1) (Vr.of_panel w1 w2 r1')) ?_
  rintro v h' ⟨rfl, rfl⟩
  simp (disch := omega)
  refine callW_of (c262 _ _ _ p r2 r2') ?_
  rintro v h' ⟨rfl, rfl⟩
  simp (disch := omega)
  refine callW_of (c262 _ _ _ f r3 r3') ?_
  rintro v h' ⟨rfl, rfl⟩
  simp (disch := omega)

theorem c283 : MarkOk 283 shJournal := by
  rintro h lo hi v ⟨⟨(W : Int), (H : Int), (br : List Int)⟩, (p : List Trip), (f : List Trip)⟩ k hv hk
  obtain ⟨s, sp, sf, l1, u1, l2, u2, l3, u3, rfl, w1, w2, o1, o2, o3, s1, s2, s3, d1, d2, d3⟩ := hv.journal
  rw [cvd_journal] at hk ⊢
  rw [mvd_journal]
  refine ACall_intro g283 rfl ?_
  unfold fn283
  simp (disch := omega)
  refine callW_of (c286 _ l1 u1 _ (W, H, br) k (Vo.of_panel w1 w2 o1) (by rw [cvd_panel]; omega)) ?_
  rintro v h1 ⟨rfl, m1, q1⟩
  rw [mvd_panel] at q1
  rw [cvd_panel]
  obtain ⟨s', e, _, _, q1⟩ := q1.panel
  obtain rfl : s = s' := by simpa using e
  obtain ⟨k1, e1⟩ : ∃ j, j = k + br.length := ⟨_, rfl⟩
  rw [← e1]
  simp (disch := omega)
  refine callW_of (c284 _ l2 u2 _ p k1 (o2.mod m1 (by unfold Dis at d1; omega)) (by rw [cvd_trips]; omega)) ?_
  rintro v h2 ⟨rfl, m2, q2⟩
  rw [mvd_trips] at q2
  rw [cvd_trips]
  obtain ⟨k2, e2⟩ : ∃ j, j = k1 + 3 * p.length := ⟨_, rfl⟩
  rw [← e2]
  simp (disch := omega)
  refine callW_of (c284 _ l3 u3 _ f k2 ((o3.mod m1 (by unfold Dis at d2; omega)).mod m2 (by unfold Dis at d3; omega)) (by rw [cvd_trips]; omega)) ?_
  rintro v h3 ⟨rfl, m3, q3⟩
  rw [mvd_trips] at q3
  rw [cvd_trips]
  have e3 : k2 + 3 * f.length = k + (br.length + (3 * p.length + 3 * f.length)) := by omega
  rw [e3]
  obtain ⟨k3, e4⟩ : ∃ j, j = k + (br.length + (3 * p.length + 3 * f.length)) := ⟨_, rfl⟩
  rw [← e4]
  simp (disch := omega)
  refine ⟨by omega, ((m1.sub s1).trans (m2.sub s2)).trans (m3.sub s3), Vo.of_journal w1 w2 ((q1.mod m2 (by unfold Dis at d1; omega)).mod m3 (by unfold Dis at d2; omega)) (q2.mod m3 (by unfold Dis at d3; omega)) q3 s1 s2 s3 d1 d2 d3⟩

theorem c276 : HeldOk 276 shJournal := by
  rintro h v ⟨⟨(W : Int), (H : Int), (br : List Int)⟩, (p : List Trip), (f : List Trip)⟩ k hv hk
  rw [mvd_journal] at hv
  rw [cvd_journal] at hk ⊢
  obtain ⟨s, sp, sf, rfl, w1, w2, r1, r2, r3⟩ := hv.journal
  refine ACall_intro g276 rfl ?_
  unfold fn276
  simp (disch := omega)
  refine callW_of (c279 _ _ (W, H, br) k (by rw [mvd_panel]; exact Vr.of_panel w1 w2 r1) (by rw [cvd_panel]; omega)) ?_
  rintro v h1 ⟨rfl, m1⟩
  rw [cvd_panel]
  obtain ⟨k1, e1⟩ : ∃ j, j = k + br.length := ⟨_, rfl⟩
  rw [← e1] at r2 r3 ⊢
  simp (disch := omega)
  refine callW_of (c277 _ _ p k1 (by rw [mvd_trips]; exact r2.grow m1) (by rw [cvd_trips]; omega)) ?_
  rintro v h2 ⟨rfl, m2⟩
  rw [cvd_trips]
  obtain ⟨k2, e2⟩ : ∃ j, j = k1 + 3 * p.length := ⟨_, rfl⟩
  rw [← e2] at r3 ⊢
  simp (disch := omega)
  refine callW_of (c277 _ _ f k2 (by rw [mvd_trips]; exact (r3.grow m1).grow m2) (by rw [cvd_trips]; omega)) ?_
  rintro v h3 ⟨rfl, m3⟩
  rw [cvd_trips]
  have e3 : k2 + 3 * f.length = k + (br.length + (3 * p.length + 3 * f.length)) := by omega
  rw [e3]
  obtain ⟨k3, e4⟩ : ∃ j, j = k + (br.length + (3 * p.length + 3 * f.length)) := ⟨_, rfl⟩
  rw [← e4]
  simp (disch := omega)
  exact ⟨by omega, (m1.trans m2).trans m3⟩
end Am
/-! AmT5 -/
set_option linter.unusedVariables false
set_option linter.unusedSimpArgs false
set_option maxHeartbeats 4000000
namespace Am
open Go

abbrev Kpt := List UInt8 × Pan3
theorem Vr.kept {h : Heap} {v : Value} {n : List UInt8} {W H : Int} {br : List Int} (x : Vr h shKept v (n, W, H, br)) : ∃ s, v = .agg #[S n, I W, I H, s] ∧ n.length ≤ 9223372036854775807 ∧ I64 W ∧ I64 H ∧ Vr h shInts s br := by
  obtain ⟨cs, ⟨c1, c2, rfl, ⟨rfl, w0⟩, c3, c4, rfl, ⟨rfl, w1⟩, c5, c6, rfl, ⟨rfl, w2⟩, r⟩, rfl⟩ := x
  obtain ⟨s, rfl⟩ := Rd.one r
  exact ⟨s, rfl, by rw [← maxLen_eq]; exact w0, wf_i64.1 w1, wf_i64.1 w2, _, r, rfl⟩
theorem Vr.of_kept {h : Heap} {n : List UInt8} {W H : Int} {br : List Int} {s : Value} (h0 : n.length ≤ 9223372036854775807) (h1 : I64 W) (h2 : I64 H) (r : Vr h shInts s br) : Vr h shKept (.agg #[S n, I W, I H, s]) (n, W, H, br) := by
  obtain ⟨_, r, rfl⟩ := r
  obtain ⟨s, rfl⟩ := Rd.one r
  exact ⟨[S n, I W, I H, s], ⟨[S n], [I W, I H, s], rfl, ⟨rfl, by rw [maxLen_eq]; exact h0⟩, [I W], [I H, s], rfl, ⟨rfl, wf_i64.2 h1⟩, [I H], [s], rfl, ⟨rfl, wf_i64.2 h2⟩, r⟩, rfl⟩
theorem Vo.of_kept {h : Heap} {lo hi : Nat} {n : List UInt8} {W H : Int} {br : List Int} {s : Value} (h0 : n.length ≤ 9223372036854775807) (h1 : I64 W) (h2 : I64 H) (r : Vo h lo hi shInts s br) : Vo h lo hi shKept (.agg #[S n, I W, I H, s]) (n, W, H, br) := by
  obtain ⟨_, bs, r, rfl, nd, hb⟩ := r
  obtain ⟨s, rfl⟩ := Rd.one r.rd
  exact ⟨[S n, I W, I H, s], bs, ⟨[S n], [I W, I H, s], [], bs, rfl, rfl, ⟨rfl, by rw [maxLen_eq]; exact h0, rfl⟩, [I W], [I H, s], [], bs, rfl, rfl, ⟨rfl, wf_i64.2 h1, rfl⟩, [I H], [s], [], bs, rfl, rfl, ⟨rfl, wf_i64.2 h2, rfl⟩, r⟩, rfl, nd, hb⟩
/-- A library's entries, one by one. -/
theorem kepts_at {h : Heap} {v : Value} {X : List Kpt} (x : Vr h shKepts v X) : ∃ b o z, v = sl b o X.length z ∧ X.length ≤ maxLen ∧ ∀ i (hi : i < X.length), ∃ s, cellsAt h b (o + i * 4) 4 = some [S X[i].1, I X[i].2.1, I X[i].2.2.1, s] ∧ Vr h shInts s X[i].2.2.2 ∧ Vr h shKept (.agg #[S X[i].1, I X[i].2.1, I X[i].2.2.1, s]) X[i] := by
  obtain ⟨b, o, z, rfl, _, hm, hel⟩ := x.slice
  refine ⟨b, o, z, rfl, hm, fun i hi => ?_⟩
  obtain ⟨c, hc, r⟩ := hel i hi
  have hv : Vr h shKept (asVal shKept c) X[i] := ⟨c, r, rfl⟩
  obtain ⟨c1, c2, rfl, ⟨rfl, w0⟩, c3, c4, rfl, ⟨rfl, w1⟩, c5, c6, rfl, ⟨rfl, w2⟩, r⟩ := r
  obtain ⟨s, rfl⟩ := Rd.one r
  exact ⟨s, hc, ⟨_, r, rfl⟩, hv⟩
theorem siz_kept (n : List UInt8) (W H : Int) (br : List Int) : siz shKept (n, W, H, br) = n.length + br.length := by
  show n.length + siz shPanel (W, H, br) = _
  rw [siz_panel]

def sizL (X : List Kpt) : Nat := (X.map fun y => siz shKept y).sum
theorem siz_kepts (X : List Kpt) : siz shKepts X = X.length + sizL X := rfl
theorem sizL_append (a b : List Kpt) : sizL (a ++ b) = sizL a + sizL b := by simp [sizL]
theorem sizL_take {X : List Kpt} {k : Nat} (hk : k < X.length) : sizL (X.take (k + 1)) = sizL (X.take k) + siz shKept X[k] := by
  rw [List.take_succ_eq_append_getElem hk, sizL_append]; simp [sizL]
theorem sizL_le (X : List Kpt) (k : Nat) : sizL (X.take k) ≤ sizL X := by
  have : sizL X = sizL (X.take k) + sizL (X.drop k) := by
    rw [← sizL_append, List.take_append_drop]
  omega
end Am
/-! AmP4 -/
set_option linter.unusedVariables false
set_option linter.unusedSimpArgs false
set_option maxHeartbeats 4000000
namespace Am
open Go

theorem PtP.of_block {h : Heap} {b : Nat} {W H : Int} {s : Value} {br : List Int} {r : Bool} (hb : h[b]? = some ⟨[I W, I H, s], r⟩) (hs : Vr h shInts s br) (hW : I64 W) (hH : I64 H) : PtP h (pt b 0) (W, H, br) :=
  ⟨b, 0, s, rfl, by simp [Am.cell, hb], by simp [Am.cell, hb], by simp [Am.cell, hb], hs, hW, hH⟩
theorem sameSz_comm (X Y : Pan) : sameSz X Y = sameSz Y X := by
  unfold sameSz; rw [decide_eq_decide.2 (eq_comm (a := X.1)), decide_eq_decide.2 (eq_comm (a := X.2.1))]
theorem same_len {X Y : Pan} (hx : OkP X) (hy : OkP Y) (hs : sameSz X Y = true) : X.2.2.length = Y.2.2.length := by
  obtain ⟨h1, h2⟩ := sameSz_iff.1 hs
  have a := hx.n; have b := hy.n
  rw [h1, h2] at a
  omega

/-! ### differences -/
def dpre (a b : List Int) (n : Nat) : List Trip := (List.range n).flatMap fun i => if at0 a i = at0 b i then [] else [((i : Int), at0 a i, at0 b i)]
theorem dpre_succ (a b : List Int) (n : Nat) : dpre a b (n + 1) = dpre a b n ++ if at0 a n = at0 b n then [] else [((n : Int), at0 a n, at0 b n)] := by simp [dpre, List.range_succ]
theorem dpre_len (a b : List Int) (n : Nat) : (dpre a b n).length ≤ n := by
  induction n with
  | zero => simp [dpre]
  | succ n ih => rw [dpre_succ]; simp; split <;> simp <;> omega
theorem at0wide {a : List Int} (h : ∀ x ∈ a, I64 x) (i : Nat) : I64 (at0 a i) := by
  unfold at0
  rw [List.getD_eq_getElem?_getD]
  by_cases hi : i < a.length
  · rw [List.getElem?_eq_getElem hi]; exact h _ (List.getElem_mem hi)
  · rw [List.getElem?_eq_none (by omega)]; simp [I64]
theorem dpre_64 {a b : List Int} (ha : ∀ x ∈ a, I64 x) (hb : ∀ x ∈ b, I64 x) {n : Nat} (hn : n ≤ 1048576) : ∀ x ∈ dpre a b n, T64 x := by
  intro x hx
  obtain ⟨i, hi, hx⟩ := List.mem_flatMap.1 hx
  have := List.mem_range.1 hi
  split at hx
  · simp at hx
  · simp at hx; subst hx
    exact ⟨by unfold I64; simp; omega, at0wide ha i, at0wide hb i⟩
def diffAns (X Y : Pan) : List Trip × Int := if okP X && okP Y then (if sameSz X Y then (dpre X.2.2 Y.2.2 X.2.2.length, 0) else ([], 6)) else ([], 1)
theorem diff_siz (X Y : Pan) (hs : X.2.2.length ≤ 1048576) : siz shTrips (diffAns X Y).1 ≤ 16777216 := by
  rw [siz_trips]
  unfold diffAns
  split
  · split
    · have := dpre_len X.2.2 Y.2.2 X.2.2.length; simp only; omega
    · simp
  · simp
theorem Vo.no_trips {h : Heap} {lo hi : Nat} : Vo h lo hi shTrips (sl 0 0 0 0) ([] : List Trip) := Vo.of_trips (X := []) (.inr ⟨rfl, rfl⟩) (by simp) (by simp) (.inl rfl)
theorem Vo.no_ints {h : Heap} {lo hi : Nat} : Vo h lo hi shInts (sl 0 0 0 0) ([] : List Int) := Vo.of_ints (X := []) (.inr ⟨rfl, rfl⟩) (by simp) (by simp) (.inl rfl)

end Am
/-! AmP7 -/
set_option linter.unusedVariables false
set_option linter.unusedSimpArgs false
set_option maxHeartbeats 4000000
namespace Am
open Go

def newDesk : Jrn := (newP 3 2, [], [])
theorem inner32 : inner 3 2 = 7 := by decide
theorem newDesk_siz : siz shJournal newDesk ≤ 16777216 := by
  unfold newDesk newP
  rw [siz_journal]; simp [inner32]
theorem Vo.no_steps {h : Heap} {lo hi : Nat} : Vo h lo hi shTrips (sl 0 0 0 0) ([] : List Trip) := Vo.of_trips (X := []) (.inr ⟨rfl, rfl⟩) (by simp) (by simp) (.inl rfl)
/-! ### equal lists -/
theorem take_ne {α : Type} {X Y : List α} {k : Nat} (h1 : k < X.length) (h2 : k < Y.length) (hne : ¬ X[k] = Y[k]) : ¬ X = Y := fun e => by subst e; exact hne rfl
theorem neq_trip (x y : Trip) : aAgg .neq 3 (trip x) (trip y) = some (.bool (!decide (x = y))) := by
  obtain ⟨a, b, c⟩ := x
  obtain ⟨d, e, f⟩ := y
  by_cases h1 : a = d <;> by_cases h2 : b = e <;> by_cases h3 : c = f <;> simp [aAgg, trip, eqCells, h1, h2, h3]
theorem trips_at {h : Heap} {v : Value} {X : List Trip} (x : Vr h shTrips v X) : ∃ b o z, v = sl b o X.length z ∧ X.length ≤ maxLen ∧ ∀ i (hi : i < X.length), cellsAt h b (o + i * 3) 3 = some (trip X[i]) := by
  obtain ⟨b, o, z, rfl, _, hm, hel⟩ := x.slice
  refine ⟨b, o, z, rfl, hm, fun i hi => ?_⟩
  obtain ⟨c, hc, r⟩ := hel i hi
  obtain ⟨rfl, _⟩ := rd_trip.1 r
  exact hc
def samP (X Y : Pan) : Bool := decide (X = Y)
theorem samP_mk (W H W2 H2 : Int) (br br2 : List Int) : samP (W, H, br) (W2, H2, br2) = (decide (W = W2) && (decide (H = H2) && decide (br = br2))) := by
  simp only [samP, Prod.mk.injEq, Bool.decide_and]
def samJ (X Y : Jrn) : Bool := samP X.1 Y.1 && (decide (X.2.1 = Y.2.1) && decide (X.2.2 = Y.2.2))
end Am
/-! AmP8 -/
set_option linter.unusedVariables false
set_option linter.unusedSimpArgs false
set_option maxHeartbeats 4000000
namespace Am
open Go

def samK (X Y : List Kpt) : Bool := decide (X = Y)
theorem kpt_eq (x y : Kpt) : x = y ↔ x.1 = y.1 ∧ samP x.2 y.2 = true := by
  obtain ⟨a, b⟩ := x
  obtain ⟨c, d⟩ := y
  simp [samP]
end Am
/-! AmP2 -/
set_option linter.unusedVariables false
set_option linter.unusedSimpArgs false
set_option maxHeartbeats 4000000
namespace Am
open Go

def byteI (x : Int) : UInt8 := UInt8.ofNat x.toNat
theorem byteI_toNat {x : Int} (h : 0 ≤ x ∧ x < 256) : ((byteI x).toNat : Int) = x := by
  simp [byteI]; omega
theorem append_bytes {h h' : Heap} {v : Value} {l xs : List UInt8} {n : Nat} {bs : Option (Value × Heap)} {K : Value → Heap → Prop} (hp : 0 < h.length) (hl : l.length + xs.length ≤ 1048576) (hg : Grows h h') (hv : Buf h h' v 1 (bytesV l)) (hne : xs ≠ []) (hn : n = xs.length)
    (e : bs = some (sl h'.length 0 n 1, h' ++ [⟨bytesV xs, true⟩]))
    (hK : ∀ v' h'', Grows h h'' → Buf h h'' v' 1 (bytesV (l ++ xs)) → K v' h'') : bindW bs fun y h'' => bindW (aAppend 1 h'' y v) K := by
  subst hn
  rw [e]
  simp only [bindW_some]
  have hne' : xs.length ≠ 0 := by simpa using hne
  refine append_buf hp (hg.push _) (hv.grow ⟨_, rfl⟩) (new := bytesV xs) ?_ (by omega) (by simpa [bytesV] using hne) (by simp [bytesV]) (by simp [bytesV, maxSize]; omega) ?_
  · simp [newCells, hne]
    rw [cellsAt_of (k := ⟨bytesV xs, true⟩) (by simp) (by simp [bytesV])]
    simp [bytesV, List.take_of_length_le]
  · intro v' h'' g1 b1 _
    exact hK v' h'' g1 (by simpa [bytesV] using b1)

theorem checksum_bd (l : List UInt8) : 0 ≤ checksum l ∧ checksum l < 64256 := by
  have := sums_bd l
  unfold checksum; omega
def ended (l : List UInt8) : List UInt8 := l ++ [byteI (checksum l / 256), byteI (checksum l % 256)]
theorem ended_len (l : List UInt8) : (ended l).length = l.length + 2 := by simp [ended]

theorem two_bytes {h' : Heap} {l : List UInt8} : aBuildSlice 1 2 h' [(0, Value.agg #[U 0, U 0]), (1, U (IntKind.u8.wrap (checksum l / 256))), (1001, U (IntKind.u8.wrap (checksum l % 256)))] =
    some (sl h'.length 0 2 1, h' ++ [⟨bytesV [byteI (checksum l / 256), byteI (checksum l % 256)], true⟩]) := by
  have hb := checksum_bd l
  rw [wrap8 (by omega) (by omega), wrap8 (by omega) (by omega)]
  simp [aBuildSlice, bytesV, byteI]
  omega

/-! ### the digits of five breaks -/

def pv (br : List Int) (i : Nat) : Nat → Int
  | 0 => 0
  | j + 1 => 3 * pv br i j + at0 br (i + j)
def fiveV (br : List Int) (i : Nat) : Int := pv br i 5
theorem at0_bd {br : List Int} (hb : ∀ x ∈ br, 0 ≤ x ∧ x ≤ 2) (i : Nat) : 0 ≤ at0 br i ∧ at0 br i ≤ 2 := by
  unfold at0
  rw [List.getD_eq_getElem?_getD]
  by_cases h : i < br.length
  · rw [List.getElem?_eq_getElem h]
    exact hb _ (List.getElem_mem h)
  · rw [List.getElem?_eq_none (by omega)]; simp
theorem pv_bd {br : List Int} (hb : ∀ x ∈ br, 0 ≤ x ∧ x ≤ 2) (i : Nat) : ∀ j, 0 ≤ pv br i j ∧ pv br i j < 3 ^ j
  | 0 => by simp [pv]
  | j + 1 => by
    have := pv_bd hb i j
    have h2 := at0_bd hb (i + j)
    simp only [pv, Int.pow_succ]
    omega
theorem pv_le {br : List Int} (hb : ∀ x ∈ br, 0 ≤ x ∧ x ≤ 2) (i j : Nat) (hj : j ≤ 5) : 0 ≤ pv br i j ∧ pv br i j ≤ 242 ∧ (j ≤ 4 → pv br i j ≤ 80) := by
  have h1 := pv_bd hb i j
  have : j = 0 ∨ j = 1 ∨ j = 2 ∨ j = 3 ∨ j = 4 ∨ j = 5 := by omega
  rcases this with rfl | rfl | rfl | rfl | rfl | rfl <;> simp at h1 <;> omega
def packB (br : List Int) (q : Nat) : List UInt8 := (List.range q).map fun i => byteI (fiveV br (5 * i))
theorem packB_succ (br : List Int) (q : Nat) : packB br (q + 1) = packB br q ++ [byteI (fiveV br (5 * q))] := by simp [packB, List.range_succ]
theorem packB_len (br : List Int) (q : Nat) : (packB br q).length = q := by simp [packB]
def packBody (X : Pan) : List UInt8 := [77, byteI X.1, byteI X.2.1] ++ packB X.2.2 ((X.2.2.length + 4) / 5)
def packP (X : Pan) : List UInt8 := ended (packBody X)

theorem three_bytes {h' : Heap} {W H : Int} (hW : 1 ≤ W ∧ W ≤ 8) (hH : 1 ≤ H ∧ H ≤ 8) : aBuildSlice 1 3 h' [(0, Value.agg #[U 0, U 0, U 0]), (1, U 77), (1001, U (IntKind.u8.wrap W)), (2001, U (IntKind.u8.wrap H))] =
    some (sl h'.length 0 3 1, h' ++ [⟨bytesV [77, byteI W, byteI H], true⟩]) := by
  rw [wrap8 (by omega) (by omega), wrap8 (by omega) (by omega)]
  simp [aBuildSlice, bytesV, byteI]
  omega
theorem one_byte {h' : Heap} {x : Int} (hx : 0 ≤ x ∧ x < 256) : aBuildSlice 1 1 h' [(0, Value.agg #[U 0]), (1, U x)] = some (sl h'.length 0 1 1, h' ++ [⟨bytesV [byteI x], true⟩]) := by
  simp [aBuildSlice, bytesV, byteI]
  omega

def packAnsP (X : Pan) : List UInt8 × Int := if okP X then (packP X, 0) else ([], 1)
end Am
/-! AmP5 -/
set_option linter.unusedVariables false
set_option linter.unusedSimpArgs false
set_option maxHeartbeats 4000000
namespace Am
open Go

theorem append_int {h h' : Heap} {v : Value} {l : List Int} {a : Int} {K : Value → Heap → Prop} (hp : 0 < h.length) (hl : l.length ≤ 1048576) (hg : Grows h h') (hv : Buf h h' v 1 (ints l))
    (hK : ∀ v' h'', Grows h h'' → Buf h h'' v' 1 (ints (l ++ [a])) → (∀ c kk, h'[c]? = some kk → (∀ n, v ≠ sl c 0 n 1) → h''[c]? = some kk) → K v' h'') :
    bindW (aBuildSlice 1 1 h' [(0, .agg #[I 0]), (1, I a)]) fun y h'' => bindW (aAppend 1 h'' y v) K := by
  have e : aBuildSlice 1 1 h' [(0, .agg #[I 0]), (1, I a)] = some (sl h'.length 0 1 1, h' ++ [⟨[I a], true⟩]) := by simp [aBuildSlice]
  rw [e]
  simp only [bindW_some]
  refine append_buf hp (hg.push _) (hv.grow ⟨_, rfl⟩) (new := [I a]) ?_ (by omega) (by simp) (by simp) (by simp [ints, maxSize]; omega) ?_
  · simp [newCells]
    rw [cellsAt_of (k := ⟨[I a], true⟩) (by simp) (by simp)]
    simp
  · intro v' h'' g1 b1 k1
    refine hK v' h'' g1 (by rw [ints_append]; exact b1) fun c kk hc hne => k1 c kk (push_at hc) hne

def clash (o a b : List Int) (i : Nat) : Bool := decide (at0 a i ≠ at0 o i) && (decide (at0 b i ≠ at0 o i) && decide (at0 a i ≠ at0 b i))
def cpre (o a b : List Int) (n : Nat) : List Int := (List.range n).flatMap fun i => if clash o a b i then [(i : Int)] else []
theorem cpre_succ (o a b : List Int) (n : Nat) : cpre o a b (n + 1) = cpre o a b n ++ if clash o a b n then [(n : Int)] else [] := by simp [cpre, List.range_succ]
theorem cpre_len (o a b : List Int) (n : Nat) : (cpre o a b n).length ≤ n := by
  induction n with
  | zero => simp [cpre]
  | succ n ih => rw [cpre_succ]; simp; split <;> simp <;> omega
theorem cpre_64 {o a b : List Int} {n : Nat} (hn : n ≤ 1048576) : ∀ x ∈ cpre o a b n, I64 x := by
  intro x hx
  obtain ⟨i, hi, hx⟩ := List.mem_flatMap.1 hx
  have := List.mem_range.1 hi
  split at hx
  · simp at hx; subst hx; unfold I64; omega
  · simp at hx
def clashCode (X0 X1 X2 : Pan) : Int := if okP X0 && (okP X1 && okP X2) then (if sameSz X0 X1 && sameSz X0 X2 then 0 else 6) else 1
def clashAns (X0 X1 X2 : Pan) : List Int × Int := (if clashCode X0 X1 X2 = 0 then cpre X0.2.2 X1.2.2 X2.2.2 X0.2.2.length else [], clashCode X0 X1 X2)
theorem clash_siz (X Y Z : Pan) (hs : X.2.2.length ≤ 1048576) : siz shInts (clashAns X Y Z).1 ≤ 16777216 := by
  rw [siz_ints]
  unfold clashAns
  simp only
  split
  · have := cpre_len X.2.2 Y.2.2 Z.2.2 X.2.2.length; omega
  · simp
theorem clashCode_zero {X Y Z : Pan} (h : clashCode X Y Z = 0) : OkP X ∧ OkP Y ∧ OkP Z ∧ sameSz X Y = true ∧ sameSz X Z = true := by
  unfold clashCode at h
  split at h
  · rename_i h1
    simp only [Bool.and_eq_true] at h1
    split at h
    · rename_i h2
      simp only [Bool.and_eq_true] at h2
      exact ⟨okP_iff.1 h1.1, okP_iff.1 h1.2.1, okP_iff.1 h1.2.2, h2.1, h2.2⟩
    · cases h
  · cases h
theorem sizes3 (X Y Z : Pan) : sizesCode [X, Y, Z] = clashCode X Y Z := by
  simp only [sizesCode, clashCode, List.all_cons, List.all_nil, Bool.and_true, List.drop_succ_cons, List.drop_zero, List.headD_cons]
  rw [sameSz_comm Y, sameSz_comm Z]

/-- Three panels put into boxes, and a slice of pointers to them. -/
theorem boxes3 {h hh : Heap} {W0 H0 W1 H1 W2 H2 : Int} {s0 s1 s2 : Value} {o a b : List Int} {l : List Blk} (e : hh = h ++ ⟨[I W0, I H0, s0], true⟩ :: ⟨[I W1, I H1, s1], true⟩ :: ⟨[I W2, I H2, s2], true⟩ :: l)
    (r0 : Vr h shInts s0 o) (r1 : Vr h shInts s1 a) (r2 : Vr h shInts s2 b) (w0 : I64 W0) (x0 : I64 H0) (w1 : I64 W1) (x1 : I64 H1) (w2 : I64 W2) (x2 : I64 H2) :
    Grows h hh ∧ PtP hh (pt h.length 0) (W0, H0, o) ∧ PtP hh (pt (h.length + 1) 0) (W1, H1, a) ∧ PtP hh (pt (h.length + 2) 0) (W2, H2, b) ∧ hh[h.length]? = some ⟨[I W0, I H0, s0], true⟩ ∧ hh[h.length + 1]? = some ⟨[I W1, I H1, s1], true⟩ ∧ hh[h.length + 2]? = some ⟨[I W2, I H2, s2], true⟩ := by
  have G : Grows h hh := ⟨_, e⟩
  have k0 : hh[h.length]? = some ⟨[I W0, I H0, s0], true⟩ := by rw [e]; simp
  have k1 : hh[h.length + 1]? = some ⟨[I W1, I H1, s1], true⟩ := by rw [e, List.getElem?_append_right (by omega)]; simp
  have k2 : hh[h.length + 2]? = some ⟨[I W2, I H2, s2], true⟩ := by rw [e, List.getElem?_append_right (by omega)]; simp
  exact ⟨G, PtP.of_block k0 (r0.grow G) w0 x0, PtP.of_block k1 (r1.grow G) w1 x1, PtP.of_block k2 (r2.grow G) w2 x2, k0, k1, k2⟩

end Am
/-! AmP6 -/
set_option linter.unusedVariables false
set_option linter.unusedSimpArgs false
set_option maxHeartbeats 4000000
namespace Am
open Go

def mpre (o a b : List Int) (n : Nat) : List Int := (List.range n).map fun i => if at0 b i = at0 o i then at0 a i else at0 b i
theorem mpre_succ (o a b : List Int) (n : Nat) : mpre o a b (n + 1) = mpre o a b n ++ [if at0 b n = at0 o n then at0 a n else at0 b n] := by simp [mpre, List.range_succ]
theorem mpre_len (o a b : List Int) (n : Nat) : (mpre o a b n).length = n := by simp [mpre]
theorem mpre_64 {o a b : List Int} (ha : ∀ x ∈ a, I64 x) (hb : ∀ x ∈ b, I64 x) {n : Nat} : ∀ x ∈ mpre o a b n, I64 x := by
  intro x hx
  obtain ⟨i, hi, rfl⟩ := List.mem_map.1 hx
  split
  · exact at0wide ha i
  · exact at0wide hb i
def mergeCode (X0 X1 X2 : Pan) : Int := if (clashAns X0 X1 X2).2 = 0 then (if (clashAns X0 X1 X2).1 = [] then 0 else 9) else (clashAns X0 X1 X2).2
def mergeAns (X0 X1 X2 : Pan) : Pan × Int := (if mergeCode X0 X1 X2 = 0 then (X1.1, X1.2.1, mpre X0.2.2 X1.2.2 X2.2.2 X0.2.2.length) else (0, 0, []), mergeCode X0 X1 X2)
theorem merge_siz (X Y Z : Pan) (hs : X.2.2.length ≤ 1048576) : siz shPanel (mergeAns X Y Z).1 ≤ 16777216 := by
  unfold mergeAns
  simp only
  split
  · rw [siz_panel, mpre_len]; omega
  · rw [siz_panel]; simp
theorem Vo.no_panel {h : Heap} {lo hi : Nat} : Vo h lo hi shPanel (.agg #[I 0, I 0, sl 0 0 0 0]) ((0, 0, []) : Pan) := Vo.of_panel (by unfold I64; omega) (by unfold I64; omega) Vo.no_ints
theorem mergeCode_zero {X Y Z : Pan} (h : mergeCode X Y Z = 0) : clashCode X Y Z = 0 ∧ cpre X.2.2 Y.2.2 Z.2.2 X.2.2.length = [] := by
  unfold mergeCode clashAns at h
  simp only at h
  split at h
  · rename_i h1
    split at h
    · rename_i h2; exact ⟨h1, h2⟩
    · cases h
  · rename_i h1; exact absurd h h1

/-- The step of the loop that merges: one number of the copy is turned or not. -/
theorem merge_turn {h : Heap} {bb k : Nat} {o a b : List Int} (hb : h[bb]? = some ⟨ints (mpre o a b k ++ a.drop k), true⟩) (hk : k < a.length) (hne : ¬ at0 b k = at0 o k) :
    storeAt h bb k [I (at0 b k)] = some (h.set bb ⟨ints (mpre o a b (k + 1) ++ a.drop (k + 1)), true⟩) := by
  have hA : (ints (mpre o a b k)).length = k := by simp [ints, mpre_len]
  have hst := store_one (v := I (at0 b k)) (o := k) hb (by simp [ints, mpre_len]; omega)
  rw [List.drop_eq_getElem_cons hk, ints_append, ints_cons, set_end hA.symm] at hst
  rw [hst, mpre_succ, if_neg hne]
  simp [ints_append, ints_cons, ints_nil]
theorem merge_keep {o a b : List Int} {k : Nat} (hk : k < a.length) (he : at0 b k = at0 o k) : mpre o a b (k + 1) ++ a.drop (k + 1) = mpre o a b k ++ a.drop k := by
  rw [mpre_succ, if_pos he, List.drop_eq_getElem_cons hk, at0_of hk]; simp

end Am
/-! AmP9 -/
set_option linter.unusedVariables false
set_option linter.unusedSimpArgs false
set_option maxHeartbeats 4000000
set_option maxRecDepth 4000
namespace Am
open Go

/-! ### numbers written one by one -/
def fillB (f : Nat → Int) (P : Nat → Bool) (n : Nat) : List Int := (List.range n).map fun j => if P j then f j else 0
theorem fillB_len (f : Nat → Int) (P : Nat → Bool) (n : Nat) : (fillB f P n).length = n := by simp [fillB]
theorem fillB_set {f : Nat → Int} {P P' : Nat → Bool} {n k : Nat} (h : ∀ j, j < n → P' j = (P j || j == k)) : (fillB f P n).set k (f k) = fillB f P' n := by
  apply List.ext_getElem
  · simp [fillB]
  · intro i h1 h2
    simp [fillB] at h1 h2 ⊢
    rw [List.getElem_set]
    simp only [List.getElem_map, List.getElem_range]
    have := h i h2
    by_cases e : k = i
    · subst e; simp [this]
    · have e' : ¬ i = k := fun h => e h.symm
      simp [e, this, e']
theorem fillB_none (f : Nat → Int) (P : Nat → Bool) (n : Nat) (h : ∀ j, j < n → P j = false) : fillB f P n = List.replicate n 0 := by
  apply List.ext_getElem
  · simp [fillB]
  · intro i h1 h2
    simp [fillB] at h1 ⊢
    simp [h i h1]
theorem fillB_all (f : Nat → Int) (P : Nat → Bool) (n : Nat) (h : ∀ j, j < n → P j = true) : fillB f P n = (List.range n).map f := by
  apply List.map_congr_left
  intro i hi
  simp [h i (List.mem_range.1 hi)]
theorem fillB_same {f : Nat → Int} {P P' : Nat → Bool} {n : Nat} (h : ∀ j, j < n → P j = P' j) : fillB f P n = fillB f P' n := by
  apply List.map_congr_left
  intro i hi
  rw [h i (List.mem_range.1 hi)]
theorem store_fill {h : Heap} {b k n : Nat} {f : Nat → Int} {P P' : Nat → Bool} {v : Int} (hb : h[b]? = some ⟨ints (fillB f P n), true⟩) (hk : k < n) (hv : v = f k) (hp : ∀ j, j < n → P' j = (P j || j == k)) :
    storeAt h b k [I v] = some (h.set b ⟨ints (fillB f P' n), true⟩) := by
  rw [store_one hb (by simp [ints, fillB_len]; exact hk), ← fillB_set hp, hv]
  simp [ints, List.map_set]

/-! ### the bytes -/
def bn (s : List UInt8) (i : Nat) : Nat := (s.getD i 0).toNat
theorem bn_lt (s : List UInt8) (i : Nat) : bn s i < 256 := UInt8.toNat_lt _
theorem bn_at {s : List UInt8} {i : Nat} (h : i < s.length) : s[i]? = some s[i] ∧ s[i].toNat = bn s i := by simp [bn, h]
def dv (x j : Nat) : Nat := x / 3 ^ j
theorem dv_succ (x j : Nat) : dv x (j + 1) = dv x j / 3 := by unfold dv; rw [Nat.pow_succ, Nat.div_div_eq_div_mul]
theorem dv_zero (x : Nat) : dv x 0 = x := by simp [dv]
theorem dv_le (x j : Nat) : dv x j ≤ x := Nat.div_le_self _ _
def brk (s : List UInt8) (k : Nat) : Nat := dv (bn s (3 + k / 5)) (4 - k % 5) % 3
def unB (s : List UInt8) (n : Nat) : List Int := (List.range n).map fun k => ((brk s k : Nat) : Int)
def unP (s : List UInt8) : Pan := (bn s 1, bn s 2, unB s (inner (bn s 1) (bn s 2)).toNat)
theorem unP_ok {s : List UInt8} (h : okSz (bn s 1) (bn s 2) = true) : OkP (unP s) := by
  obtain ⟨hW, hH⟩ := okSz_iff.1 h
  have hi := inner_bd hW hH
  refine ⟨hW, hH, ?_, ?_⟩
  · simp [unP, unB]; omega
  · intro x hx
    obtain ⟨k, _, rfl⟩ := List.mem_map.1 hx
    have : brk s k < 3 := Nat.mod_lt _ (by decide)
    omega
def lenOk (s : List UInt8) : Bool := decide (5 ≤ s.length) && (okSz (bn s 1) (bn s 2) && decide ((s.length : Int) = packSize (bn s 1) (bn s 2)))
def unOk (s : List UInt8) : Bool := lenOk s && decide (packP (unP s) = s)
def sumOk (s : List UInt8) : Bool := decide (checksum (s.take (s.length - 2)) = 256 * (bn s (s.length - 2) : Int) + bn s (s.length - 1))
def fault (s : List UInt8) : Int := if s.length < 5 ∨ bn s 0 ≠ 77 ∨ okSz (bn s 1) (bn s 2) = false then 1 else if (s.length : Int) ≠ packSize (bn s 1) (bn s 2) then 2 else if sumOk s = false then 3 else if packP (unP s) ≠ s then 4 else 0

theorem byteI_eq {x y : Nat} (h : y < 256) (e : byteI (x : Int) = UInt8.ofNat y) (hx : x < 256) : x = y := by
  have := congrArg UInt8.toNat e
  simp [byteI] at this
  omega
theorem bn_ended {l : List UInt8} {k : Nat} : bn (ended l) (l.length + k) = bn [byteI (checksum l / 256), byteI (checksum l % 256)] k := by
  unfold bn ended
  rw [List.getD_eq_getElem?_getD, List.getElem?_append_right (by omega), ← List.getD_eq_getElem?_getD]
  congr 2
  omega
theorem ended_sum (l : List UInt8) : sumOk (ended l) = true := by
  have hb := checksum_bd l
  have e0 : (ended l).length = l.length + 2 := ended_len l
  unfold sumOk
  rw [e0, show l.length + 2 - 2 = l.length + 0 by omega, show l.length + 2 - 1 = l.length + 1 by omega, bn_ended, bn_ended]
  have e1 : (ended l).take (l.length + 0) = l := by simp [ended]
  rw [e1]
  simp [bn, byteI]
  omega
theorem sum_ended {s : List UInt8} (h2 : 2 ≤ s.length) : ended (s.take (s.length - 2)) = s ↔ sumOk s = true := by
  constructor
  · intro h
    rw [← h]; exact ended_sum _
  · intro h
    have hb := checksum_bd (s.take (s.length - 2))
    unfold sumOk at h
    simp only [decide_eq_true_eq] at h
    have a := bn_lt s (s.length - 2)
    have b := bn_lt s (s.length - 1)
    have e : s = s.take (s.length - 2) ++ [s[s.length - 2]'(by omega), s[s.length - 1]'(by omega)] := by
      conv => lhs; rw [← List.take_append_drop (s.length - 2) s]
      congr 1
      rw [List.drop_eq_getElem_cons (by omega), List.drop_eq_getElem_cons (by omega), List.drop_eq_nil_of_le (by omega)]
      congr 2
      congr 1
      omega
    conv => rhs; rw [e]
    unfold ended
    have q1 : byteI (checksum (s.take (s.length - 2)) / 256) = s[s.length - 2]'(by omega) := by
      apply UInt8.toNat_inj.1
      have := (bn_at (s := s) (i := s.length - 2) (by omega)).2
      simp [byteI]; omega
    have q2 : byteI (checksum (s.take (s.length - 2)) % 256) = s[s.length - 1]'(by omega) := by
      apply UInt8.toNat_inj.1
      have := (bn_at (s := s) (i := s.length - 1) (by omega)).2
      simp [byteI]; omega
    rw [q1, q2]
theorem fault_zero (s : List UInt8) : fault s = 0 ↔ unOk s = true := by
  unfold unOk lenOk
  simp only [Bool.and_eq_true, decide_eq_true_eq]
  constructor
  · intro h
    unfold fault at h
    split at h
    · cases h
    · rename_i h1
      split at h
      · cases h
      · rename_i h2
        split at h
        · cases h
        · split at h
          · cases h
          · rename_i h4
            refine ⟨⟨by omega, by
              cases hq : okSz (bn s 1) (bn s 2)
              · exact absurd (.inr (.inr hq)) h1
              · rfl, by simpa using h2⟩, by simpa using h4⟩
  · rintro ⟨⟨h1, h2, h3⟩, h4⟩
    have hs : sumOk s = true := by rw [← h4]; exact ended_sum _
    have h0 : bn s 0 = 77 := by
      rw [← h4]
      rfl
    unfold fault
    rw [if_neg (by simp [h2, h0]; omega), if_neg (by simpa using h3), if_neg (by simp [hs]), if_neg (by simpa using h4)]

/-! ### the program's -/
def unRes (s : List UInt8) : Pan := if lenOk s then unP s else (0, 0, [])
def unAns (s : List UInt8) : Pan × Int := if unOk s then (unP s, 0) else ((0, 0, []), 8)
theorem unAns_siz (s : List UInt8) : siz shPanel (unAns s).1 ≤ 16777216 := by
  unfold unAns
  split
  · rename_i h
    unfold unOk lenOk at h
    simp only [Bool.and_eq_true] at h
    have ok := unP_ok h.1.2.1
    have hi := inner_bd ok.w ok.h
    have hn := ok.n
    show siz shPanel ((unP s).1, (unP s).2.1, (unP s).2.2) ≤ _
    rw [siz_panel]; omega
  · rw [siz_panel]; simp
theorem Vo.zero_panel {h : Heap} {lo hi : Nat} : Vo h lo hi shPanel (.agg #[I 0, I 0, sl 0 0 0 0]) ((0, 0, []) : Pan) := Vo.of_panel (by unfold I64; omega) (by unfold I64; omega) (Vo.of_ints (X := []) (.inr ⟨rfl, rfl⟩) (by simp) (by simp) (.inl rfl))
end Am
/-! AmP10 -/
set_option linter.unusedVariables false
set_option linter.unusedSimpArgs false
set_option maxHeartbeats 4000000
set_option maxRecDepth 4000
namespace Am
open Go

theorem aSlice_hi {h : Heap} {l : List UInt8} {k : IntKind} {n : Int} (h0 : 0 ≤ n) (h1 : n.toNat ≤ l.length) : aSlice 0 h (S l) none (some (.int k n)) none = some (S (l.take n.toNat), h) := by
  simp [aSlice, bound, h0, ByteArray.size, h1]
theorem aSlice_lo {h : Heap} {l : List UInt8} {k : IntKind} {n : Int} (h0 : 0 ≤ n) (h1 : n.toNat ≤ l.length) : aSlice 0 h (S l) (some (.int k n)) none none = some (S (l.drop n.toNat), h) := by
  simp [aSlice, bound, h0, ByteArray.size, h1]
theorem aSlice_both {h : Heap} {l : List UInt8} {k j : IntKind} {n m : Int} (h0 : 0 ≤ n) (h2 : 0 ≤ m) (h1 : m.toNat ≤ l.length) (h3 : n.toNat ≤ m.toNat) : aSlice 0 h (S l) (some (.int k n)) (some (.int j m)) none = some (S ((l.take m.toNat).drop n.toNat), h) := by
  simp [aSlice, bound, h0, h2, ByteArray.size, h1, h3]

theorem store_box {h : Heap} {cs xs : List Value} (hl : xs.length = cs.length) : storeAt (h ++ [⟨cs, true⟩]) h.length 0 xs = some (h ++ [⟨xs, true⟩]) := by
  unfold storeAt
  simp [hl]
theorem PtP.at {h : Heap} {b : Nat} {W H : Int} {s : Value} {br : List Int} {r : Bool} (hb : h[b]? = some ⟨[I W, I H, s], r⟩) (hs : Vr h shInts s br) (hW : I64 W) (hH : I64 H) : PtP h (pt b 0) (W, H, br) :=
  ⟨b, 0, s, rfl, by simp [Am.cell, hb], by simp [Am.cell, hb], by simp [Am.cell, hb], hs, hW, hH⟩
end Am
/-! AmP11 -/
set_option linter.unusedVariables false
set_option linter.unusedSimpArgs false
set_option maxHeartbeats 4000000
set_option maxRecDepth 4000
namespace Am
open Go

/-- How many inner points lie above row y. -/
def rowN (W : Nat) : Nat → Nat
  | 0 => 0
  | y + 1 => rowN W y + if y = 0 then 0 else W - y % 2
theorem rowN_succ {W y : Nat} (h : 1 ≤ y) : rowN W (y + 1) = rowN W y + (W - y % 2) := by
  simp only [rowN]; rw [if_neg (by omega)]
theorem rowN_mono {W : Nat} : ∀ {y z : Nat}, y ≤ z → rowN W y ≤ rowN W z := by
  intro y z h
  induction z with
  | zero => have : y = 0 := by omega
            subst this; exact Nat.le_refl _
  | succ z ih =>
    by_cases e : y = z + 1
    · subst e; exact Nat.le_refl _
    · have := ih (by omega)
      simp only [rowN]; omega
theorem rowN_le : ∀ {W : Nat}, W < 9 → ∀ {y : Nat}, y < 17 → rowN W y ≤ 128 := by decide +kernel
theorem rowN_end : ∀ {W : Nat}, W < 9 → ∀ {H : Nat}, H < 9 → 1 ≤ W → 1 ≤ H → (rowN W (2 * H) : Int) = (W : Int) * (H - 1) + H * (W - 1) := by decide +kernel
theorem rowN_form : ∀ {W : Nat}, W < 9 → ∀ {y : Nat}, y < 17 → 1 ≤ W → 1 ≤ y → ((y / 2 : Nat) : Int) * ((W : Int) - 1) + ((y - 1) / 2 : Nat) * (W : Int) = rowN W y := by decide +kernel

/-- The number of a point. -/
def numP (W x y : Nat) : Nat := rowN W y + (x - 1) / 2
structure IsPt (W H k x y : Nat) : Prop where
  y1 : 1 ≤ y
  y2 : y < 2 * H
  lo : rowN W y ≤ k
  hi : k < rowN W (y + 1)
  x : x = 2 * (k - rowN W y) + 1 + y % 2
theorem IsPt.uniq {W H k x y x' y' : Nat} (a : IsPt W H k x y) (b : IsPt W H k x' y') : x = x' ∧ y = y' := by
  have e : y = y' := by
    rcases Nat.lt_trichotomy y y' with h | h | h
    · have := rowN_mono (W := W) (show y + 1 ≤ y' by omega)
      have := a.hi; have := b.lo; omega
    · exact h
    · have := rowN_mono (W := W) (show y' + 1 ≤ y by omega)
      have := b.hi; have := a.lo; omega
  subst e
  exact ⟨by rw [a.x, b.x], rfl⟩
theorem IsPt.bd {W H k x y : Nat} (a : IsPt W H k x y) : 1 ≤ x ∧ x < 2 * W ∧ (x + y) % 2 = 1 := by
  have h1 := a.x; have h2 := a.lo; have h3 := a.hi; have h4 := a.y1
  rw [rowN_succ h4] at h3
  omega
theorem numP_lt {W H x y : Nat} (hx : 1 ≤ x ∧ x < 2 * W) (hy : 1 ≤ y ∧ y < 2 * H) (hp : (x + y) % 2 = 1) : numP W x y < rowN W (2 * H) := by
  have h1 := rowN_mono (W := W) (show y + 1 ≤ 2 * H by omega)
  rw [rowN_succ hy.1] at h1
  unfold numP; omega

theorem c455 (h : Heap) (v : Value) (X : Pan) (W y : Nat) (hv : PtP h v X) (hW : X.1 = W) (w1 : 1 ≤ W) (w8 : W < 9) (hy1 : 1 ≤ y) (hy : y < 17) : ACall Gam 455 [v, I y] h fun r h' => r = I (rowN W y) ∧ h' = h := by
  obtain ⟨b, o, s, rfl, h1, _⟩ := hv
  rw [hW] at h1
  refine ACall_intro g455 rfl ?_
  unfold fn455
  simp (disch := omega)
  refine awp_loop (fun (k : Nat) σ h' => h' = h ∧ 1 ≤ k ∧ k ≤ y ∧ σ 0 = pt b o ∧ σ 1 = I y ∧ σ 5 = I (rowN W k) ∧ σ 6 = I k) (fun k => y - k) 1 ?_ ?_
  · refine ⟨rfl, Nat.le_refl _, hy1, by simp, by simp, by simp [rowN], by simp⟩
  · rintro k σ h' ⟨rfl, hk1, hk, q0, q1, q5, q6⟩
    simp (disch := omega) [q1, q6]
    refine fork_dec (fun hlt => ?_) (fun hge => ?_)
    · have hb := rowN_le w8 (y := k) (by omega)
      have hs := rowN_succ (W := W) hk1
      simp (disch := omega) [q0, q5, q6, h1, wrap64, tmod_pos]
      refine fork_dec (fun ho => ?_) (fun ho => ?_)
      · simp (disch := omega) [q0, q1, q5, q6, wrap64]
        exact ⟨k + 1, ⟨by omega, by omega, by omega, by omega⟩, by omega⟩
      · simp (disch := omega) [q0, q1, q5, q6, wrap64]
        exact ⟨k + 1, ⟨by omega, by omega, by omega, by omega⟩, by omega⟩
    · have : k = y := by omega
      subst this
      simp (disch := omega) [q5]

theorem c451 (h : Heap) (v : Value) (X : Pan) (W x y : Nat) (hv : PtP h v X) (hW : X.1 = W) (w1 : 1 ≤ W) (w8 : W < 9) (hx : 1 ≤ x ∧ x < 17) (hy : 1 ≤ y ∧ y < 17) : ACall Gam 451 [v, .agg #[I x, I y]] h fun r h' => r = I (numP W x y) ∧ h' = h := by
  refine ACall_intro g451 rfl ?_
  unfold fn451
  have hb := rowN_le w8 (y := y) (by omega)
  simp (disch := omega)
  refine callW_of (c455 h v X W y hv hW w1 w8 hy.1 hy.2) ?_
  rintro _ h' ⟨rfl, rfl⟩
  simp (disch := omega) [wrap64, tdiv_pos]
  simp [numP]; omega

theorem c454 (h : Heap) (v : Value) (X : Pan) (W H k : Nat) (hv : PtP h v X) (hW : X.1 = W) (hH : X.2.1 = H) (w1 : 1 ≤ W) (w8 : W < 9) (h1 : 1 ≤ H) (h8 : H < 9) (hk : k < rowN W (2 * H)) : ACall Gam 454 [v, I k] h fun r h' => (∃ x y, IsPt W H k x y ∧ r = .agg #[I x, I y]) ∧ h' = h := by
  have hv0 := hv
  obtain ⟨b, o, s, rfl, _, h2, _⟩ := hv
  rw [hH] at h2
  have hk128 : k < 128 := by have := rowN_le w8 (y := 2 * H) (by omega); omega
  refine ACall_intro g454 rfl ?_
  unfold fn454
  simp (disch := omega)
  refine awp_loop (fun (y : Nat) σ h' => h' = h ∧ 1 ≤ y ∧ y < 2 * H ∧ rowN W y ≤ k ∧ σ 0 = pt b o ∧ σ 1 = I k ∧ σ 4 = .agg #[I 0, I 0] ∧ σ 5 = I y) (fun y => 2 * H - y) 1 ?_ ?_
  · refine ⟨rfl, by omega, by omega, by simp [rowN], by simp, by simp, by simp, by simp⟩
  · rintro y σ h' ⟨rfl, hy1, hy2, hlo, q0, q1, q4, q5⟩
    have fin : k < rowN W (y + 1) → ACall Gam 455 [pt b o, I y] h' (fun r h'' => r = I (rowN W y) ∧ h'' = h') ∧ IsPt W H k (2 * (k - rowN W y) + 1 + y % 2) y := fun hhi =>
      ⟨c455 h' _ X W y hv0 hW w1 w8 hy1 (by omega), ⟨hy1, hy2, hlo, hhi, rfl⟩⟩
    simp (disch := omega) [q0, q5, h2, wrap64]
    refine fork_dec (fun hlt => ?_) (fun hge => ?_)
    · have hlt' : y + 1 < 2 * H := by omega
      simp (disch := omega) [q0, q1, q5, h2, hlt, wrap64]
      have hc := c455 h' _ X W (y + 1) hv0 hW w1 w8 (by omega) (by omega)
      rw [show ((y + 1 : Nat) : Int) = (y : Int) + 1 by omega] at hc
      refine callW_of hc ?_
      rintro _ h' ⟨rfl, rfl⟩
      simp (disch := omega) [q1, hlt]
      refine fork_dec (fun hle => ?_) (fun hle => ?_)
      · simp (disch := omega) [q0, q1, q4, q5, wrap64]
        exact ⟨y + 1, ⟨by omega, by omega, by omega, by omega⟩, by omega⟩
      · obtain ⟨f1, f2⟩ := fin (by omega)
        simp (disch := omega) [q0, q1, q4, q5]
        refine callW_of f1 ?_
        rintro _ h' ⟨rfl, rfl⟩
        simp (disch := omega) [q0, q1, q4, q5, wrap64, tmod_pos, resOf_box, aField]
        refine ⟨_, y, f2, ?_, rfl⟩
        omega
    · have hye : y + 1 = 2 * H := by omega
      obtain ⟨f1, f2⟩ := fin (by rw [hye]; exact hk)
      simp (disch := omega) [q0, q1, q4, q5, hge]
      refine callW_of f1 ?_
      rintro _ h' ⟨rfl, rfl⟩
      simp (disch := omega) [q0, q1, q4, q5, wrap64, tmod_pos, resOf_box, aField]
      refine ⟨_, y, f2, ?_, rfl⟩
      omega

theorem c40v (h : Heap) (W H x y a W1 p y1 b q r c d e : Int) (s : Value) (h1 : IntKind.i64.wrap (y.tdiv 2) = a) (h2 : IntKind.i64.wrap (W - 1) = W1) (h3 : IntKind.i64.wrap (a * W1) = p) (h4 : IntKind.i64.wrap (y - 1) = y1) (h5 : IntKind.i64.wrap (y1.tdiv 2) = b) (h6 : IntKind.i64.wrap (b * W) = q)
    (h7 : IntKind.i64.wrap (p + q) = r) (h8 : IntKind.i64.wrap (x.tdiv 2) = c) (h9 : IntKind.i64.wrap (r + c) = d) (h10 : IntKind.i64.wrap (d - 1) = e) : ACall Gam 40 [.agg #[I W, I H, s], .agg #[I x, I y]] h fun v h' => v = I (if y.tmod 2 = 1 then e else d) ∧ h' = h := by
  refine ACall_intro g40 rfl ?_
  unfold fn40
  simp only []
  rw [awp_seq, awp_reg]
  generalize hK : seqQ Gam _ _ 0 = K
  simp
  subst hK
  simp only [seqQ_zero]
  rw [awp_seq, awp_reg]
  generalize hK : seqQ Gam _ _ 0 = K
  simp [h1, h2, h3, h4, h5, h6, h7]
  subst hK
  simp
  refine fork_dec (fun ho => ?_) (fun ho => ?_)
  · simp [h8, h9, h10, ho]
  · simp [h8, h9, h10, ho]
theorem c40 (h : Heap) (W H x y : Nat) (s : Value) (w1 : 1 ≤ W) (w8 : W < 9) (hx : 1 ≤ x ∧ x < 17) (hy : 1 ≤ y ∧ y < 17) (hp : (x + y) % 2 = 1) : ACall Gam 40 [.agg #[I W, I H, s], .agg #[I x, I y]] h fun r h' => r = I (numP W x y) ∧ h' = h := by
  have hb := rowN_le w8 (y := y) (by omega)
  have hf := rowN_form w8 (y := y) (by omega) w1 hy.1
  have e1 : (y : Int) / 2 = ((y / 2 : Nat) : Int) := by omega
  have e2 : ((y : Int) - 1) / 2 = (((y - 1) / 2 : Nat) : Int) := by omega
  have hf' : (y : Int) / 2 * ((W : Int) - 1) + ((y : Int) - 1) / 2 * (W : Int) = rowN W y := by rw [e1, e2]; exact hf
  have b1 : 0 ≤ (y : Int) / 2 * ((W : Int) - 1) := Int.mul_nonneg (by omega) (by omega)
  have b2 : 0 ≤ ((y : Int) - 1) / 2 * (W : Int) := Int.mul_nonneg (by omega) (by omega)
  have hrow : (rowN W y : Int) ≤ 128 := by omega
  have u0 : IntKind.i64.wrap ((W : Int) - 1) = (W : Int) - 1 := wrap64 (by omega) (by omega)
  have u1 : IntKind.i64.wrap ((y : Int) - 1) = (y : Int) - 1 := wrap64 (by omega) (by omega)
  have u2 : IntKind.i64.wrap ((y : Int) / 2) = (y : Int) / 2 := wrap64 (by omega) (by omega)
  have u3 : IntKind.i64.wrap (((y : Int) - 1) / 2) = ((y : Int) - 1) / 2 := wrap64 (by omega) (by omega)
  have u4 : IntKind.i64.wrap ((x : Int) / 2) = (x : Int) / 2 := wrap64 (by omega) (by omega)
  have u5 : IntKind.i64.wrap (IntKind.i64.wrap ((y : Int) / 2 * ((W : Int) - 1)) + IntKind.i64.wrap (((y : Int) - 1) / 2 * (W : Int))) = rowN W y := by
    rw [wrap64 (n := (y : Int) / 2 * ((W : Int) - 1)) (by omega) (by omega), wrap64 (n := ((y : Int) - 1) / 2 * (W : Int)) (by omega) (by omega), hf', wrap64 (by omega) (by omega)]
  have t1 : (y : Int).tdiv 2 = (y : Int) / 2 := tdiv_pos (by omega)
  have t2 : ((y : Int) - 1).tdiv 2 = ((y : Int) - 1) / 2 := tdiv_pos (by omega)
  have t3 : (x : Int).tdiv 2 = (x : Int) / 2 := tdiv_pos (by omega)
  have t4 : (y : Int).tmod 2 = (y : Int) % 2 := tmod_pos (by omega)
  refine (c40v h W H x y _ _ _ _ _ _ _ _ _ _ s rfl rfl rfl rfl rfl rfl rfl rfl rfl rfl).mono ?_
  rintro r h' ⟨rfl, rfl⟩
  rw [t1, t3, t4, u2, u0, u1, t2, u3, u5, u4]
  refine ⟨?_, rfl⟩
  split
  · rw [wrap64 (n := (rowN W y : Int) + (x : Int) / 2) (by omega) (by omega), wrap64 (by omega) (by omega)]
    simp [numP]; omega
  · rw [wrap64 (by omega) (by omega)]
    simp [numP]; omega
end Am
