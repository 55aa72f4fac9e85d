/- Contracts: InverseDiff. -/
import Derived.Test.YtpdhmojncndobaaAmT3
set_option linter.unusedVariables false
set_option linter.unusedSimpArgs false
set_option maxHeartbeats 4000000
namespace Am
open Go

/-- One struct of three numbers is appended. -/
theorem append_trip {h h' : Heap} {v : Value} {l : List Trip} {a b c : Int} {K : Value → Heap → Prop} (hp : 0 < h.length) (hl : l.length ≤ 1048576) (hg : Grows h h') (hv : Buf h h' v 3 (trips l))
    (hK : ∀ v' h'', Grows h h'' → Buf h h'' v' 3 (trips (l ++ [(a, b, c)])) → (∀ c kk, h'[c]? = some kk → (∀ n, v ≠ sl c 0 n 3) → h''[c]? = some kk) → K v' h'') :
    bindW (aBuildSlice 3 1 h' [(0, .agg #[I 0, I 0, I 0]), (3, .agg #[I a, I b, I c])]) fun y h'' => bindW (aAppend 3 h'' y v) K := by
  have e : aBuildSlice 3 1 h' [(0, .agg #[I 0, I 0, I 0]), (3, .agg #[I a, I b, I c])] = some (sl h'.length 0 1 3, h' ++ [⟨[I a, I b, I c], true⟩]) := by simp [aBuildSlice]
  rw [e]
  simp only [bindW_some]
  refine append_buf hp (hg.push _) (hv.grow ⟨_, rfl⟩) (new := [I a, I b, I c]) ?_ (by omega) (by simp) (by simp) (by rw [trips_len]; simp [maxSize]; omega) ?_
  · simp [newCells]
    rw [cellsAt_of (k := ⟨[I a, I b, I c], true⟩) (by simp) (by simp)]
    simp
  · intro v' h'' g1 b1 k1
    refine hK v' h'' g1 (by rw [trips_append]; exact b1) fun c kk hc hne => k1 c kk (push_at hc) hne

def inverse (X : List Trip) : List Trip := X.reverse.map fun t => (t.1, t.2.2, t.2.1)
theorem inverse_len (X : List Trip) : (inverse X).length = X.length := by simp [inverse]
theorem inverse_64 {X : List Trip} (h : ∀ x ∈ X, T64 x) : ∀ x ∈ inverse X, T64 x := by
  intro x hx
  obtain ⟨t, ht, rfl⟩ := List.mem_map.1 hx
  have := h t (by simpa using ht)
  exact ⟨this.1, this.2.2, this.2.1⟩

theorem inverse_ok {g : Nat} (hg : Gam g = some fn382) (h : Heap) (v : Value) (X : List Trip) (hp : 0 < h.length) (hv : Vr h shTrips v X) (hs : X.length ≤ 1048576) :
    ACall Gam g [v] h fun r h' => Grows h h' ∧ Vo h' h.length h'.length shTrips r (inverse X) := by
  obtain ⟨bb, o, zz, rfl, hzz, hm, hx, hc⟩ := hv.trips
  refine ACall_intro hg rfl ?_
  unfold fn382
  simp (disch := omega) [wrap64]
  refine awp_loop (fun m σ h' => m ≤ X.length ∧ Grows h h' ∧ σ 0 = sl bb o X.length zz ∧ σ 4 = I ((m : Int) - 1) ∧ Buf h h' (σ 3) 3 (trips (inverse (X.drop m)))) (fun m => m) X.length ?_ ?_
  · exact ⟨by omega, Grows.refl _, by simp, by simp, by simp [inverse, trips_nil]; exact Buf.nil⟩
  · rintro m σ h' ⟨hk, hgr, h0, h4, hb⟩
    simp (disch := omega) [h4]
    refine fork_dec (fun hlt => ?_) (fun hge => ?_)
    · obtain ⟨m, rfl⟩ : ∃ m', m = m' + 1 := ⟨m - 1, by omega⟩
      have hlt : m < X.length := by omega
      obtain ⟨q1, q2, q3⟩ := trips_cell (hc.imp id (grows_cellsAt hgr)) hlt
      have e1 : ((m : Int) + 1 - 1) = m := by omega
      simp (disch := omega) [h0, h4, e1, hlt, q1, q2, q3, wrap64]
      refine append_trip hp (by simp [inverse]; omega) hgr hb fun v' h'' g1 b1 _ => ?_
      refine ⟨m, ⟨by omega, g1, by omega, ?_⟩, by omega⟩
      have e2 : inverse (X.drop m) = inverse (X.drop (m + 1)) ++ [(X[m].1, X[m].2.2, X[m].2.1)] := by
        rw [List.drop_eq_getElem_cons hlt]
        unfold inverse
        rw [List.reverse_cons, List.map_append]; rfl
      rw [e2]; exact b1
    · have e : m = 0 := by omega
      subst e
      simp (disch := omega) [h0, h4]
      refine ⟨hgr, hb.trips (by rw [inverse_len]; exact hm) (inverse_64 (by simpa using hx))⟩
theorem c382 (h : Heap) (hp : 0 < h.length) (v : Value) (X : List Trip) (hv : Vr h shTrips v X) (hs : siz shTrips X ≤ 1048576) : ACall Gam 382 [v] h fun r h' => Grows h h' ∧ Vo h' h.length h'.length shTrips r (inverse X) ∧ siz shTrips (inverse X) ≤ 16777216 := by
  rw [siz_trips] at hs
  rw [siz_trips, inverse_len]
  exact (inverse_ok g382 h v X hp hv hs).mono fun r h' x => ⟨x.1, x.2, by omega⟩
theorem c89 (h : Heap) (hp : 0 < h.length) (v : Value) (X : List Trip) (hv : Vr h shTrips v X) (hs : siz shTrips X ≤ 1048576) : ACall Gam 89 [v] h fun r h' => Grows h h' ∧ Vo h' h.length h'.length shTrips r (inverse X) ∧ siz shTrips (inverse X) ≤ 16777216 := by
  rw [siz_trips] at hs
  rw [siz_trips, inverse_len]
  exact (inverse_ok g89 h v X hp hv hs).mono fun r h' x => ⟨x.1, x.2, by omega⟩
end Am
