/- Contracts: AmW3, AmW4, AmW5, AmJ9, AmJ10, AmJ11, AmJ12, AmJ13, AmJ14, AmJ15, AmS1, AmS2, AmS3, AmS4. -/
import Derived.Test.YtaeaaogpdipjfaaAmK4
import Derived.Test.YtaeaaogpdipjfaaAmK2
/-! AmW3 -/
set_option linter.unusedVariables false
set_option linter.unusedSimpArgs false
set_option maxHeartbeats 4000000
set_option maxRecDepth 4000
namespace Am
open Go

def at8 (s : List UInt8) (i : Nat) : UInt8 := s.getD i 0
theorem at8_eq {s : List UInt8} {i : Nat} (h : i < s.length) : s[i] = at8 s i := by simp [at8, h]
def parseW (w : List UInt8) : Option Trip := if w.length < 3 then none else if (rdDec (w.take (w.length - 2))).2 then some ((rdDec (w.take (w.length - 2))).1, kindB (at8 w (w.length - 2)), kindB (at8 w (w.length - 1))) else none
def parseL : List (List UInt8) → List Trip → Option (List Trip)
  | [], acc => some acc
  | w :: r, acc => match parseW w with
    | none => none
    | some t => parseL r (acc ++ [t])
def AllT (l : List Trip) : Prop := ∀ x ∈ l, T64 x
theorem AllT.snoc {l : List Trip} {t : Trip} (h : AllT l) (ht : T64 t) : AllT (l ++ [t]) := by
  intro x hx
  rcases List.mem_append.1 hx with hx | hx
  · exact h x hx
  · rw [List.mem_singleton.1 hx]; exact ht
def rdRes (o : Option (List Trip)) : List Trip × Bool := match o with
  | none => ([], false)
  | some l => if okD l then (l, true) else ([], false)
def rdAns (s : List UInt8) : List Trip × Bool := if s = [] then ([], true) else rdRes (parseL (splitS 32 s) [])
theorem parseL_len : ∀ {l : List (List UInt8)} {acc r : List Trip}, parseL l acc = some r → r.length = acc.length + l.length
  | [], acc, r, h => by simp only [parseL, Option.some.injEq] at h; subst h; rfl
  | w :: l, acc, r, h => by
    simp only [parseL] at h
    split at h
    · cases h
    · have := parseL_len h
      simp at this ⊢; omega
theorem rd_siz (s : List UInt8) : siz shTrips (rdAns s).1 ≤ 16777216 := by
  rw [siz_trips]
  unfold rdAns
  split
  · simp
  · unfold rdRes
    split
    · simp
    · split
      · rename_i h
        have := (okD_iff.1 h).2
        simp only; omega
      · simp
theorem kindB_64 (c : UInt8) : I64 (kindB c) := by have := kindB_rng c; unfold I64; omega
theorem rdRes_long {l : List (List UInt8)} {acc : List Trip} (h : 112 < acc.length + l.length) : rdRes (parseL l acc) = ([], false) := by
  cases e : parseL l acc with
  | none => rfl
  | some r =>
    have := parseL_len e
    have hn : okD r = false := by
      cases h : okD r
      · rfl
      · have := (okD_iff.1 h).2; omega
    simp [rdRes, hn]

theorem c119 (h : Heap) (hp : 0 < h.length) (s : List UInt8) (hs : s.length ≤ 1048576) :
    ACall Gam 119 [S s] h fun r h' => Grows h h' ∧ ∃ r0, r = .tuple #[r0, B (rdAns s).2] ∧ Vo h' h.length h'.length shTrips r0 (rdAns s).1 ∧ siz shTrips (rdAns s).1 ≤ 16777216 := by
  have hsz := rd_siz s
  refine ACall_intro g119 rfl ?_
  unfold fn119
  rw [awp_seq, awp_reg]
  generalize hK : seqQ Gam _ _ 0 = K
  simp (disch := omega)
  subst hK
  simp only [seqQ_zero]
  rw [awp_seq, awp_reg]
  generalize hK : seqQ Gam _ _ 0 = K
  simp (disch := omega)
  subst hK
  simp only [seqQ_zero]
  rw [awp_seq]
  generalize hK : seqQ Gam _ _ = K
  simp (disch := omega)
  refine fork_dec (fun h0 => ?_) (fun h0 => ?_)
  · have e : rdAns s = ([], true) := by simp [rdAns, h0]
    subst hK
    rw [e] at hsz ⊢
    simp (disch := omega)
    exact ⟨Grows.refl _, Vo.of_trips (X := []) (.inl rfl) (by simp) (by simp) (.inl rfl), hsz⟩
  have eA : rdAns s = rdRes (parseL (splitS 32 s) []) := by simp [rdAns, h0]
  have hwl := splitG_len 32 s []
  have hws := splitG_sum 32 s []
  have eW : splitG 32 [] s = splitS 32 s := rfl
  rw [eW] at hwl hws
  obtain ⟨ws, ews⟩ : ∃ ws, ws = splitS 32 s := ⟨_, rfl⟩
  simp (disch := omega)
  subst hK
  simp only [seqQ_zero]
  rw [eA] at hsz ⊢
  rw [← ews] at hwl hws hsz ⊢
  rw [awp_seq]
  generalize hK : seqQ Gam _ _ = K
  simp (disch := omega)
  refine callW_of (split_ok (.inl rfl) s 32 hs h hp) ?_
  rintro wv h1 ⟨g1, bw⟩
  rw [← ews] at bw
  obtain ⟨wb, wo, wn, rfl, hwn, hwc⟩ := bw.reads
  have hwn' : wn = ws.length := by simpa [texts] using hwn
  subst hwn'
  simp (disch := omega)
  refine awp_loop (fun (k : Nat) σ h' => k ≤ ws.length ∧ Grows h1 h' ∧ σ 2 = sl 0 0 0 0 ∧ σ 3 = B false ∧ σ 15 = sl wb wo ws.length 1 ∧ σ 16 = I ws.length ∧ σ 17 = I k ∧ ∃ acc : List Trip, acc.length = k ∧ k ≤ 112 ∧ AllT acc ∧ Bf h' h1.length h'.length (σ 4) 3 (trips acc) ∧ parseL (ws.drop k) acc = parseL ws []) (fun k => ws.length - k) 0 ?_ ?_
  · exact ⟨by omega, Grows.refl _, by simp, by simp, by simp, by simp, by simp, [], rfl, by omega, (fun x hx => by simp at hx), by simp; exact Bf.nil, by simp⟩
  rintro k σ h' ⟨hk, hg, q2, q3, q15, q16, q17, acc, hal, hkm, hax, hB, hd⟩
  have hlt1 := hg.le
  simp (disch := omega) [q16, q17]
  refine fork_dec (fun hlt => ?_) (fun hge => ?_)
  rotate_left
  · have hkn : k = ws.length := by omega
    subst hkn
    rw [List.drop_length] at hd
    simp only [parseL] at hd
    have hvo := hB.trips (by rw [maxLen_eq]; omega) hax
    have hvo' := hvo
    obtain ⟨ab, az, e4, _⟩ := hvo.trips
    rw [e4] at hvo'
    simp (disch := omega)
    subst hK
    simp only [seqQ_zero]
    simp (disch := omega) [e4]
    refine callW_of (c197 h' _ acc hvo'.vr (by omega)) ?_
    rintro _ h2 ⟨rfl, rfl⟩
    have l1 := g1.le
    cases hok : okD acc
    · have e : rdRes (parseL ws []) = ([], false) := by rw [← hd]; simp [rdRes, hok]
      rw [e] at hsz ⊢
      simp (disch := omega)
      exact ⟨g1.trans hg, Vo.no_trips, hsz⟩
    · have e : rdRes (parseL ws []) = (acc, true) := by rw [← hd]; simp [rdRes, hok]
      rw [e] at hsz ⊢
      simp (disch := omega) [e4]
      exact ⟨g1.trans hg, hvo'.wide l1 (Nat.le_refl _), hsz⟩
  have k1 : k < ws.length := by omega
  rw [List.drop_eq_getElem_cons k1] at hd
  simp only [parseL] at hd
  obtain ⟨w, hw⟩ : ∃ w, w = ws[k] := ⟨_, rfl⟩
  have hwl2 : w.length ≤ s.length := by
    have := hws ws[k] (List.getElem_mem k1)
    rw [← hw] at this; simpa using this
  have hcell : cell h' wb (wo + k) = some (S w) := by
    rw [hw]
    have hwc' : ws.length = 0 ∨ cellsAt h' wb wo (ws.length * 1) = some (texts ws) := hwc.imp id fun e => hg.cellsAt e
    exact texts_cell hwc' hwn k1
  rw [← hw] at hd
  simp (disch := omega) [q15, q17, k1, hcell]
  refine fork_dec (fun h3 => ?_) (fun h3 => ?_)
  · have e : parseW w = none := by unfold parseW; rw [if_pos (by omega)]
    rw [e] at hd
    subst hK
    have e5 : rdRes (parseL ws []) = ([], false) := by rw [← hd]; rfl
    rw [e5] at hsz ⊢
    simp (disch := omega) [h3]
    exact ⟨g1.trans hg, Vo.no_trips, hsz⟩
  have hvo := hB.trips (by rw [maxLen_eq]; omega) hax
  obtain ⟨ab, az, e4, _⟩ := hvo.trips
  simp (disch := omega) [h3, e4]
  refine fork_dec (fun h4 => ?_) (fun h4 => ?_)
  · subst hK
    have hd' : parseL (w :: ws.drop (k + 1)) acc = parseL ws [] := by simp only [parseL]; exact hd
    have e5 : rdRes (parseL ws []) = ([], false) := by rw [← hd']; exact rdRes_long (by simp; omega)
    rw [e5] at hsz ⊢
    simp (disch := omega)
    exact ⟨g1.trans hg, Vo.no_trips, hsz⟩
  have hsl := slice_to (h := h') (s := w) (b := w.length - 2) (by omega)
  have e2 : (w.length : Int) - 2 = ((w.length - 2 : Nat) : Int) := by omega
  have e1 : (w.length : Int) - 1 = ((w.length - 1 : Nat) : Int) := by omega
  simp (disch := omega) [e2, hsl, wrap64]
  refine callW_of (c118 (w.take (w.length - 2)) (by simp; omega) h' (pos_of hp (g1.trans hg))) ?_
  rintro _ h2 ⟨g2, rfl⟩
  cases hr : (rdDec (w.take (w.length - 2))).2
  · have e : parseW w = none := by unfold parseW; rw [if_neg (by omega), hr]; rfl
    rw [e] at hd
    subst hK
    have e5 : rdRes (parseL ws []) = ([], false) := by rw [← hd]; rfl
    rw [e5] at hsz ⊢
    simp (disch := omega)
    exact ⟨(g1.trans hg).trans g2, Vo.no_trips, hsz⟩
  have e : parseW w = some ((rdDec (w.take (w.length - 2))).1, kindB (at8 w (w.length - 2)), kindB (at8 w (w.length - 1))) := by unfold parseW; rw [if_neg (by omega), hr]; rfl
  rw [e] at hd
  simp only at hd
  have x1 : w.length - 2 < w.length := by omega
  have x2 : w.length - 1 < w.length := by omega
  have c1 := at8_eq x1
  have c2 := at8_eq x2
  simp (disch := omega) [e1, e2, c1, c2, x1, x2, wrap64]
  refine callW_of (c174 (at8 w (w.length - 2)) h2) ?_
  rintro _ h2 ⟨rfl, rfl⟩
  simp (disch := omega) [e1, e2, c1, c2, x1, x2, wrap64]
  refine callW_of (c174 (at8 w (w.length - 1)) h2) ?_
  rintro _ h2 ⟨rfl, rfl⟩
  simp (disch := omega) [e4]
  have hB2 := hB.grow g2
  rw [e4] at hB2
  refine append_trip2 (lo := h1.length) (hi := h'.length) (pos_of hp g1) (by omega) hB2 fun v' h3 m1 b1 => ?_
  have lg := g2.le
  have lm := m1.1
  have G3 : Grows h1 h3 := m1.grows (hg.trans g2) (Nat.le_refl _)
  simp (disch := omega) [q2, q3, q15, q16, q17, wrap64]
  exact ⟨k + 1, ⟨by omega, G3, by omega, acc ++ [((rdDec (w.take (w.length - 2))).1, kindB (at8 w (w.length - 2)), kindB (at8 w (w.length - 1)))], by simpa using hal, by omega, hax.snoc ⟨rdDec_64 _, kindB_64 _, kindB_64 _⟩, b1.wide (by omega) (Nat.le_refl _), hd⟩, by omega⟩

end Am
/-! AmW4 -/
set_option linter.unusedVariables false
set_option linter.unusedSimpArgs false
set_option maxHeartbeats 4000000
set_option maxRecDepth 4000
namespace Am
open Go

theorem c410 (h : Heap) (hp : 0 < h.length) (s : List UInt8) (hs : s.length ≤ 1048576) :
    ACall Gam 410 [S s] h fun r h' => Grows h h' ∧ ∃ r0, r = .tuple #[r0, B (rdAns s).2] ∧ Vo h' h.length h'.length shTrips r0 (rdAns s).1 ∧ siz shTrips (rdAns s).1 ≤ 16777216 := by
  have hsz := rd_siz s
  refine ACall_intro g410 rfl ?_
  unfold fn410
  rw [awp_seq, awp_reg]
  generalize hK : seqQ Gam _ _ 0 = K
  simp (disch := omega)
  subst hK
  simp only [seqQ_zero]
  rw [awp_seq, awp_reg]
  generalize hK : seqQ Gam _ _ 0 = K
  simp (disch := omega)
  subst hK
  simp only [seqQ_zero]
  rw [awp_seq]
  generalize hK : seqQ Gam _ _ = K
  simp (disch := omega)
  refine fork_dec (fun h0 => ?_) (fun h0 => ?_)
  · have e : rdAns s = ([], true) := by simp [rdAns, h0]
    subst hK
    rw [e] at hsz ⊢
    simp (disch := omega)
    exact ⟨Grows.refl _, Vo.of_trips (X := []) (.inl rfl) (by simp) (by simp) (.inl rfl), hsz⟩
  have eA : rdAns s = rdRes (parseL (splitS 32 s) []) := by simp [rdAns, h0]
  have hwl := splitG_len 32 s []
  have hws := splitG_sum 32 s []
  have eW : splitG 32 [] s = splitS 32 s := rfl
  rw [eW] at hwl hws
  obtain ⟨ws, ews⟩ : ∃ ws, ws = splitS 32 s := ⟨_, rfl⟩
  simp (disch := omega)
  subst hK
  simp only [seqQ_zero]
  rw [eA] at hsz ⊢
  rw [← ews] at hwl hws hsz ⊢
  rw [awp_seq, awp_reg]
  generalize hK : seqQ Gam _ _ 0 = K
  simp (disch := omega)
  refine callW_of (split_ok (.inr rfl) s 32 hs h hp) ?_
  rintro wv h1 ⟨g1, bw⟩
  rw [← ews] at bw
  obtain ⟨wb, wo, wn, rfl, hwn, hwc⟩ := bw.reads
  have hwn' : wn = ws.length := by simpa [texts] using hwn
  subst hwn'
  simp (disch := omega)
  subst hK
  simp only [seqQ_zero]
  rw [awp_seq]
  generalize hK : seqQ Gam _ _ = K
  simp (disch := omega)
  refine awp_loop (fun (k : Nat) σ h' => k ≤ ws.length ∧ Grows h1 h' ∧ σ 2 = sl 0 0 0 0 ∧ σ 3 = B false ∧ σ 5 = sl wb wo ws.length 1 ∧ σ 6 = I k ∧ ∃ acc : List Trip, acc.length = k ∧ AllT acc ∧ Bf h' h1.length h'.length (σ 4) 3 (trips acc) ∧ parseL (ws.drop k) acc = parseL ws []) (fun k => ws.length - k) 0 ?_ ?_
  · exact ⟨by omega, Grows.refl _, by simp, by simp, by simp, by simp, [], rfl, (fun x hx => by simp at hx), by simp; exact Bf.nil, by simp⟩
  rintro k σ h' ⟨hk, hg, q2, q3, q5, q6, acc, hal, hax, hB, hd⟩
  have hlt1 := hg.le
  simp (disch := omega) [q5, q6]
  refine fork_dec (fun hlt => ?_) (fun hge => ?_)
  rotate_left
  · have hkn : k = ws.length := by omega
    subst hkn
    rw [List.drop_length] at hd
    simp only [parseL] at hd
    have hvo := hB.trips (by rw [maxLen_eq]; omega) hax
    have hvo' := hvo
    obtain ⟨ab, az, e4, _⟩ := hvo.trips
    rw [e4] at hvo'
    simp (disch := omega)
    subst hK
    simp only [seqQ_zero]
    simp (disch := omega) [e4]
    refine callW_of (c550 h' _ acc hvo'.vr (by omega)) ?_
    rintro _ h2 ⟨rfl, rfl⟩
    have l1 := g1.le
    cases hok : okD acc
    · have e : rdRes (parseL ws []) = ([], false) := by rw [← hd]; simp [rdRes, hok]
      rw [e] at hsz ⊢
      simp (disch := omega)
      exact ⟨g1.trans hg, Vo.no_trips, hsz⟩
    · have e : rdRes (parseL ws []) = (acc, true) := by rw [← hd]; simp [rdRes, hok]
      rw [e] at hsz ⊢
      simp (disch := omega) [e4]
      exact ⟨g1.trans hg, hvo'.wide l1 (Nat.le_refl _), hsz⟩
  have k1 : k < ws.length := by omega
  rw [List.drop_eq_getElem_cons k1] at hd
  simp only [parseL] at hd
  obtain ⟨w, hw⟩ : ∃ w, w = ws[k] := ⟨_, rfl⟩
  have hwl2 : w.length ≤ s.length := by
    have := hws ws[k] (List.getElem_mem k1)
    rw [← hw] at this; simpa using this
  have hcell : cell h' wb (wo + k) = some (S w) := by
    rw [hw]
    have hwc' : ws.length = 0 ∨ cellsAt h' wb wo (ws.length * 1) = some (texts ws) := hwc.imp id fun e => hg.cellsAt e
    exact texts_cell hwc' hwn k1
  rw [← hw] at hd
  simp (disch := omega) [q5, q6, k1, hcell]
  refine fork_dec (fun h3 => ?_) (fun h3 => ?_)
  · have e : parseW w = none := by unfold parseW; rw [if_pos (by omega)]
    rw [e] at hd
    subst hK
    have e5 : rdRes (parseL ws []) = ([], false) := by rw [← hd]; rfl
    rw [e5] at hsz ⊢
    simp (disch := omega) [h3]
    exact ⟨g1.trans hg, Vo.no_trips, hsz⟩
  have hvo := hB.trips (by rw [maxLen_eq]; omega) hax
  obtain ⟨ab, az, e4, _⟩ := hvo.trips
  have hsl := slice_to (h := h') (s := w) (b := w.length - 2) (by omega)
  have e2 : (w.length : Int) - 2 = ((w.length - 2 : Nat) : Int) := by omega
  have e1 : (w.length : Int) - 1 = ((w.length - 1 : Nat) : Int) := by omega
  simp (maxSteps := 1000000) (disch := omega) [q5, q6, k1, hcell, e2, hsl, wrap64]
  refine callW_of (c439 (w.take (w.length - 2)) (by simp; omega) h' (pos_of hp (g1.trans hg))) ?_
  rintro _ h2 ⟨g2, rfl⟩
  have hcell2 := g2.cell hcell
  have x1 : w.length - 2 < w.length := by omega
  have x2 : w.length - 1 < w.length := by omega
  have c1 := at8_eq x1
  have c2 := at8_eq x2
  simp (disch := omega) [q5, q6, k1, hcell2, e1, e2, c1, c2, x1, x2, wrap64]
  refine callW_of (c467 (at8 w (w.length - 2)) h2) ?_
  rintro _ h2 ⟨rfl, rfl⟩
  refine ⟨fun _ => Grows.refl _, ?_⟩
  simp (disch := omega) [q5, q6, k1, hcell2, e1, e2, c1, c2, x1, x2, wrap64]
  refine callW_of (c467 (at8 w (w.length - 1)) h2) ?_
  rintro _ h2 ⟨rfl, rfl⟩
  simp (disch := omega)
  cases hr : (rdDec (w.take (w.length - 2))).2
  · have e : parseW w = none := by unfold parseW; rw [if_neg (by omega), hr]; rfl
    rw [e] at hd
    subst hK
    have e5 : rdRes (parseL ws []) = ([], false) := by rw [← hd]; rfl
    rw [e5] at hsz ⊢
    simp (disch := omega)
    exact ⟨(g1.trans hg).trans g2, Vo.no_trips, hsz⟩
  have e : parseW w = some ((rdDec (w.take (w.length - 2))).1, kindB (at8 w (w.length - 2)), kindB (at8 w (w.length - 1))) := by unfold parseW; rw [if_neg (by omega), hr]; rfl
  rw [e] at hd
  simp only at hd
  simp (disch := omega) [e4]
  have hB2 := hB.grow g2
  rw [e4] at hB2
  refine append_trip2 (lo := h1.length) (hi := h'.length) (pos_of hp g1) (by omega) hB2 fun v' h3 m1 b1 => ?_
  have lg := g2.le
  have lm := m1.1
  have G3 : Grows h1 h3 := m1.grows (hg.trans g2) (Nat.le_refl _)
  simp (disch := omega) [q2, q3, q5, q6, wrap64]
  exact ⟨k + 1, ⟨by omega, G3, by omega, acc ++ [((rdDec (w.take (w.length - 2))).1, kindB (at8 w (w.length - 2)), kindB (at8 w (w.length - 1)))], by simpa using hal, hax.snoc ⟨rdDec_64 _, kindB_64 _, kindB_64 _⟩, b1.wide (by omega) (Nat.le_refl _), hd⟩, by omega⟩
end Am
/-! AmW5 -/
set_option linter.unusedVariables false
set_option linter.unusedSimpArgs false
set_option maxHeartbeats 4000000
set_option maxRecDepth 4000
namespace Am
open Go

@[simp high] theorem add_str {n : Nat} {a b : List UInt8} (h : a.length + b.length ≤ 4611686018427387904) : aBin .add n (S a) (S b) = some (S (a ++ b)) := by
  simp [h]
def panH (W H : Int) : List UInt8 := decS W ++ [120] ++ decS H ++ [58]
def panT (X : Pan) : List UInt8 := panH X.1 X.2.1 ++ X.2.2.map signB
def sgT (br : List Int) (k : Nat) : List UInt8 := (br.take k).map signB
def panText (X : Pan) : List UInt8 := if okP X then panT X else []
/-! ### journals -/
def deskT (X : Jrn) : List UInt8 := panT X.1 ++ [32] ++ decS X.2.1.length ++ [32] ++ decS X.2.2.length
def deskAns (X : Jrn) : List UInt8 := if okJ X then deskT X else []
end Am
/-! AmJ9 -/
set_option linter.unusedVariables false
set_option linter.unusedSimpArgs false
set_option maxHeartbeats 4000000
set_option maxRecDepth 4000
namespace Am
open Go

/-- JM with its parts named. -/
def JMx (h : Heap) (lo jb : Nat) (X : Jrn) (rest : List Value) (b1 z1 b2 z2 b3 z3 : Nat) : Prop :=
  h[jb]? = some ⟨[I X.1.1, I X.1.2.1, sl b1 0 X.1.2.2.length z1, sl b2 0 X.2.1.length z2, sl b3 0 X.2.2.length z3], true⟩ ∧ lo ≤ jb ∧ 0 < lo ∧ (z1 = 1 ∨ b1 = 0 ∧ X.1.2.2 = []) ∧
  (X.1.2.2 = [] ∨ h[b1]? = some ⟨ints X.1.2.2, true⟩ ∧ lo ≤ b1 ∧ b1 ≠ jb ∧ b1 ≠ b2 ∧ b1 ≠ b3) ∧
  (X.2.1 = [] ∧ b2 = 0 ∨ z2 = 3 ∧ h[b2]? = some ⟨trips X.2.1 ++ rest, true⟩ ∧ lo ≤ b2 ∧ b2 ≠ jb ∧ b2 ≠ b3) ∧
  (X.2.2 = [] ∧ b3 = 0 ∨ z3 = 3 ∧ h[b3]? = some ⟨trips X.2.2, true⟩ ∧ lo ≤ b3 ∧ b3 ≠ jb) ∧ Jwf X
theorem JMx.cells {h : Heap} {lo jb : Nat} {X : Jrn} {rest : List Value} {b1 z1 b2 z2 b3 z3 : Nat} (x : JMx h lo jb X rest b1 z1 b2 z2 b3 z3) :
    cell h jb 2 = some (sl b1 0 X.1.2.2.length z1) ∧ cell h jb 3 = some (sl b2 0 X.2.1.length z2) ∧ cell h jb 4 = some (sl b3 0 X.2.2.length z3) := by
  have := x.1
  simp [cell, this]
theorem Mod.tr {lo : Nat} {a b c : Heap} (x : Mod lo a.length a b) (y : Mod lo b.length b c) : Mod lo a.length a c :=
  ⟨Nat.le_trans x.1 y.1, fun k hk hn => by rw [y.2 k (Nat.lt_of_lt_of_le hk x.1) (by omega), x.2 k hk hn]⟩
end Am
/-! AmJ10 -/
set_option linter.unusedVariables false
set_option linter.unusedSimpArgs false
set_option maxHeartbeats 4000000
set_option maxRecDepth 4000
namespace Am
open Go

/-- All steps fit the branches; there are not many. -/
structure JK (X : Jrn) : Prop where
  p : ∀ t ∈ X.2.1, 0 ≤ t.1 ∧ t.1 < X.1.2.2.length
  f : ∀ t ∈ X.2.2, 0 ≤ t.1 ∧ t.1 < X.1.2.2.length
  n : X.2.1.length + X.2.2.length ≤ 50
theorem runB_keys : ∀ (l : List Trip) (br : List Int), (runB l br).isSome = true → ∀ t ∈ l, 0 ≤ t.1 ∧ t.1 < br.length
  | [], _, _ => by simp
  | s :: l, br, h => by
    unfold runB at h
    by_cases hc : (okStep br.length s && decide (at0 br s.1.toNat = s.2.2)) = true
    · rw [if_pos hc] at h
      have := runB_keys l _ h
      rw [List.length_set] at this
      intro t ht
      rcases List.mem_cons.1 ht with rfl | ht
      · exact (okStep_iff.1 (by simp at hc; exact hc.1)).1
      · exact this t ht
    · rw [if_neg hc] at h; simp at h
theorem runF_keys : ∀ (l : List Trip) (br : List Int), (runF l br).isSome = true → ∀ t ∈ l, 0 ≤ t.1 ∧ t.1 < br.length
  | [], _, _ => by simp
  | s :: l, br, h => by
    unfold runF at h
    by_cases hc : (okStep br.length s && decide (at0 br s.1.toNat = s.2.1)) = true
    · rw [if_pos hc] at h
      have := runF_keys l _ h
      rw [List.length_set] at this
      intro t ht
      rcases List.mem_cons.1 ht with rfl | ht
      · exact (okStep_iff.1 (by simp at hc; exact hc.1)).1
      · exact this t ht
    · rw [if_neg hc] at h; simp at h
theorem JK.of {X : Jrn} (h : okJ X = true) : JK X := by
  unfold okJ at h
  simp only [Bool.and_eq_true, decide_eq_true_eq] at h
  exact ⟨fun t ht => runB_keys _ _ h.2.2.1 t (by simpa using ht), runF_keys _ _ h.2.2.2, h.2.1⟩

def redoJ (X : Jrn) : Jrn := match X.2.2 with
  | [] => X
  | s :: f => ((X.1.1, X.1.2.1, X.1.2.2.set s.1.toNat s.2.2), X.2.1 ++ [s], f)
def redoAns (X : Jrn) : Jrn × Int := if okJ X then (if X.2.2 = [] then (noJ, 6) else (redoJ X, 0)) else (noJ, 1)
end Am
/-! AmJ11 -/
set_option linter.unusedVariables false
set_option linter.unusedSimpArgs false
set_option maxHeartbeats 4000000
set_option maxRecDepth 4000
namespace Am
open Go

/-- As Vo, with cells behind Past. -/
def VoJ (h : Heap) (lo hi : Nat) (v : Value) (X : Jrn) : Prop := ∃ b1 z1 b2 z2 b3 z3 rest,
  v = .agg #[I X.1.1, I X.1.2.1, sl b1 0 X.1.2.2.length z1, sl b2 0 X.2.1.length z2, sl b3 0 X.2.2.length z3] ∧ (z1 = 1 ∨ b1 = 0 ∧ X.1.2.2 = []) ∧
  (X.1.2.2 = [] ∨ h[b1]? = some ⟨ints X.1.2.2, true⟩ ∧ lo ≤ b1 ∧ b1 < hi ∧ b1 ≠ b2 ∧ b1 ≠ b3) ∧
  (X.2.1 = [] ∧ b2 = 0 ∨ z2 = 3 ∧ h[b2]? = some ⟨trips X.2.1 ++ rest, true⟩ ∧ lo ≤ b2 ∧ b2 < hi ∧ b2 ≠ b3) ∧
  (X.2.2 = [] ∧ b3 = 0 ∨ z3 = 3 ∧ h[b3]? = some ⟨trips X.2.2, true⟩ ∧ lo ≤ b3 ∧ b3 < hi) ∧ Jwf X
theorem VoJ.no {h : Heap} {lo hi : Nat} : VoJ h lo hi (.agg #[I 0, I 0, sl 0 0 0 0, sl 0 0 0 0, sl 0 0 0 0]) noJ :=
  ⟨0, 0, 0, 0, 0, 0, [], rfl, .inr ⟨rfl, rfl⟩, .inl rfl, .inl ⟨rfl, rfl⟩, .inl ⟨rfl, rfl⟩, by constructor <;> simp [noJ, I64]⟩
theorem VoJ.mod {h h' : Heap} {lo hi lo' hi' : Nat} {v : Value} {X : Jrn} (x : VoJ h lo hi v X) (m : Mod lo' hi' h h') (hd : hi ≤ lo' ∨ hi' ≤ lo) : VoJ h' lo hi v X := by
  obtain ⟨b1, z1, b2, z2, b3, z3, rest, e, hz1, i1, i2, i3, wf⟩ := x
  exact ⟨b1, z1, b2, z2, b3, z3, rest, e, hz1, i1.imp id fun e => ⟨by rw [m.2 _ (at_lt e.1) (by omega)]; exact e.1, e.2⟩, i2.imp id fun e => ⟨e.1, by rw [m.2 _ (at_lt e.2.1) (by omega)]; exact e.2.1, e.2.2⟩, i3.imp id fun e => ⟨e.1, by rw [m.2 _ (at_lt e.2.1) (by omega)]; exact e.2.1, e.2.2⟩, wf⟩
theorem VoJ.grow {h h' : Heap} {lo hi : Nat} {v : Value} {X : Jrn} (x : VoJ h lo hi v X) (g : Grows h h') : VoJ h' lo hi v X := by
  obtain ⟨b1, z1, b2, z2, b3, z3, rest, e, hz1, i1, i2, i3, wf⟩ := x
  exact ⟨b1, z1, b2, z2, b3, z3, rest, e, hz1, i1.imp id fun e => ⟨by rw [g.look (at_lt e.1)]; exact e.1, e.2⟩, i2.imp id fun e => ⟨e.1, by rw [g.look (at_lt e.2.1)]; exact e.2.1, e.2.2⟩, i3.imp id fun e => ⟨e.1, by rw [g.look (at_lt e.2.1)]; exact e.2.1, e.2.2⟩, wf⟩
theorem VoJ.wide {h : Heap} {lo hi lo' hi' : Nat} {v : Value} {X : Jrn} (x : VoJ h lo hi v X) (h1 : lo' ≤ lo) (h2 : hi ≤ hi') : VoJ h lo' hi' v X := by
  obtain ⟨b1, z1, b2, z2, b3, z3, rest, e, hz1, i1, i2, i3, wf⟩ := x
  exact ⟨b1, z1, b2, z2, b3, z3, rest, e, hz1, i1.imp id fun e => ⟨e.1, by omega, by omega, e.2.2.2⟩, i2.imp id fun e => ⟨e.1, e.2.1, by omega, by omega, e.2.2.2.2⟩, i3.imp id fun e => ⟨e.1, e.2.1, by omega, by omega⟩, wf⟩

theorem VoJ.vr {h : Heap} {lo hi : Nat} {v : Value} {X : Jrn} (x : VoJ h lo hi v X) : Vr h shJournal v X := by
  obtain ⟨⟨W, H, br⟩, p, f⟩ := X
  obtain ⟨b1, z1, b2, z2, b3, z3, rest, rfl, hz1, i1, i2, i3, w1, w2, x1, x2, x3, y1, y2, y3⟩ := x
  simp only at hz1 i1 i2 i3 w1 w2 x1 x2 x3 y1 y2 y3
  refine Vr.of_journal w1 w2 (Vr.of_ints hz1 (by rw [maxLen_eq]; simp only; omega) x1 (i1.imp id fun e => cellsAt_all e.1 (by simp [ints])))
    (Vr.of_trips (i2.elim (fun e => .inr ⟨e.2, e.1⟩) fun e => .inl e.1) (by rw [maxLen_eq]; simp only; omega) x2 (i2.imp (fun e => e.1) fun e => ?_))
    (Vr.of_trips (i3.elim (fun e => .inr ⟨e.2, e.1⟩) fun e => .inl e.1) (by rw [maxLen_eq]; simp only; omega) x3 (i3.imp (fun e => e.1) fun e => cellsAt_all e.2.1 (by rw [trips_len]; omega)))
  rw [cellsAt_of e.2.1 (by simp [trips_len]; omega)]
  simp [trips_len, Nat.mul_comm]

end Am
/-! AmJ12 -/
set_option linter.unusedVariables false
set_option linter.unusedSimpArgs false
set_option maxHeartbeats 4000000
set_option maxRecDepth 4000
namespace Am
open Go

def undoJ (X : Jrn) : Jrn := match X.2.1.reverse with
  | [] => X
  | s :: r => ((X.1.1, X.1.2.1, X.1.2.2.set s.1.toNat s.2.1), r.reverse, s :: X.2.2)
def undoAns (X : Jrn) : Jrn × Int := if okJ X then (if X.2.1 = [] then (noJ, 6) else (undoJ X, 0)) else (noJ, 1)
end Am
/-! AmJ13 -/
set_option linter.unusedVariables false
set_option linter.unusedSimpArgs false
set_option maxHeartbeats 4000000
set_option maxRecDepth 4000
namespace Am
open Go

def undoN : Nat → Jrn → Jrn
  | 0, X => X
  | k + 1, X => undoN k (undoJ X)
def redoN : Nat → Jrn → Jrn
  | 0, X => X
  | k + 1, X => redoN k (redoJ X)
def goJ (X : Jrn) (n : Nat) : Jrn := redoN (n - (undoN (X.2.1.length - n) X).2.1.length) (undoN (X.2.1.length - n) X)
def goAns (X : Jrn) (n : Int) : Jrn × Int := if okJ X then (if inR n 0 (X.2.1.length + X.2.2.length : Nat) then (goJ X n.toNat, 0) else (noJ, 2)) else (noJ, 1)
/-- A journal of ours on the way to its goal. -/
def Way (lo jb n : Nat) (u : Bool) (Z : Jrn) (tot : Nat) (h : Heap) (m : Nat) : Prop := ∃ Y rest, JM h lo jb Y rest ∧ JK Y ∧ Y.2.1.length + Y.2.2.length = tot ∧ m = (if u then Y.2.1.length - n else n - Y.2.1.length) ∧ Z = if u then undoN m Y else redoN m Y

end Am
/-! AmJ14 -/
set_option linter.unusedVariables false
set_option linter.unusedSimpArgs false
set_option maxHeartbeats 4000000
set_option maxRecDepth 4000
namespace Am
open Go

end Am
/-! AmJ15 -/
set_option linter.unusedVariables false
set_option linter.unusedSimpArgs false
set_option maxHeartbeats 4000000
namespace Am
open Go

theorem okP_set {W H : Int} {br : List Int} {k : Nat} {v : Int} (h : okP (W, H, br) = true) (hv : 0 ≤ v ∧ v ≤ 2) : okP (W, H, br.set k v) = true := by
  rw [okP_iff] at h ⊢
  refine ⟨h.w, h.h, by simpa using h.n, fun x hx => ?_⟩
  rcases List.mem_or_eq_of_mem_set hx with hx | rfl
  · exact h.b x hx
  · exact hv
end Am
/-! AmS1 -/
set_option linter.unusedVariables false
set_option linter.unusedSimpArgs false
set_option maxHeartbeats 4000000
set_option maxRecDepth 4000
namespace Am
open Go

/-- A source in a box of our own: its code lies behind it, and it has given at most m bytes. -/
def Src (h : Heap) (b m : Nat) : Prop := ∃ (cb co n z a : Nat) (s : Int), h[b]? = some ⟨[sl cb co n z, I a, .int .u64 s], true⟩ ∧ a ≤ m ∧ 0 ≤ s ∧ s < 18446744073709551616 ∧ (n = 0 ∨ cb < b) ∧ n ≤ 9223372036854775807 ∧ ∀ i, i < n → ∃ x : Nat, cell h cb (co + i) = some (.int .u8 x) ∧ x < 256
theorem Src.mono {h : Heap} {b m m' : Nat} (x : Src h b m) (hm : m ≤ m') : Src h b m' := by
  obtain ⟨cb, co, n, z, a, s, h1, h2, h3⟩ := x
  exact ⟨cb, co, n, z, a, s, h1, by omega, h3⟩
theorem Src.mod {h h' : Heap} {b m lo hi : Nat} (x : Src h b m) (md : Mod lo hi h h') (hb : b < lo) : Src h' b m := by
  obtain ⟨cb, co, n, z, a, s, h1, h2, h3, h4, h5, h6, h7⟩ := x
  have hl := at_lt h1
  refine ⟨cb, co, n, z, a, s, by rw [md.2 b hl (.inl hb)]; exact h1, h2, h3, h4, h5, h6, fun i hi => ?_⟩
  obtain ⟨x, e1, e2⟩ := h7 i hi
  exact ⟨x, by unfold cell at e1 ⊢; rw [md.2 cb (by omega) (.inl (by omega))]; exact e1, e2⟩
theorem Src.grow {h h' : Heap} {b m : Nat} (x : Src h b m) (g : Grows h h') : Src h' b m := by
  obtain ⟨cb, co, n, z, a, s, h1, h2, h3, h4, h5, h6, h7⟩ := x
  have hl := at_lt h1
  refine ⟨cb, co, n, z, a, s, by rw [g.look hl]; exact h1, h2, h3, h4, h5, h6, fun i hi => ?_⟩
  obtain ⟨x, e1, e2⟩ := h7 i hi
  exact ⟨x, g.cell e1, e2⟩
theorem wrap_u64 (n : Int) : 0 ≤ IntKind.u64.wrap n ∧ IntKind.u64.wrap n < 18446744073709551616 := by
  simp only [IntKind.wrap, IntKind.signed, IntKind.bits]
  have h1 := Int.emod_nonneg n (show (2 ^ 64 : Int) ≠ 0 by decide)
  have h2 := Int.emod_lt_of_pos n (show (0 : Int) < 2 ^ 64 by decide)
  simp at *
  omega
theorem wrapUs {n : Int} (h1 : 0 ≤ n) (h2 : n < 18446744073709551616) : IntKind.u64.wrap n = n := wrap_unsigned (M := 18446744073709551616) rfl (by decide) h1 h2
theorem and_255 (a : Int) : ∃ x : Nat, bitsOp .u64 (· &&& ·) a 255 = .int .u64 x ∧ x < 256 := by
  obtain ⟨x, hx⟩ : ∃ x : Nat, x = (BitVec.ofInt 64 a &&& BitVec.ofInt 64 255).toNat := ⟨_, rfl⟩
  have hb : x < 256 := by
    rw [hx, BitVec.toNat_and]
    have : (BitVec.ofInt 64 255).toNat = 255 := by decide
    rw [this]
    have := @Nat.and_le_right (BitVec.ofInt 64 a).toNat 255
    omega
  refine ⟨x, ?_, hb⟩
  show Value.int .u64 (IntKind.u64.wrap ((BitVec.ofInt 64 a &&& BitVec.ofInt 64 255).toNat : Int)) = _
  rw [← hx, wrapUs (by omega) (by omega)]

theorem c5 (h : Heap) (b m : Nat) (hs : Src h b m) (hm : m ≤ 1099511627776) : ACall Gam 5 [pt b 0] h fun r h' => ∃ x : Nat, r = I x ∧ x < 256 ∧ Mod b (b + 1) h h' ∧ h'.length = h.length ∧ Src h' b (m + 1) := by
  obtain ⟨cb, co, n, z, a, s, h1, h2, h3, h4, h5, h6, h7⟩ := hs
  have hl := at_lt h1
  have k0 : cell h b 0 = some (sl cb co n z) := by simp [cell, h1]
  have k1 : cell h b 1 = some (I a) := by simp [cell, h1]
  have k2 : cell h b 2 = some (.int .u64 s) := by simp [cell, h1]
  refine ACall_intro g5 rfl ?_
  unfold fn5
  rw [awp_seq, awp_reg]
  generalize hK : seqQ Gam _ _ 0 = K
  simp (disch := omega)
  subst hK
  simp only [seqQ_zero]
  rw [awp_seq, awp_reg]
  generalize hK : seqQ Gam _ _ 0 = K
  simp (disch := omega)
  subst hK
  simp only [seqQ_zero]
  rw [awp_seq]
  generalize hK : seqQ Gam _ _ = K
  have step : ∀ (σ : Nat → Value) (x : Nat), x < 256 → σ 0 = pt b 0 → σ 3 = I x → K 0 σ h := by
    intro σ x hx q0 q3
    subst hK
    simp only [seqQ_zero]
    rw [awp_seq, awp_reg]
    generalize hK : seqQ Gam _ _ 0 = K
    have s1 := store_one (v := I ((a : Int) + 1)) (o := 1) h1 (by simp)
    obtain ⟨h', eh⟩ : ∃ h', h' = h.set b ⟨[sl cb co n z, I ((a : Int) + 1), .int .u64 s], true⟩ := ⟨_, rfl⟩
    simp only [List.set_cons_succ, List.set_cons_zero, ← eh] at s1
    simp (disch := omega) [q0, k1, s1, wrap64]
    subst hK
    simp only [seqQ_zero]
    have hb' : h'[b]? = some ⟨[sl cb co n z, I ((a : Int) + 1), .int .u64 s], true⟩ := by rw [eh]; simp [hl]
    have k0 : cell h' b 0 = some (sl cb co n z) := by simp [cell, hb']
    have k1 : cell h' b 1 = some (I ((a : Int) + 1)) := by simp [cell, hb']
    have k2 : cell h' b 2 = some (.int .u64 s) := by simp [cell, hb']
    rw [awp_seq, awp_reg]
    generalize hK : seqQ Gam _ _ 0 = K
    simp (disch := omega) [q0, q3, k2]
    obtain ⟨t, ht⟩ : ∃ t, t = IntKind.u64.wrap (IntKind.u64.wrap (IntKind.u64.wrap (s * 6364136223846793005) + IntKind.u64.wrap ↑x) + 1442695040888963407) := ⟨_, rfl⟩
    have tb := wrap_u64 (IntKind.u64.wrap (IntKind.u64.wrap (s * 6364136223846793005) + IntKind.u64.wrap ↑x) + 1442695040888963407)
    rw [← ht] at tb ⊢
    have s2 := store_one (v := .int .u64 t) (o := 2) hb' (by simp)
    obtain ⟨h2', eh2⟩ : ∃ h2', h2' = h'.set b ⟨[sl cb co n z, I ((a : Int) + 1), .int .u64 t], true⟩ := ⟨_, rfl⟩
    simp only [List.set_cons_succ, List.set_cons_zero, ← eh2] at s2
    rw [s2]
    have hb2 : h2'[b]? = some ⟨[sl cb co n z, I ((a : Int) + 1), .int .u64 t], true⟩ := by rw [eh2]; simp [at_lt hb']
    have k0 : cell h2' b 0 = some (sl cb co n z) := by simp [cell, hb2]
    have k1 : cell h2' b 1 = some (I ((a : Int) + 1)) := by simp [cell, hb2]
    have k2 : cell h2' b 2 = some (.int .u64 t) := by simp [cell, hb2]
    have hl2 : h2'.length = h.length := by rw [eh2, eh]; simp
    have ho : ∀ c, c ≠ b → h2'[c]? = h[c]? := fun c hc => by rw [eh2, set_other hc, eh, set_other hc]
    have md : Mod b (b + 1) h h2' := ⟨by omega, fun c hc hn => ho c (by omega)⟩
    have src : Src h2' b (m + 1) := ⟨cb, co, n, z, a + 1, t, by rw [hb2]; rfl, by omega, tb.1, tb.2, h5, h6, fun i hi => by
      obtain ⟨x, e1, e2⟩ := h7 i hi
      exact ⟨x, by unfold cell at e1 ⊢; rw [ho cb (by omega)]; exact e1, e2⟩⟩
    simp (disch := omega)
    subst hK
    simp only [seqQ_zero]
    rw [awp_seq]
    generalize hK : seqQ Gam _ _ = K
    simp (disch := omega) [q0, k0, k1]
    refine fork_dec (fun h3 => ?_) (fun h3 => ?_)
    · subst hK
      simp (disch := omega) [q3]
      exact ⟨x, rfl, hx, md, hl2, src⟩
    · simp (disch := omega)
      subst hK
      simp only [seqQ_zero]
      obtain ⟨y, ey, hy⟩ := and_255 (t.fdiv (2 ^ min 40 IntKind.u64.bits))
      simp (disch := omega) [q0, k2, ey, wrap64]
      exact ⟨y, rfl, hy, md, hl2, src⟩
  simp (disch := omega) [k0, k1]
  refine fork_dec (fun h3 => ?_) (fun h3 => ?_)
  · obtain ⟨x, e1, e2⟩ := h7 a (by omega)
    simp (disch := omega) [k0, k1, e1, h3, wrap64]
    exact step _ x e2 (by simp) (by simp)
  · simp (disch := omega)
    exact step _ 0 (by omega) (by simp) (by simp)
/-- What a draw leaves: a number from 0 to n - 1. -/
theorem c7 (h : Heap) (b m : Nat) (n : Int) (hs : Src h b m) (hm : m ≤ 1000000000) (hn : I64 n) : ACall Gam 7 [pt b 0, I n] h fun r h' => ∃ x : Nat, r = I x ∧ (n ≤ 1 → x = 0) ∧ (1 < n → (x : Int) < n) ∧ Mod b (b + 1) h h' ∧ h'.length = h.length ∧ Src h' b (m + 2) := by
  refine ACall_intro g7 rfl ?_
  unfold fn7
  rw [awp_seq, awp_reg]
  generalize hK : seqQ Gam _ _ 0 = K
  simp (disch := omega)
  subst hK
  simp only [seqQ_zero]
  rw [awp_seq]
  generalize hK : seqQ Gam _ _ = K
  simp (disch := omega)
  refine fork_dec (fun h1 => ?_) (fun h1 => ?_)
  · subst hK
    simp (disch := omega)
    exact ⟨0, rfl, fun _ => rfl, fun h => by omega, Mod.refl _ _ _, hs.mono (by omega)⟩
  simp (disch := omega)
  subst hK
  simp only [seqQ_zero]
  rw [awp_seq, awp_reg]
  generalize hK : seqQ Gam _ _ 0 = K
  simp (disch := omega)
  refine callW_of (c5 h b m hs (by omega)) ?_
  rintro _ h2 ⟨x, rfl, hx, md, hl, hs2⟩
  simp (disch := omega)
  subst hK
  simp only [seqQ_zero]
  rw [awp_seq]
  generalize hK : seqQ Gam _ _ = K
  have fin : ∀ (σ : Nat → Value) (h' : Heap) (y : Nat), σ 1 = I n → σ 5 = I y → y < 100000 → Mod b (b + 1) h h' → h'.length = h.length → Src h' b (m + 2) → K 0 σ h' := by
    intro σ h' y q1 q5 hy md hl hs'
    subst hK
    simp only [seqQ_zero]
    obtain ⟨nn, rfl⟩ := Int.eq_ofNat_of_zero_le (show 0 ≤ n by omega)
    have e : (y : Int).tmod nn = ((y % nn : Nat) : Int) := by rw [tmod_pos (by omega), Int.natCast_emod]
    have hn0 : nn ≠ 0 := by omega
    have lt := Nat.mod_lt y (show 0 < nn by omega)
    obtain ⟨r, hr⟩ : ∃ r, r = y % nn := ⟨_, rfl⟩
    rw [← hr] at e lt
    simp (disch := omega) [q1, q5, e, hn0]
    exact ⟨r, rfl, by omega, by omega, md, hl, hs'⟩
  simp (disch := omega)
  refine fork_dec (fun h3 => ?_) (fun h3 => ?_)
  · simp (disch := omega) [wrap64]
    refine callW_of (c5 h2 b (m + 1) hs2 (by omega)) ?_
    rintro _ h4 ⟨y, rfl, hy, md2, hl2, hs4⟩
    simp (disch := omega) [wrap64]
    exact fin _ h4 (x * 256 + y) (by simp) (by simp) (by omega) (md.trans md2) (by omega) (hs4.mono (by omega))
  · simp (disch := omega)
    exact fin _ h2 x (by simp) (by simp) (by omega) md hl (hs2.mono (by omega))
theorem c6 (h : Heap) (b m : Nat) (n : Int) (hs : Src h b m) (hm : m ≤ 1000000000) (hn : I64 n) : ACall Gam 6 [pt b 0, I n] h fun r h' => ∃ x : Bool, r = B x ∧ Mod b (b + 1) h h' ∧ h'.length = h.length ∧ Src h' b (m + 2) := by
  refine ACall_intro g6 rfl ?_
  unfold fn6
  simp (disch := omega)
  refine callW_of (c7 h b m n hs hm hn) ?_
  rintro _ h2 ⟨x, rfl, _, _, md, hl, hs2⟩
  simp (disch := omega)
  exact ⟨by omega, md, hl, hs2⟩
def shBytes : Shp := .slice (.int .u8)
theorem byte_at {h : Heap} {v : Value} {X : List Int} (hv : Vr h shBytes v X) : ∃ b o z, v = sl b o X.length z ∧ X.length ≤ 9223372036854775807 ∧ ∀ i, i < X.length → ∃ x : Nat, cell h b (o + i) = some (.int .u8 x) ∧ x < 256 := by
  obtain ⟨b, o, z, rfl, hz, hm, hel⟩ := hv.slice
  refine ⟨b, o, z, rfl, by rw [← maxLen_eq]; exact hm, fun i hi => ?_⟩
  obtain ⟨c, hc, ⟨rfl, w⟩⟩ := hel i hi
  have e := (cell_in (i := 0) hc (by simp [Shp.n])).1
  have w' : 0 ≤ X[i] ∧ X[i] < 256 := by
    simp [Lit.wf, IntKind.min, IntKind.max, IntKind.signed, IntKind.bits] at w
    omega
  refine ⟨X[i].toNat, ?_, by omega⟩
  simp only [Shp.n, Nat.mul_one, Nat.add_zero] at e
  rw [e, Int.toNat_of_nonneg w'.1]
  rfl
theorem c431 (h : Heap) (v : Value) (X : List Int) (hv : Vr h shBytes v X) : ACall Gam 431 [v] h fun r h' => r = pt h.length 0 ∧ Grows h h' ∧ h'.length = h.length + 1 ∧ Src h' h.length 0 := by
  obtain ⟨b, o, z, rfl, hm, hel⟩ := byte_at hv
  refine ACall_intro g431 rfl ?_
  unfold fn431
  simp (disch := omega)
  refine ⟨⟨_, rfl⟩, b, o, X.length, z, 0, 0, by simp, by omega, by omega, by omega, ?_, hm, fun i hi => ?_⟩
  · by_cases h0 : X.length = 0
    · exact .inl h0
    · obtain ⟨x, e, _⟩ := hel 0 (by omega)
      right
      unfold cell at e
      cases hk : h[b]? with
      | none => rw [hk] at e; simp at e
      | some k => exact at_lt hk
  · obtain ⟨x, e1, e2⟩ := hel i hi
    exact ⟨x, Grows.cell ⟨_, rfl⟩ e1, e2⟩
end Am
/-! AmS2 -/
set_option linter.unusedVariables false
set_option linter.unusedSimpArgs false
set_option maxHeartbeats 4000000
set_option maxRecDepth 4000
namespace Am
open Go

def IntsAt (h : Heap) (b : Nat) (l : List Int) : Prop := h[b]? = some ⟨ints l, true⟩
theorem c450s (h : Heap) (W H : Int) (hW : 1 ≤ W ∧ W ≤ 8) (hH : 1 ≤ H ∧ H ≤ 8) : ACall Gam 450 [I W, I H] h fun r h' => r = .agg #[I W, I H, sl h.length 0 (inner W H).toNat 1] ∧ h' = h ++ [⟨ints (List.replicate (inner W H).toNat 0), true⟩] := by
  have hi := inner_bd hW hH
  refine ACall_intro g450 rfl ?_
  unfold fn450
  simp (disch := omega)
  refine callW_of (c448 W H hW hH h) ?_
  rintro v' h' ⟨rfl, rfl⟩
  simp (disch := omega) [aMake, maxSize]
  rw [if_pos (by omega)]
  simp (disch := omega) [resOf_box, aField]
  simp [reps, ints]
/-- A valid panel drawn, in memory of its own behind the source; its row is a block of its own. -/
theorem c445s (h : Heap) (b m : Nat) (n : Int) (hs : Src h b m) (hm : m ≤ 100000000) (hn : 1 ≤ n ∧ n ≤ 8) : ACall Gam 445 [pt b 0, I n] h fun r h' => ∃ (P : Pan) (bb : Nat), OkP P ∧ P.1 ≤ n ∧ P.2.1 ≤ n ∧ Mod b (b + 1) h h' ∧ r = .agg #[I P.1, I P.2.1, sl bb 0 P.2.2.length 1] ∧ IntsAt h' bb P.2.2 ∧ h.length ≤ bb ∧ bb < h'.length ∧ Src h' b (m + 1000) := by
  refine ACall_intro g445 rfl ?_
  unfold fn445
  rw [awp_seq, awp_reg]
  generalize hK : seqQ Gam _ _ 0 = K
  simp (disch := omega)
  subst hK
  simp only [seqQ_zero]
  rw [awp_seq, awp_reg]
  generalize hK : seqQ Gam _ _ 0 = K
  simp (disch := omega)
  refine callW_of (c7 h b m n hs (by omega) (by unfold I64; omega)) ?_
  rintro _ h1 ⟨w, rfl, w1, w2, md1, l1, hs1⟩
  simp (disch := omega) [wrap64]
  subst hK
  simp only [seqQ_zero]
  rw [awp_seq, awp_reg]
  generalize hK : seqQ Gam _ _ 0 = K
  simp (disch := omega)
  refine callW_of (c7 h1 b _ n hs1 (by omega) (by unfold I64; omega)) ?_
  rintro _ h2 ⟨v, rfl, v1, v2, md2, l2, hs2⟩
  have hp : 0 < h2.length := by
    obtain ⟨_, _, _, _, _, _, e, _⟩ := hs2
    have := at_lt e; omega
  have hb2 : b < h2.length := by
    obtain ⟨_, _, _, _, _, _, e, _⟩ := hs2
    exact at_lt e
  simp (disch := omega) [wrap64]
  refine callW_of (c450s h2 (1 + w) (1 + v) (by omega) (by omega)) ?_
  rintro _ h3 ⟨rfl, e3⟩
  have g3 : Grows h2 h3 := ⟨_, e3⟩
  have hs3 := hs2.grow g3
  refine ⟨fun e => (by cases e), ?_⟩
  have ok0 := newP_ok (W := 1 + w) (H := 1 + v) (by omega) (by omega)
  have hl0 : (inner (1 + w) (1 + v)).toNat = (List.replicate (inner (1 + w) (1 + v)).toNat (0 : Int)).length := by simp
  rw [hl0]
  obtain ⟨br0, hbr0⟩ : ∃ br0, br0 = List.replicate (inner (1 + w) (1 + v)).toNat (0 : Int) := ⟨_, rfl⟩
  unfold newP at ok0
  rw [← hbr0] at ok0 e3 ⊢
  obtain ⟨b3, hb30⟩ : ∃ b3, b3 = h2.length := ⟨_, rfl⟩
  have hb3 : h3[b3]? = some ⟨ints br0, true⟩ := by rw [e3, hb30]; simp
  rw [← hb30]
  have hn0 := ok_len ok0
  have L3 : h3.length = h2.length + 1 := by rw [e3]; simp
  have MD3 : Mod b (b + 1) h h3 := (md1.trans md2).trans (g3.mod)
  simp (disch := omega)
  subst hK
  simp only [seqQ_zero]
  rw [awp_seq, awp_reg]
  generalize hK : seqQ Gam _ _ 0 = K
  simp (disch := omega)
  refine callW_of (c7 h3 b _ 4 hs3 (by omega) (by unfold I64; omega)) ?_
  rintro _ h4 ⟨some', rfl, _, so2, md4, l4, hs4⟩
  simp (disch := omega)
  subst hK
  simp only [seqQ_zero]
  rw [awp_seq]
  generalize hK : seqQ Gam _ _ = K
  simp (disch := omega)
  have hb4 : h4[b3]? = some ⟨ints br0, true⟩ := by rw [md4.2 b3 (at_lt hb3) (by omega)]; exact hb3
  have hlb : h.length ≤ b3 := by have := md1.1; omega
  refine awp_loop (fun (i : Nat) σ h' => i ≤ br0.length ∧ Mod b (b + 1) h h' ∧ h4.length ≤ h'.length ∧ σ 0 = pt b 0 ∧ σ 4 = .agg #[I 0, I 0, sl 0 0 0 0] ∧ σ 6 = .agg #[I (1 + w), I (1 + v), sl b3 0 br0.length 1] ∧ σ 7 = I some' ∧ σ 8 = I i ∧ Src h' b (m + 6 + 4 * i) ∧ ∃ br : List Int, br.length = br0.length ∧ OkP (1 + w, 1 + v, br) ∧ IntsAt h' b3 br) (fun i => br0.length - i) 0 ?_ ?_
  · refine ⟨by omega, MD3.trans md4, by omega, by simp, by simp, by simp, by simp, by simp, hs4, br0, rfl, ok0, hb4⟩
  · rintro i σ h' ⟨hi, md, hle, q0, q4, q6, q7, q8, hs', br, hbl, okb, hb'⟩
    simp (disch := omega) [q6, q8]
    refine fork_dec (fun hlt => ?_) (fun hge => ?_)
    · have hlt : i < br0.length := by omega
      have hbb : h'[b3]? = some ⟨ints br, true⟩ := hb'
      simp (disch := omega) [q0, q6, q7, q8]
      refine callW_of (c7 h' b _ 4 hs' (by omega) (by unfold I64; omega)) ?_
      rintro _ h5 ⟨x, rfl, _, _, md5, l5, hs5⟩
      have hb5 : h5[b3]? = some ⟨ints br, true⟩ := by
        rw [md5.2 b3 (at_lt hbb) (by omega)]; exact hbb
      simp (disch := omega) [q0, q6, q7, q8]
      refine fork_dec (fun h6 => ?_) (fun h6 => ?_)
      · simp (disch := omega) [q0, q6, q7, q8]
        refine callW_of (c7 h5 b _ 2 hs5 (by omega) (by unfold I64; omega)) ?_
        rintro _ h7 ⟨y, rfl, _, y2, md7, l7, hs7⟩
        have hb7 : h7[b3]? = some ⟨ints br, true⟩ := by
          rw [md7.2 b3 (at_lt hb5) (by omega)]; exact hb5
        have hst := store_int (v := 1 + (y : Int)) hb7 (show i < br.length by omega)
        have hb2' : b < b3 := by omega
        have hil : (i : Int) < br0.length := by omega
        obtain ⟨h8, e8⟩ : ∃ h8, h8 = h7.set b3 ⟨ints (br.set i (1 + (y : Int))), true⟩ := ⟨_, rfl⟩
        rw [← e8] at hst
        have l8 : h8.length = h7.length := by rw [e8]; simp
        have o8 : ∀ c, c ≠ b3 → h8[c]? = h7[c]? := fun c hc => by rw [e8]; exact set_other hc
        have mm := (md.trans md5).trans md7
        have m8 : Mod b (b + 1) h h8 := ⟨by have := mm.1; omega, fun c hc hn => by rw [o8 c (by omega)]; exact mm.2 c hc hn⟩
        have hs8 : Src h8 b (m + 6 + 4 * (i + 1)) := (hs7.mono (by omega)).mod (lo := b3) (hi := b3 + 1) ⟨by omega, fun c hc hn => o8 c (by omega)⟩ (by omega)
        have hb8 : h8[b3]? = some ⟨ints (br.set i (1 + (y : Int))), true⟩ := by rw [e8]; simp [at_lt hb7]
        have ok8 : OkP (1 + w, 1 + v, br.set i (1 + (y : Int))) := okP_iff.1 (okP_set (okP_iff.2 okb) (by omega))
        simp (disch := omega) [q0, q6, q7, q8, wrap64, hlt, hst]
        exact ⟨i + 1, ⟨by omega, m8, by omega, q4, by omega, hs8, br.set i (1 + (y : Int)), by simpa using hbl, ok8, hb8⟩, by omega⟩
      · simp (disch := omega) [q0, q6, q7, q8, wrap64]
        exact ⟨i + 1, ⟨by omega, md.trans md5, by omega, q4, by omega, hs5.mono (by omega), br, hbl, okb, hb5⟩, by omega⟩
    · subst hK
      simp (disch := omega) [q4, q6, resOf, resAll, resOne, aField]
      refine ⟨1 + w, 1 + v, br, okb, by omega, by omega, md, ?_⟩
      first
        | exact ⟨b3, by simp [hbl], hb', hlb, at_lt hb', hs'.mono (by omega)⟩
        | (rw [← hbl]; exact ⟨hb', hlb, at_lt hb', hs'.mono (by omega)⟩)
end Am
/-! AmS3 -/
set_option linter.unusedVariables false
set_option linter.unusedSimpArgs false
set_option maxHeartbeats 4000000
set_option maxRecDepth 4000
namespace Am
open Go

theorem JM.mod {h h' : Heap} {lo jb lo' hi' : Nat} {X : Jrn} {rest : List Value} (x : JM h lo jb X rest) (m : Mod lo' hi' h h') (hd : hi' ≤ lo) : JM h' lo jb X rest := by
  obtain ⟨b1, z1, b2, z2, b3, z3, hjb, hlo, hpos, hz1, i1, i2, i3, wf⟩ := x
  exact ⟨b1, z1, b2, z2, b3, z3, by rw [m.2 _ (at_lt hjb) (by omega)]; exact hjb, hlo, hpos, hz1, i1.imp id fun e => ⟨by rw [m.2 _ (at_lt e.1) (by omega)]; exact e.1, e.2⟩, i2.imp id fun e => ⟨e.1, by rw [m.2 _ (at_lt e.2.1) (by omega)]; exact e.2.1, e.2.2⟩, i3.imp id fun e => ⟨e.1, by rw [m.2 _ (at_lt e.2.1) (by omega)]; exact e.2.1, e.2.2⟩, wf⟩
/-- A journal of ours that is valid. -/
def OwnJ (h : Heap) (lo jb c : Nat) : Prop := ∃ X rest, JM h lo jb X rest ∧ okJ X = true ∧ X.2.1.length + X.2.2.length ≤ c

end Am
/-! AmS4 -/
set_option linter.unusedVariables false
set_option linter.unusedSimpArgs false
set_option maxHeartbeats 4000000
set_option maxRecDepth 4000
namespace Am
open Go

theorem c420 (h : Heap) (v w : Value) (X Y : Pan) (hv : Vr h shPanel v X) (hw : Vr h shPanel w Y) : ACall Gam 420 [v, w] h fun r h' => r = B (samP X Y) ∧ Grows h h' := by
  obtain ⟨W, H, br⟩ := X
  obtain ⟨W2, H2, br2⟩ := Y
  obtain ⟨s, rfl, w1, w2, r1⟩ := hv.panel
  obtain ⟨s', rfl, w3, w4, r2⟩ := hw.panel
  refine ACall_intro g420 rfl ?_
  unfold fn420
  simp (disch := omega)
  obtain ⟨ha, eha⟩ : ∃ ha, ha = h ++ [⟨[I W, I H, s], true⟩] ++ [⟨[I W2, I H2, s'], true⟩] := ⟨_, rfl⟩
  have ga : Grows h ha := ⟨[⟨[I W, I H, s], true⟩, ⟨[I W2, I H2, s'], true⟩], by rw [eha]; simp⟩
  have ka : ha[h.length]? = some ⟨[I W, I H, s], true⟩ := by rw [eha]; simp
  have kb : ha[h.length + 1]? = some ⟨[I W2, I H2, s'], true⟩ := by rw [eha]; simp
  simp only [List.append_assoc, List.cons_append, List.nil_append] at eha
  rw [← eha]
  refine callW_of (c456 ha _ _ _ _ (PtP.at ka (r1.grow ga) w1 w2) (PtP.at kb (r2.grow ga) w3 w4)) ?_
  rintro _ h1 ⟨rfl, rfl⟩
  refine ⟨fun e => (by cases e), ?_⟩
  simp (disch := omega)
  exact ga
end Am
