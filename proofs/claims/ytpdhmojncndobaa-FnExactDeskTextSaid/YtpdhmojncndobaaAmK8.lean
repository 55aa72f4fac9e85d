/- Contracts: AmW3, AmW4, AmW5. -/
import Derived.Test.YtpdhmojncndobaaAmK7
import Derived.Test.YtpdhmojncndobaaAmK6
/-! AmW3 -/
set_option linter.unusedVariables false
set_option linter.unusedSimpArgs false
set_option maxHeartbeats 4000000
set_option maxRecDepth 4000
namespace Am
open Go

def at8 (s : List UInt8) (i : Nat) : UInt8 := s.getD i 0
theorem at8_eq {s : List UInt8} {i : Nat} (h : i < s.length) : s[i] = at8 s i := by simp [at8, h]
theorem at8_of {s : List UInt8} {i : Nat} (h : i < s.length) : s[i]? = some (at8 s i) := by simp [at8, h]
def parseW (w : List UInt8) : Option Trip := if w.length < 3 then none else if (rdDec (w.take (w.length - 2))).2 then some ((rdDec (w.take (w.length - 2))).1, kindB (at8 w (w.length - 2)), kindB (at8 w (w.length - 1))) else none
def parseL : List (List UInt8) → List Trip → Option (List Trip)
  | [], acc => some acc
  | w :: r, acc => match parseW w with
    | none => none
    | some t => parseL r (acc ++ [t])
def AllT (l : List Trip) : Prop := ∀ x ∈ l, T64 x
theorem AllT.snoc {l : List Trip} {t : Trip} (h : AllT l) (ht : T64 t) : AllT (l ++ [t]) := by
  intro x hx
  rcases List.mem_append.1 hx with hx | hx
  · exact h x hx
  · rw [List.mem_singleton.1 hx]; exact ht
def rdRes (o : Option (List Trip)) : List Trip × Bool := match o with
  | none => ([], false)
  | some l => if okD l then (l, true) else ([], false)
def rdAns (s : List UInt8) : List Trip × Bool := if s = [] then ([], true) else rdRes (parseL (splitS 32 s) [])
theorem parseL_len : ∀ {l : List (List UInt8)} {acc r : List Trip}, parseL l acc = some r → r.length = acc.length + l.length
  | [], acc, r, h => by simp only [parseL, Option.some.injEq] at h; subst h; rfl
  | w :: l, acc, r, h => by
    simp only [parseL] at h
    split at h
    · cases h
    · have := parseL_len h
      simp at this ⊢; omega
theorem rd_siz (s : List UInt8) : siz shTrips (rdAns s).1 ≤ 16777216 := by
  rw [siz_trips]
  unfold rdAns
  split
  · simp
  · unfold rdRes
    split
    · simp
    · split
      · rename_i h
        have := (okD_iff.1 h).2
        simp only; omega
      · simp
theorem kindB_64 (c : UInt8) : I64 (kindB c) := by have := kindB_rng c; unfold I64; omega
theorem rdRes_long {l : List (List UInt8)} {acc : List Trip} (h : 112 < acc.length + l.length) : rdRes (parseL l acc) = ([], false) := by
  cases e : parseL l acc with
  | none => rfl
  | some r =>
    have := parseL_len e
    have hn : okD r = false := by
      cases h : okD r
      · rfl
      · have := (okD_iff.1 h).2; omega
    simp [rdRes, hn]

theorem c119 (h : Heap) (hp : 0 < h.length) (s : List UInt8) (hs : s.length ≤ 1048576) :
    ACall Gam 119 [S s] h fun r h' => Grows h h' ∧ ∃ r0, r = .tuple #[r0, B (rdAns s).2] ∧ Vo h' h.length h'.length shTrips r0 (rdAns s).1 ∧ siz shTrips (rdAns s).1 ≤ 16777216 := by
  have hsz := rd_siz s
  refine ACall_intro g119 rfl ?_
  unfold fn119
  rw [awp_seq, awp_reg]
  generalize hK : seqQ Gam _ _ 0 = K
  simp (disch := omega)
  subst hK
  simp only [seqQ_zero]
  rw [awp_seq, awp_reg]
  generalize hK : seqQ Gam _ _ 0 = K
  simp (disch := omega)
  subst hK
  simp only [seqQ_zero]
  rw [awp_seq]
  generalize hK : seqQ Gam _ _ = K
  simp (disch := omega)
  refine fork_dec (fun h0 => ?_) (fun h0 => ?_)
  · have e : rdAns s = ([], true) := by simp [rdAns, h0]
    subst hK
    rw [e] at hsz ⊢
    simp (disch := omega)
    exact ⟨Grows.refl _, Vo.of_trips (X := []) (.inl rfl) (by simp) (by simp) (.inl rfl), hsz⟩
  have eA : rdAns s = rdRes (parseL (splitS 32 s) []) := by simp [rdAns, h0]
  have hwl := splitG_len 32 s []
  have hws := splitG_sum 32 s []
  have eW : splitG 32 [] s = splitS 32 s := rfl
  rw [eW] at hwl hws
  obtain ⟨ws, ews⟩ : ∃ ws, ws = splitS 32 s := ⟨_, rfl⟩
  simp (disch := omega)
  subst hK
  simp only [seqQ_zero]
  rw [eA] at hsz ⊢
  rw [← ews] at hwl hws hsz ⊢
  rw [awp_seq]
  generalize hK : seqQ Gam _ _ = K
  simp (disch := omega)
  refine callW_of (split_ok (.inl rfl) s 32 hs h hp) ?_
  rintro wv h1 ⟨g1, bw⟩
  rw [← ews] at bw
  obtain ⟨wb, wo, wn, rfl, hwn, hwc⟩ := bw.reads
  have hwn' : wn = ws.length := by simpa [texts] using hwn
  subst hwn'
  simp (disch := omega)
  refine awp_loop (fun (k : Nat) σ h' => k ≤ ws.length ∧ Grows h1 h' ∧ σ 2 = sl 0 0 0 0 ∧ σ 3 = B false ∧ σ 15 = sl wb wo ws.length 1 ∧ σ 16 = I ws.length ∧ σ 17 = I k ∧ ∃ acc : List Trip, acc.length = k ∧ k ≤ 112 ∧ AllT acc ∧ Bf h' h1.length h'.length (σ 4) 3 (trips acc) ∧ parseL (ws.drop k) acc = parseL ws []) (fun k => ws.length - k) 0 ?_ ?_
  · exact ⟨by omega, Grows.refl _, by simp, by simp, by simp, by simp, by simp, [], rfl, by omega, (fun x hx => by simp at hx), by simp; exact Bf.nil, by simp⟩
  rintro k σ h' ⟨hk, hg, q2, q3, q15, q16, q17, acc, hal, hkm, hax, hB, hd⟩
  have hlt1 := hg.le
  simp (disch := omega) [q16, q17]
  refine fork_dec (fun hlt => ?_) (fun hge => ?_)
  rotate_left
  · have hkn : k = ws.length := by omega
    subst hkn
    rw [List.drop_length] at hd
    simp only [parseL] at hd
    have hvo := hB.trips (by rw [maxLen_eq]; omega) hax
    have hvo' := hvo
    obtain ⟨ab, az, e4, _⟩ := hvo.trips
    rw [e4] at hvo'
    simp (disch := omega)
    subst hK
    simp only [seqQ_zero]
    simp (disch := omega) [e4]
    refine callW_of (c197 h' _ acc hvo'.vr (by omega)) ?_
    rintro _ h2 ⟨rfl, rfl⟩
    have l1 := g1.le
    cases hok : okD acc
    · have e : rdRes (parseL ws []) = ([], false) := by rw [← hd]; simp [rdRes, hok]
      rw [e] at hsz ⊢
      simp (disch := omega)
      exact ⟨g1.trans hg, Vo.no_trips, hsz⟩
    · have e : rdRes (parseL ws []) = (acc, true) := by rw [← hd]; simp [rdRes, hok]
      rw [e] at hsz ⊢
      simp (disch := omega) [e4]
      exact ⟨g1.trans hg, hvo'.wide l1 (Nat.le_refl _), hsz⟩
  have k1 : k < ws.length := by omega
  rw [List.drop_eq_getElem_cons k1] at hd
  simp only [parseL] at hd
  obtain ⟨w, hw⟩ : ∃ w, w = ws[k] := ⟨_, rfl⟩
  have hwl2 : w.length ≤ s.length := by
    have := hws ws[k] (List.getElem_mem k1)
    rw [← hw] at this; simpa using this
  have hcell : cell h' wb (wo + k) = some (S w) := by
    rw [hw]
    have hwc' : ws.length = 0 ∨ cellsAt h' wb wo (ws.length * 1) = some (texts ws) := hwc.imp id fun e => hg.cellsAt e
    exact texts_cell hwc' hwn k1
  rw [← hw] at hd
  simp (disch := omega) [q15, q17, k1, hcell]
  refine fork_dec (fun h3 => ?_) (fun h3 => ?_)
  · have e : parseW w = none := by unfold parseW; rw [if_pos (by omega)]
    rw [e] at hd
    subst hK
    have e5 : rdRes (parseL ws []) = ([], false) := by rw [← hd]; rfl
    rw [e5] at hsz ⊢
    simp (disch := omega) [h3]
    exact ⟨g1.trans hg, Vo.no_trips, hsz⟩
  have hvo := hB.trips (by rw [maxLen_eq]; omega) hax
  obtain ⟨ab, az, e4, _⟩ := hvo.trips
  simp (disch := omega) [h3, e4]
  refine fork_dec (fun h4 => ?_) (fun h4 => ?_)
  · subst hK
    have hd' : parseL (w :: ws.drop (k + 1)) acc = parseL ws [] := by simp only [parseL]; exact hd
    have e5 : rdRes (parseL ws []) = ([], false) := by rw [← hd']; exact rdRes_long (by simp; omega)
    rw [e5] at hsz ⊢
    simp (disch := omega)
    exact ⟨g1.trans hg, Vo.no_trips, hsz⟩
  have hsl := slice_to (h := h') (s := w) (b := w.length - 2) (by omega)
  have e2 : (w.length : Int) - 2 = ((w.length - 2 : Nat) : Int) := by omega
  have e1 : (w.length : Int) - 1 = ((w.length - 1 : Nat) : Int) := by omega
  simp (disch := omega) [e2, hsl, wrap64]
  refine callW_of (c118 (w.take (w.length - 2)) (by simp; omega) h' (pos_of hp (g1.trans hg))) ?_
  rintro _ h2 ⟨g2, rfl⟩
  cases hr : (rdDec (w.take (w.length - 2))).2
  · have e : parseW w = none := by unfold parseW; rw [if_neg (by omega), hr]; rfl
    rw [e] at hd
    subst hK
    have e5 : rdRes (parseL ws []) = ([], false) := by rw [← hd]; rfl
    rw [e5] at hsz ⊢
    simp (disch := omega)
    exact ⟨(g1.trans hg).trans g2, Vo.no_trips, hsz⟩
  have e : parseW w = some ((rdDec (w.take (w.length - 2))).1, kindB (at8 w (w.length - 2)), kindB (at8 w (w.length - 1))) := by unfold parseW; rw [if_neg (by omega), hr]; rfl
  rw [e] at hd
  simp only at hd
  have x1 : w.length - 2 < w.length := by omega
  have x2 : w.length - 1 < w.length := by omega
  have c1 := at8_eq x1
  have c2 := at8_eq x2
  simp (disch := omega) [e1, e2, c1, c2, x1, x2, wrap64]
  refine callW_of (c174 (at8 w (w.length - 2)) h2) ?_
  rintro _ h2 ⟨rfl, rfl⟩
  simp (disch := omega) [e1, e2, c1, c2, x1, x2, wrap64]
  refine callW_of (c174 (at8 w (w.length - 1)) h2) ?_
  rintro _ h2 ⟨rfl, rfl⟩
  simp (disch := omega) [e4]
  have hB2 := hB.grow g2
  rw [e4] at hB2
  refine append_trip2 (lo := h1.length) (hi := h'.length) (pos_of hp g1) (by omega) hB2 fun v' h3 m1 b1 => ?_
  have lg := g2.le
  have lm := m1.1
  have G3 : Grows h1 h3 := m1.grows (hg.trans g2) (Nat.le_refl _)
  simp (disch := omega) [q2, q3, q15, q16, q17, wrap64]
  exact ⟨k + 1, ⟨by omega, G3, by omega, acc ++ [((rdDec (w.take (w.length - 2))).1, kindB (at8 w (w.length - 2)), kindB (at8 w (w.length - 1)))], by simpa using hal, by omega, hax.snoc ⟨rdDec_64 _, kindB_64 _, kindB_64 _⟩, b1.wide (by omega) (Nat.le_refl _), hd⟩, by omega⟩

theorem parseL_64 : ∀ {l : List (List UInt8)} {acc r : List Trip}, AllT acc → parseL l acc = some r → AllT r
  | [], acc, r, ha, h => by simp only [parseL, Option.some.injEq] at h; subst h; exact ha
  | w :: l, acc, r, ha, h => by
    simp only [parseL] at h
    split at h
    · cases h
    · rename_i t ht
      refine parseL_64 (ha.snoc ?_) h
      unfold parseW at ht
      split at ht
      · cases ht
      · split at ht
        · injection ht with ht
          subst ht
          exact ⟨rdDec_64 _, kindB_64 _, kindB_64 _⟩
        · cases ht
end Am
/-! AmW4 -/
set_option linter.unusedVariables false
set_option linter.unusedSimpArgs false
set_option maxHeartbeats 4000000
set_option maxRecDepth 4000
namespace Am
open Go

theorem c410 (h : Heap) (hp : 0 < h.length) (s : List UInt8) (hs : s.length ≤ 1048576) :
    ACall Gam 410 [S s] h fun r h' => Grows h h' ∧ ∃ r0, r = .tuple #[r0, B (rdAns s).2] ∧ Vo h' h.length h'.length shTrips r0 (rdAns s).1 ∧ siz shTrips (rdAns s).1 ≤ 16777216 := by
  have hsz := rd_siz s
  refine ACall_intro g410 rfl ?_
  unfold fn410
  rw [awp_seq, awp_reg]
  generalize hK : seqQ Gam _ _ 0 = K
  simp (disch := omega)
  subst hK
  simp only [seqQ_zero]
  rw [awp_seq, awp_reg]
  generalize hK : seqQ Gam _ _ 0 = K
  simp (disch := omega)
  subst hK
  simp only [seqQ_zero]
  rw [awp_seq]
  generalize hK : seqQ Gam _ _ = K
  simp (disch := omega)
  refine fork_dec (fun h0 => ?_) (fun h0 => ?_)
  · have e : rdAns s = ([], true) := by simp [rdAns, h0]
    subst hK
    rw [e] at hsz ⊢
    simp (disch := omega)
    exact ⟨Grows.refl _, Vo.of_trips (X := []) (.inl rfl) (by simp) (by simp) (.inl rfl), hsz⟩
  have eA : rdAns s = rdRes (parseL (splitS 32 s) []) := by simp [rdAns, h0]
  have hwl := splitG_len 32 s []
  have hws := splitG_sum 32 s []
  have eW : splitG 32 [] s = splitS 32 s := rfl
  rw [eW] at hwl hws
  obtain ⟨ws, ews⟩ : ∃ ws, ws = splitS 32 s := ⟨_, rfl⟩
  simp (disch := omega)
  subst hK
  simp only [seqQ_zero]
  rw [eA] at hsz ⊢
  rw [← ews] at hwl hws hsz ⊢
  rw [awp_seq, awp_reg]
  generalize hK : seqQ Gam _ _ 0 = K
  simp (disch := omega)
  refine callW_of (split_ok (.inr rfl) s 32 hs h hp) ?_
  rintro wv h1 ⟨g1, bw⟩
  rw [← ews] at bw
  obtain ⟨wb, wo, wn, rfl, hwn, hwc⟩ := bw.reads
  have hwn' : wn = ws.length := by simpa [texts] using hwn
  subst hwn'
  simp (disch := omega)
  subst hK
  simp only [seqQ_zero]
  rw [awp_seq]
  generalize hK : seqQ Gam _ _ = K
  simp (disch := omega)
  refine awp_loop (fun (k : Nat) σ h' => k ≤ ws.length ∧ Grows h1 h' ∧ σ 2 = sl 0 0 0 0 ∧ σ 3 = B false ∧ σ 5 = sl wb wo ws.length 1 ∧ σ 6 = I k ∧ ∃ acc : List Trip, acc.length = k ∧ AllT acc ∧ Bf h' h1.length h'.length (σ 4) 3 (trips acc) ∧ parseL (ws.drop k) acc = parseL ws []) (fun k => ws.length - k) 0 ?_ ?_
  · exact ⟨by omega, Grows.refl _, by simp, by simp, by simp, by simp, [], rfl, (fun x hx => by simp at hx), by simp; exact Bf.nil, by simp⟩
  rintro k σ h' ⟨hk, hg, q2, q3, q5, q6, acc, hal, hax, hB, hd⟩
  have hlt1 := hg.le
  simp (disch := omega) [q5, q6]
  refine fork_dec (fun hlt => ?_) (fun hge => ?_)
  rotate_left
  · have hkn : k = ws.length := by omega
    subst hkn
    rw [List.drop_length] at hd
    simp only [parseL] at hd
    have hvo := hB.trips (by rw [maxLen_eq]; omega) hax
    have hvo' := hvo
    obtain ⟨ab, az, e4, _⟩ := hvo.trips
    rw [e4] at hvo'
    simp (disch := omega)
    subst hK
    simp only [seqQ_zero]
    simp (disch := omega) [e4]
    refine callW_of (c550 h' _ acc hvo'.vr (by omega)) ?_
    rintro _ h2 ⟨rfl, rfl⟩
    have l1 := g1.le
    cases hok : okD acc
    · have e : rdRes (parseL ws []) = ([], false) := by rw [← hd]; simp [rdRes, hok]
      rw [e] at hsz ⊢
      simp (disch := omega)
      exact ⟨g1.trans hg, Vo.no_trips, hsz⟩
    · have e : rdRes (parseL ws []) = (acc, true) := by rw [← hd]; simp [rdRes, hok]
      rw [e] at hsz ⊢
      simp (disch := omega) [e4]
      exact ⟨g1.trans hg, hvo'.wide l1 (Nat.le_refl _), hsz⟩
  have k1 : k < ws.length := by omega
  rw [List.drop_eq_getElem_cons k1] at hd
  simp only [parseL] at hd
  obtain ⟨w, hw⟩ : ∃ w, w = ws[k] := ⟨_, rfl⟩
  have hwl2 : w.length ≤ s.length := by
    have := hws ws[k] (List.getElem_mem k1)
    rw [← hw] at this; simpa using this
  have hcell : cell h' wb (wo + k) = some (S w) := by
    rw [hw]
    have hwc' : ws.length = 0 ∨ cellsAt h' wb wo (ws.length * 1) = some (texts ws) := hwc.imp id fun e => hg.cellsAt e
    exact texts_cell hwc' hwn k1
  rw [← hw] at hd
  simp (disch := omega) [q5, q6, k1, hcell]
  refine fork_dec (fun h3 => ?_) (fun h3 => ?_)
  · have e : parseW w = none := by unfold parseW; rw [if_pos (by omega)]
    rw [e] at hd
    subst hK
    have e5 : rdRes (parseL ws []) = ([], false) := by rw [← hd]; rfl
    rw [e5] at hsz ⊢
    simp (disch := omega) [h3]
    exact ⟨g1.trans hg, Vo.no_trips, hsz⟩
  have hvo := hB.trips (by rw [maxLen_eq]; omega) hax
  obtain ⟨ab, az, e4, _⟩ := hvo.trips
  have hsl := slice_to (h := h') (s := w) (b := w.length - 2) (by omega)
  have e2 : (w.length : Int) - 2 = ((w.length - 2 : Nat) : Int) := by omega
  have e1 : (w.length : Int) - 1 = ((w.length - 1 : Nat) : Int) := by omega
  simp (maxSteps := 1000000) (disch := omega) [q5, q6, k1, hcell, e2, hsl, wrap64]
  refine callW_of (c439 (w.take (w.length - 2)) (by simp; omega) h' (pos_of hp (g1.trans hg))) ?_
  rintro _ h2 ⟨g2, rfl⟩
  have hcell2 := g2.cell hcell
  have x1 : w.length - 2 < w.length := by omega
  have x2 : w.length - 1 < w.length := by omega
  have c1 := at8_eq x1
  have c2 := at8_eq x2
  simp (disch := omega) [q5, q6, k1, hcell2, e1, e2, c1, c2, x1, x2, wrap64]
  refine callW_of (c467 (at8 w (w.length - 2)) h2) ?_
  rintro _ h2 ⟨rfl, rfl⟩
  refine ⟨fun _ => Grows.refl _, ?_⟩
  simp (disch := omega) [q5, q6, k1, hcell2, e1, e2, c1, c2, x1, x2, wrap64]
  refine callW_of (c467 (at8 w (w.length - 1)) h2) ?_
  rintro _ h2 ⟨rfl, rfl⟩
  simp (disch := omega)
  cases hr : (rdDec (w.take (w.length - 2))).2
  · have e : parseW w = none := by unfold parseW; rw [if_neg (by omega), hr]; rfl
    rw [e] at hd
    subst hK
    have e5 : rdRes (parseL ws []) = ([], false) := by rw [← hd]; rfl
    rw [e5] at hsz ⊢
    simp (disch := omega)
    exact ⟨(g1.trans hg).trans g2, Vo.no_trips, hsz⟩
  have e : parseW w = some ((rdDec (w.take (w.length - 2))).1, kindB (at8 w (w.length - 2)), kindB (at8 w (w.length - 1))) := by unfold parseW; rw [if_neg (by omega), hr]; rfl
  rw [e] at hd
  simp only at hd
  simp (disch := omega) [e4]
  have hB2 := hB.grow g2
  rw [e4] at hB2
  refine append_trip2 (lo := h1.length) (hi := h'.length) (pos_of hp g1) (by omega) hB2 fun v' h3 m1 b1 => ?_
  have lg := g2.le
  have lm := m1.1
  have G3 : Grows h1 h3 := m1.grows (hg.trans g2) (Nat.le_refl _)
  simp (disch := omega) [q2, q3, q5, q6, wrap64]
  exact ⟨k + 1, ⟨by omega, G3, by omega, acc ++ [((rdDec (w.take (w.length - 2))).1, kindB (at8 w (w.length - 2)), kindB (at8 w (w.length - 1)))], by simpa using hal, hax.snoc ⟨rdDec_64 _, kindB_64 _, kindB_64 _⟩, b1.wide (by omega) (Nat.le_refl _), hd⟩, by omega⟩
end Am
/-! AmW5 -/
set_option linter.unusedVariables false
set_option linter.unusedSimpArgs false
set_option maxHeartbeats 4000000
set_option maxRecDepth 4000
namespace Am
open Go

@[simp high] theorem add_str {n : Nat} {a b : List UInt8} (h : a.length + b.length ≤ 4611686018427387904) : aBin .add n (S a) (S b) = some (S (a ++ b)) := by
  simp [h]
def panH (W H : Int) : List UInt8 := decS W ++ [120] ++ decS H ++ [58]
def panT (X : Pan) : List UInt8 := panH X.1 X.2.1 ++ X.2.2.map signB
def sgT (br : List Int) (k : Nat) : List UInt8 := (br.take k).map signB
theorem sgT_zero (br : List Int) : sgT br 0 = [] := rfl
theorem sgT_succ {br : List Int} {k : Nat} (h : k < br.length) : sgT br (k + 1) = sgT br k ++ [signB br[k]] := by unfold sgT; rw [List.take_succ_eq_append_getElem h, List.map_append]; rfl
theorem sgT_len (br : List Int) (k : Nat) : (sgT br k).length ≤ br.length := by simp [sgT]; omega
theorem sgT_all (br : List Int) : sgT br br.length = br.map signB := by simp [sgT]
def panText (X : Pan) : List UInt8 := if okP X then panT X else []
theorem panH_len {W H : Int} (w1 : I64 W) (w2 : I64 H) : (panH W H).length ≤ 42 ∧ panH W H ≠ [] := by
  have h1 := decS_len w1
  have h2 := decS_len w2
  refine ⟨by simp [panH]; omega, by simp [panH]⟩
theorem panT_len {X : Pan} (w1 : I64 X.1) (w2 : I64 X.2.1) : (panT X).length ≤ 42 + X.2.2.length := by
  have := panH_len w1 w2
  simp [panT]; omega

theorem c182 (h : Heap) (hp : 0 < h.length) (v : Value) (W H : Int) (br : List Int) (hv : Vr h shPanel v (W, H, br)) (hb : ∀ x ∈ br, 0 ≤ x ∧ x ≤ 2) (hl : br.length ≤ 1048576) : ACall Gam 182 [v] h fun r h' => Grows h h' ∧ r = S (panT (W, H, br)) := by
  obtain ⟨s, rfl, w1, w2, r1⟩ := hv.panel
  obtain ⟨b0, o0, z0, rfl, _, hm0, hx0, hc0⟩ := r1.ints
  have l1 := decS_len w1
  have l2 := decS_len w2
  have lh := panH_len w1 w2
  refine ACall_intro g182 rfl ?_
  unfold fn182
  rw [awp_seq, awp_reg]
  generalize hK : seqQ Gam _ _ 0 = K
  simp (disch := omega)
  subst hK
  simp only [seqQ_zero]
  rw [awp_seq, awp_reg]
  generalize hK : seqQ Gam _ _ 0 = K
  simp (disch := omega)
  refine callW_of (c75 W w1 h hp) ?_
  rintro _ h1 ⟨rfl, g1⟩
  simp (disch := (first | omega | (simp only [List.length_append, List.length_cons, List.length_nil]; omega)))
  refine callW_of (c75 H w2 h1 (pos_of hp g1)) ?_
  rintro _ h2 ⟨rfl, g2⟩
  have G2 := g1.trans g2
  simp (disch := (first | omega | (simp only [List.length_append, List.length_cons, List.length_nil]; omega)))
  subst hK
  simp only [seqQ_zero]
  have eH : decS W ++ 120 :: (decS H ++ [58]) = panH W H := by simp [panH]
  try rw [eH]
  simp (disch := omega)
  refine awp_loop (fun (k : Nat) σ h' => k ≤ br.length ∧ h' = h2 ∧ σ 3 = S (panH W H ++ sgT br k) ∧ σ 16 = sl b0 o0 br.length z0 ∧ σ 17 = I br.length ∧ σ 18 = I k) (fun k => br.length - k) 0 ?_ ?_
  · exact ⟨by omega, rfl, by simp [panH, sgT_zero], by simp, by simp, by simp⟩
  rintro k σ h' ⟨hk, rfl, q3, q16, q17, q18⟩
  simp (disch := omega) [q17, q18]
  refine fork_dec (fun hlt => ?_) (fun hge => ?_)
  · have k1 : k < br.length := by omega
    have cb := ints_cell (hc0.imp id (grows_cellsAt G2)) k1
    have hr := hb _ (List.getElem_mem k1)
    have hms := mark_slice (h := h') (a := br[k]) (inR_iff.2 hr)
    have hlen := sgT_len br k
    have e1 : IntKind.i64.wrap (br[k] + 1) = br[k] + 1 := wrap64 (by omega) (by omega)
    simp (disch := (first | omega | (simp only [List.length_append, List.length_cons, List.length_nil]; omega))) [q3, q16, q17, q18, k1, cb, e1, hms, wrap64]
    exact ⟨k + 1, ⟨by omega, by rw [sgT_succ k1], by omega⟩, by omega⟩
  · have hkn : k = br.length := by omega
    subst hkn
    rw [sgT_all] at q3
    simp (disch := omega) [q3]
    exact ⟨G2, rfl⟩

theorem c472 (h : Heap) (hp : 0 < h.length) (v : Value) (W H : Int) (br : List Int) (hv : PtP h v (W, H, br)) (hl : br.length ≤ 1000000) : ACall Gam 472 [v] h fun r h' => Grows h h' ∧ r = S (panT (W, H, br)) := by
  obtain ⟨b, o, s, rfl, k0, k1, k2, r1, w1, w2⟩ := hv
  simp only at k0 k1 k2 r1 w1 w2
  obtain ⟨b0, o0, z0, rfl, _, hm0, hx0, hc0⟩ := r1.ints
  have l1 := decS_len w1
  have l2 := decS_len w2
  have lh := panH_len w1 w2
  refine ACall_intro g472 rfl ?_
  unfold fn472
  rw [awp_seq, awp_reg]
  generalize hK : seqQ Gam _ _ 0 = K
  simp (disch := omega)
  subst hK
  simp only [seqQ_zero]
  rw [awp_seq, awp_reg]
  generalize hK : seqQ Gam _ _ 0 = K
  simp (disch := omega) [k0]
  refine callW_of (c437 W w1 h hp) ?_
  rintro _ h1 ⟨rfl, g1⟩
  refine ⟨fun _ => g1, ?_⟩
  have k1' := g1.cell k1
  simp (disch := (first | omega | (simp only [List.length_append, List.length_cons, List.length_nil]; omega))) [k1']
  refine callW_of (c437 H w2 h1 (pos_of hp g1)) ?_
  rintro _ h2 ⟨rfl, g2⟩
  have G2 := g1.trans g2
  have eH : decS W ++ 120 :: (decS H ++ [58]) = panH W H := by simp [panH]
  have hcv := aConv_str (h := h2) (l := panH W H) (by simp [maxSize]; omega)
  simp (disch := (first | omega | (simp only [List.length_append, List.length_cons, List.length_nil]; omega)))
  try rw [eH]
  simp (disch := omega) [hcv]
  subst hK
  simp only [seqQ_zero]
  simp (disch := omega)
  obtain ⟨h3, e3⟩ : ∃ h3, h3 = h2 ++ [⟨bytesV (panH W H), true⟩] := ⟨_, rfl⟩
  have e3' : h2 ++ [⟨List.map (fun b : UInt8 => U b.toNat) (panH W H), true⟩] = h3 := by rw [e3]; rfl
  try rw [e3']
  have g3 : Grows h2 h3 := ⟨_, e3⟩
  have G3 := G2.trans g3
  have L2 := G2.le
  refine awp_loop (fun (k : Nat) σ h' => k ≤ br.length ∧ Grows h h' ∧ σ 0 = pt b o ∧ Buf h h' (σ 3) 1 (bytesV (panH W H ++ sgT br k)) ∧ σ 4 = I k) (fun k => br.length - k) 0 ?_ ?_
  · refine ⟨by omega, G3, by simp, ?_, by simp⟩
    rw [sgT_zero]
    simp
    exact .inr ⟨h2.length, (panH W H).length, by simp, by simp [bytesV], L2, by rw [e3]; simp⟩
  rintro k σ h' ⟨hk, hg, q0, hB, q4⟩
  have k2' := hg.cell k2
  simp (disch := omega) [q0, q4, k2']
  refine fork_dec (fun hlt => ?_) (fun hge => ?_)
  · have kl : k < br.length := by omega
    have cb := ints_cell (hc0.imp id (grows_cellsAt hg)) kl
    simp (disch := omega) [q0, q4, k2', kl, cb]
    refine callW_of (c470 _ _) ?_
    rintro _ h4 ⟨rfl, rfl⟩
    simp (disch := omega)
    have hlen := sgT_len br k
    refine append_bytes hp (by simp; omega) hg hB (xs := [signB br[k]]) (n := 1) (by simp) rfl (by simp [aBuildSlice, bytesV]) fun v4 h4 g4 b4 => ?_
    simp (disch := omega) [q0, q4, wrap64]
    refine ⟨k + 1, ⟨by omega, g4, ?_, by omega⟩, by omega⟩
    rw [sgT_succ kl]
    simpa using b4
  · have hkn : k = br.length := by omega
    subst hkn
    rw [sgT_all] at hB
    simp (disch := omega) [text_buf hB]
    exact ⟨hg, rfl⟩

theorem c402 (h : Heap) (hp : 0 < h.length) (v : Value) (X : Pan) (hv : Vr h shPanel v X) : ACall Gam 402 [v] h fun r h' => Grows h h' ∧ r = S (panText X) := by
  obtain ⟨W, H, br⟩ := X
  obtain ⟨s, rfl, w1, w2, r1⟩ := hv.panel
  refine ACall_intro g402 rfl ?_
  unfold fn402
  simp (disch := omega)
  obtain ⟨ha, eha⟩ : ∃ ha, ha = h ++ [⟨[I W, I H, s], true⟩] := ⟨_, rfl⟩
  rw [← eha]
  have ga : Grows h ha := ⟨_, eha⟩
  have ka : ha[h.length]? = some ⟨[I W, I H, s], true⟩ := by rw [eha]; simp
  have hpt : PtP ha (pt h.length 0) (W, H, br) := PtP.at ka (r1.grow ga) w1 w2
  refine callW_of (c452 _ _ ha hpt) ?_
  rintro _ h1 ⟨rfl, rfl⟩
  cases q : okP (W, H, br)
  · simp (disch := omega) [panText, q]
    exact ga
  · have ok := okP_iff.1 q
    have := ok_len ok
    simp (disch := omega)
    refine callW_of (c472 h1 (pos_of hp ga) _ W H br hpt (by omega)) ?_
    rintro _ h2 ⟨g2, rfl⟩
    simp (disch := omega) [panText, q]
    exact ga.trans g2

/-! ### journals -/
def deskT (X : Jrn) : List UInt8 := panT X.1 ++ [32] ++ decS X.2.1.length ++ [32] ++ decS X.2.2.length
def deskAns (X : Jrn) : List UInt8 := if okJ X then deskT X else []
theorem len_64 {n : Nat} (h : n ≤ 1048576) : I64 (n : Int) := by unfold I64; omega

theorem c157 (h : Heap) (hp : 0 < h.length) (v0 : Value) (W H : Int) (br : List Int) (p f : List Trip) (hv0 : Vr h shJournal v0 ((W, H, br), p, f)) (hb : ∀ x ∈ br, 0 ≤ x ∧ x ≤ 2) (hl : br.length ≤ 1048576) (lp : p.length ≤ 1048576) (lf : f.length ≤ 1048576) :
    ACall Gam 157 [v0] h fun r h' => Grows h h' ∧ r = S (deskT ((W, H, br), p, f)) := by
  obtain ⟨s, sp, sf, rfl, w1, w2, r1, r2, r3⟩ := hv0.journal
  obtain ⟨pb, po, pz, rfl, _⟩ := r2.trips
  obtain ⟨fb, fo, fz, rfl, _⟩ := r3.trips
  have rp : Vr h shPanel (.agg #[I W, I H, s]) (W, H, br) := Vr.of_panel w1 w2 r1
  have lt := panT_len (X := (W, H, br)) w1 w2
  simp only at lt
  have d1 := decS_len (len_64 lp)
  have d2 := decS_len (len_64 lf)
  refine ACall_intro g157 rfl ?_
  unfold fn157
  simp (disch := omega)
  refine callW_of (c182 h hp _ W H br rp hb hl) ?_
  rintro _ h1 ⟨g1, rfl⟩
  simp (disch := (first | omega | (simp only [List.length_append, List.length_cons, List.length_nil]; omega)))
  refine callW_of (c75 _ (len_64 lp) h1 (pos_of hp g1)) ?_
  rintro _ h2 ⟨rfl, g2⟩
  have G2 := g1.trans g2
  simp (disch := (first | omega | (simp only [List.length_append, List.length_cons, List.length_nil]; omega)))
  refine callW_of (c75 _ (len_64 lf) h2 (pos_of hp G2)) ?_
  rintro _ h3 ⟨rfl, g3⟩
  simp (disch := (first | omega | (simp only [List.length_append, List.length_cons, List.length_nil]; omega))) [deskT]
  exact G2.trans g3

theorem c580 (h : Heap) (hp : 0 < h.length) (v0 : Value) (W H : Int) (br : List Int) (p f : List Trip) (hv0 : PtJ h v0 ((W, H, br), p, f)) (hok : okP (W, H, br) = true) (lp : p.length ≤ 1048576) (lf : f.length ≤ 1048576) :
    ACall Gam 580 [v0] h fun r h' => Grows h h' ∧ r = S (deskT ((W, H, br), p, f)) := by
  obtain ⟨jb, jo, s, sp, sf, rfl, hc, r1, r2, r3, w1, w2⟩ := hv0
  simp only at hc r1 r2 r3 w1 w2
  obtain ⟨pb, po, pz, rfl, _⟩ := r2.trips
  obtain ⟨fb, fo, fz, rfl, _⟩ := r3.trips
  have k3 : cell h jb (jo + 3) = _ := (cell_in (i := 3) hc (by omega)).1
  have k4 : cell h jb (jo + 4) = _ := (cell_in (i := 4) hc (by omega)).1
  simp at k3 k4
  have kw : cellsAt h jb jo 3 = some [I W, I H, s] := by
    have := cellsAt_in (i := 0) (m := 3) hc (by omega)
    simpa using this
  have rp : Vr h shPanel (.agg #[I W, I H, s]) (W, H, br) := Vr.of_panel w1 w2 r1
  have ok := okP_iff.1 hok
  have hbl := ok_len ok
  have lt := panT_len (X := (W, H, br)) w1 w2
  simp only at lt
  have eT : panText (W, H, br) = panT (W, H, br) := by simp [panText, hok]
  have d1 := decS_len (len_64 lp)
  have d2 := decS_len (len_64 lf)
  refine ACall_intro g580 rfl ?_
  unfold fn580
  simp (disch := omega) [kw]
  refine callW_of (c402 h hp _ (W, H, br) rp) ?_
  rintro _ h1 ⟨g1, rfl⟩
  rw [eT]
  refine ⟨fun _ => g1, ?_⟩
  have k3' := g1.cell k3
  simp (disch := (first | omega | (simp only [List.length_append, List.length_cons, List.length_nil]; omega))) [k3']
  refine callW_of (c437 _ (len_64 lp) h1 (pos_of hp g1)) ?_
  rintro _ h2 ⟨rfl, g2⟩
  have G2 := g1.trans g2
  refine ⟨fun _ => g2, ?_⟩
  have k4' := G2.cell k4
  simp (disch := (first | omega | (simp only [List.length_append, List.length_cons, List.length_nil]; omega))) [k4']
  refine callW_of (c437 _ (len_64 lf) h2 (pos_of hp G2)) ?_
  rintro _ h3 ⟨rfl, g3⟩
  simp (disch := (first | omega | (simp only [List.length_append, List.length_cons, List.length_nil]; omega))) [deskT]
  exact G2.trans g3

theorem c77 (h : Heap) (hp : 0 < h.length) (v0 : Value) (X0 : Jrn) (hv0 : Vr h shJournal v0 X0) (hs0 : siz shJournal X0 ≤ 1048576) :
    ACall Gam 77 [v0] h fun r h' => Grows h h' ∧ r = S (deskAns X0) := by
  obtain ⟨⟨W, H, br⟩, p, f⟩ := X0
  have hv0' := hv0
  obtain ⟨s, sp, sf, rfl, w1, w2, r1, r2, r3⟩ := hv0.journal
  refine ACall_intro g77 rfl ?_
  unfold fn77
  simp (disch := omega)
  refine callW_of (c138 h hp _ _ hv0' hs0) ?_
  rintro _ h1 ⟨g1, rfl⟩
  cases q : okJ ((W, H, br), p, f)
  · simp (disch := omega) [deskAns, q]
    exact g1
  obtain ⟨ok, hle, _⟩ := okJ_parts q
  have hbl := ok_len ok
  simp (disch := omega)
  refine callW_of (c157 h1 (pos_of hp g1) _ W H br p f (hv0'.grow g1) ok.b (by omega) (by omega) (by omega)) ?_
  rintro _ h2 ⟨g2, rfl⟩
  simp (disch := omega) [deskAns, q]
  exact g1.trans g2

theorem c344 (h : Heap) (hp : 0 < h.length) (v0 : Value) (X0 : Jrn) (hv0 : Vr h shJournal v0 X0) (hs0 : siz shJournal X0 ≤ 1048576) :
    ACall Gam 344 [v0] h fun r h' => Grows h h' ∧ r = S (deskAns X0) := by
  obtain ⟨⟨W, H, br⟩, p, f⟩ := X0
  obtain ⟨s, sp, sf, rfl, w1, w2, r1, r2, r3⟩ := hv0.journal
  refine ACall_intro g344 rfl ?_
  unfold fn344
  simp (disch := omega)
  obtain ⟨ha, eha⟩ : ∃ ha, ha = h ++ [⟨[I W, I H, s, sp, sf], true⟩] := ⟨_, rfl⟩
  rw [← eha]
  have ga : Grows h ha := ⟨_, eha⟩
  have ka : ha[h.length]? = some ⟨[I W, I H, s, sp, sf], true⟩ := by rw [eha]; simp
  have hj := PtJ.of ka (r1.grow ga) (r2.grow ga) (r3.grow ga) w1 w2
  refine callW_of (c558 ha (pos_of hp ga) _ _ hj hs0) ?_
  rintro _ h1 ⟨g1, rfl⟩
  have g1 := g1
  have G1 := ga.trans g1
  cases q : okJ ((W, H, br), p, f)
  · simp (disch := omega) [deskAns, q]
    exact G1
  obtain ⟨ok, hle, _⟩ := okJ_parts q
  have hbl := ok_len ok
  simp (disch := omega)
  refine callW_of (c580 h1 (pos_of hp G1) _ W H br p f (hj.grow g1) (okP_iff.2 ok) (by omega) (by omega)) ?_
  rintro _ h2 ⟨g2, rfl⟩
  simp (disch := omega) [deskAns, q]
  exact G1.trans g2
end Am
