/- Contracts: AmW3, AmW4. -/
import Derived.Test.YtpdhmojncndobaaAmK7
import Derived.Test.YtpdhmojncndobaaAmK6
/-! AmW3 -/
set_option linter.unusedVariables false
set_option linter.unusedSimpArgs false
set_option maxHeartbeats 4000000
set_option maxRecDepth 4000
namespace Am
open Go

def at8 (s : List UInt8) (i : Nat) : UInt8 := s.getD i 0
theorem at8_eq {s : List UInt8} {i : Nat} (h : i < s.length) : s[i] = at8 s i := by simp [at8, h]
theorem at8_of {s : List UInt8} {i : Nat} (h : i < s.length) : s[i]? = some (at8 s i) := by simp [at8, h]
def parseW (w : List UInt8) : Option Trip := if w.length < 3 then none else if (rdDec (w.take (w.length - 2))).2 then some ((rdDec (w.take (w.length - 2))).1, kindB (at8 w (w.length - 2)), kindB (at8 w (w.length - 1))) else none
def parseL : List (List UInt8) → List Trip → Option (List Trip)
  | [], acc => some acc
  | w :: r, acc => match parseW w with
    | none => none
    | some t => parseL r (acc ++ [t])
def AllT (l : List Trip) : Prop := ∀ x ∈ l, T64 x
theorem AllT.snoc {l : List Trip} {t : Trip} (h : AllT l) (ht : T64 t) : AllT (l ++ [t]) := by
  intro x hx
  rcases List.mem_append.1 hx with hx | hx
  · exact h x hx
  · rw [List.mem_singleton.1 hx]; exact ht
def rdRes (o : Option (List Trip)) : List Trip × Bool := match o with
  | none => ([], false)
  | some l => if okD l then (l, true) else ([], false)
def rdAns (s : List UInt8) : List Trip × Bool := if s = [] then ([], true) else rdRes (parseL (splitS 32 s) [])
theorem parseL_len : ∀ {l : List (List UInt8)} {acc r : List Trip}, parseL l acc = some r → r.length = acc.length + l.length
  | [], acc, r, h => by simp only [parseL, Option.some.injEq] at h; subst h; rfl
  | w :: l, acc, r, h => by
    simp only [parseL] at h
    split at h
    · cases h
    · have := parseL_len h
      simp at this ⊢; omega
theorem rd_siz (s : List UInt8) : siz shTrips (rdAns s).1 ≤ 16777216 := by
  rw [siz_trips]
  unfold rdAns
  split
  · simp
  · unfold rdRes
    split
    · simp
    · split
      · rename_i h
        have := (okD_iff.1 h).2
        simp only; omega
      · simp
theorem kindB_64 (c : UInt8) : I64 (kindB c) := by have := kindB_rng c; unfold I64; omega
theorem rdRes_long {l : List (List UInt8)} {acc : List Trip} (h : 112 < acc.length + l.length) : rdRes (parseL l acc) = ([], false) := by
  cases e : parseL l acc with
  | none => rfl
  | some r =>
    have := parseL_len e
    have hn : okD r = false := by
      cases h : okD r
      · rfl
      · have := (okD_iff.1 h).2; omega
    simp [rdRes, hn]

theorem c119 (h : Heap) (hp : 0 < h.length) (s : List UInt8) (hs : s.length ≤ 1048576) :
    ACall Gam 119 [S s] h fun r h' => Grows h h' ∧ ∃ r0, r = .tuple #[r0, B (rdAns s).2] ∧ Vo h' h.length h'.length shTrips r0 (rdAns s).1 ∧ siz shTrips (rdAns s).1 ≤ 16777216 := by
  have hsz := rd_siz s
  refine ACall_intro g119 rfl ?_
  unfold fn119
  rw [awp_seq, awp_reg]
  generalize hK : seqQ Gam _ _ 0 = K
  simp (disch := omega)
  subst hK
  simp only [seqQ_zero]
  rw [awp_seq, awp_reg]
  generalize hK : seqQ Gam _ _ 0 = K
  simp (disch := omega)
  subst hK
  simp only [seqQ_zero]
  rw [awp_seq]
  generalize hK : seqQ Gam _ _ = K
  simp (disch := omega)
  refine fork_dec (fun h0 => ?_) (fun h0 => ?_)
  · have e : rdAns s = ([], true) := by simp [rdAns, h0]
    subst hK
    rw [e] at hsz ⊢
    simp (disch := omega)
    exact ⟨Grows.refl _, Vo.of_trips (X := []) (.inl rfl) (by simp) (by simp) (.inl rfl), hsz⟩
  have eA : rdAns s = rdRes (parseL (splitS 32 s) []) := by simp [rdAns, h0]
  have hwl := splitG_len 32 s []
  have hws := splitG_sum 32 s []
  have eW : splitG 32 [] s = splitS 32 s := rfl
  rw [eW] at hwl hws
  obtain ⟨ws, ews⟩ : ∃ ws, ws = splitS 32 s := ⟨_, rfl⟩
  simp (disch := omega)
  subst hK
  simp only [seqQ_zero]
  rw [eA] at hsz ⊢
  rw [← ews] at hwl hws hsz ⊢
  rw [awp_seq]
  generalize hK : seqQ Gam _ _ = K
  simp (disch := omega)
  refine callW_of (split_ok (.inl rfl) s 32 hs h hp) ?_
  rintro wv h1 ⟨g1, bw⟩
  rw [← ews] at bw
  obtain ⟨wb, wo, wn, rfl, hwn, hwc⟩ := bw.reads
  have hwn' : wn = ws.length := by simpa [texts] using hwn
  subst hwn'
  simp (disch := omega)
  refine awp_loop (fun (k : Nat) σ h' => k ≤ ws.length ∧ Grows h1 h' ∧ σ 2 = sl 0 0 0 0 ∧ σ 3 = B false ∧ σ 15 = sl wb wo ws.length 1 ∧ σ 16 = I ws.length ∧ σ 17 = I k ∧ ∃ acc : List Trip, acc.length = k ∧ k ≤ 112 ∧ AllT acc ∧ Bf h' h1.length h'.length (σ 4) 3 (trips acc) ∧ parseL (ws.drop k) acc = parseL ws []) (fun k => ws.length - k) 0 ?_ ?_
  · exact ⟨by omega, Grows.refl _, by simp, by simp, by simp, by simp, by simp, [], rfl, by omega, (fun x hx => by simp at hx), by simp; exact Bf.nil, by simp⟩
  rintro k σ h' ⟨hk, hg, q2, q3, q15, q16, q17, acc, hal, hkm, hax, hB, hd⟩
  have hlt1 := hg.le
  simp (disch := omega) [q16, q17]
  refine fork_dec (fun hlt => ?_) (fun hge => ?_)
  rotate_left
  · have hkn : k = ws.length := by omega
    subst hkn
    rw [List.drop_length] at hd
    simp only [parseL] at hd
    have hvo := hB.trips (by rw [maxLen_eq]; omega) hax
    have hvo' := hvo
    obtain ⟨ab, az, e4, _⟩ := hvo.trips
    rw [e4] at hvo'
    simp (disch := omega)
    subst hK
    simp only [seqQ_zero]
    simp (disch := omega) [e4]
    refine callW_of (c197 h' _ acc hvo'.vr (by omega)) ?_
    rintro _ h2 ⟨rfl, rfl⟩
    have l1 := g1.le
    cases hok : okD acc
    · have e : rdRes (parseL ws []) = ([], false) := by rw [← hd]; simp [rdRes, hok]
      rw [e] at hsz ⊢
      simp (disch := omega)
      exact ⟨g1.trans hg, Vo.no_trips, hsz⟩
    · have e : rdRes (parseL ws []) = (acc, true) := by rw [← hd]; simp [rdRes, hok]
      rw [e] at hsz ⊢
      simp (disch := omega) [e4]
      exact ⟨g1.trans hg, hvo'.wide l1 (Nat.le_refl _), hsz⟩
  have k1 : k < ws.length := by omega
  rw [List.drop_eq_getElem_cons k1] at hd
  simp only [parseL] at hd
  obtain ⟨w, hw⟩ : ∃ w, w = ws[k] := ⟨_, rfl⟩
  have hwl2 : w.length ≤ s.length := by
    have := hws ws[k] (List.getElem_mem k1)
    rw [← hw] at this; simpa using this
  have hcell : cell h' wb (wo + k) = some (S w) := by
    rw [hw]
    have hwc' : ws.length = 0 ∨ cellsAt h' wb wo (ws.length * 1) = some (texts ws) := hwc.imp id fun e => hg.cellsAt e
    exact texts_cell hwc' hwn k1
  rw [← hw] at hd
  simp (disch := omega) [q15, q17, k1, hcell]
  refine fork_dec (fun h3 => ?_) (fun h3 => ?_)
  · have e : parseW w = none := by unfold parseW; rw [if_pos (by omega)]
    rw [e] at hd
    subst hK
    have e5 : rdRes (parseL ws []) = ([], false) := by rw [← hd]; rfl
    rw [e5] at hsz ⊢
    simp (disch := omega) [h3]
    exact ⟨g1.trans hg, Vo.no_trips, hsz⟩
  have hvo := hB.trips (by rw [maxLen_eq]; omega) hax
  obtain ⟨ab, az, e4, _⟩ := hvo.trips
  simp (disch := omega) [h3, e4]
  refine fork_dec (fun h4 => ?_) (fun h4 => ?_)
  · subst hK
    have hd' : parseL (w :: ws.drop (k + 1)) acc = parseL ws [] := by simp only [parseL]; exact hd
    have e5 : rdRes (parseL ws []) = ([], false) := by rw [← hd']; exact rdRes_long (by simp; omega)
    rw [e5] at hsz ⊢
    simp (disch := omega)
    exact ⟨g1.trans hg, Vo.no_trips, hsz⟩
  have hsl := slice_to (h := h') (s := w) (b := w.length - 2) (by omega)
  have e2 : (w.length : Int) - 2 = ((w.length - 2 : Nat) : Int) := by omega
  have e1 : (w.length : Int) - 1 = ((w.length - 1 : Nat) : Int) := by omega
  simp (disch := omega) [e2, hsl, wrap64]
  refine callW_of (c118 (w.take (w.length - 2)) (by simp; omega) h' (pos_of hp (g1.trans hg))) ?_
  rintro _ h2 ⟨g2, rfl⟩
  cases hr : (rdDec (w.take (w.length - 2))).2
  · have e : parseW w = none := by unfold parseW; rw [if_neg (by omega), hr]; rfl
    rw [e] at hd
    subst hK
    have e5 : rdRes (parseL ws []) = ([], false) := by rw [← hd]; rfl
    rw [e5] at hsz ⊢
    simp (disch := omega)
    exact ⟨(g1.trans hg).trans g2, Vo.no_trips, hsz⟩
  have e : parseW w = some ((rdDec (w.take (w.length - 2))).1, kindB (at8 w (w.length - 2)), kindB (at8 w (w.length - 1))) := by unfold parseW; rw [if_neg (by omega), hr]; rfl
  rw [e] at hd
  simp only at hd
  have x1 : w.length - 2 < w.length := by omega
  have x2 : w.length - 1 < w.length := by omega
  have c1 := at8_eq x1
  have c2 := at8_eq x2
  simp (disch := omega) [e1, e2, c1, c2, x1, x2, wrap64]
  refine callW_of (c174 (at8 w (w.length - 2)) h2) ?_
  rintro _ h2 ⟨rfl, rfl⟩
  simp (disch := omega) [e1, e2, c1, c2, x1, x2, wrap64]
  refine callW_of (c174 (at8 w (w.length - 1)) h2) ?_
  rintro _ h2 ⟨rfl, rfl⟩
  simp (disch := omega) [e4]
  have hB2 := hB.grow g2
  rw [e4] at hB2
  refine append_trip2 (lo := h1.length) (hi := h'.length) (pos_of hp g1) (by omega) hB2 fun v' h3 m1 b1 => ?_
  have lg := g2.le
  have lm := m1.1
  have G3 : Grows h1 h3 := m1.grows (hg.trans g2) (Nat.le_refl _)
  simp (disch := omega) [q2, q3, q15, q16, q17, wrap64]
  exact ⟨k + 1, ⟨by omega, G3, by omega, acc ++ [((rdDec (w.take (w.length - 2))).1, kindB (at8 w (w.length - 2)), kindB (at8 w (w.length - 1)))], by simpa using hal, by omega, hax.snoc ⟨rdDec_64 _, kindB_64 _, kindB_64 _⟩, b1.wide (by omega) (Nat.le_refl _), hd⟩, by omega⟩

theorem parseL_64 : ∀ {l : List (List UInt8)} {acc r : List Trip}, AllT acc → parseL l acc = some r → AllT r
  | [], acc, r, ha, h => by simp only [parseL, Option.some.injEq] at h; subst h; exact ha
  | w :: l, acc, r, ha, h => by
    simp only [parseL] at h
    split at h
    · cases h
    · rename_i t ht
      refine parseL_64 (ha.snoc ?_) h
      unfold parseW at ht
      split at ht
      · cases ht
      · split at ht
        · injection ht with ht
          subst ht
          exact ⟨rdDec_64 _, kindB_64 _, kindB_64 _⟩
        · cases ht
end Am
/-! AmW4 -/
set_option linter.unusedVariables false
set_option linter.unusedSimpArgs false
set_option maxHeartbeats 4000000
set_option maxRecDepth 4000
namespace Am
open Go

theorem c410 (h : Heap) (hp : 0 < h.length) (s : List UInt8) (hs : s.length ≤ 1048576) :
    ACall Gam 410 [S s] h fun r h' => Grows h h' ∧ ∃ r0, r = .tuple #[r0, B (rdAns s).2] ∧ Vo h' h.length h'.length shTrips r0 (rdAns s).1 ∧ siz shTrips (rdAns s).1 ≤ 16777216 := by
  have hsz := rd_siz s
  refine ACall_intro g410 rfl ?_
  unfold fn410
  rw [awp_seq, awp_reg]
  generalize hK : seqQ Gam _ _ 0 = K
  simp (disch := omega)
  subst hK
  simp only [seqQ_zero]
  rw [awp_seq, awp_reg]
  generalize hK : seqQ Gam _ _ 0 = K
  simp (disch := omega)
  subst hK
  simp only [seqQ_zero]
  rw [awp_seq]
  generalize hK : seqQ Gam _ _ = K
  simp (disch := omega)
  refine fork_dec (fun h0 => ?_) (fun h0 => ?_)
  · have e : rdAns s = ([], true) := by simp [rdAns, h0]
    subst hK
    rw [e] at hsz ⊢
    simp (disch := omega)
    exact ⟨Grows.refl _, Vo.of_trips (X := []) (.inl rfl) (by simp) (by simp) (.inl rfl), hsz⟩
  have eA : rdAns s = rdRes (parseL (splitS 32 s) []) := by simp [rdAns, h0]
  have hwl := splitG_len 32 s []
  have hws := splitG_sum 32 s []
  have eW : splitG 32 [] s = splitS 32 s := rfl
  rw [eW] at hwl hws
  obtain ⟨ws, ews⟩ : ∃ ws, ws = splitS 32 s := ⟨_, rfl⟩
  simp (disch := omega)
  subst hK
  simp only [seqQ_zero]
  rw [eA] at hsz ⊢
  rw [← ews] at hwl hws hsz ⊢
  rw [awp_seq, awp_reg]
  generalize hK : seqQ Gam _ _ 0 = K
  simp (disch := omega)
  refine callW_of (split_ok (.inr rfl) s 32 hs h hp) ?_
  rintro wv h1 ⟨g1, bw⟩
  rw [← ews] at bw
  obtain ⟨wb, wo, wn, rfl, hwn, hwc⟩ := bw.reads
  have hwn' : wn = ws.length := by simpa [texts] using hwn
  subst hwn'
  simp (disch := omega)
  subst hK
  simp only [seqQ_zero]
  rw [awp_seq]
  generalize hK : seqQ Gam _ _ = K
  simp (disch := omega)
  refine awp_loop (fun (k : Nat) σ h' => k ≤ ws.length ∧ Grows h1 h' ∧ σ 2 = sl 0 0 0 0 ∧ σ 3 = B false ∧ σ 5 = sl wb wo ws.length 1 ∧ σ 6 = I k ∧ ∃ acc : List Trip, acc.length = k ∧ AllT acc ∧ Bf h' h1.length h'.length (σ 4) 3 (trips acc) ∧ parseL (ws.drop k) acc = parseL ws []) (fun k => ws.length - k) 0 ?_ ?_
  · exact ⟨by omega, Grows.refl _, by simp, by simp, by simp, by simp, [], rfl, (fun x hx => by simp at hx), by simp; exact Bf.nil, by simp⟩
  rintro k σ h' ⟨hk, hg, q2, q3, q5, q6, acc, hal, hax, hB, hd⟩
  have hlt1 := hg.le
  simp (disch := omega) [q5, q6]
  refine fork_dec (fun hlt => ?_) (fun hge => ?_)
  rotate_left
  · have hkn : k = ws.length := by omega
    subst hkn
    rw [List.drop_length] at hd
    simp only [parseL] at hd
    have hvo := hB.trips (by rw [maxLen_eq]; omega) hax
    have hvo' := hvo
    obtain ⟨ab, az, e4, _⟩ := hvo.trips
    rw [e4] at hvo'
    simp (disch := omega)
    subst hK
    simp only [seqQ_zero]
    simp (disch := omega) [e4]
    refine callW_of (c550 h' _ acc hvo'.vr (by omega)) ?_
    rintro _ h2 ⟨rfl, rfl⟩
    have l1 := g1.le
    cases hok : okD acc
    · have e : rdRes (parseL ws []) = ([], false) := by rw [← hd]; simp [rdRes, hok]
      rw [e] at hsz ⊢
      simp (disch := omega)
      exact ⟨g1.trans hg, Vo.no_trips, hsz⟩
    · have e : rdRes (parseL ws []) = (acc, true) := by rw [← hd]; simp [rdRes, hok]
      rw [e] at hsz ⊢
      simp (disch := omega) [e4]
      exact ⟨g1.trans hg, hvo'.wide l1 (Nat.le_refl _), hsz⟩
  have k1 : k < ws.length := by omega
  rw [List.drop_eq_getElem_cons k1] at hd
  simp only [parseL] at hd
  obtain ⟨w, hw⟩ : ∃ w, w = ws[k] := ⟨_, rfl⟩
  have hwl2 : w.length ≤ s.length := by
    have := hws ws[k] (List.getElem_mem k1)
    rw [← hw] at this; simpa using this
  have hcell : cell h' wb (wo + k) = some (S w) := by
    rw [hw]
    have hwc' : ws.length = 0 ∨ cellsAt h' wb wo (ws.length * 1) = some (texts ws) := hwc.imp id fun e => hg.cellsAt e
    exact texts_cell hwc' hwn k1
  rw [← hw] at hd
  simp (disch := omega) [q5, q6, k1, hcell]
  refine fork_dec (fun h3 => ?_) (fun h3 => ?_)
  · have e : parseW w = none := by unfold parseW; rw [if_pos (by omega)]
    rw [e] at hd
    subst hK
    have e5 : rdRes (parseL ws []) = ([], false) := by rw [← hd]; rfl
    rw [e5] at hsz ⊢
    simp (disch := omega) [h3]
    exact ⟨g1.trans hg, Vo.no_trips, hsz⟩
  have hvo := hB.trips (by rw [maxLen_eq]; omega) hax
  obtain ⟨ab, az, e4, _⟩ := hvo.trips
  have hsl := slice_to (h := h') (s := w) (b := w.length - 2) (by omega)
  have e2 : (w.length : Int) - 2 = ((w.length - 2 : Nat) : Int) := by omega
  have e1 : (w.length : Int) - 1 = ((w.length - 1 : Nat) : Int) := by omega
  simp (maxSteps := 1000000) (disch := omega) [q5, q6, k1, hcell, e2, hsl, wrap64]
  refine callW_of (c439 (w.take (w.length - 2)) (by simp; omega) h' (pos_of hp (g1.trans hg))) ?_
  rintro _ h2 ⟨g2, rfl⟩
  have hcell2 := g2.cell hcell
  have x1 : w.length - 2 < w.length := by omega
  have x2 : w.length - 1 < w.length := by omega
  have c1 := at8_eq x1
  have c2 := at8_eq x2
  simp (disch := omega) [q5, q6, k1, hcell2, e1, e2, c1, c2, x1, x2, wrap64]
  refine callW_of (c467 (at8 w (w.length - 2)) h2) ?_
  rintro _ h2 ⟨rfl, rfl⟩
  refine ⟨fun _ => Grows.refl _, ?_⟩
  simp (disch := omega) [q5, q6, k1, hcell2, e1, e2, c1, c2, x1, x2, wrap64]
  refine callW_of (c467 (at8 w (w.length - 1)) h2) ?_
  rintro _ h2 ⟨rfl, rfl⟩
  simp (disch := omega)
  cases hr : (rdDec (w.take (w.length - 2))).2
  · have e : parseW w = none := by unfold parseW; rw [if_neg (by omega), hr]; rfl
    rw [e] at hd
    subst hK
    have e5 : rdRes (parseL ws []) = ([], false) := by rw [← hd]; rfl
    rw [e5] at hsz ⊢
    simp (disch := omega)
    exact ⟨(g1.trans hg).trans g2, Vo.no_trips, hsz⟩
  have e : parseW w = some ((rdDec (w.take (w.length - 2))).1, kindB (at8 w (w.length - 2)), kindB (at8 w (w.length - 1))) := by unfold parseW; rw [if_neg (by omega), hr]; rfl
  rw [e] at hd
  simp only at hd
  simp (disch := omega) [e4]
  have hB2 := hB.grow g2
  rw [e4] at hB2
  refine append_trip2 (lo := h1.length) (hi := h'.length) (pos_of hp g1) (by omega) hB2 fun v' h3 m1 b1 => ?_
  have lg := g2.le
  have lm := m1.1
  have G3 : Grows h1 h3 := m1.grows (hg.trans g2) (Nat.le_refl _)
  simp (disch := omega) [q2, q3, q5, q6, wrap64]
  exact ⟨k + 1, ⟨by omega, G3, by omega, acc ++ [((rdDec (w.take (w.length - 2))).1, kindB (at8 w (w.length - 2)), kindB (at8 w (w.length - 1)))], by simpa using hal, hax.snoc ⟨rdDec_64 _, kindB_64 _, kindB_64 _⟩, b1.wide (by omega) (Nat.le_refl _), hd⟩, by omega⟩
end Am
