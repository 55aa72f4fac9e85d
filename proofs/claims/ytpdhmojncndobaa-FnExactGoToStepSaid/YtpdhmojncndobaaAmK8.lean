/- Contracts: AmW3, AmW4, AmW5, AmJ9. -/
import Derived.Test.YtpdhmojncndobaaAmK7
import Derived.Test.YtpdhmojncndobaaAmK6
/-! AmW3 -/
set_option linter.unusedVariables false
set_option linter.unusedSimpArgs false
set_option maxHeartbeats 4000000
set_option maxRecDepth 4000
namespace Am
open Go

def at8 (s : List UInt8) (i : Nat) : UInt8 := s.getD i 0
theorem at8_eq {s : List UInt8} {i : Nat} (h : i < s.length) : s[i] = at8 s i := by simp [at8, h]
theorem at8_of {s : List UInt8} {i : Nat} (h : i < s.length) : s[i]? = some (at8 s i) := by simp [at8, h]
def parseW (w : List UInt8) : Option Trip := if w.length < 3 then none else if (rdDec (w.take (w.length - 2))).2 then some ((rdDec (w.take (w.length - 2))).1, kindB (at8 w (w.length - 2)), kindB (at8 w (w.length - 1))) else none
def parseL : List (List UInt8) → List Trip → Option (List Trip)
  | [], acc => some acc
  | w :: r, acc => match parseW w with
    | none => none
    | some t => parseL r (acc ++ [t])
def AllT (l : List Trip) : Prop := ∀ x ∈ l, T64 x
theorem AllT.snoc {l : List Trip} {t : Trip} (h : AllT l) (ht : T64 t) : AllT (l ++ [t]) := by
  intro x hx
  rcases List.mem_append.1 hx with hx | hx
  · exact h x hx
  · rw [List.mem_singleton.1 hx]; exact ht
def rdRes (o : Option (List Trip)) : List Trip × Bool := match o with
  | none => ([], false)
  | some l => if okD l then (l, true) else ([], false)
def rdAns (s : List UInt8) : List Trip × Bool := if s = [] then ([], true) else rdRes (parseL (splitS 32 s) [])
theorem parseL_len : ∀ {l : List (List UInt8)} {acc r : List Trip}, parseL l acc = some r → r.length = acc.length + l.length
  | [], acc, r, h => by simp only [parseL, Option.some.injEq] at h; subst h; rfl
  | w :: l, acc, r, h => by
    simp only [parseL] at h
    split at h
    · cases h
    · have := parseL_len h
      simp at this ⊢; omega
theorem rd_siz (s : List UInt8) : siz shTrips (rdAns s).1 ≤ 16777216 := by
  rw [siz_trips]
  unfold rdAns
  split
  · simp
  · unfold rdRes
    split
    · simp
    · split
      · rename_i h
        have := (okD_iff.1 h).2
        simp only; omega
      · simp
theorem kindB_64 (c : UInt8) : I64 (kindB c) := by have := kindB_rng c; unfold I64; omega
theorem rdRes_long {l : List (List UInt8)} {acc : List Trip} (h : 112 < acc.length + l.length) : rdRes (parseL l acc) = ([], false) := by
  cases e : parseL l acc with
  | none => rfl
  | some r =>
    have := parseL_len e
    have hn : okD r = false := by
      cases h : okD r
      · rfl
      · have := (okD_iff.1 h).2; omega
    simp [rdRes, hn]

theorem c119 (h : Heap) (hp : 0 < h.length) (s : List UInt8) (hs : s.length ≤ 1048576) :
    ACall Gam 119 [S s] h fun r h' => Grows h h' ∧ ∃ r0, r = .tuple #[r0, B (rdAns s).2] ∧ Vo h' h.length h'.length shTrips r0 (rdAns s).1 ∧ siz shTrips (rdAns s).1 ≤ 16777216 := by
  have hsz := rd_siz s
  refine ACall_intro g119 rfl ?_
  unfold fn119
  rw [awp_seq, awp_reg]
  generalize hK : seqQ Gam _ _ 0 = K
  simp (disch := omega)
  subst hK
  simp only [seqQ_zero]
  rw [awp_seq, awp_reg]
  generalize hK : seqQ Gam _ _ 0 = K
  simp (disch := omega)
  subst hK
  simp only [seqQ_zero]
  rw [awp_seq]
  generalize hK : seqQ Gam _ _ = K
  simp (disch := omega)
  refine fork_dec (fun h0 => ?_) (fun h0 => ?_)
  · have e : rdAns s = ([], true) := by simp [rdAns, h0]
    subst hK
    rw [e] at hsz ⊢
    simp (disch := omega)
    exact ⟨Grows.refl _, Vo.of_trips (X := []) (.inl rfl) (by simp) (by simp) (.inl rfl), hsz⟩
  have eA : rdAns s = rdRes (parseL (splitS 32 s) []) := by simp [rdAns, h0]
  have hwl := splitG_len 32 s []
  have hws := splitG_sum 32 s []
  have eW : splitG 32 [] s = splitS 32 s := rfl
  rw [eW] at hwl hws
  obtain ⟨ws, ews⟩ : ∃ ws, ws = splitS 32 s := ⟨_, rfl⟩
  simp (disch := omega)
  subst hK
  simp only [seqQ_zero]
  rw [eA] at hsz ⊢
  rw [← ews] at hwl hws hsz ⊢
  rw [awp_seq]
  generalize hK : seqQ Gam _ _ = K
  simp (disch := omega)
  refine callW_of (split_ok (.inl rfl) s 32 hs h hp) ?_
  rintro wv h1 ⟨g1, bw⟩
  rw [← ews] at bw
  obtain ⟨wb, wo, wn, rfl, hwn, hwc⟩ := bw.reads
  have hwn' : wn = ws.length := by simpa [texts] using hwn
  subst hwn'
  simp (disch := omega)
  refine awp_loop (fun (k : Nat) σ h' => k ≤ ws.length ∧ Grows h1 h' ∧ σ 2 = sl 0 0 0 0 ∧ σ 3 = B false ∧ σ 15 = sl wb wo ws.length 1 ∧ σ 16 = I ws.length ∧ σ 17 = I k ∧ ∃ acc : List Trip, acc.length = k ∧ k ≤ 112 ∧ AllT acc ∧ Bf h' h1.length h'.length (σ 4) 3 (trips acc) ∧ parseL (ws.drop k) acc = parseL ws []) (fun k => ws.length - k) 0 ?_ ?_
  · exact ⟨by omega, Grows.refl _, by simp, by simp, by simp, by simp, by simp, [], rfl, by omega, (fun x hx => by simp at hx), by simp; exact Bf.nil, by simp⟩
  rintro k σ h' ⟨hk, hg, q2, q3, q15, q16, q17, acc, hal, hkm, hax, hB, hd⟩
  have hlt1 := hg.le
  simp (disch := omega) [q16, q17]
  refine fork_dec (fun hlt => ?_) (fun hge => ?_)
  rotate_left
  · have hkn : k = ws.length := by omega
    subst hkn
    rw [List.drop_length] at hd
    simp only [parseL] at hd
    have hvo := hB.trips (by rw [maxLen_eq]; omega) hax
    have hvo' := hvo
    obtain ⟨ab, az, e4, _⟩ := hvo.trips
    rw [e4] at hvo'
    simp (disch := omega)
    subst hK
    simp only [seqQ_zero]
    simp (disch := omega) [e4]
    refine callW_of (c197 h' _ acc hvo'.vr (by omega)) ?_
    rintro _ h2 ⟨rfl, rfl⟩
    have l1 := g1.le
    cases hok : okD acc
    · have e : rdRes (parseL ws []) = ([], false) := by rw [← hd]; simp [rdRes, hok]
      rw [e] at hsz ⊢
      simp (disch := omega)
      exact ⟨g1.trans hg, Vo.no_trips, hsz⟩
    · have e : rdRes (parseL ws []) = (acc, true) := by rw [← hd]; simp [rdRes, hok]
      rw [e] at hsz ⊢
      simp (disch := omega) [e4]
      exact ⟨g1.trans hg, hvo'.wide l1 (Nat.le_refl _), hsz⟩
  have k1 : k < ws.length := by omega
  rw [List.drop_eq_getElem_cons k1] at hd
  simp only [parseL] at hd
  obtain ⟨w, hw⟩ : ∃ w, w = ws[k] := ⟨_, rfl⟩
  have hwl2 : w.length ≤ s.length := by
    have := hws ws[k] (List.getElem_mem k1)
    rw [← hw] at this; simpa using this
  have hcell : cell h' wb (wo + k) = some (S w) := by
    rw [hw]
    have hwc' : ws.length = 0 ∨ cellsAt h' wb wo (ws.length * 1) = some (texts ws) := hwc.imp id fun e => hg.cellsAt e
    exact texts_cell hwc' hwn k1
  rw [← hw] at hd
  simp (disch := omega) [q15, q17, k1, hcell]
  refine fork_dec (fun h3 => ?_) (fun h3 => ?_)
  · have e : parseW w = none := by unfold parseW; rw [if_pos (by omega)]
    rw [e] at hd
    subst hK
    have e5 : rdRes (parseL ws []) = ([], false) := by rw [← hd]; rfl
    rw [e5] at hsz ⊢
    simp (disch := omega) [h3]
    exact ⟨g1.trans hg, Vo.no_trips, hsz⟩
  have hvo := hB.trips (by rw [maxLen_eq]; omega) hax
  obtain ⟨ab, az, e4, _⟩ := hvo.trips
  simp (disch := omega) [h3, e4]
  refine fork_dec (fun h4 => ?_) (fun h4 => ?_)
  · subst hK
    have hd' : parseL (w :: ws.drop (k + 1)) acc = parseL ws [] := by simp only [parseL]; exact hd
    have e5 : rdRes (parseL ws []) = ([], false) := by rw [← hd']; exact rdRes_long (by simp; omega)
    rw [e5] at hsz ⊢
    simp (disch := omega)
    exact ⟨g1.trans hg, Vo.no_trips, hsz⟩
  have hsl := slice_to (h := h') (s := w) (b := w.length - 2) (by omega)
  have e2 : (w.length : Int) - 2 = ((w.length - 2 : Nat) : Int) := by omega
  have e1 : (w.length : Int) - 1 = ((w.length - 1 : Nat) : Int) := by omega
  simp (disch := omega) [e2, hsl, wrap64]
  refine callW_of (c118 (w.take (w.length - 2)) (by simp; omega) h' (pos_of hp (g1.trans hg))) ?_
  rintro _ h2 ⟨g2, rfl⟩
  cases hr : (rdDec (w.take (w.length - 2))).2
  · have e : parseW w = none := by unfold parseW; rw [if_neg (by omega), hr]; rfl
    rw [e] at hd
    subst hK
    have e5 : rdRes (parseL ws []) = ([], false) := by rw [← hd]; rfl
    rw [e5] at hsz ⊢
    simp (disch := omega)
    exact ⟨(g1.trans hg).trans g2, Vo.no_trips, hsz⟩
  have e : parseW w = some ((rdDec (w.take (w.length - 2))).1, kindB (at8 w (w.length - 2)), kindB (at8 w (w.length - 1))) := by unfold parseW; rw [if_neg (by omega), hr]; rfl
  rw [e] at hd
  simp only at hd
  have x1 : w.length - 2 < w.length := by omega
  have x2 : w.length - 1 < w.length := by omega
  have c1 := at8_eq x1
  have c2 := at8_eq x2
  simp (disch := omega) [e1, e2, c1, c2, x1, x2, wrap64]
  refine callW_of (c174 (at8 w (w.length - 2)) h2) ?_
  rintro _ h2 ⟨rfl, rfl⟩
  simp (disch := omega) [e1, e2, c1, c2, x1, x2, wrap64]
  refine callW_of (c174 (at8 w (w.length - 1)) h2) ?_
  rintro _ h2 ⟨rfl, rfl⟩
  simp (disch := omega) [e4]
  have hB2 := hB.grow g2
  rw [e4] at hB2
  refine append_trip2 (lo := h1.length) (hi := h'.length) (pos_of hp g1) (by omega) hB2 fun v' h3 m1 b1 => ?_
  have lg := g2.le
  have lm := m1.1
  have G3 : Grows h1 h3 := m1.grows (hg.trans g2) (Nat.le_refl _)
  simp (disch := omega) [q2, q3, q15, q16, q17, wrap64]
  exact ⟨k + 1, ⟨by omega, G3, by omega, acc ++ [((rdDec (w.take (w.length - 2))).1, kindB (at8 w (w.length - 2)), kindB (at8 w (w.length - 1)))], by simpa using hal, by omega, hax.snoc ⟨rdDec_64 _, kindB_64 _, kindB_64 _⟩, b1.wide (by omega) (Nat.le_refl _), hd⟩, by omega⟩

theorem parseL_64 : ∀ {l : List (List UInt8)} {acc r : List Trip}, AllT acc → parseL l acc = some r → AllT r
  | [], acc, r, ha, h => by simp only [parseL, Option.some.injEq] at h; subst h; exact ha
  | w :: l, acc, r, ha, h => by
    simp only [parseL] at h
    split at h
    · cases h
    · rename_i t ht
      refine parseL_64 (ha.snoc ?_) h
      unfold parseW at ht
      split at ht
      · cases ht
      · split at ht
        · injection ht with ht
          subst ht
          exact ⟨rdDec_64 _, kindB_64 _, kindB_64 _⟩
        · cases ht
end Am
/-! AmW4 -/
set_option linter.unusedVariables false
set_option linter.unusedSimpArgs false
set_option maxHeartbeats 4000000
set_option maxRecDepth 4000
namespace Am
open Go

theorem c410 (h : Heap) (hp : 0 < h.length) (s : List UInt8) (hs : s.length ≤ 1048576) :
    ACall Gam 410 [S s] h fun r h' => Grows h h' ∧ ∃ r0, r = .tuple #[r0, B (rdAns s).2] ∧ Vo h' h.length h'.length shTrips r0 (rdAns s).1 ∧ siz shTrips (rdAns s).1 ≤ 16777216 := by
  have hsz := rd_siz s
  refine ACall_intro g410 rfl ?_
  unfold fn410
  rw [awp_seq, awp_reg]
  generalize hK : seqQ Gam _ _ 0 = K
  simp (disch := omega)
  subst hK
  simp only [seqQ_zero]
  rw [awp_seq, awp_reg]
  generalize hK : seqQ Gam _ _ 0 = K
  simp (disch := omega)
  subst hK
  simp only [seqQ_zero]
  rw [awp_seq]
  generalize hK : seqQ Gam _ _ = K
  simp (disch := omega)
  refine fork_dec (fun h0 => ?_) (fun h0 => ?_)
  · have e : rdAns s = ([], true) := by simp [rdAns, h0]
    subst hK
    rw [e] at hsz ⊢
    simp (disch := omega)
    exact ⟨Grows.refl _, Vo.of_trips (X := []) (.inl rfl) (by simp) (by simp) (.inl rfl), hsz⟩
  have eA : rdAns s = rdRes (parseL (splitS 32 s) []) := by simp [rdAns, h0]
  have hwl := splitG_len 32 s []
  have hws := splitG_sum 32 s []
  have eW : splitG 32 [] s = splitS 32 s := rfl
  rw [eW] at hwl hws
  obtain ⟨ws, ews⟩ : ∃ ws, ws = splitS 32 s := ⟨_, rfl⟩
  simp (disch := omega)
  subst hK
  simp only [seqQ_zero]
  rw [eA] at hsz ⊢
  rw [← ews] at hwl hws hsz ⊢
  rw [awp_seq, awp_reg]
  generalize hK : seqQ Gam _ _ 0 = K
  simp (disch := omega)
  refine callW_of (split_ok (.inr rfl) s 32 hs h hp) ?_
  rintro wv h1 ⟨g1, bw⟩
  rw [← ews] at bw
  obtain ⟨wb, wo, wn, rfl, hwn, hwc⟩ := bw.reads
  have hwn' : wn = ws.length := by simpa [texts] using hwn
  subst hwn'
  simp (disch := omega)
  subst hK
  simp only [seqQ_zero]
  rw [awp_seq]
  generalize hK : seqQ Gam _ _ = K
  simp (disch := omega)
  refine awp_loop (fun (k : Nat) σ h' => k ≤ ws.length ∧ Grows h1 h' ∧ σ 2 = sl 0 0 0 0 ∧ σ 3 = B false ∧ σ 5 = sl wb wo ws.length 1 ∧ σ 6 = I k ∧ ∃ acc : List Trip, acc.length = k ∧ AllT acc ∧ Bf h' h1.length h'.length (σ 4) 3 (trips acc) ∧ parseL (ws.drop k) acc = parseL ws []) (fun k => ws.length - k) 0 ?_ ?_
  · exact ⟨by omega, Grows.refl _, by simp, by simp, by simp, by simp, [], rfl, (fun x hx => by simp at hx), by simp; exact Bf.nil, by simp⟩
  rintro k σ h' ⟨hk, hg, q2, q3, q5, q6, acc, hal, hax, hB, hd⟩
  have hlt1 := hg.le
  simp (disch := omega) [q5, q6]
  refine fork_dec (fun hlt => ?_) (fun hge => ?_)
  rotate_left
  · have hkn : k = ws.length := by omega
    subst hkn
    rw [List.drop_length] at hd
    simp only [parseL] at hd
    have hvo := hB.trips (by rw [maxLen_eq]; omega) hax
    have hvo' := hvo
    obtain ⟨ab, az, e4, _⟩ := hvo.trips
    rw [e4] at hvo'
    simp (disch := omega)
    subst hK
    simp only [seqQ_zero]
    simp (disch := omega) [e4]
    refine callW_of (c550 h' _ acc hvo'.vr (by omega)) ?_
    rintro _ h2 ⟨rfl, rfl⟩
    have l1 := g1.le
    cases hok : okD acc
    · have e : rdRes (parseL ws []) = ([], false) := by rw [← hd]; simp [rdRes, hok]
      rw [e] at hsz ⊢
      simp (disch := omega)
      exact ⟨g1.trans hg, Vo.no_trips, hsz⟩
    · have e : rdRes (parseL ws []) = (acc, true) := by rw [← hd]; simp [rdRes, hok]
      rw [e] at hsz ⊢
      simp (disch := omega) [e4]
      exact ⟨g1.trans hg, hvo'.wide l1 (Nat.le_refl _), hsz⟩
  have k1 : k < ws.length := by omega
  rw [List.drop_eq_getElem_cons k1] at hd
  simp only [parseL] at hd
  obtain ⟨w, hw⟩ : ∃ w, w = ws[k] := ⟨_, rfl⟩
  have hwl2 : w.length ≤ s.length := by
    have := hws ws[k] (List.getElem_mem k1)
    rw [← hw] at this; simpa using this
  have hcell : cell h' wb (wo + k) = some (S w) := by
    rw [hw]
    have hwc' : ws.length = 0 ∨ cellsAt h' wb wo (ws.length * 1) = some (texts ws) := hwc.imp id fun e => hg.cellsAt e
    exact texts_cell hwc' hwn k1
  rw [← hw] at hd
  simp (disch := omega) [q5, q6, k1, hcell]
  refine fork_dec (fun h3 => ?_) (fun h3 => ?_)
  · have e : parseW w = none := by unfold parseW; rw [if_pos (by omega)]
    rw [e] at hd
    subst hK
    have e5 : rdRes (parseL ws []) = ([], false) := by rw [← hd]; rfl
    rw [e5] at hsz ⊢
    simp (disch := omega) [h3]
    exact ⟨g1.trans hg, Vo.no_trips, hsz⟩
  have hvo := hB.trips (by rw [maxLen_eq]; omega) hax
  obtain ⟨ab, az, e4, _⟩ := hvo.trips
  have hsl := slice_to (h := h') (s := w) (b := w.length - 2) (by omega)
  have e2 : (w.length : Int) - 2 = ((w.length - 2 : Nat) : Int) := by omega
  have e1 : (w.length : Int) - 1 = ((w.length - 1 : Nat) : Int) := by omega
  simp (maxSteps := 1000000) (disch := omega) [q5, q6, k1, hcell, e2, hsl, wrap64]
  refine callW_of (c439 (w.take (w.length - 2)) (by simp; omega) h' (pos_of hp (g1.trans hg))) ?_
  rintro _ h2 ⟨g2, rfl⟩
  have hcell2 := g2.cell hcell
  have x1 : w.length - 2 < w.length := by omega
  have x2 : w.length - 1 < w.length := by omega
  have c1 := at8_eq x1
  have c2 := at8_eq x2
  simp (disch := omega) [q5, q6, k1, hcell2, e1, e2, c1, c2, x1, x2, wrap64]
  refine callW_of (c467 (at8 w (w.length - 2)) h2) ?_
  rintro _ h2 ⟨rfl, rfl⟩
  refine ⟨fun _ => Grows.refl _, ?_⟩
  simp (disch := omega) [q5, q6, k1, hcell2, e1, e2, c1, c2, x1, x2, wrap64]
  refine callW_of (c467 (at8 w (w.length - 1)) h2) ?_
  rintro _ h2 ⟨rfl, rfl⟩
  simp (disch := omega)
  cases hr : (rdDec (w.take (w.length - 2))).2
  · have e : parseW w = none := by unfold parseW; rw [if_neg (by omega), hr]; rfl
    rw [e] at hd
    subst hK
    have e5 : rdRes (parseL ws []) = ([], false) := by rw [← hd]; rfl
    rw [e5] at hsz ⊢
    simp (disch := omega)
    exact ⟨(g1.trans hg).trans g2, Vo.no_trips, hsz⟩
  have e : parseW w = some ((rdDec (w.take (w.length - 2))).1, kindB (at8 w (w.length - 2)), kindB (at8 w (w.length - 1))) := by unfold parseW; rw [if_neg (by omega), hr]; rfl
  rw [e] at hd
  simp only at hd
  simp (disch := omega) [e4]
  have hB2 := hB.grow g2
  rw [e4] at hB2
  refine append_trip2 (lo := h1.length) (hi := h'.length) (pos_of hp g1) (by omega) hB2 fun v' h3 m1 b1 => ?_
  have lg := g2.le
  have lm := m1.1
  have G3 : Grows h1 h3 := m1.grows (hg.trans g2) (Nat.le_refl _)
  simp (disch := omega) [q2, q3, q5, q6, wrap64]
  exact ⟨k + 1, ⟨by omega, G3, by omega, acc ++ [((rdDec (w.take (w.length - 2))).1, kindB (at8 w (w.length - 2)), kindB (at8 w (w.length - 1)))], by simpa using hal, hax.snoc ⟨rdDec_64 _, kindB_64 _, kindB_64 _⟩, b1.wide (by omega) (Nat.le_refl _), hd⟩, by omega⟩
end Am
/-! AmW5 -/
set_option linter.unusedVariables false
set_option linter.unusedSimpArgs false
set_option maxHeartbeats 4000000
set_option maxRecDepth 4000
namespace Am
open Go

@[simp high] theorem add_str {n : Nat} {a b : List UInt8} (h : a.length + b.length ≤ 4611686018427387904) : aBin .add n (S a) (S b) = some (S (a ++ b)) := by
  simp [h]
def panH (W H : Int) : List UInt8 := decS W ++ [120] ++ decS H ++ [58]
def panT (X : Pan) : List UInt8 := panH X.1 X.2.1 ++ X.2.2.map signB
def sgT (br : List Int) (k : Nat) : List UInt8 := (br.take k).map signB
theorem sgT_zero (br : List Int) : sgT br 0 = [] := rfl
theorem sgT_succ {br : List Int} {k : Nat} (h : k < br.length) : sgT br (k + 1) = sgT br k ++ [signB br[k]] := by unfold sgT; rw [List.take_succ_eq_append_getElem h, List.map_append]; rfl
theorem sgT_len (br : List Int) (k : Nat) : (sgT br k).length ≤ br.length := by simp [sgT]; omega
theorem sgT_all (br : List Int) : sgT br br.length = br.map signB := by simp [sgT]
def panText (X : Pan) : List UInt8 := if okP X then panT X else []
theorem panH_len {W H : Int} (w1 : I64 W) (w2 : I64 H) : (panH W H).length ≤ 42 ∧ panH W H ≠ [] := by
  have h1 := decS_len w1
  have h2 := decS_len w2
  refine ⟨by simp [panH]; omega, by simp [panH]⟩
theorem panT_len {X : Pan} (w1 : I64 X.1) (w2 : I64 X.2.1) : (panT X).length ≤ 42 + X.2.2.length := by
  have := panH_len w1 w2
  simp [panT]; omega

theorem c182 (h : Heap) (hp : 0 < h.length) (v : Value) (W H : Int) (br : List Int) (hv : Vr h shPanel v (W, H, br)) (hb : ∀ x ∈ br, 0 ≤ x ∧ x ≤ 2) (hl : br.length ≤ 1048576) : ACall Gam 182 [v] h fun r h' => Grows h h' ∧ r = S (panT (W, H, br)) := by
  obtain ⟨s, rfl, w1, w2, r1⟩ := hv.panel
  obtain ⟨b0, o0, z0, rfl, _, hm0, hx0, hc0⟩ := r1.ints
  have l1 := decS_len w1
  have l2 := decS_len w2
  have lh := panH_len w1 w2
  refine ACall_intro g182 rfl ?_
  unfold fn182
  rw [awp_seq, awp_reg]
  generalize hK : seqQ Gam _ _ 0 = K
  simp (disch := omega)
  subst hK
  simp only [seqQ_zero]
  rw [awp_seq, awp_reg]
  generalize hK : seqQ Gam _ _ 0 = K
  simp (disch := omega)
  refine callW_of (c75 W w1 h hp) ?_
  rintro _ h1 ⟨rfl, g1⟩
  simp (disch := (first | omega | (simp only [List.length_append, List.length_cons, List.length_nil]; omega)))
  refine callW_of (c75 H w2 h1 (pos_of hp g1)) ?_
  rintro _ h2 ⟨rfl, g2⟩
  have G2 := g1.trans g2
  simp (disch := (first | omega | (simp only [List.length_append, List.length_cons, List.length_nil]; omega)))
  subst hK
  simp only [seqQ_zero]
  have eH : decS W ++ 120 :: (decS H ++ [58]) = panH W H := by simp [panH]
  try rw [eH]
  simp (disch := omega)
  refine awp_loop (fun (k : Nat) σ h' => k ≤ br.length ∧ h' = h2 ∧ σ 3 = S (panH W H ++ sgT br k) ∧ σ 16 = sl b0 o0 br.length z0 ∧ σ 17 = I br.length ∧ σ 18 = I k) (fun k => br.length - k) 0 ?_ ?_
  · exact ⟨by omega, rfl, by simp [panH, sgT_zero], by simp, by simp, by simp⟩
  rintro k σ h' ⟨hk, rfl, q3, q16, q17, q18⟩
  simp (disch := omega) [q17, q18]
  refine fork_dec (fun hlt => ?_) (fun hge => ?_)
  · have k1 : k < br.length := by omega
    have cb := ints_cell (hc0.imp id (grows_cellsAt G2)) k1
    have hr := hb _ (List.getElem_mem k1)
    have hms := mark_slice (h := h') (a := br[k]) (inR_iff.2 hr)
    have hlen := sgT_len br k
    have e1 : IntKind.i64.wrap (br[k] + 1) = br[k] + 1 := wrap64 (by omega) (by omega)
    simp (disch := (first | omega | (simp only [List.length_append, List.length_cons, List.length_nil]; omega))) [q3, q16, q17, q18, k1, cb, e1, hms, wrap64]
    exact ⟨k + 1, ⟨by omega, by rw [sgT_succ k1], by omega⟩, by omega⟩
  · have hkn : k = br.length := by omega
    subst hkn
    rw [sgT_all] at q3
    simp (disch := omega) [q3]
    exact ⟨G2, rfl⟩

theorem c472 (h : Heap) (hp : 0 < h.length) (v : Value) (W H : Int) (br : List Int) (hv : PtP h v (W, H, br)) (hl : br.length ≤ 1000000) : ACall Gam 472 [v] h fun r h' => Grows h h' ∧ r = S (panT (W, H, br)) := by
  obtain ⟨b, o, s, rfl, k0, k1, k2, r1, w1, w2⟩ := hv
  simp only at k0 k1 k2 r1 w1 w2
  obtain ⟨b0, o0, z0, rfl, _, hm0, hx0, hc0⟩ := r1.ints
  have l1 := decS_len w1
  have l2 := decS_len w2
  have lh := panH_len w1 w2
  refine ACall_intro g472 rfl ?_
  unfold fn472
  rw [awp_seq, awp_reg]
  generalize hK : seqQ Gam _ _ 0 = K
  simp (disch := omega)
  subst hK
  simp only [seqQ_zero]
  rw [awp_seq, awp_reg]
  generalize hK : seqQ Gam _ _ 0 = K
  simp (disch := omega) [k0]
  refine callW_of (c437 W w1 h hp) ?_
  rintro _ h1 ⟨rfl, g1⟩
  refine ⟨fun _ => g1, ?_⟩
  have k1' := g1.cell k1
  simp (disch := (first | omega | (simp only [List.length_append, List.length_cons, List.length_nil]; omega))) [k1']
  refine callW_of (c437 H w2 h1 (pos_of hp g1)) ?_
  rintro _ h2 ⟨rfl, g2⟩
  have G2 := g1.trans g2
  have eH : decS W ++ 120 :: (decS H ++ [58]) = panH W H := by simp [panH]
  have hcv := aConv_str (h := h2) (l := panH W H) (by simp [maxSize]; omega)
  simp (disch := (first | omega | (simp only [List.length_append, List.length_cons, List.length_nil]; omega)))
  try rw [eH]
  simp (disch := omega) [hcv]
  subst hK
  simp only [seqQ_zero]
  simp (disch := omega)
  obtain ⟨h3, e3⟩ : ∃ h3, h3 = h2 ++ [⟨bytesV (panH W H), true⟩] := ⟨_, rfl⟩
  have e3' : h2 ++ [⟨List.map (fun b : UInt8 => U b.toNat) (panH W H), true⟩] = h3 := by rw [e3]; rfl
  try rw [e3']
  have g3 : Grows h2 h3 := ⟨_, e3⟩
  have G3 := G2.trans g3
  have L2 := G2.le
  refine awp_loop (fun (k : Nat) σ h' => k ≤ br.length ∧ Grows h h' ∧ σ 0 = pt b o ∧ Buf h h' (σ 3) 1 (bytesV (panH W H ++ sgT br k)) ∧ σ 4 = I k) (fun k => br.length - k) 0 ?_ ?_
  · refine ⟨by omega, G3, by simp, ?_, by simp⟩
    rw [sgT_zero]
    simp
    exact .inr ⟨h2.length, (panH W H).length, by simp, by simp [bytesV], L2, by rw [e3]; simp⟩
  rintro k σ h' ⟨hk, hg, q0, hB, q4⟩
  have k2' := hg.cell k2
  simp (disch := omega) [q0, q4, k2']
  refine fork_dec (fun hlt => ?_) (fun hge => ?_)
  · have kl : k < br.length := by omega
    have cb := ints_cell (hc0.imp id (grows_cellsAt hg)) kl
    simp (disch := omega) [q0, q4, k2', kl, cb]
    refine callW_of (c470 _ _) ?_
    rintro _ h4 ⟨rfl, rfl⟩
    simp (disch := omega)
    have hlen := sgT_len br k
    refine append_bytes hp (by simp; omega) hg hB (xs := [signB br[k]]) (n := 1) (by simp) rfl (by simp [aBuildSlice, bytesV]) fun v4 h4 g4 b4 => ?_
    simp (disch := omega) [q0, q4, wrap64]
    refine ⟨k + 1, ⟨by omega, g4, ?_, by omega⟩, by omega⟩
    rw [sgT_succ kl]
    simpa using b4
  · have hkn : k = br.length := by omega
    subst hkn
    rw [sgT_all] at hB
    simp (disch := omega) [text_buf hB]
    exact ⟨hg, rfl⟩

theorem c402 (h : Heap) (hp : 0 < h.length) (v : Value) (X : Pan) (hv : Vr h shPanel v X) : ACall Gam 402 [v] h fun r h' => Grows h h' ∧ r = S (panText X) := by
  obtain ⟨W, H, br⟩ := X
  obtain ⟨s, rfl, w1, w2, r1⟩ := hv.panel
  refine ACall_intro g402 rfl ?_
  unfold fn402
  simp (disch := omega)
  obtain ⟨ha, eha⟩ : ∃ ha, ha = h ++ [⟨[I W, I H, s], true⟩] := ⟨_, rfl⟩
  rw [← eha]
  have ga : Grows h ha := ⟨_, eha⟩
  have ka : ha[h.length]? = some ⟨[I W, I H, s], true⟩ := by rw [eha]; simp
  have hpt : PtP ha (pt h.length 0) (W, H, br) := PtP.at ka (r1.grow ga) w1 w2
  refine callW_of (c452 _ _ ha hpt) ?_
  rintro _ h1 ⟨rfl, rfl⟩
  cases q : okP (W, H, br)
  · simp (disch := omega) [panText, q]
    exact ga
  · have ok := okP_iff.1 q
    have := ok_len ok
    simp (disch := omega)
    refine callW_of (c472 h1 (pos_of hp ga) _ W H br hpt (by omega)) ?_
    rintro _ h2 ⟨g2, rfl⟩
    simp (disch := omega) [panText, q]
    exact ga.trans g2

/-! ### journals -/
def deskT (X : Jrn) : List UInt8 := panT X.1 ++ [32] ++ decS X.2.1.length ++ [32] ++ decS X.2.2.length
def deskAns (X : Jrn) : List UInt8 := if okJ X then deskT X else []
theorem len_64 {n : Nat} (h : n ≤ 1048576) : I64 (n : Int) := by unfold I64; omega

theorem c157 (h : Heap) (hp : 0 < h.length) (v0 : Value) (W H : Int) (br : List Int) (p f : List Trip) (hv0 : Vr h shJournal v0 ((W, H, br), p, f)) (hb : ∀ x ∈ br, 0 ≤ x ∧ x ≤ 2) (hl : br.length ≤ 1048576) (lp : p.length ≤ 1048576) (lf : f.length ≤ 1048576) :
    ACall Gam 157 [v0] h fun r h' => Grows h h' ∧ r = S (deskT ((W, H, br), p, f)) := by
  obtain ⟨s, sp, sf, rfl, w1, w2, r1, r2, r3⟩ := hv0.journal
  obtain ⟨pb, po, pz, rfl, _⟩ := r2.trips
  obtain ⟨fb, fo, fz, rfl, _⟩ := r3.trips
  have rp : Vr h shPanel (.agg #[I W, I H, s]) (W, H, br) := Vr.of_panel w1 w2 r1
  have lt := panT_len (X := (W, H, br)) w1 w2
  simp only at lt
  have d1 := decS_len (len_64 lp)
  have d2 := decS_len (len_64 lf)
  refine ACall_intro g157 rfl ?_
  unfold fn157
  simp (disch := omega)
  refine callW_of (c182 h hp _ W H br rp hb hl) ?_
  rintro _ h1 ⟨g1, rfl⟩
  simp (disch := (first | omega | (simp only [List.length_append, List.length_cons, List.length_nil]; omega)))
  refine callW_of (c75 _ (len_64 lp) h1 (pos_of hp g1)) ?_
  rintro _ h2 ⟨rfl, g2⟩
  have G2 := g1.trans g2
  simp (disch := (first | omega | (simp only [List.length_append, List.length_cons, List.length_nil]; omega)))
  refine callW_of (c75 _ (len_64 lf) h2 (pos_of hp G2)) ?_
  rintro _ h3 ⟨rfl, g3⟩
  simp (disch := (first | omega | (simp only [List.length_append, List.length_cons, List.length_nil]; omega))) [deskT]
  exact G2.trans g3

theorem c580 (h : Heap) (hp : 0 < h.length) (v0 : Value) (W H : Int) (br : List Int) (p f : List Trip) (hv0 : PtJ h v0 ((W, H, br), p, f)) (hok : okP (W, H, br) = true) (lp : p.length ≤ 1048576) (lf : f.length ≤ 1048576) :
    ACall Gam 580 [v0] h fun r h' => Grows h h' ∧ r = S (deskT ((W, H, br), p, f)) := by
  obtain ⟨jb, jo, s, sp, sf, rfl, hc, r1, r2, r3, w1, w2⟩ := hv0
  simp only at hc r1 r2 r3 w1 w2
  obtain ⟨pb, po, pz, rfl, _⟩ := r2.trips
  obtain ⟨fb, fo, fz, rfl, _⟩ := r3.trips
  have k3 : cell h jb (jo + 3) = _ := (cell_in (i := 3) hc (by omega)).1
  have k4 : cell h jb (jo + 4) = _ := (cell_in (i := 4) hc (by omega)).1
  simp at k3 k4
  have kw : cellsAt h jb jo 3 = some [I W, I H, s] := by
    have := cellsAt_in (i := 0) (m := 3) hc (by omega)
    simpa using this
  have rp : Vr h shPanel (.agg #[I W, I H, s]) (W, H, br) := Vr.of_panel w1 w2 r1
  have ok := okP_iff.1 hok
  have hbl := ok_len ok
  have lt := panT_len (X := (W, H, br)) w1 w2
  simp only at lt
  have eT : panText (W, H, br) = panT (W, H, br) := by simp [panText, hok]
  have d1 := decS_len (len_64 lp)
  have d2 := decS_len (len_64 lf)
  refine ACall_intro g580 rfl ?_
  unfold fn580
  simp (disch := omega) [kw]
  refine callW_of (c402 h hp _ (W, H, br) rp) ?_
  rintro _ h1 ⟨g1, rfl⟩
  rw [eT]
  refine ⟨fun _ => g1, ?_⟩
  have k3' := g1.cell k3
  simp (disch := (first | omega | (simp only [List.length_append, List.length_cons, List.length_nil]; omega))) [k3']
  refine callW_of (c437 _ (len_64 lp) h1 (pos_of hp g1)) ?_
  rintro _ h2 ⟨rfl, g2⟩
  have G2 := g1.trans g2
  refine ⟨fun _ => g2, ?_⟩
  have k4' := G2.cell k4
  simp (disch := (first | omega | (simp only [List.length_append, List.length_cons, List.length_nil]; omega))) [k4']
  refine callW_of (c437 _ (len_64 lf) h2 (pos_of hp G2)) ?_
  rintro _ h3 ⟨rfl, g3⟩
  simp (disch := (first | omega | (simp only [List.length_append, List.length_cons, List.length_nil]; omega))) [deskT]
  exact G2.trans g3

theorem c77 (h : Heap) (hp : 0 < h.length) (v0 : Value) (X0 : Jrn) (hv0 : Vr h shJournal v0 X0) (hs0 : siz shJournal X0 ≤ 1048576) :
    ACall Gam 77 [v0] h fun r h' => Grows h h' ∧ r = S (deskAns X0) := by
  obtain ⟨⟨W, H, br⟩, p, f⟩ := X0
  have hv0' := hv0
  obtain ⟨s, sp, sf, rfl, w1, w2, r1, r2, r3⟩ := hv0.journal
  refine ACall_intro g77 rfl ?_
  unfold fn77
  simp (disch := omega)
  refine callW_of (c138 h hp _ _ hv0' hs0) ?_
  rintro _ h1 ⟨g1, rfl⟩
  cases q : okJ ((W, H, br), p, f)
  · simp (disch := omega) [deskAns, q]
    exact g1
  obtain ⟨ok, hle, _⟩ := okJ_parts q
  have hbl := ok_len ok
  simp (disch := omega)
  refine callW_of (c157 h1 (pos_of hp g1) _ W H br p f (hv0'.grow g1) ok.b (by omega) (by omega) (by omega)) ?_
  rintro _ h2 ⟨g2, rfl⟩
  simp (disch := omega) [deskAns, q]
  exact g1.trans g2

theorem c344 (h : Heap) (hp : 0 < h.length) (v0 : Value) (X0 : Jrn) (hv0 : Vr h shJournal v0 X0) (hs0 : siz shJournal X0 ≤ 1048576) :
    ACall Gam 344 [v0] h fun r h' => Grows h h' ∧ r = S (deskAns X0) := by
  obtain ⟨⟨W, H, br⟩, p, f⟩ := X0
  obtain ⟨s, sp, sf, rfl, w1, w2, r1, r2, r3⟩ := hv0.journal
  refine ACall_intro g344 rfl ?_
  unfold fn344
  simp (disch := omega)
  obtain ⟨ha, eha⟩ : ∃ ha, ha = h ++ [⟨[I W, I H, s, sp, sf], true⟩] := ⟨_, rfl⟩
  rw [← eha]
  have ga : Grows h ha := ⟨_, eha⟩
  have ka : ha[h.length]? = some ⟨[I W, I H, s, sp, sf], true⟩ := by rw [eha]; simp
  have hj := PtJ.of ka (r1.grow ga) (r2.grow ga) (r3.grow ga) w1 w2
  refine callW_of (c558 ha (pos_of hp ga) _ _ hj hs0) ?_
  rintro _ h1 ⟨g1, rfl⟩
  have g1 := g1
  have G1 := ga.trans g1
  cases q : okJ ((W, H, br), p, f)
  · simp (disch := omega) [deskAns, q]
    exact G1
  obtain ⟨ok, hle, _⟩ := okJ_parts q
  have hbl := ok_len ok
  simp (disch := omega)
  refine callW_of (c580 h1 (pos_of hp G1) _ W H br p f (hj.grow g1) (okP_iff.2 ok) (by omega) (by omega)) ?_
  rintro _ h2 ⟨g2, rfl⟩
  simp (disch := omega) [deskAns, q]
  exact G1.trans g2
end Am
/-! AmJ9 -/
set_option linter.unusedVariables false
set_option linter.unusedSimpArgs false
set_option maxHeartbeats 4000000
set_option maxRecDepth 4000
namespace Am
open Go

/-- JM with its parts named. -/
def JMx (h : Heap) (lo jb : Nat) (X : Jrn) (rest : List Value) (b1 z1 b2 z2 b3 z3 : Nat) : Prop :=
  h[jb]? = some ⟨[I X.1.1, I X.1.2.1, sl b1 0 X.1.2.2.length z1, sl b2 0 X.2.1.length z2, sl b3 0 X.2.2.length z3], true⟩ ∧ lo ≤ jb ∧ 0 < lo ∧ (z1 = 1 ∨ b1 = 0 ∧ X.1.2.2 = []) ∧
  (X.1.2.2 = [] ∨ h[b1]? = some ⟨ints X.1.2.2, true⟩ ∧ lo ≤ b1 ∧ b1 ≠ jb ∧ b1 ≠ b2 ∧ b1 ≠ b3) ∧
  (X.2.1 = [] ∧ b2 = 0 ∨ z2 = 3 ∧ h[b2]? = some ⟨trips X.2.1 ++ rest, true⟩ ∧ lo ≤ b2 ∧ b2 ≠ jb ∧ b2 ≠ b3) ∧
  (X.2.2 = [] ∧ b3 = 0 ∨ z3 = 3 ∧ h[b3]? = some ⟨trips X.2.2, true⟩ ∧ lo ≤ b3 ∧ b3 ≠ jb) ∧ Jwf X
theorem JMx.jm {h : Heap} {lo jb : Nat} {X : Jrn} {rest : List Value} {b1 z1 b2 z2 b3 z3 : Nat} (x : JMx h lo jb X rest b1 z1 b2 z2 b3 z3) : JM h lo jb X rest := ⟨_, _, _, _, _, _, x⟩

theorem JMx.brs {h : Heap} {lo jb : Nat} {W H : Int} {br : List Int} {p f : List Trip} {rest : List Value} {b1 z1 b2 z2 b3 z3 : Nat} (x : JMx h lo jb ((W, H, br), p, f) rest b1 z1 b2 z2 b3 z3) {k : Nat} {v : Int} (hk : k < br.length) (hv : I64 v) :
    ∃ h', storeAt h b1 k [I v] = some h' ∧ JMx h' lo jb ((W, H, br.set k v), p, f) rest b1 z1 b2 z2 b3 z3 ∧ Mod lo h.length h h' ∧ h'.length = h.length := by
  obtain ⟨hjb, hlo, hpos, hz1, i1, i2, i3, w1, w2, x1, x2, x3, y1, y2, y3⟩ := x
  simp only at hjb hz1 i1 i2 i3 w1 w2 x1 x2 x3 y1 y2 y3
  have hne : br ≠ [] := by intro e; rw [e] at hk; simp at hk
  obtain ⟨hb1, j1, j2, j3, j4⟩ := i1.resolve_left hne
  have hl := at_lt hb1
  refine ⟨_, store_int hb1 hk, ⟨?_, hlo, hpos, ?_, .inr ⟨?_, j1, j2, j3, j4⟩, i2.imp id fun e => ⟨e.1, ?_, e.2.2.1, e.2.2.2.1, e.2.2.2.2⟩, i3.imp id fun e => ⟨e.1, ?_, e.2.2.1, e.2.2.2⟩, ⟨w1, w2, ?_, x2, x3, by simpa using y1, y2, y3⟩⟩, ⟨by simp, ?_⟩, by simp⟩
  · rw [set_other (by omega), hjb]; simp
  · exact .inl (hz1.resolve_right fun e => hne e.2)
  · simp [hl]
  · rw [set_other (by omega)]; exact e.2.1
  · rw [set_other (by omega)]; exact e.2.1
  · intro y hy
    rcases List.mem_or_eq_of_mem_set hy with hy | rfl
    · exact x1 y hy
    · exact hv
  · intro c hc hn
    rw [set_other (by omega)]

theorem JMx.past {h h1 : Heap} {lo jb : Nat} {W H : Int} {br : List Int} {p f p' : List Trip} {rest rest' : List Value} {b1 z1 b2 z2 b3 z3 nb : Nat} (x : JMx h lo jb ((W, H, br), p, f) rest b1 z1 b2 z2 b3 z3)
    (hl : h.length ≤ h1.length) (hk : ∀ c, c < h.length → c ≠ b2 ∨ b2 = 0 → h1[c]? = h[c]?) (hn : h1[nb]? = some ⟨trips p' ++ rest', true⟩) (hnb : h.length ≤ nb ∨ nb = b2 ∧ p ≠ []) (hp : ∀ t ∈ p', T64 t) (hpl : p'.length ≤ 1048576) :
    ∃ h', storeAt h1 jb 3 [sl nb 0 p'.length 3] = some h' ∧ JMx h' lo jb ((W, H, br), p', f) rest' b1 z1 nb 3 b3 z3 ∧ Mod lo h.length h h' ∧ h'.length = h1.length := by
  obtain ⟨hjb, hlo, hpos, hz1, i1, i2, i3, w1, w2, x1, x2, x3, y1, y2, y3⟩ := x
  simp only at hjb hz1 i1 i2 i3 w1 w2 x1 x2 x3 y1 y2 y3
  have hjl := at_lt hjb
  have j2 : jb ≠ b2 ∨ b2 = 0 := by rcases i2 with e | e <;> omega
  have hj1 : h1[jb]? = some ⟨[I W, I H, sl b1 0 br.length z1, sl b2 0 p.length z2, sl b3 0 f.length z3], true⟩ := by rw [hk jb hjl j2]; exact hjb
  have hs := store_one (v := sl nb 0 p'.length 3) (o := 3) hj1 (by simp)
  refine ⟨_, hs, ⟨?_, hlo, hpos, hz1, i1.imp id fun e => ⟨?_, e.2.1, e.2.2.1, ?_, e.2.2.2.2⟩, .inr ⟨rfl, ?_, ?_, ?_, ?_⟩, i3.imp id fun e => ⟨e.1, ?_, e.2.2.1, e.2.2.2⟩, ⟨w1, w2, x1, hp, x3, y1, hpl, y3⟩⟩, ⟨by simp; exact hl, ?_⟩, by simp⟩
  · simp [at_lt hj1]
  · rw [set_other (by omega), hk b1 (at_lt e.1) (by omega)]; exact e.1
  · have := at_lt e.1
    rcases hnb with e' | e'
    · omega
    · omega
  · have hne : nb ≠ jb := by
      rcases hnb with e' | e'
      · omega
      · have := i2.resolve_left fun e => e'.2 e.1
        omega
    rw [set_other hne]; exact hn
  · rcases hnb with e' | e'
    · omega
    · have := i2.resolve_left fun e => e'.2 e.1
      omega
  · rcases hnb with e' | e'
    · omega
    · have := i2.resolve_left fun e => e'.2 e.1
      omega
  · rcases hnb with e' | e'
    · rcases i3 with e | e
      · omega
      · have := at_lt e.2.1; omega
    · have := i2.resolve_left fun e => e'.2 e.1
      omega
  · rw [set_other (by omega), hk b3 (at_lt e.2.1) (by rcases i2 with e' | e' <;> omega)]; exact e.2.1
  · intro c hc hn
    rw [set_other (by omega), hk c hc (by rcases i2 with e' | e' <;> omega)]

theorem JMx.fut {h h1 : Heap} {lo jb : Nat} {W H : Int} {br : List Int} {p f f' : List Trip} {rest : List Value} {b1 z1 b2 z2 b3 z3 nb : Nat} (x : JMx h lo jb ((W, H, br), p, f) rest b1 z1 b2 z2 b3 z3)
    (hl : h.length ≤ h1.length) (hk : ∀ c, c < h.length → c ≠ b3 ∨ b3 = 0 → h1[c]? = h[c]?) (hn : nb = 0 ∧ f' = [] ∨ h1[nb]? = some ⟨trips f', true⟩ ∧ h.length ≤ nb) (hp : ∀ t ∈ f', T64 t) (hpl : f'.length ≤ 1048576) :
    ∃ h', storeAt h1 jb 4 [sl nb 0 f'.length 3] = some h' ∧ JMx h' lo jb ((W, H, br), p, f') rest b1 z1 b2 z2 nb 3 ∧ Mod lo h.length h h' ∧ h'.length = h1.length := by
  obtain ⟨hjb, hlo, hpos, hz1, i1, i2, i3, w1, w2, x1, x2, x3, y1, y2, y3⟩ := x
  simp only at hjb hz1 i1 i2 i3 w1 w2 x1 x2 x3 y1 y2 y3
  have hjl := at_lt hjb
  have j2 : jb ≠ b3 ∨ b3 = 0 := by rcases i3 with e | e <;> omega
  have hj1 : h1[jb]? = some ⟨[I W, I H, sl b1 0 br.length z1, sl b2 0 p.length z2, sl b3 0 f.length z3], true⟩ := by rw [hk jb hjl j2]; exact hjb
  have hs := store_one (v := sl nb 0 f'.length 3) (o := 4) hj1 (by simp)
  refine ⟨_, hs, ⟨?_, hlo, hpos, hz1, i1.imp id fun e => ⟨?_, e.2.1, e.2.2.1, e.2.2.2.1, ?_⟩, i2.imp id fun e => ⟨e.1, ?_, e.2.2.1, e.2.2.2.1, ?_⟩, ?_, ⟨w1, w2, x1, x2, hp, y1, y2, hpl⟩⟩, ⟨by simp; exact hl, ?_⟩, by simp⟩
  · simp [at_lt hj1]
  · rw [set_other (by omega), hk b1 (at_lt e.1) (by omega)]; exact e.1
  · have := at_lt e.1
    rcases hn with e' | e' <;> omega
  · rw [set_other (by omega), hk b2 (at_lt e.2.1) (by omega)]; exact e.2.1
  · have := at_lt e.2.1
    rcases hn with e' | e' <;> omega
  · rcases hn with e' | e'
    · exact .inl ⟨e'.2, e'.1⟩
    · exact .inr ⟨rfl, by rw [set_other (by omega)]; exact e'.1, by omega, by omega⟩
  · intro c hc hn
    rw [set_other (by omega), hk c hc (by rcases i3 with e' | e' <;> omega)]

theorem JMx.cells {h : Heap} {lo jb : Nat} {X : Jrn} {rest : List Value} {b1 z1 b2 z2 b3 z3 : Nat} (x : JMx h lo jb X rest b1 z1 b2 z2 b3 z3) :
    cell h jb 2 = some (sl b1 0 X.1.2.2.length z1) ∧ cell h jb 3 = some (sl b2 0 X.2.1.length z2) ∧ cell h jb 4 = some (sl b3 0 X.2.2.length z3) := by
  have := x.1
  simp [cell, this]
theorem trip_first {h : Heap} {b : Nat} {s : Trip} {f : List Trip} {r : List Value} {w : Bool} (hb : h[b]? = some ⟨trips (s :: f) ++ r, w⟩) : cellsAt h b 0 3 = some [I s.1, I s.2.1, I s.2.2] := by
  rw [cellsAt_of hb (by simp [trips_cons])]
  simp [trips_cons]
theorem trip_last {h : Heap} {b : Nat} {s : Trip} {p : List Trip} {r : List Value} {w : Bool} (hb : h[b]? = some ⟨trips (p ++ [s]) ++ r, w⟩) : cellsAt h b (p.length * 3) 3 = some [I s.1, I s.2.1, I s.2.2] := by
  rw [cellsAt_of hb (by simp [trips_append, trips_cons, trips_nil, trips_len]; omega)]
  rw [trips_append, List.append_assoc, List.drop_append_of_le_length (by rw [trips_len]; omega), List.drop_of_length_le (by rw [trips_len]; omega)]
  simp [trips_cons, trips_nil]

theorem Mod.tr {lo : Nat} {a b c : Heap} (x : Mod lo a.length a b) (y : Mod lo b.length b c) : Mod lo a.length a c :=
  ⟨Nat.le_trans x.1 y.1, fun k hk hn => by rw [y.2 k (Nat.lt_of_lt_of_le hk x.1) (by omega), x.2 k hk hn]⟩
/-- Steps put behind nothing. -/
theorem append_zero {h : Heap} {x : Value} {f : List Trip} {k : Value → Heap → Prop} (hn : newCells 3 h x = some (trips f)) (hf : f.length ≤ 1048576)
    (hk : ∀ nb h', Grows h h' → (nb = 0 ∧ f = [] ∨ h'[nb]? = some ⟨trips f, true⟩ ∧ h.length ≤ nb) → k (sl nb 0 f.length 3) h') : bindW (aAppend 3 h x (sl 0 0 0 3)) k := by
  by_cases hfe : f = []
  · subst hfe
    have e : aAppend 3 h x (sl 0 0 0 3) = some (sl 0 0 0 3, h) := by simp [aAppend, hn, trips_nil]
    rw [e]
    exact hk 0 h (Grows.refl _) (.inl ⟨rfl, rfl⟩)
  · have hne : trips f ≠ [] := fun e => hfe (trips_inj_nil e)
    have e : aAppend 3 h x (sl 0 0 0 3) = some (sl h.length 0 f.length 3, h ++ [⟨trips f, true⟩]) := by
      simp only [aAppend, hn]
      rw [if_neg (by omega), if_neg hne, if_neg (by rw [trips_len]; simp [maxSize]; omega), if_pos trivial, trips_len]
      simp
    rw [e]
    exact hk _ _ ⟨_, rfl⟩ (.inr ⟨by simp, Nat.le_refl _⟩)
/-- Steps put behind one step in a block of our own. -/
theorem append_one {h : Heap} {x : Value} {b : Nat} {s : Trip} {f : List Trip} {k : Value → Heap → Prop} (hb : h[b]? = some ⟨trips [s], true⟩) (h0 : b ≠ 0) (hn : newCells 3 h x = some (trips f)) (hf : f.length ≤ 1048576)
    (hk : ∀ nb h', h.length ≤ h'.length → (∀ c, c < h.length → c ≠ b → h'[c]? = h[c]?) → h'[nb]? = some ⟨trips (s :: f), true⟩ → b ≤ nb → k (sl nb 0 (f.length + 1) 3) h') : bindW (aAppend 3 h x (sl b 0 1 3)) k := by
  have hl := at_lt hb
  by_cases hfe : f = []
  · subst hfe
    have e : aAppend 3 h x (sl b 0 1 3) = some (sl b 0 1 3, h) := by simp [aAppend, hn, trips_nil]
    rw [e]
    exact hk b h (Nat.le_refl _) (fun c _ _ => rfl) hb (Nat.le_refl _)
  · have hne : trips f ≠ [] := fun e => hfe (trips_inj_nil e)
    have e : aAppend 3 h x (sl b 0 1 3) = some (sl h.length 0 (f.length + 1) 3, h.set b ⟨[], false⟩ ++ [⟨trips (s :: f), true⟩]) := by
      simp only [aAppend, hn]
      rw [if_neg (by omega), if_neg hne, if_neg (by rw [trips_len]; simp [maxSize]; omega), if_neg h0]
      simp only [hb]
      rw [if_pos ⟨trivial, trivial⟩, cellsAt_all hb (by rw [trips_len]; rfl), trips_len]
      simp only [trips_cons, trips_nil, Nat.mul_div_cancel _ (show 0 < 3 by omega), Nat.add_comm 1, List.cons_append, List.append_nil, List.nil_append, Nat.mul_comm 3, trip]
      try rw [Nat.mul_div_cancel _ (show 0 < 3 by omega)]
    rw [e]
    refine hk _ _ (by simp) (fun c hc hn => ?_) (by simp) (by omega)
    rw [List.getElem?_append_left (by simpa using hc), List.getElem?_set_ne (by omega)]

theorem c560 (h : Heap) (lo jb : Nat) (W H : Int) (br : List Int) (p f : List Trip) (a x y : Int) (rest : List Value) (hJ : JM h lo jb ((W, H, br), p, (a, x, y) :: f) rest) (ha : 0 ≤ a) (hb : a < br.length) (hp : p.length ≤ 1000) (hf : f.length ≤ 1000) :
    ACall Gam 560 [pt jb 0] h fun _ h' => Mod lo h.length h h' ∧ JM h' lo jb ((W, H, br.set a.toNat y), p ++ [(a, x, y)], f) [] := by
  obtain ⟨b1, z1, b2, z2, b3, z3, hJ⟩ := hJ
  have hJ : JMx h lo jb ((W, H, br), p, (a, x, y) :: f) rest b1 z1 b2 z2 b3 z3 := hJ
  obtain ⟨an, rfl⟩ := Int.eq_ofNat_of_zero_le ha
  rw [Int.toNat_natCast]
  have han : an < br.length := by omega
  have wf := hJ.2.2.2.2.2.2.2
  have wft : T64 ((an : Int), x, y) := wf.f _ (by simp)
  have wfb : ∀ t ∈ f, T64 t := fun t ht => wf.f _ (by simp [ht])
  have wfp : ∀ t ∈ p, T64 t := wf.p
  obtain ⟨k2, k3, k4⟩ := hJ.cells
  simp only [List.length_cons] at k2 k3 k4
  obtain ⟨z3e, hb3, _⟩ := hJ.2.2.2.2.2.2.1.resolve_left (by simp)
  have hb30 : b3 ≠ 0 := by omega
  have c3 := trip_first (r := []) (by rw [List.append_nil]; exact hb3)
  simp only at c3
  refine ACall_intro g560 rfl ?_
  unfold fn560
  rw [awp_seq, awp_reg]
  generalize hK : seqQ Gam _ _ 0 = K
  simp (disch := omega) [k4, c3]
  subst hK
  simp only [seqQ_zero]
  rw [awp_seq, awp_reg]
  generalize hK : seqQ Gam _ _ 0 = K
  obtain ⟨h1, s1, J1, m1, e1⟩ := hJ.brs han wft.2.2
  simp (disch := omega) [k2, han, s1]
  subst hK
  simp only [seqQ_zero]
  rw [awp_seq, awp_reg]
  generalize hK : seqQ Gam _ _ 0 = K
  obtain ⟨k2, k3, k4⟩ := J1.cells
  simp only [List.length_cons, List.length_set] at k2 k3 k4
  simp (disch := omega) [k3, aBuildSlice]
  have i2 := J1.2.2.2.2.2.1
  simp only at i2
  refine append_rest (cs := trips p) (rest := rest) (new := [I an, I x, I y]) ?_ ?_ ?_ (by omega) (by simp) (by simp) (by rw [trips_len]; simp [maxSize]; omega) ?_
  · rcases i2 with ⟨e1, e2⟩ | ⟨e1, e2, e3, e4, e5⟩
    · left; exact ⟨by rw [e1]; rfl, by rw [e1]; rfl, e2⟩
    · right
      refine ⟨by have := J1.2.2.1; omega, by rw [trips_len]; omega, ?_⟩
      rw [List.getElem?_append_left (at_lt e2)]; exact e2
  · rcases i2 with ⟨e1, e2⟩ | ⟨e1, e2, e3, e4, e5⟩
    · exact .inl e2
    · exact .inr e1
  · simp [newCells]
    rw [cellsAt_of (k := ⟨[I an, I x, I y], true⟩) (by simp) (by simp)]
    simp
  intro h3 hl3 hk3 hn3
  simp only [List.length_append, List.length_cons, List.length_nil] at hl3 hk3 hn3
  obtain ⟨h4, s4, J4, m4, e4⟩ := J1.past (h1 := h3) (p' := p ++ [((an : Int), x, y)]) (rest' := []) (nb := h1.length + 1) (by omega) (fun c hc hn => by rw [hk3 c (by omega) hn, List.getElem?_append_left (by omega)])
    (by rw [hn3]; simp [trips_append, trips_cons, trips_nil]) (.inl (by omega)) (by
      intro t ht
      rcases List.mem_append.1 ht with ht | ht
      · exact wfp t ht
      · simp at ht; subst ht; exact wft) (by simp; omega)
  simp only [List.length_append, List.length_cons, List.length_nil, Nat.zero_add] at s4
  simp (disch := omega) [s4]
  subst hK
  simp only [seqQ_zero]
  obtain ⟨k2, k3, k4⟩ := J4.cells
  simp only [List.length_cons, List.length_set] at k2 k3 k4
  simp (disch := omega) [k4, aSlice, bound, z3e]
  have i3 := J4.2.2.2.2.2.2.1.resolve_left (by simp)
  have hn : newCells 3 h4 (sl b3 3 f.length 3) = some (trips f) := by
    by_cases hfe : f = []
    · subst hfe; rfl
    · have : f.length ≠ 0 := fun e => hfe (List.length_eq_zero_iff.1 e)
      simp only [newCells, if_neg this]
      have hb := i3.2.1
      simp only at hb
      rw [cellsAt_of (k := ⟨_, _⟩) hb (by simp only [List.length_append, trips_cons, List.length_cons, trips_len]; omega)]
      congr 1
      simp only [trips_cons, List.drop_succ_cons, List.drop_zero]
      exact List.take_of_length_le (by rw [trips_len]; omega)
  refine append_zero hn (by omega) fun nb h5 g5 hnb => ?_
  obtain ⟨h6, s6, J6, m6, e6⟩ := J4.fut (h1 := h5) (nb := nb) g5.le (fun c hc _ => g5.look hc) hnb wfb (by omega)
  simp (disch := omega) [s6]
  have := m1.tr (m4.tr m6)
  exact ⟨this, J6.jm⟩
theorem c310 (h : Heap) (b : Nat) (s : Trip) (f : List Trip) (hb : h[b]? = some ⟨trips (s :: f), true⟩) (h0 : b ≠ 0) :
    ACall Gam 310 [sl b 0 (f.length + 1) 3, I 0, I 1] h fun r h' => r = sl h.length 0 f.length 3 ∧ h' = h.set b ⟨[], false⟩ ++ [⟨trips f, true⟩] := by
  have hd : primDelete 3 [sl b 0 (f.length + 1) 3, I 0, I 1] h = some (sl h.length 0 f.length 3, h.set b ⟨[], false⟩ ++ [⟨trips f, true⟩]) := by
    simp [primDelete, hb, h0]
    refine ⟨by omega, ?_⟩
    rw [cellsAt_all hb (by simp [trips_cons, trips_len]; omega)]
    simp [trips_cons]
  exact ACall_prim g310 rfl rfl hd ⟨rfl, rfl⟩
theorem c317 (h : Heap) (b c z : Nat) (s : Trip) (f : List Trip) (hb : f = [] ∧ b = 0 ∨ z = 3 ∧ b ≠ 0 ∧ h[b]? = some ⟨trips f, true⟩) (hc : h[c]? = some ⟨trips [s], true⟩) (hne : c ≠ b) (hf : f.length ≤ 1048576) :
    ACall Gam 317 [sl b 0 f.length z, I 0, sl c 0 1 3] h fun r h' => r = sl h.length 0 (f.length + 1) 3 ∧ h.length < h'.length ∧ (∀ k, k < h.length → k ≠ b ∨ b = 0 → h'[k]? = h[k]?) ∧ h'[h.length]? = some ⟨trips (s :: f), true⟩ := by
  have hn : newCells 3 h (sl c 0 1 3) = some [I s.1, I s.2.1, I s.2.2] := by
    simp only [newCells, if_neg (show ¬ (1 : Nat) = 0 by omega)]
    rw [cellsAt_all hc (by rw [trips_len]; rfl)]
    simp [trips_cons, trips_nil]
  rcases hb with ⟨rfl, rfl⟩ | ⟨rfl, h0, hb⟩
  · have hi : primInsert 3 [sl 0 0 0 z, I 0, sl c 0 1 3] h = some (sl h.length 0 1 3, h ++ [⟨[I s.1, I s.2.1, I s.2.2], true⟩]) := by
      simp [primInsert, hn, maxSize, hne]
    exact ACall_prim g317 rfl rfl hi ⟨rfl, by simp, fun k hk _ => List.getElem?_append_left hk, by simp [trips_cons, trips_nil]⟩
  · have hi : primInsert 3 [sl b 0 f.length 3, I 0, sl c 0 1 3] h = some (sl h.length 0 (f.length + 1) 3, h.set b ⟨[], false⟩ ++ [⟨trips (s :: f), true⟩]) := by
      simp only [primInsert, hn]
      rw [if_neg (by simp [maxSize]; omega), if_neg h0]
      simp only [hb, hc]
      rw [if_pos ⟨trivial, trivial, trivial⟩, cellsAt_all hb (by rw [trips_len]; omega)]
      simp [trips_cons]
    exact ACall_prim g317 rfl rfl hi ⟨rfl, by simp, fun k hk hn => by rw [List.getElem?_append_left (by simpa using hk), set_other (by omega)], by simp⟩
theorem c1 (h : Heap) (lo jb : Nat) (W H : Int) (br : List Int) (p f : List Trip) (a x y : Int) (rest : List Value) (hJ : JM h lo jb ((W, H, br), p, (a, x, y) :: f) rest) (ha : 0 ≤ a) (hb : a < br.length) (hp : p.length ≤ 1000) (hf : f.length ≤ 1000) :
    ACall Gam 1 [pt jb 0] h fun _ h' => Mod lo h.length h h' ∧ JM h' lo jb ((W, H, br.set a.toNat y), p ++ [(a, x, y)], f) [] := by
  obtain ⟨b1, z1, b2, z2, b3, z3, hJ⟩ := hJ
  have hJ : JMx h lo jb ((W, H, br), p, (a, x, y) :: f) rest b1 z1 b2 z2 b3 z3 := hJ
  obtain ⟨an, rfl⟩ := Int.eq_ofNat_of_zero_le ha
  rw [Int.toNat_natCast]
  have han : an < br.length := by omega
  have wf := hJ.2.2.2.2.2.2.2
  have wft : T64 ((an : Int), x, y) := wf.f _ (by simp)
  have wfb : ∀ t ∈ f, T64 t := fun t ht => wf.f _ (by simp [ht])
  have wfp : ∀ t ∈ p, T64 t := wf.p
  obtain ⟨k2, k3, k4⟩ := hJ.cells
  simp only [List.length_cons] at k2 k3 k4
  obtain ⟨z3e, hb3, _⟩ := hJ.2.2.2.2.2.2.1.resolve_left (by simp)
  have hb30 : b3 ≠ 0 := by omega
  have c3 := trip_first (r := []) (by rw [List.append_nil]; exact hb3)
  simp only at c3
  refine ACall_intro g1 rfl ?_
  unfold fn1
  rw [awp_seq, awp_reg]
  generalize hK : seqQ Gam _ _ 0 = K
  simp (disch := omega) [k4, c3]
  subst hK
  simp only [seqQ_zero]
  rw [awp_seq, awp_reg]
  generalize hK : seqQ Gam _ _ 0 = K
  obtain ⟨h1, s1, J1, m1, e1⟩ := hJ.brs han wft.2.2
  simp (disch := omega) [k2, han, s1]
  subst hK
  simp only [seqQ_zero]
  rw [awp_seq, awp_reg]
  generalize hK : seqQ Gam _ _ 0 = K
  obtain ⟨k2, k3, k4⟩ := J1.cells
  simp only [List.length_cons, List.length_set] at k2 k3 k4
  have i3 := J1.2.2.2.2.2.2.1.resolve_left (by simp)
  simp (disch := omega) [k4]
  have hb := i3.2.1
  simp only at hb
  rw [z3e]
  refine callW_of (c310 h1 b3 _ f hb hb30) ?_
  rintro _ h2 ⟨rfl, e2⟩
  obtain ⟨h6, s6, J6, m6, e6⟩ := J1.fut (h1 := h2) (f' := f) (nb := h1.length) (by rw [e2]; simp) (fun c hc hn => by rw [e2, List.getElem?_append_left (by simpa using hc), set_other (by omega)]) (.inr ⟨by rw [e2]; simp, Nat.le_refl _⟩) wfb (by omega)
  simp (disch := omega) [s6]
  subst hK
  simp only [seqQ_zero]
  obtain ⟨k2, k3, k4⟩ := J6.cells
  simp only [List.length_cons, List.length_set] at k2 k3 k4
  simp (disch := omega) [k3, aBuildSlice]
  have i2 := J6.2.2.2.2.2.1
  simp only at i2
  refine append_rest (cs := trips p) (rest := rest) (new := [I an, I x, I y]) ?_ ?_ ?_ (by omega) (by simp) (by simp) (by rw [trips_len]; simp [maxSize]; omega) ?_
  · rcases i2 with ⟨e1, e2⟩ | ⟨e1, e2, e3, e4, e5⟩
    · left; exact ⟨by rw [e1]; rfl, by rw [e1]; rfl, e2⟩
    · right
      refine ⟨by have := J1.2.2.1; omega, by rw [trips_len]; omega, ?_⟩
      rw [List.getElem?_append_left (at_lt e2)]; exact e2
  · rcases i2 with ⟨e1, e2⟩ | ⟨e1, e2, e3, e4, e5⟩
    · exact .inl e2
    · exact .inr e1
  · simp [newCells]
    rw [cellsAt_of (k := ⟨[I an, I x, I y], true⟩) (by simp) (by simp)]
    simp
  intro h3 hl3 hk3 hn3
  simp only [List.length_append, List.length_cons, List.length_nil] at hl3 hk3 hn3
  obtain ⟨h4, s4, J4, m4, e4⟩ := J6.past (h1 := h3) (p' := p ++ [((an : Int), x, y)]) (rest' := []) (nb := h6.length + 1) (by omega) (fun c hc hn => by rw [hk3 c (by omega) hn, List.getElem?_append_left (by omega)])
    (by rw [hn3]; simp [trips_append, trips_cons, trips_nil]) (.inl (by omega)) (by
      intro t ht
      rcases List.mem_append.1 ht with ht | ht
      · exact wfp t ht
      · simp at ht; subst ht; exact wft) (by simp; omega)
  simp only [List.length_append, List.length_cons, List.length_nil, Nat.zero_add] at s4
  simp (disch := omega) [s4]
  exact ⟨m1.tr (m6.tr m4), J4.jm⟩
theorem c564 (h : Heap) (lo jb : Nat) (W H : Int) (br : List Int) (p f : List Trip) (a x y : Int) (rest : List Value) (hJ : JM h lo jb ((W, H, br), p ++ [(a, x, y)], f) rest) (ha : 0 ≤ a) (hb : a < br.length) (hp : p.length ≤ 1000) (hf : f.length ≤ 1000) :
    ACall Gam 564 [pt jb 0] h fun _ h' => Mod lo h.length h h' ∧ JM h' lo jb ((W, H, br.set a.toNat x), p, (a, x, y) :: f) (trips [(a, x, y)] ++ rest) := by
  obtain ⟨b1, z1, b2, z2, b3, z3, hJ⟩ := hJ
  have hJ : JMx h lo jb ((W, H, br), p ++ [(a, x, y)], f) rest b1 z1 b2 z2 b3 z3 := hJ
  obtain ⟨an, rfl⟩ := Int.eq_ofNat_of_zero_le ha
  rw [Int.toNat_natCast]
  have han : an < br.length := by omega
  have wf := hJ.2.2.2.2.2.2.2
  have wft : T64 ((an : Int), x, y) := wf.p _ (by simp)
  have wfb : ∀ t ∈ f, T64 t := wf.f
  have wfp : ∀ t ∈ p, T64 t := fun t ht => wf.p _ (by simp [ht])
  obtain ⟨k2, k3, k4⟩ := hJ.cells
  simp only [List.length_append, List.length_cons, List.length_nil, Nat.zero_add] at k2 k3 k4
  obtain ⟨z2e, hb2, _⟩ := hJ.2.2.2.2.2.1.resolve_left (by simp)
  simp only at hb2
  have c2 := trip_last hb2
  simp only at c2
  refine ACall_intro g564 rfl ?_
  unfold fn564
  rw [awp_seq, awp_reg]
  generalize hK : seqQ Gam _ _ 0 = K
  simp (disch := omega) [k3]
  subst hK
  simp only [seqQ_zero]
  rw [awp_seq, awp_reg]
  generalize hK : seqQ Gam _ _ 0 = K
  have e1 : ((p.length : Int) + 1 - 1) = p.length := by omega
  have hlt : ((p.length : Int) < p.length + 1) = True := by simp; omega
  simp (disch := omega) [k3, e1, c2, wrap64, hlt]
  subst hK
  simp only [seqQ_zero]
  rw [awp_seq, awp_reg]
  generalize hK : seqQ Gam _ _ 0 = K
  obtain ⟨h1, s1, J1, m1, l1⟩ := hJ.brs han wft.2.1
  simp (disch := omega) [k2, han, s1]
  subst hK
  simp only [seqQ_zero]
  rw [awp_seq, awp_reg]
  generalize hK : seqQ Gam _ _ 0 = K
  obtain ⟨k2, k3, k4⟩ := J1.cells
  simp only [List.length_append, List.length_cons, List.length_nil, Nat.zero_add, List.length_set] at k2 k3 k4
  have i2 := J1.2.2.2.2.2.1.resolve_left (by simp)
  simp only at i2
  obtain ⟨h2, s2, J2, m2, l2⟩ := J1.past (h1 := h1) (p' := p) (rest' := trips [((an : Int), x, y)] ++ rest) (nb := b2) (Nat.le_refl _) (fun c _ _ => rfl) (by rw [i2.2.1]; simp [trips_append]) (.inr ⟨rfl, by simp⟩) wfp (by omega)
  have es : aSlice 7 h1 (sl b2 0 (p.length + 1) 3) none (some (I p.length)) none = some (sl b2 0 p.length 3, h1) := by
    simp [aSlice, bound]
  rw [z2e] at k3
  simp (disch := omega) [k3, e1, wrap64, es, s2]
  subst hK
  simp only [seqQ_zero]
  obtain ⟨k2, k3, k4⟩ := J2.cells
  simp only [List.length_append, List.length_cons, List.length_nil, Nat.zero_add, List.length_set] at k2 k3 k4
  have k4' : cell (h2 ++ [⟨[I an, I x, I y], true⟩]) jb 4 = some (sl b3 0 f.length z3) := by
    simp only [cell] at k4 ⊢
    rw [List.getElem?_append_left (at_lt J2.1)]; exact k4
  simp (disch := omega) [aBuildSlice, k4']
  have i3 := J2.2.2.2.2.2.2.1
  simp only at i3
  have hn : newCells 3 (h2 ++ [⟨[I an, I x, I y], true⟩]) (sl b3 0 f.length z3) = some (trips f) := by
    by_cases hfe : f = []
    · subst hfe; rfl
    · have : f.length ≠ 0 := fun e => hfe (List.length_eq_zero_iff.1 e)
      have i3 := i3.resolve_left fun e => hfe e.1
      simp only [newCells, if_neg this]
      exact cellsAt_all (push_at i3.2.1) (by rw [trips_len]; omega)
  have hl2 : 0 < h2.length := by have := at_lt J2.1; omega
  refine append_one (s := ((an : Int), x, y)) (by simp [trips_cons, trips_nil]) (by omega) hn (by omega) fun nb h5 hl5 hk5 hn5 hb5 => ?_
  simp only [List.length_append, List.length_cons, List.length_nil] at hl5 hk5
  obtain ⟨h6, s6, J6, m6, e6⟩ := J2.fut (h1 := h5) (f' := ((an : Int), x, y) :: f) (nb := nb) (by omega) (fun c hc _ => by rw [hk5 c (by omega) (by omega), List.getElem?_append_left (by omega)]) (.inr ⟨hn5, hb5⟩) (by
      intro t ht
      rcases List.mem_cons.1 ht with rfl | ht
      · exact wft
      · exact wfb t ht) (by simp; omega)
  simp only [List.length_cons] at s6
  simp (disch := omega) [s6]
  exact ⟨m1.tr (m2.tr m6), J6.jm⟩
theorem c2 (h : Heap) (lo jb : Nat) (W H : Int) (br : List Int) (p f : List Trip) (a x y : Int) (rest : List Value) (hJ : JM h lo jb ((W, H, br), p ++ [(a, x, y)], f) rest) (ha : 0 ≤ a) (hb : a < br.length) (hp : p.length ≤ 1000) (hf : f.length ≤ 1000) :
    ACall Gam 2 [pt jb 0] h fun _ h' => Mod lo h.length h h' ∧ JM h' lo jb ((W, H, br.set a.toNat x), p, (a, x, y) :: f) (trips [(a, x, y)] ++ rest) := by
  obtain ⟨b1, z1, b2, z2, b3, z3, hJ⟩ := hJ
  have hJ : JMx h lo jb ((W, H, br), p ++ [(a, x, y)], f) rest b1 z1 b2 z2 b3 z3 := hJ
  obtain ⟨an, rfl⟩ := Int.eq_ofNat_of_zero_le ha
  rw [Int.toNat_natCast]
  have han : an < br.length := by omega
  have wf := hJ.2.2.2.2.2.2.2
  have wft : T64 ((an : Int), x, y) := wf.p _ (by simp)
  have wfb : ∀ t ∈ f, T64 t := wf.f
  have wfp : ∀ t ∈ p, T64 t := fun t ht => wf.p _ (by simp [ht])
  obtain ⟨k2, k3, k4⟩ := hJ.cells
  simp only [List.length_append, List.length_cons, List.length_nil, Nat.zero_add] at k2 k3 k4
  obtain ⟨z2e, hb2, _⟩ := hJ.2.2.2.2.2.1.resolve_left (by simp)
  simp only at hb2
  have cl := trip_last hb2
  simp only at cl
  refine ACall_intro g2 rfl ?_
  unfold fn2
  rw [awp_seq, awp_reg]
  generalize hK : seqQ Gam _ _ 0 = K
  have e1 : ((p.length : Int) + 1 - 1) = p.length := by omega
  simp (disch := omega) [k3, e1, wrap64]
  subst hK
  simp only [seqQ_zero]
  rw [awp_seq, awp_reg]
  generalize hK : seqQ Gam _ _ 0 = K
  have hlt : ((p.length : Int) < p.length + 1) = True := by simp; omega
  simp (disch := omega) [k3, e1, cl, wrap64, hlt]
  subst hK
  simp only [seqQ_zero]
  rw [awp_seq, awp_reg]
  generalize hK : seqQ Gam _ _ 0 = K
  obtain ⟨h1, s1, J1, m1, l1⟩ := hJ.brs han wft.2.1
  simp (disch := omega) [k2, han, s1]
  subst hK
  simp only [seqQ_zero]
  rw [awp_seq, awp_reg]
  generalize hK : seqQ Gam _ _ 0 = K
  obtain ⟨k2, k3, k4⟩ := J1.cells
  simp only [List.length_append, List.length_cons, List.length_nil, Nat.zero_add, List.length_set] at k2 k3 k4
  have i2 := J1.2.2.2.2.2.1.resolve_left (by simp)
  simp only at i2
  obtain ⟨h2, s2, J2, m2, l2⟩ := J1.past (h1 := h1) (p' := p) (rest' := trips [((an : Int), x, y)] ++ rest) (nb := b2) (Nat.le_refl _) (fun c _ _ => rfl) (by rw [i2.2.1]; simp [trips_append]) (.inr ⟨rfl, by simp⟩) wfp (by omega)
  have es : aSlice 7 h1 (sl b2 0 (p.length + 1) 3) none (some (I p.length)) none = some (sl b2 0 p.length 3, h1) := by
    simp [aSlice, bound]
  rw [z2e] at k3
  simp (disch := omega) [k3, e1, wrap64, es, s2]
  subst hK
  simp only [seqQ_zero]
  obtain ⟨k2, k3, k4⟩ := J2.cells
  simp only [List.length_append, List.length_cons, List.length_nil, Nat.zero_add, List.length_set] at k2 k3 k4
  have k4' : cell (h2 ++ [⟨[I an, I x, I y], true⟩]) jb 4 = some (sl b3 0 f.length z3) := by
    simp only [cell] at k4 ⊢
    rw [List.getElem?_append_left (at_lt J2.1)]; exact k4
  simp (disch := omega) [aBuildSlice, k4]
  have i3 := J2.2.2.2.2.2.2.1
  simp only at i3
  have hi := c317 (h2 ++ [⟨[I an, I x, I y], true⟩]) b3 h2.length z3 ((an : Int), x, y) f (i3.imp id fun e => ⟨e.1, by have := J2.2.2.1; omega, push_at e.2.1⟩) (by simp [trips_cons, trips_nil]) (by
    have := at_lt J2.1
    rcases i3 with e | e
    · omega
    · have := at_lt e.2.1; omega) (by omega)
  refine callW_of hi ?_
  rintro _ h5 ⟨rfl, hl5, hk5, hn5⟩
  simp only [List.length_append, List.length_cons, List.length_nil] at hl5 hk5 hn5
  obtain ⟨h6, s6, J6, m6, e6⟩ := J2.fut (h1 := h5) (f' := ((an : Int), x, y) :: f) (nb := h2.length + 1) (by omega) (fun c hc hn => by rw [hk5 c (by omega) hn, List.getElem?_append_left (by omega)]) (.inr ⟨hn5, by omega⟩) (by
      intro t ht
      rcases List.mem_cons.1 ht with rfl | ht
      · exact wft
      · exact wfb t ht) (by simp; omega)
  simp only [List.length_cons] at s6
  simp (disch := omega) [s6]
  exact ⟨m1.tr (m2.tr m6), J6.jm⟩
end Am
