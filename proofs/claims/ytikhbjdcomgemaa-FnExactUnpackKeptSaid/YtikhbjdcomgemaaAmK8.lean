/- Contracts: AmY14, AmY8, AmY15, AmY16, AmY17, AmY18, AmY19, AmY20. -/
import Derived.Test.YtikhbjdcomgemaaAmK7
/-! AmY14 -/
set_option linter.unusedVariables false
set_option linter.unusedSimpArgs false
set_option maxHeartbeats 4000000
set_option maxRecDepth 4000
namespace Am
open Go

def keptIx (X : Lib) (s : List UInt8) (ok : Bool) : Int × Int := if ok then (if nameN X s < X.length then (nameN X s, 0) else (0, 3)) else (0, 1)
end Am
/-! AmY8 -/
set_option linter.unusedVariables false
set_option linter.unusedSimpArgs false
set_option maxHeartbeats 4000000
set_option maxRecDepth 4000
namespace Am
open Go

/-- In the order of the names. -/
def SortK (X : Lib) : Prop := X.Pairwise fun a b => lexLt a.1 b.1 = true
theorem KeptOk.lt {X : Lib} (ok : KeptOk X) : ∀ j i, i < j → j < X.length → lexLt (kN X i) (kN X j) = true := by
  intro j
  induction j with
  | zero => intro i h; omega
  | succ j ih =>
    intro i hi hj
    have h1 := ((ok.ent (j + 1) hj).ord).resolve_left (by omega)
    rw [Nat.add_sub_cancel] at h1
    by_cases e : i = j
    · subst e; exact h1
    · exact lexLt_trans (ih i (by omega) (by omega)) h1
structure IsPut (X : Lib) (s : List UInt8) (k : Nat) : Prop where
  le : k ≤ X.length
  lo : ∀ i (h : i < X.length), i < k → lexLt X[i].1 s = true
  hi : ∀ i (h : i < X.length), k ≤ i → lexLt s X[i].1 = true
def insK (k : Kpt) : Lib → Lib
  | [] => [k]
  | x :: X => if lexLt x.1 k.1 then x :: insK k X else k :: x :: X
theorem SortK.put {X : Lib} (h : SortK X) {s : List UInt8} (hn : ∀ y ∈ X, y.1 ≠ s) {k : Nat} (hk : k ≤ X.length) (lo : 0 < k → ∀ h : k - 1 < X.length, lexLt X[k - 1].1 s = true) (hi : ∀ h : k < X.length, lexLt s X[k].1 = true) : IsPut X s k := by
  unfold SortK at h
  rw [List.pairwise_iff_getElem] at h
  refine ⟨hk, fun i hl hik => ?_, fun i hl hik => ?_⟩
  · by_cases e : i = k - 1
    · subst e; exact lo (by omega) hl
    · exact lexLt_trans (h i (k - 1) hl (by omega) (by omega)) (lo (by omega) (by omega))
  · by_cases e : i = k
    · subst e; exact hi hl
    · exact lexLt_trans (hi (by omega)) (h k i (by omega) hl (by omega))

noncomputable def addAns (X : Lib) (s : List UInt8) (p : Pan) : Lib × Int :=
  if keptOk X && okP p then (if nameOk s then (if nameN X s < X.length ∨ likeN X (canonP p) < X.length then ([], 4) else if 40 ≤ X.length then ([], 5) else (insK (s, canonP p) X, 0)) else ([], 7)) else ([], 1)

/-! ### merged -/
def mrg (A : Lib) : Lib → Lib → Option Lib
  | out, [] => some out
  | out, b :: l => if ixI (nameN A b.1) A.length = ixI (likeN A b.2) A.length then (if nameN A b.1 < A.length then mrg A out l else mrg A (insK b out) l) else none
def mrgS : Lib → Lib → Option Lib
  | out, [] => some out
  | out, b :: l => if ixI (nameN out b.1) out.length = ixI (likeN out b.2) out.length then (if nameN out b.1 < out.length then mrgS out l else mrgS (insK b out) l) else none
def SameAt (X : Lib) (s : List UInt8) (p : Pan) : Prop := (∀ e ∈ X, e.1 ≠ s ∧ e.2 ≠ p) ∨ ∃ e ∈ X, e.1 = s ∧ e.2 = p
/-- Names are different, and so are panels. -/
structure Diff (X : Lib) : Prop where
  n : X.Pairwise fun a b => a.1 ≠ b.1
  p : X.Pairwise fun a b => a.2 ≠ b.2
noncomputable def mergeRes (o : Option Lib) : Lib × Int := match o with
  | none => ([], 4)
  | some x => if 40 < x.length then ([], 5) else (x, 0)
noncomputable def mergeAnsK (A B : Lib) : Lib × Int := if keptOk A && keptOk B then mergeRes (mrg A A B) else ([], 1)
noncomputable def withAns (X : Lib) (f : Pan → Int) (c : Int) : List (List UInt8) × Int := if keptOk X then ((X.filter fun k => decide (f k.2 = c)).map (·.1), 0) else ([], 1)
end Am
/-! AmY15 -/
set_option linter.unusedVariables false
set_option linter.unusedSimpArgs false
set_option maxHeartbeats 4000000
set_option maxRecDepth 4000
namespace Am
open Go

/-- An entry, the block of its breaks and what its slice says of the size. -/
abbrev Row := Kpt × Nat × Nat
def rbr (r : Row) : List Int := r.1.2.2.2
def rowS (r : Row) : Value := sl r.2.1 0 (rbr r).length r.2.2
def rowC (r : Row) : List Value := [S r.1.1, I r.1.2.1, I r.1.2.2.1, rowS r]
def rowB (r : Row) : List Nat := if rbr r = [] then [] else [r.2.1]
structure EntO (h : Heap) (r : Row) : Prop where
  z : r.2.2 = 1 ∨ r.2.1 = 0 ∧ rbr r = []
  m : (rbr r).length ≤ maxLen
  x : ∀ x ∈ rbr r, I64 x
  b : rbr r = [] ∨ h[r.2.1]? = some ⟨ints (rbr r), true⟩
  w : I64 r.1.2.1
  h : I64 r.1.2.2.1
  n : r.1.1.length ≤ maxLen
def rowsC (L : List Row) : List Value := (L.map rowC).flatten
theorem rowsC_len : ∀ L : List Row, (rowsC L).length = L.length * 4
  | [] => rfl
  | r :: L => by
    have := rowsC_len L
    simp only [rowsC, List.map_cons, List.flatten_cons, List.length_append, List.length_cons] at this ⊢
    rw [this]; simp [rowC]; omega
theorem rowsC_append (a b : List Row) : rowsC (a ++ b) = rowsC a ++ rowsC b := by simp [rowsC]
theorem rowsC_cons (r : Row) (b : List Row) : rowsC (r :: b) = rowC r ++ rowsC b := by simp [rowsC]
structure KO (h : Heap) (lo hi b z : Nat) (L : List Row) : Prop where
  z : z = 4 ∨ b = 0 ∧ L = []
  m : L.length ≤ maxLen
  el : ∀ r ∈ L, EntO h r
  blk : L = [] ∨ h[b]? = some ⟨rowsC L, true⟩ ∧ lo ≤ b ∧ b < hi
  nd : (L.map rowB).flatten.Nodup
  rg : ∀ r ∈ L, ∀ c ∈ rowB r, lo ≤ c ∧ c < hi
theorem EntO.ow {h : Heap} {r : Row} (e : EntO h r) : Ow h shKept (rowC r) r.1 (rowB r) := by
  refine ⟨[S r.1.1], [I r.1.2.1, I r.1.2.2.1, rowS r], [], rowB r, rfl, rfl, ⟨rfl, e.n, rfl⟩, [I r.1.2.1], [I r.1.2.2.1, rowS r], [], rowB r, rfl, rfl, ⟨rfl, wf_i64.2 e.w, rfl⟩, [I r.1.2.2.1], [rowS r], [], rowB r, rfl, rfl, ⟨rfl, wf_i64.2 e.h, rfl⟩, ?_⟩
  refine ⟨r.2.1, r.2.2, (rbr r).map fun x => [I x], (rbr r).map fun _ => [], rfl, e.z, e.m, all3_ints h _ e.x, ?_⟩
  by_cases h0 : rbr r = []
  · exact .inl ⟨h0, by simp [rowB, h0]⟩
  · exact .inr ⟨h0, by rw [rowB, if_neg h0, nils_flat], by rw [flat_ints]; exact e.b.resolve_left h0⟩
theorem EntO.of {h : Heap} {c : List Value} {k : Kpt} {s : List Nat} (o : Ow h shKept c k s) : ∃ b z, c = rowC (k, b, z) ∧ s = rowB (k, b, z) ∧ EntO h (k, b, z) := by
  obtain ⟨n, W, H, br⟩ := k
  obtain ⟨c1, c2, b1, b2, rfl, rfl, ⟨rfl, w0, rfl⟩, c3, c4, b3, b4, rfl, rfl, ⟨rfl, w1, rfl⟩, c5, c6, b5, b6, rfl, rfl, ⟨rfl, w2, rfl⟩, b, z, css, bss, rfl, hz, hm, h1, h2⟩ := o
  obtain ⟨e1, e2, e3⟩ := All3.ints h1
  refine ⟨b, z, rfl, ?_, hz, hm, e2, ?_, wf_i64.1 w1, wf_i64.1 w2, w0⟩
  · rcases h2 with ⟨q1, q2⟩ | ⟨q1, q2, q3⟩
    · have q1' : br = [] := q1
      subst q1'; simp [rowB, rbr, q2]
    · have q1' : ¬ br = [] := q1
      rw [e3] at q2
      simp [rowB, rbr, q1', q2]
  · rcases h2 with ⟨q1, q2⟩ | ⟨q1, q2, q3⟩
    · exact .inl q1
    · rw [e1] at q3; exact .inr q3
theorem rows_of {h : Heap} : ∀ {css : List (List Value)} {X : Lib} {bss : List (List Nat)}, All3 (fun c y s => Ow h shKept c y s) css X bss → ∃ L : List Row, X = L.map (·.1) ∧ css = L.map rowC ∧ bss = L.map rowB ∧ ∀ r ∈ L, EntO h r
  | [], [], [], _ => ⟨[], rfl, rfl, rfl, by simp⟩
  | c :: css, y :: x, s :: bss, r => by
    obtain ⟨b, z, e1, e2, e3⟩ := EntO.of r.1
    obtain ⟨L, f1, f2, f3, f4⟩ := rows_of r.2
    refine ⟨(y, b, z) :: L, by rw [f1]; rfl, by rw [e1, f2]; rfl, by rw [e2, f3]; rfl, fun q hq => ?_⟩
    rcases List.mem_cons.1 hq with e | e
    · rw [e]; exact e3
    · exact f4 q e
  | [], _ :: _, _, r => r.elim
  | [], [], _ :: _, r => r.elim
  | _ :: _, [], _, r => r.elim
  | _ :: _, _ :: _, [], r => r.elim
theorem rows_all {h : Heap} : ∀ {L : List Row}, (∀ r ∈ L, EntO h r) → All3 (fun c y s => Ow h shKept c y s) (L.map rowC) (L.map (·.1)) (L.map rowB)
  | [], _ => trivial
  | r :: L, f => ⟨(f r (by simp)).ow, rows_all fun q hq => f q (by simp [hq])⟩
/-- The list's own block is none of its entries' blocks. -/
theorem rows_nb {h : Heap} {b : Nat} {L : List Row} (el : ∀ r ∈ L, EntO h r) (hb : L = [] ∨ h[b]? = some ⟨rowsC L, true⟩) : ∀ r ∈ L, b ∉ rowB r := by
  intro r hr hm
  unfold rowB at hm
  split at hm
  · simp at hm
  · rename_i hne
    simp at hm
    have e1 := (el r hr).b.resolve_left hne
    rw [← hm] at e1
    cases L with
    | nil => simp at hr
    | cons q L =>
      have e2 := hb.resolve_left (by simp)
      rw [e1] at e2
      simp only [Option.some.injEq, Blk.mk.injEq, and_true] at e2
      rw [rowsC_cons] at e2
      cases hx : rbr r with
      | nil => exact hne hx
      | cons a l => rw [hx] at e2; simp [ints, rowC] at e2
theorem Vo.rows {h : Heap} {lo hi : Nat} {v : Value} {X : Lib} (x : Vo h lo hi shKepts v X) : ∃ b z L, v = sl b 0 X.length z ∧ X = L.map (·.1) ∧ KO h lo hi b z L := by
  obtain ⟨cs, bs, ⟨b, z, css, bss, rfl, hz, hm, h1, h2⟩, rfl, nd, hb⟩ := x
  obtain ⟨L, f1, f2, f3, f4⟩ := rows_of h1
  have hl : L = [] ↔ X = [] := by rw [f1]; simp
  refine ⟨b, z, L, rfl, f1, hz.imp id (fun q => ⟨q.1, hl.2 q.2⟩), by have := congrArg List.length f1; simp at this; rw [← this]; exact hm, f4, ?_, ?_, ?_⟩
  · rcases h2 with ⟨q, _⟩ | ⟨_, q2, q3⟩
    · exact .inl (hl.2 q)
    · exact .inr ⟨by rw [f2] at q3; exact q3, hb b (by rw [q2]; simp)⟩
  · rcases h2 with ⟨q, _⟩ | ⟨_, q2, q3⟩
    · have := hl.2 q
      subst this; simp
    · rw [q2] at nd
      rw [← f3]; exact (List.nodup_cons.1 nd).2
  · intro r hr c hc
    rcases h2 with ⟨q, _⟩ | ⟨_, q2, q3⟩
    · have := hl.2 q
      subst this; simp at hr
    · refine hb c ?_
      rw [q2, f3]
      exact List.mem_cons_of_mem _ (List.mem_flatten.2 ⟨_, List.mem_map.2 ⟨r, hr, rfl⟩, hc⟩)
theorem KO.vo {h : Heap} {lo hi b z : Nat} {L : List Row} (k : KO h lo hi b z L) : Vo h lo hi shKepts (sl b 0 L.length z) (L.map (·.1)) := by
  have nb := rows_nb (b := b) k.el (k.blk.imp id fun q => q.1)
  refine ⟨[sl b 0 L.length z], if L = [] then [] else b :: (L.map rowB).flatten, ⟨b, z, L.map rowC, L.map rowB, by simp, k.z.imp id fun q => ⟨q.1, by rw [q.2]; rfl⟩, by rw [List.length_map]; exact k.m, rows_all k.el, ?_⟩, rfl, ?_, ?_⟩
  · by_cases e : L = []
    · exact .inl ⟨by rw [e]; rfl, by rw [if_pos e]⟩
    · exact .inr ⟨by simpa using e, by rw [if_neg e], (k.blk.resolve_left e).1⟩
  · split
    · simp
    · refine List.nodup_cons.2 ⟨fun hm => ?_, k.nd⟩
      obtain ⟨s, hs, hb⟩ := List.mem_flatten.1 hm
      obtain ⟨r, hr, rfl⟩ := List.mem_map.1 hs
      exact nb r hr hb
  · intro c hc
    split at hc
    · simp at hc
    · rename_i e
      rcases List.mem_cons.1 hc with q | q
      · rw [q]; exact (k.blk.resolve_left e).2
      · obtain ⟨s, hs, hb⟩ := List.mem_flatten.1 q
        obtain ⟨r, hr, rfl⟩ := List.mem_map.1 hs
        exact k.rg r hr c hb
theorem EntO.frame {h h' : Heap} {r : Row} (e : EntO h r) (f : ∀ c ∈ rowB r, h'[c]? = h[c]?) : EntO h' r := by
  refine ⟨e.z, e.m, e.x, ?_, e.w, e.h, e.n⟩
  by_cases h0 : rbr r = []
  · exact .inl h0
  · exact .inr (by rw [f r.2.1 (by rw [rowB, if_neg h0]; simp)]; exact e.b.resolve_left h0)
theorem EntO.lt {h : Heap} {r : Row} (e : EntO h r) : ∀ c ∈ rowB r, c < h.length := by
  intro c hc
  unfold rowB at hc
  split at hc
  · simp at hc
  · rename_i h0
    simp at hc; rw [hc]; exact at_lt (e.b.resolve_left h0)
/-- One row is changed; its blocks stay its blocks. -/
theorem nodup_flat {L : List Row} (nd : (L.map rowB).flatten.Nodup) {i j : Nat} (hi : i < L.length) (hj : j < L.length) (hne : i ≠ j) : ∀ c ∈ rowB L[i], c ∉ rowB L[j] := by
  induction L generalizing i j with
  | nil => simp at hi
  | cons r L ih =>
    simp only [List.map_cons, List.flatten_cons] at nd
    obtain ⟨n1, n2, n3⟩ := List.nodup_append.1 nd
    intro c hc hc'
    cases i with
    | zero =>
      cases j with
      | zero => exact hne rfl
      | succ j =>
        simp only [List.getElem_cons_zero] at hc
        simp only [List.getElem_cons_succ] at hc'
        exact n3 c hc c (List.mem_flatten.2 ⟨_, List.mem_map.2 ⟨_, List.getElem_mem (by simpa using hj), rfl⟩, hc'⟩) rfl
    | succ i =>
      cases j with
      | zero =>
        simp only [List.getElem_cons_zero] at hc'
        simp only [List.getElem_cons_succ] at hc
        exact n3 c hc' c (List.mem_flatten.2 ⟨_, List.mem_map.2 ⟨_, List.getElem_mem (by simpa using hi), rfl⟩, hc⟩) rfl
      | succ j =>
        simp only [List.getElem_cons_succ] at hc hc'
        exact ih n2 (by simpa using hi) (by simpa using hj) (by omega) c hc hc'
theorem set_map_same {α β : Type} {f : α → β} : ∀ {L : List α} {i : Nat} {r : α} (hi : i < L.length), f r = f L[i] → (L.set i r).map f = L.map f
  | a :: L, 0, r, _, e => by simp at e; simp [e]
  | a :: L, i + 1, r, hi, e => by
    simp only [List.getElem_cons_succ] at e
    simp [set_map_same (by simpa using hi) e]
theorem KO.upd {h h' : Heap} {lo hi b z : Nat} {L : List Row} (k : KO h lo hi b z L) {i : Nat} (hi' : i < L.length) {r : Row} (hB : rowB r = rowB L[i]) (he : EntO h' r) (hb : h'[b]? = some ⟨rowsC (L.set i r), true⟩) (hs : ∀ c, c < h.length → c ≠ b → c ∉ rowB L[i] → h'[c]? = h[c]?) : KO h' lo hi b z (L.set i r) := by
  have hne : L ≠ [] := by intro e; subst e; simp at hi'
  have nb := rows_nb (b := b) k.el (k.blk.imp id fun q => q.1)
  have hm : (L.set i r).map rowB = L.map rowB := set_map_same hi' hB
  have mem : ∀ q ∈ L.set i r, q = r ∨ ∃ j, ∃ hj : j < L.length, j ≠ i ∧ q = L[j] := by
    intro q hq
    obtain ⟨j, hj, rfl⟩ := List.getElem_of_mem hq
    rw [List.length_set] at hj
    by_cases e : i = j
    · subst e; left; simp
    · right; exact ⟨j, hj, fun x => e x.symm, by rw [List.getElem_set_ne e]⟩
  refine ⟨k.z.imp id fun q => absurd q.2 hne, by rw [List.length_set]; exact k.m, fun q hq => ?_, .inr ⟨hb, (k.blk.resolve_left hne).2⟩, by rw [hm]; exact k.nd, fun q hq c hc => ?_⟩
  · rcases mem q hq with e | ⟨j, hj, hji, e⟩
    · rw [e]; exact he
    · rw [e]
      refine (k.el _ (List.getElem_mem hj)).frame fun c hc => hs c ((k.el _ (List.getElem_mem hj)).lt c hc) ?_ ?_
      · rintro rfl; exact nb _ (List.getElem_mem hj) hc
      · exact nodup_flat k.nd hj hi' hji c hc
  · rcases mem q hq with e | ⟨j, hj, hji, e⟩
    · rw [e, hB] at hc; exact k.rg _ (List.getElem_mem hi') c hc
    · rw [e] at hc; exact k.rg _ (List.getElem_mem hj) c hc
end Am
/-! AmY16 -/
set_option linter.unusedVariables false
set_option linter.unusedSimpArgs false
set_option maxHeartbeats 4000000
set_option maxRecDepth 4000
namespace Am
open Go

def kW (y : Kpt) : Nat := 3 + y.2.2.2.length
def kM (y : Kpt) (k : Nat) : Kpt := (markOf k, ((k + 1 : Nat) : Int), ((k + 2 : Nat) : Int), nums (k + 3) y.2.2.2.length)
def kMs : Lib → Nat → Lib
  | [], _ => []
  | y :: l, k => kM y k :: kMs l (k + kW y)
theorem cnt_kept (y : Kpt) : cnt shKept y = kW y := by
  show 1 + (1 + (1 + (y.2.2.2.map fun _ => 1).sum)) = _
  rw [sum_one]; unfold kW; omega
theorem cvd_kepts (X : Lib) : cvd shKepts X = (X.map kW).sum := by
  show (X.map fun y => cnt shKept y).sum = _
  congr 1
  exact List.map_congr_left fun y _ => cnt_kept y
theorem mkd_kept (y : Kpt) (k : Nat) : mkd shKept y k = kM y k := by
  show (markOf k, ((k + 1 : Nat) : Int), ((k + 1 + 1 : Nat) : Int), mvd shInts y.2.2.2 (k + 1 + 1 + 1)) = _
  rw [mvd_ints]; rfl
theorem mvd_kepts : ∀ (X : Lib) (k : Nat), mvd shKepts X k = kMs X k
  | [], k => rfl
  | y :: X, k => by
    have ih := mvd_kepts X (k + kW y)
    show mkd shKept y k :: mkd.mkL (fun y k => mkd shKept y k) (fun y => cnt shKept y) X (k + cnt shKept y) = _
    rw [mkd_kept, cnt_kept]
    simp only [kMs]
    congr 1
theorem kMs_len : ∀ (X : Lib) (k : Nat), (kMs X k).length = X.length
  | [], _ => rfl
  | y :: X, k => by simp [kMs, kMs_len X]
/-- Where an entry's marks begin. -/
def kPos (X : Lib) (k i : Nat) : Nat := k + ((X.take i).map kW).sum
theorem kPos_zero (X : Lib) (k : Nat) : kPos X k 0 = k := by simp [kPos]
theorem kPos_succ {X : Lib} {k i : Nat} (h : i < X.length) : kPos X k (i + 1) = kPos X k i + kW X[i] := by
  unfold kPos; rw [List.take_succ_eq_append_getElem h, List.map_append, List.sum_append]; simp only [List.map_cons, List.map_nil, List.sum_cons, List.sum_nil]; omega
theorem kPos_end (X : Lib) (k : Nat) : kPos X k X.length = k + cvd shKepts X := by unfold kPos; rw [List.take_length, cvd_kepts]
theorem kPos_le {X : Lib} {k i : Nat} (h : i ≤ X.length) : kPos X k i ≤ k + cvd shKepts X := by
  rw [cvd_kepts]
  unfold kPos
  have : (X.map kW).sum = ((X.take i).map kW).sum + ((X.drop i).map kW).sum := by
    rw [← List.sum_append, ← List.map_append, List.take_append_drop]
  omega
theorem kMs_get : ∀ {X : Lib} {k i : Nat} (h : i < (kMs X k).length), (kMs X k)[i] = kM (X[i]'(by rw [kMs_len] at h; exact h)) (kPos X k i)
  | y :: X, k, 0, h => by simp [kMs, kPos]
  | y :: X, k, i + 1, h => by
    have := kMs_get (X := X) (k := k + kW y) (i := i) (by simpa [kMs] using h)
    simp only [kMs, List.getElem_cons_succ, this]
    congr 1
    simp [kPos]; omega
theorem cvd_le_shKepts (X : shKepts.T) : cvd shKepts X ≤ 4 * siz shKepts X := by
  have key : ∀ Y : Lib, (Y.map kW).sum ≤ 4 * (Y.length + sizL Y) := by
    intro Y
    induction Y with
    | nil => simp
    | cons y Y ih =>
      have h3 : siz shKept y = y.1.length + y.2.2.2.length := siz_kept _ _ _ _
      have h4 : sizL (y :: Y) = siz shKept y + sizL Y := by simp [sizL]
      simp only [List.map_cons, List.sum_cons, List.length_cons, h4, h3, kW]
      omega
  have := key X
  rw [← cvd_kepts] at this
  exact this
theorem digs_len : ∀ (f r : Nat) (acc : List UInt8), (digs f r acc).length ≤ f + acc.length
  | 0, r, acc => by simp [digs]
  | f + 1, r, acc => by
    simp only [digs]; split
    · omega
    · have := digs_len f (r / 10) (UInt8.ofNat (48 + r % 10) :: acc)
      simp only [List.length_cons] at this; omega
theorem mark_len {m : Nat} (h : m ≤ 1099511627776) : (markOf m).length ≤ maxLen := by
  rw [maxLen_eq]
  unfold markOf
  split
  · simp
  · have := digs_len m m []
    simp only [List.length_cons, List.length_nil] at this ⊢; omega
theorem rowsC_set {n : List UInt8} {W H : Int} : ∀ {L : List Row} {i : Nat} (h : i < L.length), (((rowsC L).set (i * 4) (S n)).set (i * 4 + 1) (I W)).set (i * 4 + 2) (I H) = rowsC (L.set i ((n, W, H, rbr L[i]), L[i].2))
  | r :: L, 0, _ => by simp [rowsC, rowC, rowS, rbr]
  | r :: L, i + 1, h => by
    have ih := rowsC_set (n := n) (W := W) (H := H) (L := L) (i := i) (by simpa using h)
    rw [rowsC_cons]
    simp only [List.getElem_cons_succ, List.set_cons_succ]
    rw [rowsC_cons, ← ih]
    have e : ∀ (a : List Value) (j : Nat) (v : Value), (rowC r ++ a).set (j + 4) v = rowC r ++ a.set j v := by
      intro a j v
      rw [List.set_append_right _ _ (by simp [rowC])]
      simp [rowC]
    rw [show (i + 1) * 4 = i * 4 + 4 by omega, e, show i * 4 + 4 + 1 = i * 4 + 1 + 4 by omega, e, show i * 4 + 4 + 2 = i * 4 + 2 + 4 by omega, e]
theorem rowsC_get : ∀ {L : List Row} {i : Nat} (h : i < L.length), ((rowsC L).drop (i * 4)).take 4 = rowC L[i]
  | r :: L, 0, _ => by simp [rowsC_cons, rowC]
  | r :: L, i + 1, h => by
    have := rowsC_get (L := L) (i := i) (by simpa using h)
    rw [rowsC_cons, show (i + 1) * 4 = 4 + i * 4 by omega, List.drop_append, List.drop_eq_nil_of_le (by simp [rowC])]
    simp only [List.getElem_cons_succ]
    rw [← this]
    simp [rowC]
theorem EntO.vo {h : Heap} {r : Row} (e : EntO h r) : ∃ lo hi, Vo h lo hi shInts (rowS r) (rbr r) ∧ (∀ c, lo ≤ c → c < hi → c ∈ rowB r) ∧ (rbr r = [] ∨ lo = r.2.1 ∧ hi = r.2.1 + 1) := by
  by_cases h0 : rbr r = []
  · refine ⟨0, 0, ?_, fun c _ h => by omega, .inl h0⟩
    exact Vo.of_ints e.z e.m e.x (.inl h0)
  · refine ⟨r.2.1, r.2.1 + 1, ?_, fun c h1 h2 => by rw [rowB, if_neg h0]; simp; omega, .inr ⟨rfl, rfl⟩⟩
    exact Vo.of_ints e.z e.m e.x (.inr ⟨e.b.resolve_left h0, by omega, by omega⟩)
theorem c285 : MarkOk 285 shKepts := by
  intro h lo hi v (X : Lib) k hv hk
  obtain ⟨bb, zz, L0, rfl, hX0, K0⟩ := hv.rows
  have hlen : L0.length = X.length := by rw [hX0]; simp
  have hm := K0.m
  rw [maxLen_eq, hlen] at hm
  rw [mvd_kepts]
  refine ACall_intro g285 rfl ?_
  unfold fn285
  simp (disch := omega)
  refine awp_loop (fun i σ h' => i ≤ X.length ∧ Mod lo hi h h' ∧ σ 0 = sl bb 0 X.length zz ∧ σ 1 = I (kPos X k i) ∧ σ 5 = I i ∧ ∃ L, KO h' lo hi bb zz L ∧ L.length = X.length ∧ ∀ j (hj : j < X.length) (hl : j < L.length), L[j].1 = if j < i then kM X[j] (kPos X k j) else X[j]) (fun i => X.length - i) 0 ?_ ?_
  · refine ⟨by omega, Mod.refl _ _ _, by simp, by simp [kPos_zero], by simp, L0, K0, hlen, fun j hj hl => ?_⟩
    subst hX0; simp
  · rintro i σ h' ⟨hi', hmd, q0, q1, q5, L, K, hl, hL⟩
    simp (disch := omega) [q0, q5]
    refine fork_dec (fun hlt => ?_) (fun hge => ?_)
    · have i1 : i < X.length := by omega
      have hple := kPos_le (X := X) (k := k) (show i + 1 ≤ X.length by omega)
      rw [kPos_succ i1] at hple
      have hLi := hL i i1 (by omega)
      rw [if_neg (by omega)] at hLi
      obtain ⟨P, hP⟩ : ∃ P, P = kPos X k i := ⟨_, rfl⟩
      rw [← hP] at q1 hple
      have hkw : kW X[i] = 3 + X[i].2.2.2.length := rfl
      have hPb : P ≤ 1099511627776 := by omega
      simp (disch := omega) [q0, q1, q5, i1]
      refine callW_of (c289 P hPb h') ?_
      rintro _ h1 ⟨rfl, g1⟩
      refine ⟨fun e => (by cases e), ?_⟩
      have hne : L ≠ [] := by intro e; rw [e] at hl; simp at hl; omega
      obtain ⟨kb0, hlo, hhi⟩ := K.blk.resolve_left hne
      have kb1 := g1.at kb0
      have hcl := rowsC_len L
      have st1 := store_one (v := S (markOf P)) (o := i * 4) kb1 (by rw [hcl]; omega)
      obtain ⟨h2, e2⟩ : ∃ h2, h2 = h1.set bb ⟨(rowsC L).set (i * 4) (S (markOf P)), true⟩ := ⟨_, rfl⟩
      rw [← e2] at st1
      have kb2 : h2[bb]? = some ⟨(rowsC L).set (i * 4) (S (markOf P)), true⟩ := by rw [e2]; simp [at_lt kb1]
      have st2 := store_one (v := I ((P : Int) + 1)) (o := i * 4 + 1) kb2 (by rw [List.length_set, hcl]; omega)
      obtain ⟨h3, e3⟩ : ∃ h3, h3 = h2.set bb ⟨((rowsC L).set (i * 4) (S (markOf P))).set (i * 4 + 1) (I ((P : Int) + 1)), true⟩ := ⟨_, rfl⟩
      rw [← e3] at st2
      have kb3 : h3[bb]? = some ⟨((rowsC L).set (i * 4) (S (markOf P))).set (i * 4 + 1) (I ((P : Int) + 1)), true⟩ := by rw [e3]; simp [at_lt kb2]
      have st3 := store_one (v := I ((P : Int) + 2)) (o := i * 4 + 2) kb3 (by rw [List.length_set, List.length_set, hcl]; omega)
      rw [rowsC_set (by omega)] at st3
      obtain ⟨r1, hr1⟩ : ∃ r1 : Row, r1 = ((markOf P, (P : Int) + 1, (P : Int) + 2, rbr L[i]), L[i].2) := ⟨_, rfl⟩
      rw [← hr1] at st3
      obtain ⟨h4, e4⟩ : ∃ h4, h4 = h3.set bb ⟨rowsC (L.set i r1), true⟩ := ⟨_, rfl⟩
      rw [← e4] at st3
      have kb4 : h4[bb]? = some ⟨rowsC (L.set i r1), true⟩ := by rw [e4]; simp [at_lt kb3]
      have oth : ∀ c, c ≠ bb → h4[c]? = h1[c]? := by
        intro c hc
        rw [e4, List.getElem?_set_ne (Ne.symm hc), e3, List.getElem?_set_ne (Ne.symm hc), e2, List.getElem?_set_ne (Ne.symm hc)]
      have l4 : h4.length = h1.length := by rw [e4, e3, e2]; simp
      have nb := rows_nb (b := bb) K.el (.inr kb0)
      have hB1 : rowB r1 = rowB L[i] := by rw [hr1]; rfl
      have hb1 : rbr r1 = rbr L[i] := by rw [hr1]; rfl
      have oth' : ∀ c, c < h'.length → c ≠ bb → h4[c]? = h'[c]? := fun c hc hne => by rw [oth c hne, g1.look hc]
      have iL : i < L.length := by omega
      have eL := K.el _ (List.getElem_mem iL)
      have lt0 := eL.lt
      have mk64 : P + 3 + (rbr L[i]).length ≤ 1099511627776 := by
        have : rbr L[i] = X[i].2.2.2 := by unfold rbr; rw [hLi]
        rw [this]; omega
      have hmlen : (markOf P).length ≤ maxLen := mark_len hPb
      have eR1 : EntO h4 r1 := by
        have e' : EntO h4 L[i] := eL.frame fun c hc => oth' c (lt0 c hc) (fun e => nb _ (List.getElem_mem iL) (e ▸ hc))
        refine ⟨?_, ?_, ?_, ?_, ?_, ?_, ?_⟩
        · rw [hr1]; exact e'.z
        · rw [hb1]; exact e'.m
        · rw [hb1]; exact e'.x
        · rw [hb1, hr1]; exact e'.b
        · rw [hr1]; unfold I64; simp only; omega
        · rw [hr1]; unfold I64; simp only; omega
        · rw [hr1]; exact hmlen
      have K4 : KO h4 lo hi bb zz (L.set i r1) := K.upd iL hB1 eR1 kb4 fun c h1 h2 h3 => oth' c h1 h2
      have gi : (L.set i r1)[i]'(by rw [List.length_set]; exact iL) = r1 := by simp
      obtain ⟨lo2, hi2, vo2, rg2, _⟩ := eR1.vo
      have hrS : rowS r1 = rowS L[i] := by unfold rowS; rw [hb1, hr1]
      have hrl : (rbr r1).length = X[i].2.2.2.length := by rw [hb1]; unfold rbr; rw [hLi]
      have cv : cvd shInts (rbr r1) = (rbr r1).length := cvd_ints _
      have hc := c282 h4 lo2 hi2 (rowS r1) (rbr r1) (P + 3) vo2 (by rw [cv, hrl]; omega)
      rw [mvd_ints, cv] at hc
      have i3 : (P : Int) + 1 + 1 = (P : Int) + 2 := by omega
      have i4 : (P : Int) + 2 + 1 = ((P + 3 : Nat) : Int) := by omega
      have a3 : i * 4 + 1 + 1 = i * 4 + 2 := by omega
      have a4 : i * 4 + 1 + 2 = i * 4 + 3 := by omega
      have cl4 : cell h4 bb (i * 4 + 3) = some (rowS r1) := by
        have h1 := rowsC_get (L := L.set i r1) (i := i) (by rw [List.length_set]; exact iL)
        rw [gi] at h1
        have h2 : cellsAt h4 bb (i * 4) 4 = some (rowC r1) := by
          rw [cellsAt_of kb4 (by simp only; rw [rowsC_len, List.length_set]; omega), h1]
        have := (cell_in (i := 3) h2 (by omega)).1
        rw [this]; rfl
      simp (disch := omega) [cellsOf, st1, st2, st3, wrap64, i3, i4, a3, a4, cl4]
      refine callW_of hc ?_
      rintro _ h5 ⟨rfl, m5, o5⟩
      obtain ⟨r2, hr2⟩ : ∃ r2 : Row, r2 = (kM X[i] P, L[i].2) := ⟨_, rfl⟩
      have hb2 : rbr r2 = nums (P + 3) X[i].2.2.2.length := by rw [hr2]; rfl
      have nl : (nums (P + 3) X[i].2.2.2.length).length = (rbr r1).length := by rw [nums_len, hrl]
      have hrS2 : rowS r2 = rowS r1 := by
        unfold rowS; rw [hb2, nl, hr2, hr1]
      have hrC2 : rowC r2 = rowC r1 := by
        unfold rowC; rw [hrS2, hr2, hr1]
        simp [kM]
      have emp : rbr r2 = [] ↔ rbr r1 = [] := by
        rw [hb2, ← List.length_eq_zero_iff, ← List.length_eq_zero_iff, nl]
      have hB2 : rowB r2 = rowB r1 := by
        unfold rowB
        by_cases q : rbr r1 = []
        · rw [if_pos q, if_pos (emp.2 q)]
        · rw [if_neg q, if_neg (fun x => q (emp.1 x)), hr2, hr1]
      rw [hrl, ← hb2] at o5
      have hm1 : (L.set i r1)[i]'(by rw [List.length_set]; exact iL) ∈ L.set i r1 := List.getElem_mem _
      rw [gi] at hm1
      have nb1 := rows_nb (b := bb) K4.el (.inr kb4) r1 hm1
      have kb5 : h5[bb]? = some ⟨rowsC (L.set i r1), true⟩ := by
        rw [m5.2 bb (at_lt kb4) ?_]; exact kb4
        by_cases q : lo2 ≤ bb ∧ bb < hi2
        · exact absurd (rg2 bb q.1 q.2) nb1
        · omega
      have eR2 : EntO h5 r2 := by
        obtain ⟨b', z', es, hz', hm', hx', hbk'⟩ := o5.ints
        have es' : sl r1.2.1 0 (rbr r1).length r1.2.2 = sl b' 0 (rbr r2).length z' := es
        simp only [sl, Value.slice.injEq, Option.some.injEq, Addr.mk.injEq] at es'
        have eb : r2.2.1 = b' := by rw [← es'.1.1, hr2, hr1]
        have ez : r2.2.2 = z' := by rw [← es'.2.2, hr2, hr1]
        refine ⟨?_, hm', hx', ?_, ?_, ?_, ?_⟩
        · rw [eb, ez]; exact hz'
        · rw [eb]; exact hbk'.imp id fun q => q.1
        · rw [hr2]; unfold kM I64; simp only; omega
        · rw [hr2]; unfold kM I64; simp only; omega
        · rw [hr2]; exact hmlen
      have hset : (L.set i r1).set i r2 = L.set i r2 := by simp
      have hrows : rowsC (L.set i r2) = rowsC (L.set i r1) := by
        rw [← hset]
        unfold rowsC
        rw [set_map_same (f := rowC) (by rw [List.length_set]; exact iL) (by rw [gi]; exact hrC2)]
      have K5 : KO h5 lo hi bb zz (L.set i r2) := by
        rw [← hset]
        refine K4.upd (by rw [List.length_set]; exact iL) (by rw [gi]; exact hB2) eR2 (by rw [hset, hrows]; exact kb5) fun c q1 q2 q3 => ?_
        rw [gi] at q3
        refine m5.2 c q1 ?_
        by_cases q : lo2 ≤ c ∧ c < hi2
        · exact absurd (rg2 c q.1 q.2) q3
        · omega
      have hmod : Mod lo hi h' h5 := by
        refine ⟨by have := g1.le; have := m5.1; omega, fun c hc hn => ?_⟩
        have c1 : c ≠ bb := by omega
        have c4 : h4[c]? = h'[c]? := oth' c hc c1
        rw [m5.2 c (by have := g1.le; omega) ?_, c4]
        by_cases q : lo2 ≤ c ∧ c < hi2
        · have := rg2 c q.1 q.2
          rw [hB1] at this
          have := K.rg _ (List.getElem_mem iL) c this
          omega
        · omega
      refine ⟨fun e => (by cases e), i + 1, ⟨by omega, hmd.trans hmod, ?_, by omega, L.set i r2, K5, by rw [List.length_set]; exact hl, fun j hj hlj => ?_⟩, by omega⟩
      · rw [kPos_succ i1, ← hP, hrl, hkw]; congr 1; omega
      · by_cases e : j = i
        · subst e
          rw [if_pos (by omega)]
          simp only [List.getElem_set_self]
          rw [hr2, hP]
        · rw [List.getElem_set_ne (fun x => e x.symm), hL j hj (by rw [List.length_set] at hlj; exact hlj)]
          by_cases q : j < i
          · rw [if_pos q, if_pos (by omega)]
          · rw [if_neg q, if_neg (by omega)]
    · have e : i = X.length := by omega
      subst e
      simp (disch := omega) [q1]
      refine ⟨?_, hmd, ?_⟩
      · have := kPos_end X k; omega
      · have hv := K.vo
        have : L.map (·.1) = kMs X k := by
          apply List.ext_getElem
          · rw [List.length_map, hl, kMs_len]
          · intro j h1 h2
            rw [List.length_map] at h1
            rw [List.getElem_map, kMs_get, hL j (by omega) h1, if_pos (by omega)]
        rw [this, hl] at hv
        exact hv

theorem c278 : HeldOk 278 shKepts := by
  intro h v (X : Lib) k hv hk
  rw [mvd_kepts] at hv
  obtain ⟨b, o, z, rfl, hX⟩ := hv.kat
  rw [kMs_len]
  have hm := hX.1.1
  rw [maxLen_eq, kMs_len] at hm
  refine ACall_intro g278 rfl ?_
  unfold fn278
  simp (disch := omega)
  refine awp_loop (fun i σ h' => Grows h h' ∧ i ≤ X.length ∧ σ 0 = sl b o X.length z ∧ σ 1 = I (kPos X k i) ∧ σ 5 = I i) (fun i => X.length - i) 0 ?_ ?_
  · exact ⟨Grows.refl _, by omega, by simp, by simp [kPos_zero], by simp⟩
  · rintro i σ h' ⟨g, hi', q0, q1, q5⟩
    simp (disch := omega) [q0, q5]
    refine fork_dec (fun hlt => ?_) (fun hge => ?_)
    · have i1 : i < X.length := by omega
      have i2 : i < (kMs X k).length := by rw [kMs_len]; exact i1
      have hple := kPos_le (X := X) (k := k) (show i + 1 ≤ X.length by omega)
      have hps := kPos_succ (k := k) i1
      rw [hps] at hple
      obtain ⟨P, hP⟩ : ∃ P, P = kPos X k i := ⟨_, rfl⟩
      have hget := kMs_get i2
      rw [← hP] at q1 hple hget hps
      have hkw : kW X[i] = 3 + X[i].2.2.2.length := rfl
      obtain ⟨s, c, c1, _, _, r, _⟩ := hX.cells i2
      rw [hget] at c r
      have c := g.cellsAt c
      have r := r.grow g
      have a0 := (cell_in (i := 0) c (by omega)).1
      have a1 := (cell_in (i := 1) c (by omega)).1
      have a2 := (cell_in (i := 2) c (by omega)).1
      have a3 := (cell_in (i := 3) c (by omega)).1
      simp only [kM] at a0 a1 a2 a3 r
      simp at a0 a1 a2 a3
      simp (disch := omega) [q0, q1, q5, i1, a0]
      refine callW_of (c289 P (by omega) h') ?_
      rintro _ h1 ⟨rfl, g1⟩
      refine ⟨fun _ => g1, ?_⟩
      have a1 := g1.cell a1
      have a2 := g1.cell a2
      have a3 := g1.cell a3
      have i3 : (P : Int) + 1 + 1 = (P : Int) + 2 := by omega
      have i4 : (P : Int) + 2 + 1 = ((P + 3 : Nat) : Int) := by omega
      have b2 : o + i * 4 + 1 + 1 = o + i * 4 + 2 := by omega
      have b3 : o + i * 4 + 1 + 2 = o + i * 4 + 3 := by omega
      have cv : cvd shInts X[i].2.2.2 = X[i].2.2.2.length := cvd_ints _
      have hc := c275 h1 s X[i].2.2.2 (P + 3) (by rw [mvd_ints]; exact r.grow g1) (by rw [cv]; omega)
      rw [cv] at hc
      simp (disch := omega) [q0, q1, q5, i1, a1, a2, a3, wrap64, i3, i4, b2, b3]
      refine callW_of hc ?_
      rintro _ h2 ⟨rfl, g2⟩
      try refine ⟨fun e => (by cases e), ?_⟩
      obtain ⟨m, hmm⟩ : ∃ m, m = P + 3 + X[i].2.2.2.length := ⟨_, rfl⟩
      rw [← hmm]
      simp (disch := omega) [q0, q5, wrap64]
      exact ⟨i + 1, ⟨g.trans (g1.trans g2), by omega, by rw [hps, hkw]; omega, by omega⟩, by omega⟩
    · have e : i = X.length := by omega
      subst e
      have := kPos_end X k
      rw [this] at q1
      simp (disch := omega) [q1]
      exact g
end Am
/-! AmY17 -/
set_option linter.unusedVariables false
set_option linter.unusedSimpArgs false
set_option maxHeartbeats 4000000
set_option maxRecDepth 4000
namespace Am
open Go

/-- A list of rows that is being made. -/
structure KB (h0 h : Heap) (v : Value) (L : List Row) : Prop where
  b : Buf h0 h v 4 (rowsC L)
  el : ∀ r ∈ L, EntO h r
  nd : (L.map rowB).flatten.Nodup
  rg : ∀ r ∈ L, ∀ c ∈ rowB r, h0.length ≤ c
theorem KB.nil {h0 h : Heap} : KB h0 h (sl 0 0 0 4) [] := ⟨by simpa [rowsC] using Buf.nil, by simp, by simp, by simp⟩
theorem KB.ko {h0 h : Heap} {v : Value} {L : List Row} (k : KB h0 h v L) (hm : L.length ≤ maxLen) : ∃ b, v = sl b 0 L.length 4 ∧ KO h h0.length h.length b 4 L := by
  have hl := rowsC_len L
  rcases k.b with ⟨e1, e2⟩ | ⟨b, n, e1, e2, e3, e4⟩
  · have : L = [] := by
      rw [e1] at hl; simp at hl; exact List.length_eq_zero_iff.1 (by omega)
    subst this
    exact ⟨0, e2, .inl rfl, hm, k.el, .inl rfl, k.nd, by simp⟩
  · rw [hl] at e2
    have : n = L.length := by omega
    subst this
    exact ⟨b, e1, .inl rfl, hm, k.el, .inr ⟨e4, e3, at_lt e4⟩, k.nd, fun r hr c hc => ⟨k.rg r hr c hc, (k.el r hr).lt c hc⟩⟩
theorem KB.vo {h0 h : Heap} {v : Value} {L : List Row} (k : KB h0 h v L) (hm : L.length ≤ maxLen) : Vo h h0.length h.length shKepts v (L.map (·.1)) := by
  obtain ⟨b, rfl, ko⟩ := k.ko hm
  exact KO.vo ko
theorem KB.len {h0 h : Heap} {v : Value} {L : List Row} (k : KB h0 h v L) : ∃ b, v = sl b 0 L.length 4 := by
  have hl := rowsC_len L
  rcases k.b with ⟨e1, e2⟩ | ⟨b, n, e1, e2, e3, e4⟩
  · have : L = [] := by
      rw [e1] at hl; simp at hl; exact List.length_eq_zero_iff.1 (by omega)
    subst this
    exact ⟨0, e2⟩
  · rw [hl] at e2
    have : n = L.length := by omega
    subst this
    exact ⟨b, e1⟩
theorem kb_snoc {h0 h h1 : Heap} {v s : Value} {L : List Row} {n : List UInt8} {W H : Int} {br : List Int} {K : Value → Heap → Prop} (hp : 0 < h0.length) (kb : KB h0 h v L) (g0 : Grows h0 h) (g1 : Grows h h1) (o : Vo h1 h.length h1.length shPanel (.agg #[I W, I H, s]) ((W, H, br) : Pan)) (hn : n.length ≤ maxLen) (hl : L.length ≤ 1048576)
    (hK : ∀ v' h2 r, Grows h0 h2 → KB h0 h2 v' (L ++ [r]) → r.1 = (n, W, H, br) → K v' h2) :
    bindW (aBuildSlice 4 1 h1 [(0, .agg #[S [], I 0, I 0, sl 0 0 0 0]), (4, .agg #[S n, I W, I H, s])]) fun y h' => bindW (aAppend 4 h' y v) K := by
  have e : aBuildSlice 4 1 h1 [(0, .agg #[S [], I 0, I 0, sl 0 0 0 0]), (4, .agg #[S n, I W, I H, s])] = some (sl h1.length 0 1 4, h1 ++ [⟨[S n, I W, I H, s], true⟩]) := by simp [aBuildSlice]
  rw [e]
  simp only [bindW_some]
  obtain ⟨s', es, w1, w2, o⟩ := o.panel
  simp at es
  subst es
  obtain ⟨b, z, rfl, hz, hm, hx, hb⟩ := o.ints
  obtain ⟨r, hr⟩ : ∃ r : Row, r = ((n, W, H, br), b, z) := ⟨_, rfl⟩
  have hC : rowC r = [S n, I W, I H, sl b 0 br.length z] := by rw [hr]; rfl
  have g1' := g1.push ⟨[S n, I W, I H, sl b 0 br.length z], true⟩
  have nb : ∀ q ∈ L, ∀ c ∈ rowB q, ∀ m, v ≠ sl c 0 m 4 := by
    intro q hq c hc m ev
    obtain ⟨b2, e2⟩ := kb.len
    have hb2 : L = [] ∨ h[b2]? = some ⟨rowsC L, true⟩ := by
      rcases kb.b with ⟨q1, q2⟩ | ⟨b3, n3, q1, q2, q3, q4⟩
      · left
        have hl := rowsC_len L
        rw [q1] at hl; simp at hl; exact List.length_eq_zero_iff.1 (by omega)
      · right
        rw [e2] at q1
        simp only [sl, Value.slice.injEq, Option.some.injEq, Addr.mk.injEq] at q1
        rw [q1.1.1]; exact q4
    rw [e2] at ev
    simp only [sl, Value.slice.injEq, Option.some.injEq, Addr.mk.injEq] at ev
    exact rows_nb kb.el hb2 q hq (ev.1.1 ▸ hc)
  refine append_buf hp (g0.trans g1') (kb.b.grow g1') (new := rowC r) ?_ (by omega) (by simp [rowC]) (by simp [rowC]) (by rw [rowsC_len]; simp [rowC, maxSize]; omega) ?_
  · rw [hC]
    simp [newCells]
    rw [cellsAt_of (k := ⟨[S n, I W, I H, sl b 0 br.length z], true⟩) (by simp) (by simp)]
    simp
  · intro v' h2 g2 b2 k2
    refine hK v' h2 r g2 ⟨?_, fun q hq => ?_, ?_, fun q hq c hc => ?_⟩ (by rw [hr])
    · rw [rowsC_append]; simpa [rowsC] using b2
    · rcases List.mem_append.1 hq with hq | hq
      · refine (kb.el q hq).frame fun c hc => ?_
        have hlt := (kb.el q hq).lt c hc
        have hg := g1'.look hlt
        have hs : h[c]? = some h[c] := List.getElem?_eq_getElem hlt
        rw [hs] at hg ⊢
        exact k2 c _ hg (nb q hq c hc)
      · simp at hq; subst hq
        rw [hr]
        refine ⟨hz, hm, hx, ?_, w1, w2, hn⟩
        rcases hb with q | ⟨q1, q2, q3⟩
        · exact .inl q
        · right
          refine k2 b _ (push_at q1) fun m ev => ?_
          obtain ⟨b5, e5⟩ := kb.len
          rw [e5] at ev
          simp only [sl, Value.slice.injEq, Option.some.injEq, Addr.mk.injEq] at ev
          have hb5 : b5 < h.length ∨ b5 = 0 := by
            rcases kb.b with ⟨q1, q2⟩ | ⟨b3, n3, q1, q2, q3, q4⟩
            · right
              rw [e5] at q2
              simp only [sl, Value.slice.injEq, Option.some.injEq, Addr.mk.injEq] at q2
              exact q2.1.1
            · left
              rw [e5] at q1
              simp only [sl, Value.slice.injEq, Option.some.injEq, Addr.mk.injEq] at q1
              rw [q1.1.1]; exact at_lt q4
          have := g0.le
          omega
    · rw [List.map_append, List.flatten_append, List.nodup_append]
      refine ⟨kb.nd, ?_, ?_⟩
      · simp [rowB]; split <;> simp
      · intro c hc c' hc'
        obtain ⟨t, ht, hct⟩ := List.mem_flatten.1 hc
        obtain ⟨q, hq, rfl⟩ := List.mem_map.1 ht
        have hlt := (kb.el q hq).lt c hct
        simp at hc'
        rw [hr] at hc'
        unfold rowB at hc'
        split at hc'
        · simp at hc'
        · rename_i h0
          simp at hc'
          have := (hb.resolve_left h0).2.1
          omega
    · rcases List.mem_append.1 hq with hq | hq
      · exact kb.rg q hq c hc
      · simp at hq; subst hq
        rw [hr] at hc
        unfold rowB at hc
        split at hc
        · simp at hc
        · rename_i h0
          simp at hc
          have := (hb.resolve_left h0).2.1
          have := g0.le
          omega
end Am
/-! AmY18 -/
set_option linter.unusedVariables false
set_option linter.unusedSimpArgs false
set_option maxHeartbeats 4000000
set_option maxRecDepth 4000
namespace Am
open Go

/-! ### parts of a list put together -/
def KCs (h : Heap) (X : Lib) (cs : List Value) : Prop := cs.length = X.length * 4 ∧ ∀ i (hi : i < X.length), ∃ s, (cs.drop (i * 4)).take 4 = [S X[i].1, I X[i].2.1, I X[i].2.2.1, s] ∧ Vr h shInts s X[i].2.2.2 ∧ I64 X[i].2.1 ∧ I64 X[i].2.2.1 ∧ X[i].1.length ≤ 9223372036854775807
theorem KCs.nil {h : Heap} : KCs h [] [] := ⟨rfl, fun i hi => by simp at hi⟩
theorem KCs.append {h : Heap} {X Y : Lib} {a b : List Value} (x : KCs h X a) (y : KCs h Y b) : KCs h (X ++ Y) (a ++ b) := by
  refine ⟨by rw [List.length_append, List.length_append, x.1, y.1]; omega, fun i hi => ?_⟩
  rw [List.length_append] at hi
  by_cases e : i < X.length
  · obtain ⟨s, c, r⟩ := x.2 i e
    rw [List.getElem_append_left e]
    refine ⟨s, ?_, r⟩
    rw [List.drop_append_of_le_length (by rw [x.1]; omega), List.take_append_of_le_length (by rw [List.length_drop, x.1]; omega), c]
  · obtain ⟨s, c, r⟩ := y.2 (i - X.length) (by omega)
    rw [List.getElem_append_right (by omega)]
    refine ⟨s, ?_, r⟩
    rw [List.drop_append, List.drop_eq_nil_of_le (by rw [x.1]; omega), List.nil_append, x.1, show i * 4 - X.length * 4 = (i - X.length) * 4 by omega, c]
theorem KAt.part {h : Heap} {b o z : Nat} {X : Lib} (x : KAt h b o z X) (hz : z = 4 ∨ X = []) {i j : Nat} (hij : i ≤ j) (hj : j ≤ X.length) : ∃ cs, newCells 4 h (sl b (o + i * z) (j - i) z) = some cs ∧ KCs h ((X.take j).drop i) cs := by
  by_cases e : j - i = 0
  · have : i = j := by omega
    subst this
    refine ⟨[], by simp [newCells], ?_⟩
    rw [List.drop_eq_nil_of_le (by rw [List.length_take]; omega)]
    exact KCs.nil
  · have hz4 : z = 4 := by
      rcases hz with q | q
      · exact q
      · subst q; simp at hj; omega
    subst hz4
    obtain ⟨s, c, _⟩ := x.2 (j - 1) (by omega)
    obtain ⟨k, hk⟩ : ∃ k, h[b]? = some k := by
      unfold cellsAt at c
      cases q : h[b]? with
      | none => simp [q] at c
      | some k => exact ⟨k, rfl⟩
    have hlen : o + (j - 1) * 4 + 4 ≤ k.cells.length := by
      unfold cellsAt at c
      simp only [hk] at c
      split at c
      · assumption
      · cases c
    refine ⟨(k.cells.drop (o + i * 4)).take ((j - i) * 4), ?_, ?_, fun m hm => ?_⟩
    · simp only [newCells, sl]
      rw [if_neg e, cellsAt_of hk (by omega)]
    · rw [List.length_take, List.length_drop, List.length_drop, List.length_take]; omega
    · rw [List.length_drop, List.length_take] at hm
      obtain ⟨s, c, r⟩ := x.2 (i + m) (by omega)
      rw [List.getElem_drop, List.getElem_take]
      refine ⟨s, ?_, r⟩
      have : o + (i + m) * 4 + 4 ≤ k.cells.length := by omega
      rw [cellsAt_of hk (by omega)] at c
      injection c with c
      rw [List.drop_take, List.take_take, List.drop_drop, ← c, show o + i * 4 + m * 4 = o + (i + m) * 4 by omega]
      congr 1; omega
theorem KCs.kat {h h' : Heap} {v : Value} {X : Lib} {cs : List Value} (k : KCs h X cs) (hv : Buf h h' v 4 cs) (g : Grows h h') (hm : X.length ≤ maxLen) : ∃ b, v = sl b 0 X.length 4 ∧ KAt h' b 0 4 X := by
  rcases hv with ⟨e1, e2⟩ | ⟨b, n, e1, e2, e3, e4⟩
  · have hl := k.1
    rw [e1] at hl; simp at hl
    have : X = [] := List.length_eq_zero_iff.1 (by omega)
    subst this
    exact ⟨0, e2, ⟨by simp, .inl rfl⟩, fun i hi => by simp at hi⟩
  · rw [k.1] at e2
    have : n = X.length := by omega
    subst this
    refine ⟨b, e1, ⟨hm, .inl rfl⟩, fun i hi => ?_⟩
    obtain ⟨s, c, r, w⟩ := k.2 i hi
    refine ⟨s, ?_, r.grow g, w⟩
    rw [Nat.zero_add, cellsAt_of e4 (by simp only; rw [k.1]; omega), c]
theorem KeptOk.small {X : Lib} (ok : KeptOk X) : ∀ y ∈ X, y.1.length ≤ 12 ∧ y.2.2.2.length ≤ 128 := by
  intro y hy
  obtain ⟨j, hj, rfl⟩ := List.getElem_of_mem hy
  obtain ⟨okp, hn⟩ := ok.getOk hj
  exact ⟨hn, okp.siz⟩
theorem Vo.no_kepts {h : Heap} {lo hi : Nat} {z : Nat} : Vo h lo hi shKepts (sl 0 0 0 z) ([] : Lib) := KO.vo (L := []) ⟨.inr ⟨rfl, rfl⟩, by simp, by simp, .inl rfl, by simp, by simp⟩
end Am
/-! AmY19 -/
set_option linter.unusedVariables false
set_option linter.unusedSimpArgs false
set_option maxHeartbeats 4000000
set_option maxRecDepth 4000
namespace Am
open Go

/-! ### the program: sought by halves, inserted -/
def cmpT (a b : List UInt8) : Int := if lexLt a b = true then -1 else if lexLt b a = true then 1 else 0
end Am
/-! AmY20 -/
set_option linter.unusedVariables false
set_option linter.unusedSimpArgs false
set_option maxHeartbeats 4000000
set_option maxRecDepth 4000
namespace Am
open Go

theorem KB.low {h0 h1 h : Heap} {v : Value} {L : List Row} (k : KB h1 h v L) (g : Grows h0 h1) : KB h0 h v L := by
  have l := g.le
  refine ⟨?_, k.el, k.nd, fun r hr c hc => Nat.le_trans l (k.rg r hr c hc)⟩
  rcases k.b with q | ⟨b, n, e1, e2, e3, e4⟩
  · exact .inl q
  · exact .inr ⟨b, n, e1, e2, by omega, e4⟩
theorem KB.grow {h0 h h' : Heap} {v : Value} {L : List Row} (k : KB h0 h v L) (g : Grows h h') : KB h0 h' v L :=
  ⟨k.b.grow g, fun r hr => (k.el r hr).frame fun c hc => g.look ((k.el r hr).lt c hc), k.nd, k.rg⟩
theorem KB.kat {h0 h : Heap} {v : Value} {L : List Row} (k : KB h0 h v L) (hl : L.length ≤ 1048576) : ∃ b, v = sl b 0 L.length 4 ∧ KAt h b 0 4 (L.map (·.1)) := by
  have vo := k.vo (by rw [maxLen_eq]; omega)
  obtain ⟨b, e⟩ := k.len
  subst e
  obtain ⟨b', o', z', e, hX⟩ := vo.vr.kat
  simp at e
  obtain ⟨⟨rfl, rfl⟩, rfl⟩ := e
  exact ⟨b, rfl, hX⟩
/-- All that was there stays, but for a list's own block. -/
def FrameOut (h h' : Heap) (v w : Value) : Prop := h.length ≤ h'.length ∧ (∃ b2 n2, w = sl b2 0 n2 4 ∧ h.length ≤ b2) ∧ ∀ c, c < h.length → (∀ m, v ≠ sl c 0 m 4) → h'[c]? = h[c]?
/-- Rows that are of a list, or are one row. -/
def OneMore (L' : List Row) (r : Row) (L : List Row) : Prop := ∀ q ∈ L', q = r ∨ q ∈ L
theorem small_siz {X : Lib} {n : Nat} (hl : X.length ≤ n) (hs : ∀ y ∈ X, y.1.length ≤ 12 ∧ y.2.2.2.length ≤ 128) : siz shKepts X ≤ 200 * n := by
  have key : ∀ Y : Lib, (∀ y ∈ Y, y.1.length ≤ 12 ∧ y.2.2.2.length ≤ 128) → Y.length + sizL Y ≤ 200 * Y.length := by
    intro Y
    induction Y with
    | nil => intro _; simp [sizL]
    | cons y Y ih =>
      intro hy
      have h1 := ih fun z hz => hy z (by simp [hz])
      obtain ⟨a, b⟩ := hy y (by simp)
      have h3 : siz shKept y = y.1.length + y.2.2.2.length := siz_kept _ _ _ _
      have h4 : sizL (y :: Y) = siz shKept y + sizL Y := by simp [sizL]
      rw [h4, h3]
      simp only [List.length_cons]; omega
  have := key X hs
  rw [siz_kepts]; omega
end Am
