/- Contracts: AmP3, AmT4, AmT5, AmP4, AmP7, AmP8, AmP2, AmP5, AmP6, AmP9, AmP10, AmP11, AmP12, AmP13, AmP14, AmP16, AmD1, AmD2, AmD3, AmJ1, AmJ2, AmJ3. -/
import Derived.Test.YtaeaaogpdipjfaaAmK1
/-! AmP3 -/
set_option linter.unusedVariables false
set_option linter.unusedSimpArgs false
set_option maxHeartbeats 4000000
namespace Am
open Go

/-! ### new panels -/
def newP (W H : Int) : Pan := (W, H, List.replicate (inner W H).toNat 0)
/-! ### sizes -/
def sameSz (X Y : Pan) : Bool := decide (X.1 = Y.1) && decide (X.2.1 = Y.2.1)
def allOk : List Pan → Bool := fun l => l.all okP
def sizesCode (l : List Pan) : Int := if l.all okP then (if (l.drop 1).all fun y => sameSz y (l.headD (0, 0, [])) then 0 else 6) else 1
end Am
/-! AmT4 -/
set_option linter.unusedVariables false
set_option linter.unusedSimpArgs false
set_option maxHeartbeats 4000000
namespace Am
open Go

abbrev Pan3 := Int × Int × List Int
abbrev Jrn := Pan3 × List Trip × List Trip
theorem Rd.one {h : Heap} {a : Shp} {cs : List Value} {X : List a.T} (r : Rd h (.slice a) cs X) : ∃ s, cs = [s] := by
  have := r.len
  match cs, this with
  | [s], _ => exact ⟨s, rfl⟩
theorem Vr.journal {h : Heap} {v : Value} {W H : Int} {br : List Int} {p f : List Trip} (x : Vr h shJournal v ((W, H, br), p, f)) : ∃ s sp sf, v = .agg #[I W, I H, s, sp, sf] ∧ I64 W ∧ I64 H ∧ Vr h shInts s br ∧ Vr h shTrips sp p ∧ Vr h shTrips sf f := by
  obtain ⟨cs, ⟨c1, c2, rfl, ⟨c3, c4, rfl, ⟨rfl, w1⟩, c5, c6, rfl, ⟨rfl, w2⟩, r1⟩, c7, c8, rfl, r2, r3⟩, rfl⟩ := x
  obtain ⟨s, rfl⟩ := Rd.one r1
  obtain ⟨sp, rfl⟩ := Rd.one r2
  obtain ⟨sf, rfl⟩ := Rd.one r3
  exact ⟨s, sp, sf, rfl, wf_i64.1 w1, wf_i64.1 w2, ⟨_, r1, rfl⟩, ⟨_, r2, rfl⟩, ⟨_, r3, rfl⟩⟩
theorem Vr.of_journal {h : Heap} {W H : Int} {br : List Int} {p f : List Trip} {s sp sf : Value} (h1 : I64 W) (h2 : I64 H) (r1 : Vr h shInts s br) (r2 : Vr h shTrips sp p) (r3 : Vr h shTrips sf f) : Vr h shJournal (.agg #[I W, I H, s, sp, sf]) ((W, H, br), p, f) := by
  obtain ⟨_, r1, rfl⟩ := r1
  obtain ⟨_, r2, rfl⟩ := r2
  obtain ⟨_, r3, rfl⟩ := r3
  obtain ⟨s, rfl⟩ := Rd.one r1
  obtain ⟨sp, rfl⟩ := Rd.one r2
  obtain ⟨sf, rfl⟩ := Rd.one r3
  exact ⟨[I W, I H, s, sp, sf], ⟨[I W, I H, s], [sp, sf], rfl, ⟨[I W], [I H, s], rfl, ⟨rfl, wf_i64.2 h1⟩, [I H], [s], rfl, ⟨rfl, wf_i64.2 h2⟩, r1⟩, [sp], [sf], rfl, r2, r3⟩, rfl⟩

/-- The blocks from l on, before u: none, or within these bounds. -/
def Sub2 (lo hi l u : Nat) : Prop := l = u ∨ lo ≤ l ∧ u ≤ hi
theorem Mod.sub {l u lo hi : Nat} {h h' : Heap} (m : Mod l u h h') (s : Sub2 lo hi l u) : Mod lo hi h h' :=
  ⟨m.1, fun b hb hn => m.2 b hb (by rcases s with s | s <;> omega)⟩
theorem iv_ints {h : Heap} {cs : List Value} {X : List Int} {bs : List Nat} (r : Ow h shInts cs X bs) : ∃ s l u, cs = [s] ∧ Vo h l u shInts s X ∧ (bs = [] ∧ l = 0 ∧ u = 0 ∨ bs = [l] ∧ u = l + 1) := by
  obtain ⟨b, z, css, bss, rfl, hz, hm, h1, h2⟩ := r
  obtain ⟨e1, e2, e3⟩ := All3.ints h1
  rcases h2 with ⟨h2, h3⟩ | ⟨h2, h3, h4⟩
  · exact ⟨_, 0, 0, rfl, Vo.of_ints hz hm e2 (.inl h2), .inl ⟨h3, rfl, rfl⟩⟩
  · rw [e3] at h3; rw [e1] at h4
    exact ⟨_, b, b + 1, rfl, Vo.of_ints hz hm e2 (.inr ⟨h4, by omega, by omega⟩), .inr ⟨h3, rfl⟩⟩
theorem iv_trips {h : Heap} {cs : List Value} {X : List Trip} {bs : List Nat} (r : Ow h shTrips cs X bs) : ∃ s l u, cs = [s] ∧ Vo h l u shTrips s X ∧ (bs = [] ∧ l = 0 ∧ u = 0 ∨ bs = [l] ∧ u = l + 1) := by
  obtain ⟨b, z, css, bss, rfl, hz, hm, h1, h2⟩ := r
  obtain ⟨e1, e2, e3⟩ := All3.trips h1
  rcases h2 with ⟨h2, h3⟩ | ⟨h2, h3, h4⟩
  · exact ⟨_, 0, 0, rfl, Vo.of_trips hz hm e2 (.inl h2), .inl ⟨h3, rfl, rfl⟩⟩
  · rw [e3] at h3; rw [e1] at h4
    exact ⟨_, b, b + 1, rfl, Vo.of_trips hz hm e2 (.inr ⟨h4, by omega, by omega⟩), .inr ⟨h3, rfl⟩⟩
/-- Apart. -/
def Dis (l u l' u' : Nat) : Prop := u ≤ l' ∨ u' ≤ l
theorem Vo.journal {h : Heap} {lo hi : Nat} {v : Value} {W H : Int} {br : List Int} {p f : List Trip} (x : Vo h lo hi shJournal v ((W, H, br), p, f)) : ∃ s sp sf l1 u1 l2 u2 l3 u3, v = .agg #[I W, I H, s, sp, sf] ∧ I64 W ∧ I64 H ∧
    Vo h l1 u1 shInts s br ∧ Vo h l2 u2 shTrips sp p ∧ Vo h l3 u3 shTrips sf f ∧ Sub2 lo hi l1 u1 ∧ Sub2 lo hi l2 u2 ∧ Sub2 lo hi l3 u3 ∧ Dis l1 u1 l2 u2 ∧ Dis l1 u1 l3 u3 ∧ Dis l2 u2 l3 u3 := by
  obtain ⟨cs, bs, ⟨c1, c2, b1, b2, rfl, rfl, ⟨c3, c4, b3, b4, rfl, rfl, ⟨rfl, w1, rfl⟩, c5, c6, b5, b6, rfl, rfl, ⟨rfl, w2, rfl⟩, r1⟩, c7, c8, b7, b8, rfl, rfl, r2, r3⟩, rfl, nd, hb⟩ := x
  obtain ⟨s, l1, u1, rfl, o1, q1⟩ := iv_ints r1
  obtain ⟨sp, l2, u2, rfl, o2, q2⟩ := iv_trips r2
  obtain ⟨sf, l3, u3, rfl, o3, q3⟩ := iv_trips r3
  refine ⟨s, sp, sf, l1, u1, l2, u2, l3, u3, rfl, wf_i64.1 w1, wf_i64.1 w2, o1, o2, o3, ?_, ?_, ?_, ?_, ?_, ?_⟩
  all_goals
    (first | unfold Sub2 | unfold Dis) <;>
    rcases q1 with ⟨rfl, rfl, rfl⟩ | ⟨rfl, rfl⟩ <;> rcases q2 with ⟨rfl, rfl, rfl⟩ | ⟨rfl, rfl⟩ <;> rcases q3 with ⟨rfl, rfl, rfl⟩ | ⟨rfl, rfl⟩ <;> simp at nd hb <;> omega
theorem Vo.of_journal {h : Heap} {lo hi l1 u1 l2 u2 l3 u3 : Nat} {W H : Int} {br : List Int} {p f : List Trip} {s sp sf : Value} (h1 : I64 W) (h2 : I64 H) (r1 : Vo h l1 u1 shInts s br) (r2 : Vo h l2 u2 shTrips sp p) (r3 : Vo h l3 u3 shTrips sf f)
    (s1 : Sub2 lo hi l1 u1) (s2 : Sub2 lo hi l2 u2) (s3 : Sub2 lo hi l3 u3) (d1 : Dis l1 u1 l2 u2) (d2 : Dis l1 u1 l3 u3) (d3 : Dis l2 u2 l3 u3) : Vo h lo hi shJournal (.agg #[I W, I H, s, sp, sf]) ((W, H, br), p, f) := by
  obtain ⟨_, b1, r1, rfl, n1, k1⟩ := r1
  obtain ⟨_, b2, r2, rfl, n2, k2⟩ := r2
  obtain ⟨_, b3, r3, rfl, n3, k3⟩ := r3
  obtain ⟨s, rfl⟩ := Rd.one r1.rd
  obtain ⟨sp, rfl⟩ := Rd.one r2.rd
  obtain ⟨sf, rfl⟩ := Rd.one r3.rd
  refine ⟨[I W, I H, s, sp, sf], b1 ++ (b2 ++ b3), ⟨[I W, I H, s], [sp, sf], b1, b2 ++ b3, rfl, rfl, ⟨[I W], [I H, s], [], b1, rfl, rfl, ⟨rfl, wf_i64.2 h1, rfl⟩, [I H], [s], [], b1, rfl, rfl, ⟨rfl, wf_i64.2 h2, rfl⟩, r1⟩, [sp], [sf], b2, b3, rfl, rfl, r2, r3⟩, rfl, ?_, ?_⟩
  · rw [List.nodup_append, List.nodup_append]
    refine ⟨n1, ⟨n2, n3, fun a ha b hb e => ?_⟩, fun a ha b hb e => ?_⟩
    · subst e
      have := k2 a ha; have := k3 a hb
      unfold Dis at d3; omega
    · subst e
      have := k1 a ha
      unfold Dis at d1 d2
      rcases List.mem_append.1 hb with hb | hb
      · have := k2 a hb; omega
      · have := k3 a hb; omega
  · intro b hb
    unfold Sub2 at s1 s2 s3
    rcases List.mem_append.1 hb with hb | hb
    · have := k1 b hb; omega
    · rcases List.mem_append.1 hb with hb | hb
      · have := k2 b hb; omega
      · have := k3 b hb; omega

end Am
/-! AmT5 -/
set_option linter.unusedVariables false
set_option linter.unusedSimpArgs false
set_option maxHeartbeats 4000000
namespace Am
open Go

abbrev Kpt := List UInt8 × Pan3
def sizL (X : List Kpt) : Nat := (X.map fun y => siz shKept y).sum
end Am
/-! AmP4 -/
set_option linter.unusedVariables false
set_option linter.unusedSimpArgs false
set_option maxHeartbeats 4000000
namespace Am
open Go

/-! ### differences -/
def dpre (a b : List Int) (n : Nat) : List Trip := (List.range n).flatMap fun i => if at0 a i = at0 b i then [] else [((i : Int), at0 a i, at0 b i)]
def diffAns (X Y : Pan) : List Trip × Int := if okP X && okP Y then (if sameSz X Y then (dpre X.2.2 Y.2.2 X.2.2.length, 0) else ([], 6)) else ([], 1)
end Am
/-! AmP7 -/
set_option linter.unusedVariables false
set_option linter.unusedSimpArgs false
set_option maxHeartbeats 4000000
namespace Am
open Go

def newDesk : Jrn := (newP 3 2, [], [])
/-! ### equal lists -/
theorem take_ne {α : Type} {X Y : List α} {k : Nat} (h1 : k < X.length) (h2 : k < Y.length) (hne : ¬ X[k] = Y[k]) : ¬ X = Y := fun e => by subst e; exact hne rfl
def samP (X Y : Pan) : Bool := decide (X = Y)
def samJ (X Y : Jrn) : Bool := samP X.1 Y.1 && (decide (X.2.1 = Y.2.1) && decide (X.2.2 = Y.2.2))
end Am
/-! AmP8 -/
set_option linter.unusedVariables false
set_option linter.unusedSimpArgs false
set_option maxHeartbeats 4000000
namespace Am
open Go

def samK (X Y : List Kpt) : Bool := decide (X = Y)
end Am
/-! AmP2 -/
set_option linter.unusedVariables false
set_option linter.unusedSimpArgs false
set_option maxHeartbeats 4000000
namespace Am
open Go

def byteI (x : Int) : UInt8 := UInt8.ofNat x.toNat
theorem append_bytes {h h' : Heap} {v : Value} {l xs : List UInt8} {n : Nat} {bs : Option (Value × Heap)} {K : Value → Heap → Prop} (hp : 0 < h.length) (hl : l.length + xs.length ≤ 1048576) (hg : Grows h h') (hv : Buf h h' v 1 (bytesV l)) (hne : xs ≠ []) (hn : n = xs.length)
    (e : bs = some (sl h'.length 0 n 1, h' ++ [⟨bytesV xs, true⟩]))
    (hK : ∀ v' h'', Grows h h'' → Buf h h'' v' 1 (bytesV (l ++ xs)) → K v' h'') : bindW bs fun y h'' => bindW (aAppend 1 h'' y v) K := by
  subst hn
  rw [e]
  simp only [bindW_some]
  have hne' : xs.length ≠ 0 := by simpa using hne
  refine append_buf hp (hg.push _) (hv.grow ⟨_, rfl⟩) (new := bytesV xs) ?_ (by omega) (by simpa [bytesV] using hne) (by simp [bytesV]) (by simp [bytesV, maxSize]; omega) ?_
  · simp [newCells, hne]
    rw [cellsAt_of (k := ⟨bytesV xs, true⟩) (by simp) (by simp [bytesV])]
    simp [bytesV, List.take_of_length_le]
  · intro v' h'' g1 b1 _
    exact hK v' h'' g1 (by simpa [bytesV] using b1)

def ended (l : List UInt8) : List UInt8 := l ++ [byteI (checksum l / 256), byteI (checksum l % 256)]
/-! ### the digits of five breaks -/

def pv (br : List Int) (i : Nat) : Nat → Int
  | 0 => 0
  | j + 1 => 3 * pv br i j + at0 br (i + j)
def fiveV (br : List Int) (i : Nat) : Int := pv br i 5
def packB (br : List Int) (q : Nat) : List UInt8 := (List.range q).map fun i => byteI (fiveV br (5 * i))
def packBody (X : Pan) : List UInt8 := [77, byteI X.1, byteI X.2.1] ++ packB X.2.2 ((X.2.2.length + 4) / 5)
def packP (X : Pan) : List UInt8 := ended (packBody X)

def packAnsP (X : Pan) : List UInt8 × Int := if okP X then (packP X, 0) else ([], 1)
end Am
/-! AmP5 -/
set_option linter.unusedVariables false
set_option linter.unusedSimpArgs false
set_option maxHeartbeats 4000000
namespace Am
open Go

theorem append_int {h h' : Heap} {v : Value} {l : List Int} {a : Int} {K : Value → Heap → Prop} (hp : 0 < h.length) (hl : l.length ≤ 1048576) (hg : Grows h h') (hv : Buf h h' v 1 (ints l))
    (hK : ∀ v' h'', Grows h h'' → Buf h h'' v' 1 (ints (l ++ [a])) → (∀ c kk, h'[c]? = some kk → (∀ n, v ≠ sl c 0 n 1) → h''[c]? = some kk) → K v' h'') :
    bindW (aBuildSlice 1 1 h' [(0, .agg #[I 0]), (1, I a)]) fun y h'' => bindW (aAppend 1 h'' y v) K := by
  have e : aBuildSlice 1 1 h' [(0, .agg #[I 0]), (1, I a)] = some (sl h'.length 0 1 1, h' ++ [⟨[I a], true⟩]) := by simp [aBuildSlice]
  rw [e]
  simp only [bindW_some]
  refine append_buf hp (hg.push _) (hv.grow ⟨_, rfl⟩) (new := [I a]) ?_ (by omega) (by simp) (by simp) (by simp [ints, maxSize]; omega) ?_
  · simp [newCells]
    rw [cellsAt_of (k := ⟨[I a], true⟩) (by simp) (by simp)]
    simp
  · intro v' h'' g1 b1 k1
    refine hK v' h'' g1 (by rw [ints_append]; exact b1) fun c kk hc hne => k1 c kk (push_at hc) hne

def clash (o a b : List Int) (i : Nat) : Bool := decide (at0 a i ≠ at0 o i) && (decide (at0 b i ≠ at0 o i) && decide (at0 a i ≠ at0 b i))
def cpre (o a b : List Int) (n : Nat) : List Int := (List.range n).flatMap fun i => if clash o a b i then [(i : Int)] else []
def clashCode (X0 X1 X2 : Pan) : Int := if okP X0 && (okP X1 && okP X2) then (if sameSz X0 X1 && sameSz X0 X2 then 0 else 6) else 1
def clashAns (X0 X1 X2 : Pan) : List Int × Int := (if clashCode X0 X1 X2 = 0 then cpre X0.2.2 X1.2.2 X2.2.2 X0.2.2.length else [], clashCode X0 X1 X2)
end Am
/-! AmP6 -/
set_option linter.unusedVariables false
set_option linter.unusedSimpArgs false
set_option maxHeartbeats 4000000
namespace Am
open Go

def mpre (o a b : List Int) (n : Nat) : List Int := (List.range n).map fun i => if at0 b i = at0 o i then at0 a i else at0 b i
def mergeCode (X0 X1 X2 : Pan) : Int := if (clashAns X0 X1 X2).2 = 0 then (if (clashAns X0 X1 X2).1 = [] then 0 else 9) else (clashAns X0 X1 X2).2
def mergeAns (X0 X1 X2 : Pan) : Pan × Int := (if mergeCode X0 X1 X2 = 0 then (X1.1, X1.2.1, mpre X0.2.2 X1.2.2 X2.2.2 X0.2.2.length) else (0, 0, []), mergeCode X0 X1 X2)
end Am
/-! AmP9 -/
set_option linter.unusedVariables false
set_option linter.unusedSimpArgs false
set_option maxHeartbeats 4000000
set_option maxRecDepth 4000
namespace Am
open Go

/-! ### numbers written one by one -/
def fillB (f : Nat → Int) (P : Nat → Bool) (n : Nat) : List Int := (List.range n).map fun j => if P j then f j else 0
/-! ### the bytes -/
def bn (s : List UInt8) (i : Nat) : Nat := (s.getD i 0).toNat
def dv (x j : Nat) : Nat := x / 3 ^ j
def brk (s : List UInt8) (k : Nat) : Nat := dv (bn s (3 + k / 5)) (4 - k % 5) % 3
def unB (s : List UInt8) (n : Nat) : List Int := (List.range n).map fun k => ((brk s k : Nat) : Int)
def unP (s : List UInt8) : Pan := (bn s 1, bn s 2, unB s (inner (bn s 1) (bn s 2)).toNat)
def lenOk (s : List UInt8) : Bool := decide (5 ≤ s.length) && (okSz (bn s 1) (bn s 2) && decide ((s.length : Int) = packSize (bn s 1) (bn s 2)))
def unOk (s : List UInt8) : Bool := lenOk s && decide (packP (unP s) = s)
def sumOk (s : List UInt8) : Bool := decide (checksum (s.take (s.length - 2)) = 256 * (bn s (s.length - 2) : Int) + bn s (s.length - 1))
def fault (s : List UInt8) : Int := if s.length < 5 ∨ bn s 0 ≠ 77 ∨ okSz (bn s 1) (bn s 2) = false then 1 else if (s.length : Int) ≠ packSize (bn s 1) (bn s 2) then 2 else if sumOk s = false then 3 else if packP (unP s) ≠ s then 4 else 0

/-! ### the program's -/
def unRes (s : List UInt8) : Pan := if lenOk s then unP s else (0, 0, [])
def unAns (s : List UInt8) : Pan × Int := if unOk s then (unP s, 0) else ((0, 0, []), 8)
end Am
/-! AmP10 -/
set_option linter.unusedVariables false
set_option linter.unusedSimpArgs false
set_option maxHeartbeats 4000000
set_option maxRecDepth 4000
namespace Am
open Go

theorem PtP.at {h : Heap} {b : Nat} {W H : Int} {s : Value} {br : List Int} {r : Bool} (hb : h[b]? = some ⟨[I W, I H, s], r⟩) (hs : Vr h shInts s br) (hW : I64 W) (hH : I64 H) : PtP h (pt b 0) (W, H, br) :=
  ⟨b, 0, s, rfl, by simp [Am.cell, hb], by simp [Am.cell, hb], by simp [Am.cell, hb], hs, hW, hH⟩
end Am
/-! AmP11 -/
set_option linter.unusedVariables false
set_option linter.unusedSimpArgs false
set_option maxHeartbeats 4000000
set_option maxRecDepth 4000
namespace Am
open Go

/-- How many inner points lie above row y. -/
def rowN (W : Nat) : Nat → Nat
  | 0 => 0
  | y + 1 => rowN W y + if y = 0 then 0 else W - y % 2
theorem rowN_succ {W y : Nat} (h : 1 ≤ y) : rowN W (y + 1) = rowN W y + (W - y % 2) := by
  simp only [rowN]; rw [if_neg (by omega)]
theorem rowN_le : ∀ {W : Nat}, W < 9 → ∀ {y : Nat}, y < 17 → rowN W y ≤ 128 := by decide +kernel
theorem rowN_end : ∀ {W : Nat}, W < 9 → ∀ {H : Nat}, H < 9 → 1 ≤ W → 1 ≤ H → (rowN W (2 * H) : Int) = (W : Int) * (H - 1) + H * (W - 1) := by decide +kernel
/-- The number of a point. -/
def numP (W x y : Nat) : Nat := rowN W y + (x - 1) / 2
structure IsPt (W H k x y : Nat) : Prop where
  y1 : 1 ≤ y
  y2 : y < 2 * H
  lo : rowN W y ≤ k
  hi : k < rowN W (y + 1)
  x : x = 2 * (k - rowN W y) + 1 + y % 2
theorem IsPt.bd {W H k x y : Nat} (a : IsPt W H k x y) : 1 ≤ x ∧ x < 2 * W ∧ (x + y) % 2 = 1 := by
  have h1 := a.x; have h2 := a.lo; have h3 := a.hi; have h4 := a.y1
  rw [rowN_succ h4] at h3
  omega
end Am
/-! AmP12 -/
set_option linter.unusedVariables false
set_option linter.unusedSimpArgs false
set_option maxHeartbeats 4000000
set_option maxRecDepth 4000
namespace Am
open Go

/-! ### where a part lies -/
def hasPart (P : Pan) (x y w h : Int) : Bool := inR w 1 P.1 && (inR h 1 P.2.1 && (inR x 0 (P.1 - w) && inR y 0 (P.2.1 - h)))
/-! ### all points, in order -/
def pairV (p : Nat × Nat) : List Value := [I p.1, I p.2]
def pairsV (l : List (Nat × Nat)) : List Value := (l.map pairV).flatten
/-- The first m points, in order. -/
def PtsOk (W H : Nat) (l : List (Nat × Nat)) : Prop := ∀ k (hk : k < l.length), IsPt W H k l[k].1 l[k].2
end Am
/-! AmP13 -/
set_option linter.unusedVariables false
set_option linter.unusedSimpArgs false
set_option maxHeartbeats 4000000
set_option maxRecDepth 4000
namespace Am
open Go

open Classical in
/-- The inner point with a number. -/
noncomputable def thePt (W H k : Nat) : Nat × Nat := if e : ∃ p : Nat × Nat, IsPt W H k p.1 p.2 then Classical.choose e else (0, 0)
/-- The break of a part's point, in the panel. -/
noncomputable def prt (br : List Int) (W w h X Y k : Nat) : Int := at0 br (numP W ((thePt w h k).1 + 2 * X) ((thePt w h k).2 + 2 * Y))
noncomputable def partP (P : Pan) (x y w h : Int) : Pan := (w, h, (List.range (rowN w.toNat (2 * h.toNat))).map fun k => prt P.2.2 P.1.toNat w.toNat h.toNat x.toNat y.toNat k)
noncomputable def partAns (P : Pan) (x y w h : Int) : Pan × Int := if okP P then (if hasPart P x y w h then (partP P x y w h, 0) else ((0, 0, []), 2)) else ((0, 0, []), 1)

end Am
/-! AmP14 -/
set_option linter.unusedVariables false
set_option linter.unusedSimpArgs false
set_option maxHeartbeats 4000000
set_option maxRecDepth 4000
namespace Am
open Go

theorem IsPt.num {W H k x y : Nat} (a : IsPt W H k x y) : numP W x y = k := by
  have h1 := a.x; have h2 := a.lo; have h3 := a.hi; have h4 := a.y1
  unfold numP; omega
theorem IsPt.ex {W H k : Nat} (w1 : 1 ≤ W) (h1 : 1 ≤ H) (hk : k < rowN W (2 * H)) : ∃ x y, IsPt W H k x y := by
  have key : ∀ m, k < rowN W (m + 1) → ∃ y, 1 ≤ y ∧ y ≤ m ∧ rowN W y ≤ k ∧ k < rowN W (y + 1) := by
    intro m
    induction m with
    | zero => intro h; simp [rowN] at h
    | succ m ih =>
      intro h
      by_cases e : k < rowN W (m + 1)
      · obtain ⟨y, a, b, c, d⟩ := ih e
        exact ⟨y, a, by omega, c, d⟩
      · exact ⟨m + 1, by omega, by omega, by omega, h⟩
  obtain ⟨y, a, b, c, d⟩ := key (2 * H - 1) (by rw [show 2 * H - 1 + 1 = 2 * H by omega]; exact hk)
  exact ⟨_, y, ⟨a, by omega, c, d, rfl⟩⟩

/-- The points of a part that have been put in. -/
noncomputable def inPart (W H w h X Y k : Nat) (j : Nat) : Bool := decide (2 * X < (thePt W H j).1 ∧ (thePt W H j).1 < 2 * X + 2 * w ∧ 2 * Y < (thePt W H j).2 ∧ (thePt W H j).2 < 2 * Y + 2 * h ∧ numP w ((thePt W H j).1 - 2 * X) ((thePt W H j).2 - 2 * Y) < k)
/-- What is put in is what is wanted there. -/
def Fits (f : Nat → Int) (W w h X Y : Nat) (br : List Int) : Prop := ∀ k px py, IsPt w h k px py → k < rowN w (2 * h) → at0 br k = f (numP W (px + 2 * X) (py + 2 * Y))

end Am
/-! AmP16 -/
set_option linter.unusedVariables false
set_option linter.unusedSimpArgs false
set_option maxHeartbeats 4000000
set_option maxRecDepth 4000
namespace Am
open Go

/-- Numbers of which some have been replaced. -/
def fillG (g f : Nat → Int) (P : Nat → Bool) (n : Nat) : List Int := (List.range n).map fun j => if P j then f j else g j
/-! ### the law's two sides -/
noncomputable def pasteF (W H w X Y : Nat) (br : List Int) (i : Nat) : Int := at0 br (numP w ((thePt W H i).1 - 2 * X) ((thePt W H i).2 - 2 * Y))
noncomputable def pasteP (P Q : Pan) (x y : Int) : Pan := (P.1, P.2.1, fillG (at0 P.2.2) (pasteF P.1.toNat P.2.1.toNat Q.1.toNat x.toNat y.toNat Q.2.2) (inPart P.1.toNat P.2.1.toNat Q.1.toNat Q.2.1.toNat x.toNat y.toNat (rowN Q.1.toNat (2 * Q.2.1.toNat))) (rowN P.1.toNat (2 * P.2.1.toNat)))
noncomputable def pasteAns (P : Pan) (x y : Int) (Q : Pan) : Pan × Int := if okP P && okP Q then (if hasPart P x y Q.1 Q.2.1 then (pasteP P Q x y, 0) else ((0, 0, []), 2)) else ((0, 0, []), 1)
end Am
/-! AmD1 -/
set_option linter.unusedVariables false
set_option linter.unusedSimpArgs false
set_option maxHeartbeats 4000000
set_option maxRecDepth 20000
namespace Am
open Go

/-- The digits of a number; none for 0. -/
def decN (n : Nat) : List UInt8 := if h : n = 0 then [] else decN (n / 10) ++ [UInt8.ofNat (48 + n % 10)]
termination_by n
decreasing_by omega
theorem decN_zero : decN 0 = [] := by unfold decN; simp
theorem decN_pos {n : Nat} (h : n ≠ 0) : decN n = decN (n / 10) ++ [UInt8.ofNat (48 + n % 10)] := by
  rw [decN]; rw [dif_neg h]
theorem decN_len (k : Nat) : ∀ n, n < 10 ^ k → (decN n).length ≤ k := by
  induction k with
  | zero => intro n hn; have : n = 0 := by simpa using hn
            subst this; simp [decN_zero]
  | succ k ih =>
    intro n hn
    by_cases h0 : n = 0
    · subst h0; simp [decN_zero]
    · rw [decN_pos h0]
      have := ih (n / 10) (by rw [Nat.pow_succ] at hn; omega)
      simp; omega
theorem decN_pos_len {n : Nat} (h : n ≠ 0) : 0 < (decN n).length := by rw [decN_pos h]; simp
def decS (n : Int) : List UInt8 := if n = 0 then [48] else if n < 0 then 45 :: decN n.natAbs else decN n.natAbs
theorem decN_len64 {n : Int} (hn : I64 n) : (decN n.natAbs).length ≤ 19 := by
  unfold I64 at hn
  have e : 10 ^ 19 = 10000000000000000000 := by decide
  exact decN_len 19 _ (by omega)
theorem decS_len {n : Int} (hn : I64 n) : 1 ≤ (decS n).length ∧ (decS n).length ≤ 20 := by
  have := decN_len64 hn
  unfold decS
  split
  · simp
  · have h0 := decN_pos_len (n := n.natAbs) (by omega)
    split
    · simp; omega
    · omega
theorem wrapU {n : Int} (a : 0 ≤ n) (b : n < 18446744073709551616) : IntKind.u64.wrap n = n := wrap_unsigned (M := 18446744073709551616) rfl (by decide) a b
theorem wrapU_neg {n : Int} (a : -9223372036854775808 ≤ n) (b : n < 0) : IntKind.u64.wrap n = n + 18446744073709551616 := by
  unfold IntKind.wrap
  have hs : IntKind.u64.signed = false := rfl
  have hM : (2 : Int) ^ IntKind.u64.bits = 18446744073709551616 := by decide
  simp only [hs, hM, Bool.false_and, Bool.false_eq_true, if_false]
  rw [← Int.add_emod_right]
  exact Int.emod_eq_of_lt (by omega) (by omega)
theorem wrapU_sub {n : Int} (a : -9223372036854775808 ≤ n) (b : n < 0) : IntKind.u64.wrap (0 - IntKind.u64.wrap n) = -n := by
  rw [wrapU_neg a b]
  unfold IntKind.wrap
  have hs : IntKind.u64.signed = false := rfl
  have hM : (2 : Int) ^ IntKind.u64.bits = 18446744073709551616 := by decide
  simp only [hs, hM, Bool.false_and, Bool.false_eq_true, if_false]
  have : 0 - (n + 18446744073709551616) = -n - 18446744073709551616 := by omega
  rw [this, ← Int.add_emod_right, Int.sub_add_cancel]
  exact Int.emod_eq_of_lt (by omega) (by omega)

/-- A byte before what there is. -/
theorem push_front {h h' : Heap} {v : Value} {l : List UInt8} {x : Int} {c : UInt8} {K : Value → Heap → Prop} (hp : 0 < h.length) (hl : l.length ≤ 1048576) (hg : Grows h h') (hv : Buf h h' v 1 (bytesV l)) (hx : x = c.toNat)
    (hK : ∀ v' h'', Grows h h'' → Buf h h'' v' 1 (bytesV (c :: l)) → K v' h'') :
    bindW (aBuildSlice 1 1 h' [(0, Value.agg #[U 0]), (1, U x)]) fun y h'' => bindW (aAppend 1 h'' v y) K := by
  subst hx
  have e : aBuildSlice 1 1 h' [(0, Value.agg #[U 0]), (1, U (c.toNat : Int))] = some (sl h'.length 0 1 1, h' ++ [⟨bytesV [c], true⟩]) := by simp [aBuildSlice, bytesV]
  rw [e]
  simp only [bindW_some]
  have hb : Buf h (h' ++ [⟨bytesV [c], true⟩]) (sl h'.length 0 1 1) 1 (bytesV [c]) := .inr ⟨h'.length, 1, rfl, by simp [bytesV], hg.le, by simp⟩
  have hn : newCells 1 (h' ++ [⟨bytesV [c], true⟩]) v = some (bytesV l) := by
    obtain ⟨b, o, n, rfl, hn, hr⟩ := (hv.grow (⟨_, rfl⟩ : Grows h' (h' ++ [⟨bytesV [c], true⟩]))).reads
    by_cases h0 : n = 0
    · subst h0
      have : l = [] := by simp [bytesV] at hn; simpa using hn.symm
      subst this; simp [newCells, bytesV]
    · have := hr.resolve_left h0
      simp only [newCells, h0, if_false]
      exact this
  by_cases h0 : l = []
  · subst h0
    have : aAppend 1 (h' ++ [⟨bytesV [c], true⟩]) v (sl h'.length 0 1 1) = some (sl h'.length 0 1 1, h' ++ [⟨bytesV [c], true⟩]) := by
      simp only [aAppend, hn]
      simp [bytesV]
    rw [this]
    exact hK _ _ (hg.push _) hb
  · refine append_buf hp (hg.push _) hb hn (by omega) (by simpa [bytesV] using h0) (by simp) (by simp [bytesV, maxSize]; omega) ?_
    intro v' h'' g1 b1 _
    exact hK v' h'' g1 (by simpa [bytesV] using b1)

theorem dig_eq {r : Int} (h : I64 r) : (0 ≤ r → IntKind.u8.wrap (IntKind.i64.wrap (48 + r.tmod 10)) = ((UInt8.ofNat (48 + r.natAbs % 10)).toNat : Int)) ∧ (r < 0 → IntKind.u8.wrap (IntKind.i64.wrap (48 + (0 - r.tmod 10))) = ((UInt8.ofNat (48 + r.natAbs % 10)).toNat : Int)) := by
  unfold I64 at h
  have e : ((UInt8.ofNat (48 + r.natAbs % 10)).toNat : Int) = 48 + (r.natAbs : Int) % 10 := by
    rw [UInt8.toNat_ofNat']
    omega
  rw [e]
  constructor
  · intro h0
    rw [tmod_pos h0, wrap64 (by omega) (by omega), wrap8 (by omega) (by omega)]
    omega
  · intro h0
    have : r.tmod 10 = -((r.natAbs : Int) % 10) := by
      have e : r = -(r.natAbs : Int) := by omega
      rw [e, Int.neg_tmod, tmod_pos (by omega)]
      omega
    rw [this, wrap64 (by omega) (by omega), wrap8 (by omega) (by omega)]
    omega
theorem quo_eq {r : Int} : (r.tdiv 10).natAbs = r.natAbs / 10 := by
  rw [Int.natAbs_tdiv]; rfl

theorem dec_next {m : Nat} {l acc : List UInt8} (h : decN m ++ acc = l) (h0 : m ≠ 0) : decN (m / 10) ++ (UInt8.ofNat (48 + m % 10) :: acc) = l := by
  rw [← h, decN_pos h0]; simp
theorem c437 (n : Int) (hn : I64 n) (h : Heap) (hp : 0 < h.length) : ACall Gam 437 [I n] h fun r h' => r = S (decS n) ∧ Grows h h' := by
  have hl := decN_len64 hn
  have hn' := hn
  unfold I64 at hn'
  refine ACall_intro g437 rfl ?_
  unfold fn437
  simp (disch := omega)
  refine awp_loop (fun (r : Int) σ h' => I64 r ∧ Grows h h' ∧ σ 0 = I n ∧ σ 4 = I r ∧ ∃ acc, decN r.natAbs ++ acc = decN n.natAbs ∧ Buf h h' (σ 3) 1 (bytesV acc)) (fun r => r.natAbs) n ?_ ?_
  · exact ⟨hn, Grows.refl _, by simp, by simp, [], by simp, by simpa [bytesV] using Buf.nil⟩
  · rintro r σ h' ⟨hr, hg, p0, p4, acc, he, p3⟩
    have hla : (decN r.natAbs).length + acc.length ≤ 19 := by
      have := congrArg List.length he
      rw [List.length_append] at this; omega
    simp (disch := omega) [p4]
    refine fork_dec (fun h0 => ?_) (fun hne => ?_)
    · subst h0
      simp only [Int.natAbs_zero, decN_zero, List.nil_append] at he
      subst he
      have htb := text_buf p3
      obtain ⟨b, o, k, hk, hkn, hrd⟩ := p3.reads
      have hkn' : k = (decN n.natAbs).length := by simpa [bytesV] using hkn
      simp (disch := omega) [hk, p0]
      refine fork_dec (fun hz => ?_) (fun hz => ?_)
      · have : n = 0 := by
          false_or_by_contra
          have := decN_pos_len (n := n.natAbs) (by omega)
          omega
        subst this
        simp (disch := omega) [decS, hg]
      · have hn0 : n ≠ 0 := by
          intro e; subst e; simp [decN_zero] at hkn'; omega
        simp (disch := omega) [hk, p0]
        rw [hk] at htb
        refine fork_dec (fun hz => ?_) (fun hz => ?_)
        · simp (disch := omega) [hk, p0, htb]
          rw [if_pos (by omega)]
          simp [decS, hn0, hz, hg]
        · simp (disch := omega) [hk, p0, htb, decS, hn0, hz, hg]
    · have hr' := hr
      unfold I64 at hr'
      have hm : r.natAbs ≠ 0 := by omega
      have hnx := dec_next he hm
      have hq := quo_eq (r := r)
      obtain ⟨d1, d2⟩ := dig_eq hr
      have hdec : (r.tdiv 10).natAbs < r.natAbs := by omega
      have hi : I64 (r.tdiv 10) := by unfold I64; omega
      have hw : IntKind.i64.wrap (r.tdiv 10) = r.tdiv 10 := wrap64 (by unfold I64 at hi; omega) (by unfold I64 at hi; omega)
      simp (disch := omega) [p4]
      refine fork_dec (fun hlt => ?_) (fun hge => ?_)
      · simp (disch := omega) [p4]
        have hr0 : r < 0 := by
          false_or_by_contra
          rw [tmod_pos (by omega)] at hlt
          omega
        have ha : (r.tmod 10).natAbs = r.natAbs % 10 := Int.natAbs_tmod r 10
        refine push_front (c := UInt8.ofNat (48 + r.natAbs % 10)) hp (by omega) hg p3 (by rw [← d2 hr0, Int.zero_sub, wrap64 (n := -r.tmod 10) (by omega) (by omega)]) ?_
        intro v' h'' g1 b1
        simp (disch := omega) [p4, hw]
        exact ⟨_, ⟨hi, g1, p0, rfl, _, by rw [hq]; exact hnx, b1⟩, by omega⟩
      · simp (disch := omega) [p4]
        have ha : (r.tmod 10).natAbs = r.natAbs % 10 := Int.natAbs_tmod r 10
        have hd : 0 ≤ r ∨ r.tmod 10 = 0 := by
          by_cases h0 : 0 ≤ r
          · exact .inl h0
          · right
            have e : r = -(r.natAbs : Int) := by omega
            rw [e, Int.neg_tmod, tmod_pos (by omega)] at hge ⊢
            omega
        refine push_front (c := UInt8.ofNat (48 + r.natAbs % 10)) hp (by omega) hg p3 (by
          rcases hd with h0 | h0
          · exact d1 h0
          · by_cases h1 : 0 ≤ r
            · exact d1 h1
            · rw [← d2 (by omega), h0]; rfl) ?_
        intro v' h'' g1 b1
        simp (disch := omega) [p4, hw]
        exact ⟨_, ⟨hi, g1, p0, rfl, _, by rw [hq]; exact hnx, b1⟩, by omega⟩

theorem drop_set (l : List UInt8) (k : Nat) (c : UInt8) (hk : k < l.length) : (l.set k c).drop k = c :: l.drop (k + 1) := by
  rw [List.set_eq_take_append_cons_drop, if_pos hk, List.drop_append_of_le_length (by simp; omega), List.drop_of_length_le (by simp; omega)]
  simp
theorem bytesV_set (l : List UInt8) (k : Nat) (c : UInt8) : (bytesV l).set k (U c.toNat) = bytesV (l.set k c) := by simp [bytesV, List.map_set]
theorem c75 (n : Int) (hn : I64 n) (h : Heap) (hp : 0 < h.length) : ACall Gam 75 [I n] h fun r h' => r = S (decS n) ∧ Grows h h' := by
  have hl := decN_len64 hn
  have hn' := hn
  unfold I64 at hn'
  refine ACall_intro g75 rfl ?_
  unfold fn75
  simp (disch := omega)
  refine fork_dec (fun h0 => ?_) (fun h0 => ?_)
  · subst h0
    simp [decS, Grows.refl]
  have hst : storeAt (h ++ [⟨[U 0, U 0, U 0, U 0, U 0, U 0, U 0, U 0, U 0, U 0, U 0, U 0, U 0, U 0, U 0, U 0, U 0, U 0, U 0, U 0], true⟩]) h.length 0 [U 0, U 0, U 0, U 0, U 0, U 0, U 0, U 0, U 0, U 0, U 0, U 0, U 0, U 0, U 0, U 0, U 0, U 0, U 0, U 0] = some (h ++ [⟨bytesV (List.replicate 20 0), true⟩]) := by
    simp [storeAt, splice, bytesV]
  simp (disch := omega) [hst]
  obtain ⟨h1, e1⟩ : ∃ h1, h1 = h ++ [⟨bytesV (List.replicate 20 0), true⟩] := ⟨_, rfl⟩
  have er : (List.replicate 20 (0 : UInt8)) = [0, 0, 0, 0, 0, 0, 0, 0, 0, 0, 0, 0, 0, 0, 0, 0, 0, 0, 0, 0] := rfl
  rw [er] at e1
  rw [← e1]
  have g1 : Grows h h1 := ⟨_, e1⟩
  have k1 : h1[h.length]? = some ⟨bytesV (List.replicate 20 0), true⟩ := by rw [e1, er]; simp
  generalize hK : seqQ Gam _ (retQ _ _) = K
  have main : ∀ σ, σ 0 = I n → σ 3 = pt h.length 0 → σ 4 = I 20 → σ 5 = .int .u64 n.natAbs → K 0 σ h1 := by
    intro σ p0 p3 p4 p5
    subst hK
    simp only [seqQ_zero]
    simp (disch := omega)
    refine awp_loop (fun (r : Nat) σ h' => Grows h h' ∧ r ≤ 9223372036854775808 ∧ σ 0 = I n ∧ σ 3 = pt h.length 0 ∧ σ 5 = .int .u64 r ∧ ∃ (arr : List UInt8) (a : Nat), σ 4 = I a ∧ arr.length = 20 ∧ h'[h.length]? = some ⟨bytesV arr, true⟩ ∧ decN r ++ arr.drop a = decN n.natAbs ∧ a ≤ 20) (fun r => r) n.natAbs ?_ ?_
    · exact ⟨g1, by omega, p0, p3, p5, _, 20, p4, by simp, k1, by simp, by omega⟩
    · rintro r σ h' ⟨hg, hr, p0, p3, p5, arr, a, p4, ha, hb, he, ha20⟩
      have hla : (decN r).length + (20 - a) ≤ 19 := by
        have := congrArg List.length he
        rw [List.length_append, List.length_drop, ha] at this; omega
      simp (disch := omega) [p5]
      refine fork_dec (fun hgt => ?_) (fun hle => ?_)
      · have hm : r ≠ 0 := by omega
        have := decN_pos_len hm
        have hnx := dec_next he hm
        obtain ⟨a, rfl⟩ : ∃ a', a = a' + 1 := ⟨a - 1, by omega⟩
        have hw : IntKind.u8.wrap (IntKind.u64.wrap (48 + (r : Int) % 10)) = ((UInt8.ofNat (48 + r % 10)).toNat : Int) := by
          rw [wrapU (by omega) (by omega), wrap8 (by omega) (by omega), UInt8.toNat_ofNat']
          omega
        obtain ⟨d, hd⟩ : ∃ d : UInt8, d = UInt8.ofNat (48 + r % 10) := ⟨_, rfl⟩
        rw [← hd] at hw hnx
        have hq : IntKind.u64.wrap ((r : Int) / 10) = ((r / 10 : Nat) : Int) := by
          rw [wrapU (by omega) (by omega)]; omega
        have hs : storeAt h' h.length a [U (d.toNat : Int)] = some (h'.set h.length ⟨bytesV (arr.set a d), true⟩) := by
          rw [store_one hb (by simp [bytesV]; omega), bytesV_set]
        have ea : (a : Int) + 1 - 1 = a := by omega
        have la : (a : Int) < 20 := by omega
        simp (disch := omega) [p3, p4, p5, ea, wrap64, tmod_pos, tdiv_pos, hw, la, hs, hq]
        exact ⟨r / 10, ⟨hg.put (Nat.le_refl _) _, by omega, p0, by omega, arr.set a d, a, rfl, by simpa using ha, by simp [at_lt hb], by rw [drop_set _ _ _ (by omega)]; exact hnx, by omega⟩, by omega⟩
      · have : r = 0 := by omega
        subst this
        rw [decN_zero, List.nil_append] at he
        simp (disch := omega) [p0]
        have fin : ∀ (h' : Heap) (arr : List UInt8) (a : Nat) (σ : Nat → Value), arr.length = 20 → a < 20 → h'[h.length]? = some ⟨bytesV arr, true⟩ → arr.drop a = decS n → aSlice 1020001 h' (pt h.length 0) (some (I a)) none none = some (sl h.length a (20 - a) 1, h') ∧ aConv 21 (sl h.length a (20 - a) 1) h' = some (S (decS n), h') := by
          intro h' arr a σ l1 l2 hb he
          constructor
          · simp [aSlice, bound, arrOk, hb, bytesV, l1, l2, show h.length ≠ 0 by omega]
          · have hc : cellsAt h' h.length a (20 - a) = some (bytesV (decS n)) := by
              rw [cellsAt_of hb (by simp [bytesV]; omega), ← he]
              simp [bytesV, List.map_drop, List.take_of_length_le, l1]
            simp [aConv, hc, asInts_bytes, show ¬ 20 - a = 0 by omega]
        have hdl := decN_pos_len (n := n.natAbs) (by omega)
        refine fork_dec (fun hneg => ?_) (fun hpos => ?_)
        · obtain ⟨a, rfl⟩ : ∃ a', a = a' + 1 := ⟨a - 1, by omega⟩
          have hs : storeAt h' h.length a [U 45] = some (h'.set h.length ⟨bytesV (arr.set a 45), true⟩) := by
            rw [← bytesV_set, ← store_one hb (by simp [bytesV]; omega)]; rfl
          have ea : (a : Int) + 1 - 1 = a := by omega
          have la : a < 20 := by
            have := congrArg List.length he
            rw [List.length_drop, ha] at this; omega
          obtain ⟨f1, f2⟩ := fin (h'.set h.length ⟨bytesV (arr.set a 45), true⟩) (arr.set a 45) a σ (by simpa using ha) la (by simp [at_lt hb]) (by rw [drop_set _ _ _ (by omega), he]; simp [decS, h0, hneg])
          have la' : (a : Int) < 20 := by omega
          simp (disch := omega) [p0, p3, p4, ea, wrap64, la', hs, f1, f2]
          exact hg.put (Nat.le_refl _) _
        · have la : a < 20 := by
            have := congrArg List.length he
            rw [List.length_drop, ha] at this; omega
          obtain ⟨f1, f2⟩ := fin h' arr a σ ha la hb (by rw [he]; simp [decS, h0, hpos])
          simp (disch := omega) [p0, p3, p4, f1, f2]
          exact hg
  refine fork_dec (fun hneg => ?_) (fun hpos => ?_)
  · simp (disch := omega)
    refine main _ (by simp) (by simp) (by simp) ?_
    rw [← Int.zero_sub, wrapU_sub (by omega) (by omega)]
    have : ((n.natAbs : Nat) : Int) = -n := by omega
    simp [this]
  · simp (disch := omega)
    refine main _ (by simp) (by simp) (by simp) ?_
    rw [wrapU (by omega) (by omega)]
    have : ((n.natAbs : Nat) : Int) = n := by omega
    simp [this]
end Am
/-! AmD2 -/
set_option linter.unusedVariables false
set_option linter.unusedSimpArgs false
set_option maxHeartbeats 4000000
set_option maxRecDepth 4000
namespace Am
open Go

/-- Texts with a text between them. -/
def joinS (sep : List UInt8) : List (List UInt8) → List UInt8
  | [] => []
  | a :: r => a ++ r.flatMap fun x => sep ++ x
theorem joinS_snoc (sep : List UInt8) (l : List (List UInt8)) (x : List UInt8) : joinS sep (l ++ [x]) = if l = [] then x else joinS sep l ++ sep ++ x := by
  cases l with
  | nil => simp [joinS]
  | cons a r => simp [joinS]
theorem joinS_take (sep : List UInt8) (l : List (List UInt8)) (k : Nat) (hk : k < l.length) : joinS sep (l.take (k + 1)) = joinS sep (l.take k) ++ (if 0 < k then sep else []) ++ l[k] := by
  rw [List.take_succ_eq_append_getElem hk, joinS_snoc]
  by_cases h0 : k = 0
  · subst h0; simp [joinS]
  · have h1 : l.take k ≠ [] := by
      intro e; have := congrArg List.length e; rw [List.length_take, List.length_nil] at this; omega
    rw [if_neg h1, if_pos (by omega)]
theorem joinS_mono (sep : List UInt8) (l : List (List UInt8)) (k : Nat) : (joinS sep (l.take k)).length ≤ (joinS sep l).length := by
  by_cases hk : k < l.length
  · suffices h : ∀ j, k + j ≤ l.length → (joinS sep (l.take k)).length ≤ (joinS sep (l.take (k + j))).length by
      have := h (l.length - k) (by omega)
      rwa [show k + (l.length - k) = l.length by omega, List.take_length] at this
    intro j
    induction j with
    | zero => intro _; exact Nat.le_refl _
    | succ j ih =>
      intro hj
      have := joinS_take sep l (k + j) (by omega)
      rw [show k + (j + 1) = k + j + 1 by omega, this]
      have := ih (by omega)
      simp; omega
  · rw [List.take_of_length_le (by omega)]; exact Nat.le_refl _

theorem c167 (v : Value) (l : List (List UInt8)) (sep : List UInt8) (h : Heap) (hv : Reads h v 1 (texts l)) (hl : (joinS sep l).length ≤ 1048576) (hm : l.length ≤ 1048576) : ACall Gam 167 [v, S sep] h fun r h' => r = S (joinS sep l) ∧ h' = h := by
  obtain ⟨b, o, n, rfl, hn, hr⟩ := hv
  have e1 : n = l.length := by simpa [texts] using hn
  subst e1
  refine ACall_intro g167 rfl ?_
  unfold fn167
  simp (disch := omega)
  refine awp_loop (fun k σ h' => k ≤ l.length ∧ h' = h ∧ σ 1 = S sep ∧ σ 5 = S (joinS sep (l.take k)) ∧ σ 8 = sl b o l.length 1 ∧ σ 9 = I l.length ∧ σ 10 = I k) (fun k => l.length - k) 0 ?_ ?_
  · simp [joinS]
  · rintro k σ h' ⟨hk, rfl, p1, p5, p8, p9, p10⟩
    simp (disch := omega) [p9, p10]
    refine fork_dec (fun hlt => ?_) (fun hge => ?_)
    · have k1 : k < l.length := by omega
      have hst := joinS_take sep l k k1
      have hmo := joinS_mono sep l (k + 1)
      have hle := congrArg List.length hst
      simp only [List.length_append] at hle
      simp (disch := omega) [p8, p9, p10, k1, texts_cell hr hn k1]
      refine fork_dec (fun h0 => ?_) (fun h0 => ?_)
      · rw [if_pos (by omega)] at hst hle
        simp (disch := omega) [p1, p5, p8, p9, p10]
        rw [if_pos (by omega)]
        simp (disch := omega) [p1, p5, p8, p9, p10]
        rw [if_pos (by omega)]
        simp (disch := omega) [p1, p5, p8, p9, p10, wrap64]
        exact ⟨k + 1, ⟨by omega, by rw [hst]; simp, by omega⟩, by omega⟩
      · rw [if_neg (by omega)] at hst hle
        simp (disch := omega) [p1, p5, p8, p9, p10]
        simp only [List.length_nil] at hle
        rw [if_pos (by omega)]
        simp (disch := omega) [p1, p5, p8, p9, p10, wrap64]
        exact ⟨k + 1, ⟨by omega, by rw [hst]; simp, by omega⟩, by omega⟩
    · have : k = l.length := by omega
      subst this
      simp (disch := omega) [p5]

def okT (t : Trip) : Bool := inR t.1 0 111 && (okBr t.2.1 && okBr t.2.2)
def okD (X : List Trip) : Bool := X.all okT && decide (X.length ≤ 112)
def signB (b : Int) : UInt8 := if b = 1 then 124 else if b = 2 then 45 else 43
def wordT (t : Trip) : List UInt8 := decS t.1 ++ [signB t.2.1, signB t.2.2]
def diffT (X : List Trip) : List UInt8 := joinS [32] (X.map wordT)
def diffText (X : List Trip) : List UInt8 := if okD X then diffT X else []

/-- A text is appended to bytes. -/
theorem append_text {h h' : Heap} {v : Value} {l xs : List UInt8} {K : Value → Heap → Prop} (hp : 0 < h.length) (hl : l.length + xs.length ≤ 1048576) (hg : Grows h h') (hv : Buf h h' v 1 (bytesV l)) (hne : xs ≠ [])
    (hK : ∀ v' h'', Grows h h'' → Buf h h'' v' 1 (bytesV (l ++ xs)) → K v' h'') : bindW (aAppend 1 h' (S xs) v) K := by
  refine append_buf hp hg hv (new := bytesV xs) (by simp [newCells, bytesV]) (by omega) (by simpa [bytesV] using hne) (by simp [bytesV]) (by simp [bytesV, maxSize]; omega) ?_
  intro v' h'' g1 b1 _
  exact hK v' h'' g1 (by simpa [bytesV] using b1)
end Am
/-! AmD3 -/
set_option linter.unusedVariables false
set_option linter.unusedSimpArgs false
set_option maxHeartbeats 4000000
set_option maxRecDepth 4000
namespace Am
open Go

/-- A text is appended to texts. -/
theorem append_word {h h' : Heap} {v : Value} {l : List (List UInt8)} {x : List UInt8} {K : Value → Heap → Prop} (hp : 0 < h.length) (hl : l.length ≤ 1048576) (hg : Grows h h') (hv : Buf h h' v 1 (texts l))
    (hK : ∀ v' h'', Grows h h'' → Buf h h'' v' 1 (texts (l ++ [x])) → K v' h'') :
    bindW (aBuildSlice 1 1 h' [(0, .agg #[S []]), (1, S x)]) fun y h'' => bindW (aAppend 1 h'' y v) K := by
  have e : aBuildSlice 1 1 h' [(0, .agg #[S []]), (1, S x)] = some (sl h'.length 0 1 1, h' ++ [⟨[S x], true⟩]) := by simp [aBuildSlice]
  rw [e]
  simp only [bindW_some]
  refine append_buf hp (hg.push _) (hv.grow ⟨_, rfl⟩) (new := [S x]) ?_ (by omega) (by simp) (by simp) (by simp [texts, maxSize]; omega) ?_
  · simp [newCells]
    rw [cellsAt_of (k := ⟨[S x], true⟩) (by simp) (by simp)]
    simp
  · intro v' h'' g1 b1 _
    exact hK v' h'' g1 (by rw [texts_append]; exact b1)
end Am
/-! AmJ1 -/
set_option linter.unusedVariables false
set_option linter.unusedSimpArgs false
set_option maxHeartbeats 4000000
set_option maxRecDepth 4000
namespace Am
open Go

/-- A step fits a panel with n points. -/
def okStep (n : Nat) (s : Trip) : Bool := inR s.1 0 ((n : Int) - 1) && (okBr s.2.1 && (okBr s.2.2 && !decide (s.2.1 = s.2.2)))
theorem okStep_iff {n : Nat} {s : Trip} : okStep n s = true ↔ (0 ≤ s.1 ∧ s.1 < n) ∧ (0 ≤ s.2.1 ∧ s.2.1 ≤ 2) ∧ (0 ≤ s.2.2 ∧ s.2.2 ≤ 2) ∧ s.2.1 ≠ s.2.2 := by
  simp only [okStep, okBr, Bool.and_eq_true, inR_iff, Bool.not_eq_true', decide_eq_false_iff_not]
  omega
/-- Steps undone, the last one first: none if one does not fit. -/
def runB : List Trip → List Int → Option (List Int)
  | [], br => some br
  | s :: l, br => if okStep br.length s && decide (at0 br s.1.toNat = s.2.2) then runB l (br.set s.1.toNat s.2.1) else none
/-- Steps made. -/
def runF : List Trip → List Int → Option (List Int)
  | [], br => some br
  | s :: l, br => if okStep br.length s && decide (at0 br s.1.toNat = s.2.1) then runF l (br.set s.1.toNat s.2.2) else none
def okJ (X : Jrn) : Bool := okP X.1 && (decide (X.2.1.length + X.2.2.length ≤ 50) && ((runB X.2.1.reverse X.1.2.2).isSome && (runF X.2.2 X.1.2.2).isSome))

/-- A number written in a block of numbers. -/
theorem ints_set (l : List Int) (k : Nat) (v : Int) : (ints l).set k (I v) = ints (l.set k v) := by simp [ints, List.map_set]
theorem store_int {h : Heap} {b k : Nat} {l : List Int} {v : Int} (hb : h[b]? = some ⟨ints l, true⟩) (hk : k < l.length) : storeAt h b k [I v] = some (h.set b ⟨ints (l.set k v), true⟩) := by
  rw [store_one hb (by simp [ints]; exact hk), ints_set]
theorem cell_int {h : Heap} {b k : Nat} {l : List Int} {r : Bool} (hb : h[b]? = some ⟨ints l, r⟩) (hk : k < l.length) : cell h b k = some (I (at0 l k)) := by
  rw [at0_of hk]
  exact cell_of hb (by simp [ints, hk])
/-- A pointer to a journal. -/
def PtJ (h : Heap) (v : Value) (X : Jrn) : Prop := ∃ b o s sp sf, v = pt b o ∧ cellsAt h b o 5 = some [I X.1.1, I X.1.2.1, s, sp, sf] ∧ Vr h shInts s X.1.2.2 ∧ Vr h shTrips sp X.2.1 ∧ Vr h shTrips sf X.2.2 ∧ I64 X.1.1 ∧ I64 X.1.2.1
theorem PtJ.grow {h h' : Heap} {v : Value} {X : Jrn} (x : PtJ h v X) (g : Grows h h') : PtJ h' v X := by
  obtain ⟨b, o, s, sp, sf, e, h1, h2, h3, h4, h5⟩ := x
  exact ⟨b, o, s, sp, sf, e, g.cellsAt h1, h2.grow g, h3.grow g, h4.grow g, h5⟩
theorem PtJ.of {h : Heap} {b : Nat} {W H : Int} {s sp sf : Value} {br : List Int} {p f : List Trip} {r : Bool} (hb : h[b]? = some ⟨[I W, I H, s, sp, sf], r⟩) (h1 : Vr h shInts s br) (h2 : Vr h shTrips sp p) (h3 : Vr h shTrips sf f) (w1 : I64 W) (w2 : I64 H) : PtJ h (pt b 0) ((W, H, br), p, f) :=
  ⟨b, 0, s, sp, sf, rfl, cellsAt_all hb rfl, h1, h2, h3, w1, w2⟩
theorem PtJ.panel {h : Heap} {b o : Nat} {X : Jrn} (x : PtJ h (pt b o) X) : PtP h (pt b o) X.1 := by
  obtain ⟨b, o, s, sp, sf, e, h1, h2, h3, h4, w1, w2⟩ := x
  injection e with e; injection e with e; injection e with e1 e2; subst e1; subst e2
  have k0 := (cell_in (i := 0) h1 (by omega)).1
  have k1 := (cell_in (i := 1) h1 (by omega)).1
  have k2 := (cell_in (i := 2) h1 (by omega)).1
  exact ⟨_, _, s, rfl, by simpa using k0, by simpa using k1, by simpa using k2, h2, w1, w2⟩

end Am
/-! AmJ2 -/
set_option linter.unusedVariables false
set_option linter.unusedSimpArgs false
set_option maxHeartbeats 4000000
set_option maxRecDepth 4000
namespace Am
open Go

end Am
/-! AmJ3 -/
set_option linter.unusedVariables false
set_option linter.unusedSimpArgs false
set_option maxHeartbeats 4000000
set_option maxRecDepth 4000
namespace Am
open Go

def noJ : Jrn := ((0, 0, []), [], [])
/-! ### a journal without steps -/
def njAns (X : Pan) : Jrn × Int := if okP X then ((X, [], []), 0) else (noJ, 1)
/-! ### the panel before all steps -/
def startB (X : Jrn) : List Int := (runB X.2.1.reverse X.1.2.2).getD []
end Am
