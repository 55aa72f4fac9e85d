/- Contracts: AmBuf, AmC1, AmC2, AmC3, AmC4, AmC6, AmOwn, AmT1, AmT2. -/
import Derived.Test.YtnklgbafjppgoaaAmSimp
import Derived.Test.YtnklgbafjppgoaaAmTab
import Derived.Test.YtnklgbafjppgoaaAmArgs
set_option linter.unusedVariables false
set_option linter.unusedSimpArgs false
set_option maxHeartbeats 4000000
set_option maxRecDepth 40000
namespace Am
open Go
theorem Grows.push {h0 h : Heap} (g : Grows h0 h) (k : Blk) : Grows h0 (h ++ [k]) := g.trans ⟨[k], rfl⟩
theorem Grows.put {h0 h : Heap} (g : Grows h0 h) {b : Nat} (hb : h0.length ≤ b) (k : Blk) : Grows h0 (h.set b k) := by
 obtain ⟨l, rfl⟩ := g
 exact ⟨l.set (b - h0.length) k, by rw [List.set_append_right _ _ hb]⟩
theorem Grows.le {h0 h : Heap} (g : Grows h0 h) : h0.length ≤ h.length := by obtain ⟨l, rfl⟩ := g; simp
theorem Grows.at {h0 h : Heap} (g : Grows h0 h) {b : Nat} {k : Blk} (hk : h0[b]? = some k) : h[b]? = some k := by
 obtain ⟨l, rfl⟩ := g
 rw [List.getElem?_append_left (List.getElem?_eq_some_iff.1 hk).1]; exact hk
theorem push_at {h : Heap} {b : Nat} {k x : Blk} (hk : h[b]? = some k) : (h ++ [x])[b]? = some k := Grows.at ⟨[x], rfl⟩ hk
theorem at_lt {h : Heap} {b : Nat} {k : Blk} (hk : h[b]? = some k) : b < h.length := (List.getElem?_eq_some_iff.1 hk).1
theorem put_at {h : Heap} {b c : Nat} {k x : Blk} (hk : h[c]? = some k) (hne : c ≠ b) : (h.set b x)[c]? = some k := by
 rw [List.getElem?_set_ne (fun e => hne e.symm)]; exact hk
theorem cellsAt_of {h : Heap} {b o n : Nat} {k : Blk} (hk : h[b]? = some k) (hn : o + n ≤ k.cells.length) : cellsAt h b o n = some ((k.cells.drop o).take n) := by
 simp [cellsAt, hk, hn]
theorem cellsAt_all {h : Heap} {b n : Nat} {cs : List Value} {rw : Bool} (hk : h[b]? = some ⟨cs, rw⟩) (hn : n = cs.length) : cellsAt h b 0 n = some cs := by
 subst hn; rw [cellsAt_of hk (by simp)]; simp
theorem cell_of {h : Heap} {b i : Nat} {k : Blk} {v : Value} (hk : h[b]? = some k) (hv : k.cells[i]? = some v) : cell h b i = some v := by
 simp [cell, hk, hv]
/-- A slice whose cells are these: an empty one without memory, or a block of the call's own (from h0's end on). -/
def Buf (h0 h : Heap) (v : Value) (z : Nat) (cs : List Value) : Prop := (cs = [] ∧ v = sl 0 0 0 z) ∨ ∃ b n, v = sl b 0 n z ∧ n * z = cs.length ∧ h0.length ≤ b ∧ h[b]? = some ⟨cs, true⟩
theorem Buf.nil {h0 h : Heap} {z : Nat} : Buf h0 h (sl 0 0 0 z) z [] := .inl ⟨rfl, rfl⟩
theorem Buf.grow {h0 h h' : Heap} {v : Value} {z : Nat} {cs : List Value} (x : Buf h0 h v z cs) (g : Grows h h') : Buf h0 h' v z cs := by
 rcases x with x | ⟨b, n, h1, h2, h3, h4⟩
 ·exact .inl x
 ·exact .inr ⟨b, n, h1, h2, h3, g.at h4⟩
/-- APPENDING TO IT. -/
theorem append_buf {h0 h : Heap} {v x : Value} {z : Nat} {cs new : List Value} {k : Value → Heap → Prop} (hp : 0 < h0.length) (g : Grows h0 h) (hv : Buf h0 h v z cs) (hn : newCells z h x = some new) (hz : 0 < z) (hne : new ≠ []) (hm : new.length / z * z = new.length)
  (hmax : cs.length + new.length ≤ maxSize) (hk : ∀ v' h', Grows h0 h' → Buf h0 h' v' z (cs ++ new) → (∀ c kk, h[c]? = some kk → (∀ n, v ≠ sl c 0 n z) → h'[c]? = some kk) → k v' h') : bindW (aAppend z h x v) k := by
 rcases hv with ⟨rfl, rfl⟩ | ⟨b, n, rfl, h2, h3, h4⟩
 ·have e : aAppend z h x (sl 0 0 0 z) = some (sl h.length 0 (new.length / z) z, h ++ [⟨new, true⟩]) := by
   simp only [aAppend, hn]
   rw [if_neg (by omega), if_neg hne, if_neg (by simp at hmax; omega), if_pos trivial]
  rw [e]
  refine hk _ _ (g.push _) (.inr ⟨h.length, _, rfl, hm, g.le, by simp⟩) fun c kk hc _ => push_at hc
 ·have hnz : n ≤ cs.length := by rw [← h2]; exact Nat.le_mul_of_pos_right n hz
  have e : aAppend z h x (sl b 0 n z) = some (sl h.length 0 (n + new.length / z) z, h.set b ⟨[], false⟩ ++ [⟨cs ++ new, true⟩]) := by
   simp only [aAppend, hn]
   rw [if_neg (by omega), if_neg hne, if_neg (by omega), if_neg (by omega)]
   simp only [h4]
   rw [if_pos ⟨trivial, trivial⟩, cellsAt_all h4 h2]
  rw [e]
  have hb := at_lt h4
  refine hk _ _ ((g.put h3 _).push _) (.inr ⟨h.length, _, rfl, by rw [Nat.add_mul, hm, h2]; simp, g.le, by simp⟩) fun c kk hc hne' => ?_
  exact push_at (put_at hc fun e => hne' n (by rw [e]))
theorem cell_in {h : Heap} {b o n i : Nat} {cs : List Value} (hc : cellsAt h b o n = some cs) (hi : i < n) : cell h b (o + i) = cs[i]? ∧ cs.length = n := by
 unfold cellsAt at hc
 unfold cell
 split at hc
 ·rename_i k hk
  split at hc
  ·injection hc with hc; subst hc
   rw [List.getElem?_take_of_lt hi, List.getElem?_drop]
   exact ⟨rfl, by simp; omega⟩
  ·simp at hc
 ·simp at hc
theorem cellsAt_in {h : Heap} {b o n i m : Nat} {cs : List Value} (hc : cellsAt h b o n = some cs) (hi : i + m ≤ n) : cellsAt h b (o + i) m = some ((cs.drop i).take m) := by
 unfold cellsAt at hc ⊢
 split at hc
 ·rename_i k hk
  split at hc
  ·rename_i hl
   injection hc with hc; subst hc
   rw [if_pos (by omega), List.drop_take, List.drop_drop, List.take_take]
   congr 2
   omega
  ·simp at hc
 ·simp at hc
theorem Grows.cellsAt {h h' : Heap} (g : Grows h h') {b o n : Nat} {cs : List Value} (hc : Am.cellsAt h b o n = some cs) : Am.cellsAt h' b o n = some cs := by
 unfold Am.cellsAt at hc ⊢
 split at hc
 ·rename_i k hk
  rw [g.at hk]; exact hc
 ·simp at hc
def inR (a lo hi : Int) : Bool := decide (lo ≤ a) && decide (a ≤ hi)
theorem inR_iff {a lo hi : Int} : inR a lo hi = true ↔ lo ≤ a ∧ a ≤ hi := by simp [inR]
theorem c164 (a lo hi : Int) (h : Heap) : ACall Gam 164 [I a, I lo, I hi] h fun v h' => v = B (inR a lo hi) ∧ h' = h := by
 refine ACall_intro g164 rfl ?_
 unfold fn164
 simp (disch := omega)
 refine fork_dec (fun h1 => ?_) (fun h1 => ?_)
 ·simp [h1, inR]
 ·simp [h1, inR]
theorem c432 (a lo hi : Int) (h : Heap) : ACall Gam 432 [I a, I lo, I hi] h fun v h' => v = B (inR a lo hi) ∧ h' = h := by
 refine ACall_intro g432 rfl ?_
 unfold fn432
 simp (disch := omega)
 refine fork_dec (fun h1 => ?_) (fun h1 => ?_)
 ·simp [h1, inR]
 ·simp [h1, inR]
theorem c457 (a : Int) (h : Heap) : ACall Gam 457 [I a] h fun v h' => v = B (inR a 1 8) ∧ h' = h := by
 refine ACall_intro g457 rfl ?_
 unfold fn457
 simp (disch := omega)
 refine callW_of (c432 a 1 8 h) ?_
 rintro v h' ⟨rfl, rfl⟩
 simp
def okSz (a b : Int) : Bool := inR a 1 8 && inR b 1 8
theorem okSz_iff {a b : Int} : okSz a b = true ↔ (1 ≤ a ∧ a ≤ 8) ∧ 1 ≤ b ∧ b ≤ 8 := by simp [okSz, inR_iff]
theorem c198 (a b : Int) (h : Heap) : ACall Gam 198 [I a, I b] h fun v h' => v = B (okSz a b) ∧ h' = h := by
 refine ACall_intro g198 rfl ?_
 unfold fn198
 simp (disch := omega)
 refine callW_of (c164 a 1 8 h) ?_
 rintro v h' ⟨rfl, rfl⟩
 cases hb : inR a 1 8
 ·simp [okSz, hb]
 ·simp
  refine callW_of (c164 b 1 8 h') ?_
  rintro v h' ⟨rfl, rfl⟩
  simp [okSz, hb]
def inner (a b : Int) : Int := a * (b - 1) + b * (a - 1)
theorem inner_bd {a b : Int} (ha : 1 ≤ a ∧ a ≤ 8) (hb : 1 ≤ b ∧ b ≤ 8) : 0 ≤ inner a b ∧ inner a b ≤ 112 ∧ 0 ≤ a * (b - 1) ∧ a * (b - 1) ≤ 56 ∧ 0 ≤ b * (a - 1) ∧ b * (a - 1) ≤ 56 := by
 unfold inner
 have h1 : 0 ≤ a * (b - 1) := Int.mul_nonneg (by omega) (by omega)
 have h2 : 0 ≤ b * (a - 1) := Int.mul_nonneg (by omega) (by omega)
 have h3 : a * (b - 1) ≤ 8 * 7 := Int.mul_le_mul (by omega) (by omega) (by omega) (by omega)
 have h4 : b * (a - 1) ≤ 8 * 7 := Int.mul_le_mul (by omega) (by omega) (by omega) (by omega)
 omega
theorem c166 (a b : Int) (ha : 1 ≤ a ∧ a ≤ 8) (hb : 1 ≤ b ∧ b ≤ 8) (h : Heap) : ACall Gam 166 [I a, I b] h fun v h' => v = I (inner a b) ∧ h' = h := by
 refine ACall_intro g166 rfl ?_
 unfold fn166
 have := inner_bd ha hb
 simp (disch := omega) [wrap64]
 simp [inner]
theorem c448 (a b : Int) (ha : 1 ≤ a ∧ a ≤ 8) (hb : 1 ≤ b ∧ b ≤ 8) (h : Heap) : ACall Gam 448 [I a, I b] h fun v h' => v = I (inner a b) ∧ h' = h := by
 refine ACall_intro g448 rfl ?_
 unfold fn448
 have := inner_bd ha hb
 simp (disch := omega) [wrap64]
 simp [inner]
def digs : Nat → Nat → List UInt8 → List UInt8
 | 0, _, acc => acc
 | f + 1, r, acc => if r = 0 then acc else digs f (r / 10) (UInt8.ofNat (48 + r % 10) :: acc)
def markOf (m : Nat) : List UInt8 := if m = 0 then [109, 48] else 109 :: digs m m []
def texts (l : List (List UInt8)) : List Value := l.map S
def marks (m n : Nat) : List (List UInt8) := (List.range n).map fun i => markOf (m + i)
def All3 {α β γ : Type} (R : α → β → γ → Prop) : List α → List β → List γ → Prop
 | [], [], [] => True
 | a :: x, b :: y, c :: z => R a b c ∧ All3 R x y z
 | _, _, _ => False
theorem All3.mono {α β γ : Type} {R S : α → β → γ → Prop} : ∀ {x : List α} {y : List β} {z : List γ}, (∀ a b c, c ∈ z → R a b c → S a b c) → All3 R x y z → All3 S x y z
 | [], [], [], _, _ => trivial
 | a :: x, b :: y, c :: z, h, r => ⟨h a b c (by simp) r.1, All3.mono (fun a b c hc => h a b c (by simp [hc])) r.2⟩
 | [], _ :: _, _, _, r => r.elim
 | [], [], _ :: _, _, r => r.elim
 | _ :: _, [], _, _, r => r.elim
 | _ :: _, _ :: _, [], _, r => r.elim
/-- These cells read so; the memory behind them is our own: these blocks. -/
def Ow (h : Heap) : (D : Shp) → List Value → D.T → List Nat → Prop
 | .int k, cs, (x : Int), bs => cs = [.int k x] ∧ (Lit.int k x).wf = true ∧ bs = []
 | .str, cs, (x : List UInt8), bs => cs = [S x] ∧ x.length ≤ maxLen ∧ bs = []
 | .bool, cs, (x : Bool), bs => cs = [.bool x] ∧ bs = []
 | .pair a b, cs, (x : a.T × b.T), bs => ∃ c1 c2 b1 b2, cs = c1 ++ c2 ∧ bs = b1 ++ b2 ∧ Ow h a c1 x.1 b1 ∧ Ow h b c2 x.2 b2
 | .slice a, cs, (x : List a.T), bs => ∃ b z css bss, cs = [sl b 0 x.length z] ∧ (z = a.n ∨ b = 0 ∧ x = []) ∧ x.length ≤ maxLen ∧ All3 (fun c y s => Ow h a c y s) css x bss ∧ (x = [] ∧ bs = [] ∨ x ≠ [] ∧ bs = b :: bss.flatten ∧ h[b]? = some ⟨css.flatten, true⟩)
theorem Ow.frame {h h' : Heap} : ∀ {D : Shp} {cs : List Value} {x : D.T} {bs : List Nat}, (∀ b ∈ bs, h'[b]? = h[b]?) → Ow h D cs x bs → Ow h' D cs x bs
 | .int _, cs, x, bs, _, r => r
 | .str, cs, x, bs, _, r => r
 | .bool, cs, x, bs, _, r => r
 | .pair a b, cs, x, bs, hs, ⟨c1, c2, b1, b2, e, e', h1, h2⟩ => ⟨c1, c2, b1, b2, e, e', Ow.frame (fun b hb => hs b (by simp [e', hb])) h1, Ow.frame (fun b hb => hs b (by simp [e', hb])) h2⟩
 | .slice a, cs, x, bs, hs, ⟨b, z, css, bss, e, hz, hm, h1, .inl ⟨h2, h3⟩⟩ => ⟨b, z, css, bss, e, hz, hm, by
   have h2' : x = ([] : List a.T) := h2
   subst h2'
   cases css <;> cases bss <;> first | trivial | exact h1.elim, .inl ⟨h2, h3⟩⟩
 | .slice a, cs, x, bs, hs, ⟨b, z, css, bss, e, hz, hm, h1, .inr ⟨h2, h3, h4⟩⟩ => ⟨b, z, css, bss, e, hz, hm, All3.mono (fun c y s hsm r => Ow.frame (fun b hb => hs b (by rw [h3]; simp; exact .inr ⟨s, hsm, hb⟩)) r) h1, .inr ⟨h2, h3, by rw [hs b (by simp [h3])]; exact h4⟩⟩
theorem Ow.len {h : Heap} : ∀ {D : Shp} {cs : List Value} {x : D.T} {bs : List Nat}, Ow h D cs x bs → cs.length = D.n
 | .int _, cs, x, bs, ⟨e, _⟩ => by rw [e]; rfl
 | .str, cs, x, bs, ⟨e, _⟩ => by rw [e]; rfl
 | .bool, cs, x, bs, ⟨e, _⟩ => by rw [e]; rfl
 | .pair a b, cs, x, bs, ⟨c1, c2, b1, b2, e, _, h1, h2⟩ => by rw [e, List.length_append, h1.len, h2.len]; rfl
 | .slice a, cs, x, bs, ⟨b, z, css, bss, e, _⟩ => by rw [e]; rfl
theorem All3.two {h : Heap} {a : Shp} {R : List Value → a.T → Prop} : ∀ {css : List (List Value)} {x : List a.T} {bss : List (List Nat)}, All3 (fun c y s => Ow h a c y s) css x bss → (∀ c y s, Ow h a c y s → R c y) → All2 R css x
 | [], [], [], _, _ => trivial
 | c :: css, y :: x, s :: bss, r, f => ⟨f c y s r.1, All3.two r.2 f⟩
 | [], _ :: _, _, r, _ => r.elim
 | [], [], _ :: _, r, _ => r.elim
 | _ :: _, [], _, r, _ => r.elim
 | _ :: _, _ :: _, [], r, _ => r.elim
theorem Ow.rd {h : Heap} : ∀ {D : Shp} {cs : List Value} {x : D.T} {bs : List Nat}, Ow h D cs x bs → Rd h D cs x
 | .int _, cs, x, bs, ⟨e, w, _⟩ => ⟨e, w⟩
 | .str, cs, x, bs, ⟨e, w, _⟩ => ⟨e, w⟩
 | .bool, cs, x, bs, ⟨e, _⟩ => e
 | .pair a b, cs, x, bs, ⟨c1, c2, b1, b2, e, _, h1, h2⟩ => ⟨c1, c2, e, h1.rd, h2.rd⟩
 | .slice a, cs, x, bs, ⟨b, z, css, bss, e, hz, hm, h1, h2⟩ => by
  have h1' : All2 (fun c y => Rd h a c y) css x := All3.two h1 fun c y s r => Ow.rd r
  refine ⟨b, 0, z, css, e, hz, hm, h1', ?_⟩
  rcases h2 with ⟨h2, _⟩ | ⟨_, _, h4⟩
  ·exact .inl h2
  ·exact .inr (cellsAt_all h4 (All2.len_flatten h1').symm)
theorem Ow.lt {h : Heap} : ∀ {D : Shp} {cs : List Value} {x : D.T} {bs : List Nat}, Ow h D cs x bs → ∀ b ∈ bs, b < h.length
 | .int _, cs, x, bs, ⟨_, _, e⟩ => by rw [e]; simp
 | .str, cs, x, bs, ⟨_, _, e⟩ => by rw [e]; simp
 | .bool, cs, x, bs, ⟨_, e⟩ => by rw [e]; simp
 | .pair a b, cs, x, bs, ⟨c1, c2, b1, b2, _, e, h1, h2⟩ => by
  intro b hb
  rw [e] at hb
  rcases List.mem_append.1 hb with hb | hb
  ·exact h1.lt b hb
  ·exact h2.lt b hb
 | .slice a, cs, x, bs, ⟨b, z, css, bss, e, hz, hm, h1, .inl ⟨_, h2⟩⟩ => by rw [h2]; simp
 | .slice a, cs, x, bs, ⟨b, z, css, bss, e, hz, hm, h1, .inr ⟨_, h2, h3⟩⟩ => by
  intro b' hb
  rw [h2] at hb
  rcases List.mem_cons.1 hb with rfl | hb
  ·exact at_lt h3
  ·obtain ⟨s, hs, hb⟩ := List.mem_flatten.1 hb
   exact aux h1 s hs b' hb
where
 aux {h : Heap} {a : Shp} : ∀ {css : List (List Value)} {x : List a.T} {bss : List (List Nat)}, All3 (fun c y s => Ow h a c y s) css x bss → ∀ s ∈ bss, ∀ b ∈ s, b < h.length
 | [], [], [], _ => by simp
 | c :: css, y :: x, s :: bss, r => by
  intro s' hs' b hb
  rcases List.mem_cons.1 hs' with rfl | hs'
  ·exact Ow.lt r.1 b hb
  ·exact aux r.2 s' hs' b hb
 | [], _ :: _, _, r => r.elim
 | [], [], _ :: _, r => r.elim
 | _ :: _, [], _, r => r.elim
 | _ :: _, _ :: _, [], r => r.elim
/-- The value reads so. -/
def Vr (h : Heap) (D : Shp) (v : Value) (X : D.T) : Prop := ∃ cs, Rd h D cs X ∧ v = asVal D cs
/-- The value reads so, and its memory is our own, apart, among the blocks from lo on, before hi. -/
def Vo (h : Heap) (lo hi : Nat) (D : Shp) (v : Value) (X : D.T) : Prop := ∃ cs bs, Ow h D cs X bs ∧ v = asVal D cs ∧ bs.Nodup ∧ ∀ b ∈ bs, lo ≤ b ∧ b < hi
/-- Only blocks from lo on, before hi, have turned. -/
def Mod (lo hi : Nat) (h h' : Heap) : Prop := h.length ≤ h'.length ∧ ∀ b, b < h.length → b < lo ∨ hi ≤ b → h'[b]? = h[b]?
theorem grows_of {h h' : Heap} (hl : h.length ≤ h'.length) (hs : ∀ b, b < h.length → h'[b]? = h[b]?) : Grows h h' := by
 refine ⟨h'.drop h.length, ?_⟩
 apply List.ext_getElem?
 intro i
 by_cases hi : i < h.length
 ·rw [hs i hi, List.getElem?_append_left hi]
 ·rw [List.getElem?_append_right (by omega), List.getElem?_drop]; congr 1; omega
theorem Grows.look {h h' : Heap} (g : Grows h h') {b : Nat} (hb : b < h.length) : h'[b]? = h[b]? := by
 obtain ⟨l, rfl⟩ := g; exact List.getElem?_append_left hb
theorem Mod.trans {lo hi : Nat} {a b c : Heap} (x : Mod lo hi a b) (y : Mod lo hi b c) : Mod lo hi a c :=
 ⟨Nat.le_trans x.1 y.1, fun k hk hn => by rw [y.2 k (Nat.lt_of_lt_of_le hk x.1) hn, x.2 k hk hn]⟩
theorem Mod.grows {lo hi : Nat} {h0 h h' : Heap} (x : Mod lo hi h h') (g : Grows h0 h) (hl : h0.length ≤ lo) : Grows h0 h' :=
 grows_of (Nat.le_trans g.le x.1) fun b hb => by rw [x.2 b (Nat.lt_of_lt_of_le hb g.le) (.inl (by omega)), g.look hb]
theorem Vr.grow {h h' : Heap} {D : Shp} {v : Value} {X : D.T} (x : Vr h D v X) (g : Grows h h') : Vr h' D v X := by
 obtain ⟨cs, r, e⟩ := x; exact ⟨cs, r.grow g, e⟩
theorem Vo.vr {h : Heap} {lo hi : Nat} {D : Shp} {v : Value} {X : D.T} (x : Vo h lo hi D v X) : Vr h D v X := by
 obtain ⟨cs, bs, r, e, _⟩ := x; exact ⟨cs, r.rd, e⟩
theorem Vo.mod {h h' : Heap} {lo hi lo' hi' : Nat} {D : Shp} {v : Value} {X : D.T} (x : Vo h lo hi D v X) (m : Mod lo' hi' h h') (hd : hi ≤ lo' ∨ hi' ≤ lo) : Vo h' lo hi D v X := by
 obtain ⟨cs, bs, r, e, n, hb⟩ := x
 exact ⟨cs, bs, r.frame fun b hb' => m.2 b (r.lt b hb') (by have := hb b hb'; omega), e, n, hb⟩
theorem Vo.grow {h h' : Heap} {lo hi : Nat} {D : Shp} {v : Value} {X : D.T} (x : Vo h lo hi D v X) (g : Grows h h') : Vo h' lo hi D v X := by
 obtain ⟨cs, bs, r, e, n, hb⟩ := x
 exact ⟨cs, bs, r.frame fun b hb' => g.look (r.lt b hb'), e, n, hb⟩
theorem Vo.wide {h : Heap} {lo hi lo' hi' : Nat} {D : Shp} {v : Value} {X : D.T} (x : Vo h lo hi D v X) (h1 : lo' ≤ lo) (h2 : hi ≤ hi') : Vo h lo' hi' D v X := by
 obtain ⟨cs, bs, r, e, n, hb⟩ := x
 exact ⟨cs, bs, r, e, n, fun b hb' => by have := hb b hb'; omega⟩
def cnt : (D : Shp) → D.T → Nat
 | .int _, _ | .str, _ | .bool, _ => 1
 | .pair a b, (x : a.T × b.T) => cnt a x.1 + cnt b x.2
 | .slice a, (x : List a.T) => (x.map fun y => cnt a y).sum
def mkd : (D : Shp) → D.T → Nat → D.T
 | .int _, _, k => (k : Int)
 | .str, _, k => markOf k
 | .bool, x, _ => x
 | .pair a b, (x : a.T × b.T), k => (mkd a x.1 k, mkd b x.2 (k + cnt a x.1))
 | .slice a, (x : List a.T), k => mkL (fun y k => mkd a y k) (fun y => cnt a y) x k
where mkL {α : Type} (f : α → Nat → α) (c : α → Nat) : List α → Nat → List α
 | [], _ => []
 | y :: l, k => f y k :: mkL f c l (k + c y)
/-- What of a value lies in memory. -/
def cvd : (D : Shp) → D.T → Nat
 | .int _, _ | .str, _ | .bool, _ => 0
 | .pair a b, (x : a.T × b.T) => cvd a x.1 + cvd b x.2
 | .slice a, (x : List a.T) => cnt (.slice a) x
def mvd : (D : Shp) → D.T → Nat → D.T
 | .int _, x, k => x
 | .str, x, k => x
 | .bool, x, _ => x
 | .pair a b, (x : a.T × b.T), k => (mvd a x.1 k, mvd b x.2 (k + cvd a x.1))
 | .slice a, (x : List a.T), k => mkd (.slice a) x k
abbrev shInt : Shp := .int .i64
abbrev shInts : Shp := .slice shInt
abbrev shTrip : Shp := .pair shInt (.pair shInt shInt)
abbrev shTrips : Shp := .slice shTrip
abbrev shPanel : Shp := .pair shInt (.pair shInt shInts)
abbrev shJournal : Shp := .pair shPanel (.pair shTrips shTrips)
theorem All2.mem {α β : Type} {R : α → β → Prop} : ∀ {x : List α} {y : List β}, All2 R x y → ∀ a ∈ x, ∃ b ∈ y, R a b
 | [], [], _, a, ha => by simp at ha
 | p :: x, q :: y, h, a, ha => by
  rcases List.mem_cons.1 ha with rfl | ha
  ·exact ⟨q, by simp, h.1⟩
  ·obtain ⟨b, hb, r⟩ := All2.mem h.2 a ha
   exact ⟨b, by simp [hb], r⟩
theorem flat_part {α : Type} {z : Nat} : ∀ {css : List (List α)} (_ : ∀ c ∈ css, c.length = z) {i : Nat} {c : List α}, css[i]? = some c → (css.flatten.drop (i * z)).take z = c
 | [], _, i, c, h => by simp at h
 | d :: css, hz, 0, c, h => by
  have hd := hz d (by simp)
  simp at h; subst h
  simp only [List.flatten_cons, Nat.zero_mul, List.drop_zero]
  rw [← hd, List.take_left']
  rfl
 | d :: css, hz, i + 1, c, h => by
  have hd := hz d (by simp)
  simp only [List.flatten_cons]
  rw [List.drop_append, List.drop_eq_nil_of_le (by rw [hd, Nat.add_mul]; omega), List.nil_append, hd, Nat.add_mul, Nat.one_mul, Nat.add_sub_cancel]
  exact flat_part (fun c hc => hz c (by simp [hc])) (by simpa using h)
theorem Vr.slice {h : Heap} {a : Shp} {v : Value} {X : List a.T} (x : Vr h (.slice a) v X) : ∃ b o z, v = sl b o X.length z ∧ (z = a.n ∨ b = 0 ∧ X = []) ∧ X.length ≤ maxLen ∧ ∀ i (hi : i < X.length), ∃ c, cellsAt h b (o + i * a.n) a.n = some c ∧ Rd h a c X[i] := by
 obtain ⟨cs, ⟨b, o, z, css, rfl, hz0, hm, h1, h2⟩, rfl⟩ := x
 refine ⟨b, o, z, rfl, hz0, hm, fun i hi => ?_⟩
 have hne : X ≠ [] := by intro e; subst e; simp at hi
 have h2 := h2.resolve_left hne
 have hz : ∀ c ∈ css, c.length = a.n := fun c hc => by obtain ⟨y, _, r⟩ := All2.mem h1 c hc; exact r.len
 obtain ⟨c, hc, r⟩ := h1.get' i X[i] (by simp [hi])
 refine ⟨c, ?_, r⟩
 have := cellsAt_in (i := i * a.n) (m := a.n) h2 (by rw [← Nat.succ_mul]; exact Nat.mul_le_mul_right _ hi)
 rw [flat_part hz hc] at this
 exact this
/-- How many elements and letters. -/
def siz : (D : Shp) → D.T → Nat
 | .int _, _ | .bool, _ => 0
 | .str, (x : List UInt8) => x.length
 | .pair a b, (x : a.T × b.T) => siz a x.1 + siz b x.2
 | .slice a, (x : List a.T) => x.length + (x.map fun y => siz a y).sum
theorem siz_mem {a : Shp} : ∀ {X : List a.T} {y : a.T}, y ∈ X → siz a y ≤ (X.map fun y => siz a y).sum
 | x :: X, y, h => by
  rcases List.mem_cons.1 h with rfl | h
  ·simp
  ·have := siz_mem h; simp; omega
/-- It makes a value anew, in memory of its own. -/
def ToOk (f : Nat) (D : Shp) : Prop := ∀ h v X, 0 < h.length → Vr h D v X → siz D X ≤ 1048576 → ACall Gam f [v] h fun v' h' => Grows h h' ∧ Vo h' h.length h'.length D v' X
/-- It finds equal what reads alike. -/
def EqTrue (f : Nat) (D : Shp) : Prop := ∀ h v w X, Vr h D v X → Vr h D w X → ACall Gam f [v, w] h fun r h' => r = .bool true ∧ h' = h
theorem reps_succ {m : Nat} {z : List Value} : reps (m + 1) z = z ++ reps m z := by simp [reps, List.replicate_succ]
theorem splice_end {A B xs : List Value} {n : Nat} (hn : n = A.length) : splice (A ++ B) n xs = A ++ xs ++ B.drop xs.length := by
 subst hn
 unfold splice
 rw [List.take_left' rfl]
 congr 1
 rw [List.drop_append]
 simp [List.drop_eq_nil_of_le]
theorem All3.snoc {α β γ : Type} {R : α → β → γ → Prop} : ∀ {x : List α} {y : List β} {z : List γ} {a : α} {b : β} {c : γ}, All3 R x y z → R a b c → All3 R (x ++ [a]) (y ++ [b]) (z ++ [c])
 | [], [], [], _, _, _, _, r => ⟨r, trivial⟩
 | _ :: _, _ :: _, _ :: _, _, _, _, h, r => ⟨h.1, All3.snoc h.2 r⟩
 | [], _ :: _, _, _, _, _, h, _ => h.elim
 | [], [], _ :: _, _, _, _, h, _ => h.elim
 | _ :: _, [], _, _, _, _, h, _ => h.elim
 | _ :: _, _ :: _, [], _, _, _, h, _ => h.elim
theorem All3.flat_len {h : Heap} {a : Shp} {css : List (List Value)} {x : List a.T} {bss : List (List Nat)} (r : All3 (fun c y s => Ow h a c y s) css x bss) : css.flatten.length = x.length * a.n :=
 All2.len_flatten (h := h) (All3.two r fun c y s r => Ow.rd r)
def toSF (z ix : Nat) (zero : Array Value) (f : Nat) : AFun := ⟨1,
(.seq (reg [op 2 (.move (.const (sl 0 0 0 0)))])
(.seq (reg [op 5 (.move (.tmp 0)) 1,
 op 6 (bi .len #[(.global 5)] 1) 1,
 op 7 (.mapUpdate z (.global 6) (.global 6) (.const (.agg zero))) 1,
 op 3 (.move (.global 7))])
(.seq (.seq (reg [op 4 (.move (.const (I 0)))])
(.block 0
 (.loop
  (.seq (.seq (reg [op 8 (.move (.tmp 4)) 1,
   op 9 (.move (.tmp 0)) 1,
   op 10 (bi .len #[(.global 9)] 1) 1,
   op 11 (.binOp .lss 0 (.global 8) (.global 10) 0)])
  (.cond (.tmp 11)
   .skip
   (.exit 0)))
  (.seq (.block 1
   (reg [op 14 (.move (.tmp 3)) 1,
    op 15 (.move (.tmp 4)) 1,
    op 16 (.move (.tmp 0)) 1,
    op 17 (.move (.tmp 4)) 1,
    op 18 (.indexAddr ix (.global 16) (.global 17)) 1,
    op 19 (.load (z + 1) (.global 18)) 1,
    op 20 (call (.func f) #[(.global 19)]) 1,
    op 21 (.indexAddr ix (.global 14) (.global 15)) 1,
    opn (.store z (.global 21) (.global 20))]))
  (reg [op 12 (.move (.tmp 4)) 1,
   op 13 (.binOp .add 0 (.global 12) (.const (I 1)) 0) 1,
   op 4 (.move (.global 13))]))))))
(.seq (reg [op 22 (.move (.tmp 3)) 1,
 op 2 (.move (.global 22))])
.ret)))), [(2, 0)]⟩
def ToInv (h h' : Heap) (D : Shp) (X : List D.T) (zero : List Value) (k : Nat) : Prop := ∃ css bss, All3 (fun c y s => Ow h' D c y s) css (X.take k) bss ∧ bss.flatten.Nodup ∧ (∀ b ∈ bss.flatten, h.length < b) ∧
   h'[h.length]? = some ⟨css.flatten ++ reps (X.length - k) zero, true⟩
theorem toS_ok {z ix f g : Nat} {zero : Array Value} {a b : Shp} (hg : Gam g = some (toSF z ix zero f)) (hz : (Shp.pair a b).n = z) (hix : ix < 1000000 ∧ ix / 2 = z) (hzero : zero.size = z) (he : ToOk f (.pair a b)) : ToOk g (.slice (.pair a b)) := by
 intro h v (X : List (Shp.pair a b).T) hp hv hs
 obtain ⟨bb, o, zz, rfl, _, hm, hel⟩ := hv.slice
 have hlen : (X.length : Nat) ≤ 1048576 := by
  have : siz (.slice (.pair a b)) X = X.length + (X.map fun y => siz (.pair a b) y).sum := rfl
  omega
 rw [hz] at hel
 have zpos : 0 < z := by rw [← hz]; exact Shp.pos _
 refine ACall_intro hg rfl ?_
 unfold toSF
 simp (disch := omega) [aMake, hzero, maxSize, hlen]
 rw [if_pos (by omega)]
 simp
 refine awp_loop (fun k σ h' => k ≤ X.length ∧ Grows h h' ∧ σ 0 = sl bb o X.length zz ∧ σ 3 = sl h.length 0 X.length z ∧ σ 4 = I k ∧ ToInv h h' (.pair a b) X zero.toList k) (fun k => X.length - k) 0 ?_ ?_
 ·refine ⟨by omega, ⟨_, rfl⟩, by simp, by simp, by simp, [], [], trivial, by simp, by simp, by simp⟩
 ·rintro k σ h' ⟨hk, hgr, h0, h3, h4, hinv⟩
  obtain ⟨css, bss, ha, hnd, hlo, hb0⟩ := hinv
  simp (disch := omega) [h0, h4]
  refine fork_dec (fun hlt => ?_) (fun hge => ?_)
  ·have hlt : k < X.length := by omega
   obtain ⟨c, hc, r⟩ := hel k hlt
   have hc' := grows_cellsAt hgr hc
   simp (disch := omega) [h0, h3, h4, hix.1, hix.2, hlt, hc']
   have hsk : siz (.pair a b) X[k] ≤ 1048576 := by
    have h1 := siz_mem (a := .pair a b) (List.getElem_mem hlt)
    have : siz (.slice (.pair a b)) X = X.length + (X.map fun y => siz (.pair a b) y).sum := rfl
    omega
   refine callW_of (he h' _ X[k] (by have := hgr.le; omega) ⟨c, r.grow hgr, rfl⟩ hsk) ?_
   rintro v' h2 ⟨g2, cs', bs', ow, rfl, nd', hb'⟩
   have hcl := ow.len
   rw [hz] at hcl
   have hfl := ha.flat_len
   rw [hz, List.length_take, Nat.min_eq_left hk] at hfl
   have hb2 : h2[h.length]? = some ⟨css.flatten ++ reps (X.length - k) zero.toList, true⟩ := by rw [g2.look (at_lt hb0)]; exact hb0
   have hsub : X.length - k = (X.length - (k + 1)) + 1 := by omega
   have hst : storeAt h2 h.length (k * z) cs' = some (h2.set h.length ⟨(css ++ [cs']).flatten ++ reps (X.length - (k + 1)) zero.toList, true⟩) := by
    unfold storeAt
    simp only [hb2]
    rw [if_pos ⟨trivial, by
     rw [List.length_append, hfl, hcl, hsub, reps_succ]; simp [hzero]⟩, splice_end hfl.symm]
    congr 3
    rw [hsub, reps_succ, List.drop_append]
    simp [hcl, hzero, List.drop_eq_nil_of_le]
   simp (disch := omega) [h0, h3, h4, hix.1, hix.2, hlt, asVal, hcl, hst, wrap64]
   have hl2 : h.length < h2.length := at_lt hb2
   have ow2 : Ow (h2.set h.length ⟨(css ++ [cs']).flatten ++ reps (X.length - (k + 1)) zero.toList, true⟩) (.pair a b) cs' X[k] bs' := ow.frame fun b hb => by
    have := (hb' b hb).1
    have := hgr.le
    have := at_lt hb0
    rw [List.getElem?_set_ne (by omega)]
   have ha2 : All3 (fun c y s => Ow (h2.set h.length ⟨(css ++ [cs']).flatten ++ reps (X.length - (k + 1)) zero.toList, true⟩) (.pair a b) c y s) css (X.take k) bss := ha.mono fun c y s hs' r => r.frame fun b hb => by
    have h1 := hlo b (List.mem_flatten.2 ⟨s, hs', hb⟩)
    rw [List.getElem?_set_ne (by omega), g2.look (r.lt b hb)]
   refine ⟨k + 1, ⟨by omega, (hgr.trans g2).put (Nat.le_refl _) _, by omega, css ++ [cs'], bss ++ [bs'], ?_, ?_, ?_, ?_⟩, by omega⟩
   ·rw [List.take_succ_eq_append_getElem hlt]
    have := All3.snoc ha2 ow2
    simpa using this
   ·rw [List.flatten_append, List.nodup_append]
    refine ⟨hnd, by simpa using nd', fun x hx y hy e => ?_⟩
    subst e
    have h1 := (hb' x (by simpa using hy)).1
    obtain ⟨s, hs', hb⟩ := List.mem_flatten.1 hx
    have : x < h'.length := by
     have h2 := ha
     exact Ow.lt.aux h2 s hs' x hb
    omega
   ·intro b hb
    rw [List.flatten_append, List.mem_append] at hb
    rcases hb with hb | hb
    ·exact hlo b hb
    ·have := (hb' b (by simpa using hb)).1
     have := at_lt hb0
     omega
   ·simp [hl2]
  ·have e : k = X.length := by omega
   subst e
   rw [List.take_length] at ha
   simp (disch := omega) [h0, h3, h4]
   simp [reps] at hb0
   refine ⟨hgr, [sl h.length 0 X.length z], if X = [] then [] else h.length :: bss.flatten, ⟨h.length, z, css, bss, rfl, .inl hz.symm, hm, ha, ?_⟩, rfl, ?_, ?_⟩
   ·by_cases hX : X = []
    ·exact .inl ⟨hX, by simp [hX]⟩
    ·exact .inr ⟨hX, by simp [hX], hb0⟩
   ·split
    ·simp
    ·refine List.nodup_cons.2 ⟨fun hm => ?_, hnd⟩
     have := hlo _ hm; omega
   ·intro b hb
    split at hb
    ·simp at hb
    ·rcases List.mem_cons.1 hb with rfl | hb
     ·exact ⟨Nat.le_refl _, at_lt hb0⟩
     ·obtain ⟨s, hs', hb'⟩ := List.mem_flatten.1 hb
      exact ⟨by have := hlo b hb; omega, Ow.lt.aux ha s hs' b hb'⟩
def eqSF (z ix : Nat) (f : Nat) : AFun := ⟨2,
(.seq (reg [op 4 (.move (.const (B false)))])
(.seq (.seq (reg [op 6 (.move (.tmp 0)) 1,
 op 7 (bi .len #[(.global 6)] 1) 1,
 op 8 (.move (.tmp 1)) 1,
 op 9 (bi .len #[(.global 8)] 1) 1,
 op 10 (.binOp .neq 0 (.global 7) (.global 9) 0)])
(.cond (.tmp 10)
 (.seq (reg [op 4 (.move (.const (B false)))])
 .ret)
 .skip))
(.seq (.seq (reg [op 5 (.move (.const (I 0)))])
(.block 0
 (.loop
  (.seq (.seq (reg [op 11 (.move (.tmp 5)) 1,
   op 12 (.move (.tmp 0)) 1,
   op 13 (bi .len #[(.global 12)] 1) 1,
   op 14 (.binOp .lss 0 (.global 11) (.global 13) 0)])
  (.cond (.tmp 14)
   .skip
   (.exit 0)))
  (.seq (.block 1
   (.seq (reg [op 17 (.move (.tmp 0)) 1,
    op 18 (.move (.tmp 5)) 1,
    op 19 (.indexAddr ix (.global 17) (.global 18)) 1,
    op 20 (.load (z + 1) (.global 19)) 1,
    op 21 (.move (.tmp 1)) 1,
    op 22 (.move (.tmp 5)) 1,
    op 23 (.indexAddr ix (.global 21) (.global 22)) 1,
    op 24 (.load (z + 1) (.global 23)) 1,
    op 25 (call (.func f) #[(.global 20), (.global 24)]) 1,
    op 26 (.unOp .not 0 (.global 25))])
   (.cond (.tmp 26)
    (.seq (reg [op 4 (.move (.const (B false)))])
    .ret)
    .skip)))
  (reg [op 15 (.move (.tmp 5)) 1,
   op 16 (.binOp .add 0 (.global 15) (.const (I 1)) 0) 1,
   op 5 (.move (.global 16))]))))))
(.seq (reg [op 4 (.move (.const (B true)))])
.ret)))), [(4, 0)]⟩
theorem maxLen_eq : maxLen = 9223372036854775807 := by decide
theorem eqS_ok {z ix f g : Nat} {a b : Shp} (hg : Gam g = some (eqSF z ix f)) (hz : (Shp.pair a b).n = z) (hix : ix < 1000000 ∧ ix / 2 = z) (he : EqTrue f (.pair a b)) : EqTrue g (.slice (.pair a b)) := by
 intro h v w (X : List (Shp.pair a b).T) hv hw
 obtain ⟨bb, o, zz, rfl, _, hm, hel⟩ := hv.slice
 obtain ⟨bb2, o2, zz2, rfl, _, _, hel2⟩ := hw.slice
 rw [hz] at hel hel2
 rw [maxLen_eq] at hm
 refine ACall_intro hg rfl ?_
 unfold eqSF
 simp (disch := omega)
 refine awp_loop (fun k σ h' => h' = h ∧ k ≤ X.length ∧ σ 0 = sl bb o X.length zz ∧ σ 1 = sl bb2 o2 X.length zz2 ∧ σ 5 = I k) (fun k => X.length - k) 0 ?_ ?_
 ·simp
 ·rintro k σ h' ⟨rfl, hk, h0, h1, h5⟩
  simp (disch := omega) [h0, h5]
  refine fork_dec (fun hlt => ?_) (fun hge => ?_)
  ·have hlt : k < X.length := by omega
   obtain ⟨c, hc, r⟩ := hel k hlt
   obtain ⟨c2, hc2, r2⟩ := hel2 k hlt
   simp (disch := omega) [h0, h1, h5, hix.1, hix.2, hlt, hc, hc2]
   refine callW_of (he h' _ _ X[k] ⟨c, r, rfl⟩ ⟨c2, r2, rfl⟩) ?_
   rintro v' h2 ⟨rfl, rfl⟩
   simp (disch := omega) [h0, h1, h5, wrap64]
   exact ⟨k + 1, ⟨by omega, by omega⟩, by omega⟩
  ·simp (disch := omega) [h0, h1, h5]
def ints (l : List Int) : List Value := l.map I
def I64 (n : Int) : Prop := -9223372036854775808 ≤ n ∧ n < 9223372036854775808
theorem wf_i64 {n : Int} : (Lit.int .i64 n).wf = true ↔ I64 n := by
 simp [Lit.wf, IntKind.min, IntKind.max, IntKind.signed, IntKind.bits, I64]
 omega
theorem rd_ints {h : Heap} : ∀ {css : List (List Value)} {X : List Int}, All2 (fun c y => Rd h shInt c y) css X → css.flatten = ints X ∧ ∀ x ∈ X, I64 x
 | [], [], _ => by simp [ints]
 | c :: css, x :: X, r => by
  obtain ⟨e, w⟩ := r.1
  obtain ⟨h1, h2⟩ := rd_ints r.2
  refine ⟨by simp [e, h1, ints], fun y hy => ?_⟩
  rcases List.mem_cons.1 hy with rfl | hy
  ·exact wf_i64.1 w
  ·exact h2 y hy
/-- A slice of numbers. -/
theorem Vr.ints {h : Heap} {v : Value} {X : List Int} (x : Vr h shInts v X) : ∃ b o z, v = sl b o X.length z ∧ (z = 1 ∨ b = 0 ∧ X = []) ∧ X.length ≤ maxLen ∧ (∀ x ∈ X, I64 x) ∧ (X = [] ∨ cellsAt h b o X.length = some (Am.ints X)) := by
 obtain ⟨cs, ⟨b, o, z, css, rfl, hz, hm, h1, h2⟩, rfl⟩ := x
 obtain ⟨e1, e2⟩ := rd_ints h1
 have h2' : X = [] ∨ cellsAt h b o (X.length * 1) = some css.flatten := h2
 rw [e1, Nat.mul_one] at h2'
 exact ⟨b, o, z, rfl, hz, hm, e2, h2'⟩
theorem ints_cell {h : Heap} {b o k : Nat} {X : List Int} (hr : X = [] ∨ cellsAt h b o X.length = some (ints X)) (hk : k < X.length) : cell h b (o + k) = some (I X[k]) := by
 rcases hr with h0 | hr
 ·subst h0; simp at hk
 ·rw [(cell_in (i := k) hr hk).1]; simp [ints, hk]
theorem all_ints (h : Heap) : ∀ (X : List Int), (∀ x ∈ X, I64 x) → All2 (fun c y => Rd h shInt c y) (X.map fun x => [I x]) X
 | [], _ => trivial
 | x :: X, hx => ⟨⟨rfl, wf_i64.2 (hx x (by simp))⟩, all_ints h X fun y hy => hx y (by simp [hy])⟩
theorem flat_ints : ∀ (X : List Int), (X.map fun x => [I x]).flatten = ints X
 | [] => rfl
 | x :: X => by simp [ints, List.flatten_cons]; have := flat_ints X; simp [ints] at this; exact this
theorem Vr.of_ints {h : Heap} {b o z : Nat} {X : List Int} (hz : z = 1 ∨ b = 0 ∧ X = []) (hm : X.length ≤ maxLen) (hx : ∀ x ∈ X, I64 x) (hc : X = [] ∨ cellsAt h b o X.length = some (Am.ints X)) : Vr h shInts (sl b o X.length z) X :=
 ⟨[sl b o X.length z], ⟨b, o, z, X.map fun x => [I x], rfl, hz, hm, all_ints h X hx, hc.imp id fun h => by rw [flat_ints]; show cellsAt _ _ _ (X.length * 1) = _; rw [Nat.mul_one]; exact h⟩, rfl⟩
theorem all3_ints (h : Heap) : ∀ (X : List Int), (∀ x ∈ X, I64 x) → All3 (fun c y s => Ow h shInt c y s) (X.map fun x => [I x]) X (X.map fun _ => [])
 | [], _ => trivial
 | x :: X, hx => ⟨⟨rfl, wf_i64.2 (hx x (by simp)), rfl⟩, all3_ints h X fun y hy => hx y (by simp [hy])⟩
theorem nils_flat {α β : Type} : ∀ (X : List α), (X.map fun _ => ([] : List β)).flatten = []
 | [] => rfl
 | x :: X => by simp [nils_flat X]
theorem Vo.of_ints {h : Heap} {b lo hi z : Nat} {X : List Int} (hz : z = 1 ∨ b = 0 ∧ X = []) (hm : X.length ≤ maxLen) (hx : ∀ x ∈ X, I64 x) (hc : X = [] ∨ h[b]? = some ⟨Am.ints X, true⟩ ∧ lo ≤ b ∧ b < hi) : Vo h lo hi shInts (sl b 0 X.length z) X := by
 refine ⟨[sl b 0 X.length z], if X = [] then [] else [b], ⟨b, z, X.map fun x => [I x], X.map fun _ => [], rfl, hz, hm, all3_ints h X hx, ?_⟩, rfl, ?_, ?_⟩
 ·by_cases h0 : X = []
  ·exact .inl ⟨h0, by simp [h0]⟩
  ·exact .inr ⟨h0, by rw [if_neg h0, nils_flat], by rw [flat_ints]; exact (hc.resolve_left h0).1⟩
 ·split <;> simp
 ·intro b' hb'
  by_cases h0 : X = []
  ·simp [h0] at hb'
  ·simp [h0] at hb'; subst hb'; exact (hc.resolve_left h0).2
theorem All3.ints {h : Heap} : ∀ {css : List (List Value)} {X : List Int} {bss : List (List Nat)}, All3 (fun c y s => Ow h shInt c y s) css X bss → css.flatten = ints X ∧ (∀ x ∈ X, I64 x) ∧ bss.flatten = []
 | [], [], [], _ => by simp [Am.ints]
 | c :: css, x :: X, s :: bss, r => by
  obtain ⟨e, w, es⟩ := r.1
  obtain ⟨h1, h2, h3⟩ := All3.ints r.2
  refine ⟨by simp [e, h1, Am.ints], fun y hy => ?_, by simp [es, h3]⟩
  rcases List.mem_cons.1 hy with rfl | hy
  ·exact wf_i64.1 w
  ·exact h2 y hy
 | [], _ :: _, _, r => r.elim
 | [], [], _ :: _, r => r.elim
 | _ :: _, [], _, r => r.elim
 | _ :: _, _ :: _, [], r => r.elim
theorem Vo.ints {h : Heap} {lo hi : Nat} {v : Value} {X : List Int} (x : Vo h lo hi shInts v X) : ∃ b z, v = sl b 0 X.length z ∧ (z = 1 ∨ b = 0 ∧ X = []) ∧ X.length ≤ maxLen ∧ (∀ x ∈ X, I64 x) ∧ (X = [] ∨ h[b]? = some ⟨Am.ints X, true⟩ ∧ lo ≤ b ∧ b < hi) := by
 obtain ⟨cs, bs, ⟨b, z, css, bss, rfl, hz, hm, h1, h2⟩, rfl, _, hb⟩ := x
 obtain ⟨e1, e2, e3⟩ := All3.ints h1
 refine ⟨b, z, rfl, hz, hm, e2, ?_⟩
 rcases h2 with ⟨h2, _⟩ | ⟨_, h3, h4⟩
 ·exact .inl h2
 ·rw [e3] at h3; rw [e1] at h4
  exact .inr ⟨h4, hb b (by simp [h3])⟩
def SzOk (f : Nat) (D : Shp) : Prop := ∀ h v X (left : Nat), Vr h D v X → left ≤ 1048576 → ACall Gam f [v, I left] h fun r h' => (r = if siz D X ≤ left then I ((left - siz D X : Nat) : Int) else I (-1)) ∧ h' = h
def MarkOk (f : Nat) (D : Shp) : Prop := ∀ h lo hi v X (k : Nat), Vo h lo hi D v X → k + cvd D X ≤ 1099511627776 → ACall Gam f [v, I k] h fun r h' => r = I ((k + cvd D X : Nat) : Int) ∧ Mod lo hi h h' ∧ Vo h' lo hi D v (mvd D X k)
def HeldOk (f : Nat) (D : Shp) : Prop := ∀ h v X (k : Nat), Vr h D v (mvd D X k) → k + cvd D X ≤ 1099511627776 → ACall Gam f [v, I k] h fun r h' => r = I ((k + cvd D X : Nat) : Int) ∧ Grows h h'
theorem sum_one {α : Type} : ∀ (X : List α), (X.map fun _ => 1).sum = X.length
 | [] => rfl
 | x :: X => by simp [sum_one X]; omega
theorem sum_zero {α : Type} : ∀ (X : List α), (X.map fun _ => 0).sum = 0
 | [] => rfl
 | x :: X => by simp [sum_zero X]
theorem ints_append (a b : List Int) : ints (a ++ b) = ints a ++ ints b := by simp [ints]
theorem ints_cons (a : Int) (b : List Int) : ints (a :: b) = I a :: ints b := rfl
theorem ints_nil : ints [] = [] := rfl
theorem siz_ints (X : List Int) : siz shInts X = X.length := by
 show X.length + (X.map fun _ => 0).sum = _
 rw [sum_zero]; rfl
theorem cvd_ints (X : List Int) : cvd shInts X = X.length := sum_one X
def nums (k n : Nat) : List Int := (List.range n).map fun i => ((k + i : Nat) : Int)
theorem nums_len (k n : Nat) : (nums k n).length = n := by simp [nums]
theorem nums_succ (k n : Nat) : nums k (n + 1) = nums k n ++ [((k + n : Nat) : Int)] := by simp [nums, List.range_succ]
theorem mvd_ints : ∀ (X : List Int) (k : Nat), mvd shInts X k = nums k X.length
 | [], k => rfl
 | x :: X, k => by
  refine (congrArg (List.cons ((k : Nat) : Int)) (mvd_ints X (k + 1))).trans ?_
  simp only [nums, List.length_cons, List.range_succ_eq_map, List.map_cons, List.map_map]
  congr 1
  apply List.map_congr_left
  intro i _
  simp; omega
theorem nums_i64 {k n : Nat} (h : k + n ≤ 1099511627776) : ∀ x ∈ nums k n, I64 x := by
 intro x hx
 obtain ⟨i, hi, rfl⟩ := List.mem_map.1 hx
 have := List.mem_range.1 hi
 unfold I64; omega
/-- One cell is written. -/
theorem store_one {h : Heap} {b o : Nat} {cs : List Value} {v : Value} (hk : h[b]? = some ⟨cs, true⟩) (ho : o < cs.length) : storeAt h b o [v] = some (h.set b ⟨cs.set o v, true⟩) := by
 unfold storeAt
 simp only [hk]
 rw [if_pos ⟨trivial, ho⟩]
 congr 3
 unfold splice
 rw [List.set_eq_take_append_cons_drop, if_pos ho]
 simp
theorem set_end {α : Type} {A B : List α} {x v : α} {n : Nat} (hn : n = A.length) : (A ++ x :: B).set n v = A ++ v :: B := by subst hn; simp
theorem Mod.put {lo hi b : Nat} {h h' : Heap} (m : Mod lo hi h h') (hb : lo ≤ b ∧ b < hi) (k : Blk) : Mod lo hi h (h'.set b k) :=
 ⟨by simpa using m.1, fun c hc hn => by rw [List.getElem?_set_ne (by omega)]; exact m.2 c hc hn⟩
theorem Mod.refl (lo hi : Nat) (h : Heap) : Mod lo hi h h := ⟨Nat.le_refl _, fun _ _ _ => rfl⟩
theorem c290 : SzOk 290 shInts := by
 intro h v (X : List Int) left hv hl
 obtain ⟨b, o, zz, rfl, hzz, hm, hx, hc⟩ := hv.ints
 rw [maxLen_eq] at hm
 refine ACall_intro g290 rfl ?_
 unfold fn290
 simp (disch := omega) [wrap64]
 rw [siz_ints]
 refine fork_dec (fun h1 => ?_) (fun h1 => ?_)
 ·rw [if_neg (by omega)]; simp
 ·rw [if_pos (by omega)]; simp; omega
theorem c297 : ToOk 297 shInts := by
 intro h v (X : List Int) hp hv hs
 obtain ⟨bb, o, zz, rfl, hzz, hm, hx, hc⟩ := hv.ints
 rw [siz_ints] at hs
 refine ACall_intro g297 rfl ?_
 unfold fn297
 simp (disch := omega) [aMake, maxSize]
 rw [if_pos (by omega)]
 simp
 refine awp_loop (fun k σ h' => k ≤ X.length ∧ Grows h h' ∧ σ 0 = sl bb o X.length zz ∧ σ 3 = sl h.length 0 X.length 1 ∧ σ 4 = I k ∧ h'[h.length]? = some ⟨ints (X.take k) ++ reps (X.length - k) [I 0], true⟩) (fun k => X.length - k) 0 ?_ ?_
 ·exact ⟨by omega, ⟨_, rfl⟩, by simp, by simp, by simp, by simp [ints]⟩
 ·rintro k σ h' ⟨hk, hgr, h0, h3, h4, hb0⟩
  simp (disch := omega) [h0, h4]
  refine fork_dec (fun hlt => ?_) (fun hge => ?_)
  ·have hlt : k < X.length := by omega
   have hcell := ints_cell (hc.imp id (grows_cellsAt hgr)) hlt
   have hsub : X.length - k = (X.length - (k + 1)) + 1 := by omega
   have hA : (ints (X.take k)).length = k := by simp [ints]; omega
   have hst := store_one (v := I X[k]) (o := k) hb0 (by rw [List.length_append, hA, hsub, reps_succ]; simp)
   rw [hsub, reps_succ, show [I 0] ++ reps (X.length - (k + 1)) [I 0] = I 0 :: reps (X.length - (k + 1)) [I 0] from rfl, set_end hA.symm] at hst
   simp (disch := omega) [h0, h3, h4, hlt, hcell, hst, wrap64]
   refine ⟨k + 1, ⟨by omega, hgr.put (Nat.le_refl _) _, by omega, ?_⟩, by omega⟩
   have e2 : ints (X.take (k + 1)) = ints (X.take k) ++ [I X[k]] := by rw [List.take_succ_eq_append_getElem hlt, ints_append]; rfl
   rw [e2]
   simp [at_lt hb0]
  ·have e : k = X.length := by omega
   subst e
   rw [List.take_length] at hb0
   simp [reps] at hb0
   simp (disch := omega) [h0, h3, h4]
   exact ⟨hgr, Vo.of_ints (.inl rfl) hm hx (.inr ⟨hb0, Nat.le_refl _, at_lt hb0⟩)⟩
theorem c259 : EqTrue 259 shInts := by
 intro h v w (X : List Int) hv hw
 obtain ⟨bb, o, zz, rfl, hzz, hm, hx, hc⟩ := hv.ints
 obtain ⟨bb2, o2, zz2, rfl, _, _, _, hc2⟩ := hw.ints
 rw [maxLen_eq] at hm
 refine ACall_intro g259 rfl ?_
 unfold fn259
 simp (disch := omega)
 refine awp_loop (fun k σ h' => h' = h ∧ k ≤ X.length ∧ σ 0 = sl bb o X.length zz ∧ σ 1 = sl bb2 o2 X.length zz2 ∧ σ 5 = I k) (fun k => X.length - k) 0 ?_ ?_
 ·simp
 ·rintro k σ h' ⟨rfl, hk, h0, h1, h5⟩
  simp (disch := omega) [h0, h5]
  refine fork_dec (fun hlt => ?_) (fun hge => ?_)
  ·have hlt : k < X.length := by omega
   simp (disch := omega) [h0, h1, h5, hlt, ints_cell hc hlt, ints_cell hc2 hlt, wrap64]
   exact ⟨k + 1, ⟨by omega, by omega⟩, by omega⟩
  ·simp (disch := omega) [h0, h1, h5]
theorem c282 : MarkOk 282 shInts := by
 intro h lo hi v (X : List Int) k hv hk
 obtain ⟨bb, zz, rfl, hzz, hm, hx, hc⟩ := hv.ints
 rw [cvd_ints] at hk
 rw [cvd_ints, mvd_ints]
 refine ACall_intro g282 rfl ?_
 unfold fn282
 simp (disch := omega)
 refine awp_loop (fun i σ h' => i ≤ X.length ∧ Mod lo hi h h' ∧ σ 0 = sl bb 0 X.length zz ∧ σ 1 = I ((k + i : Nat) : Int) ∧ σ 5 = I i ∧ (X = [] ∨ h'[bb]? = some ⟨ints (nums k i ++ X.drop i), true⟩)) (fun i => X.length - i) 0 ?_ ?_
 ·exact ⟨by omega, Mod.refl _ _ _, by simp, by simp, by simp, by
   rcases hc with hc | hc
   ·exact .inl hc
   ·exact .inr (by simpa [nums] using hc.1)⟩
 ·rintro i σ h' ⟨hi', hmd, h0, h1, h5, hb⟩
  simp (disch := omega) [h0, h5]
  refine fork_dec (fun hlt => ?_) (fun hge => ?_)
  ·have hlt : i < X.length := by omega
   have hne : X ≠ [] := by intro e; subst e; simp at hlt
   have hb := hb.resolve_left hne
   have hc := hc.resolve_left hne
   have hA : (ints (nums k i)).length = i := by simp [ints, nums]
   have hst := store_one (v := I ((k + i : Nat) : Int)) (o := i) hb (by simp [ints, nums]; omega)
   rw [List.drop_eq_getElem_cons hlt, ints_append, ints_cons, set_end hA.symm] at hst
   simp only [Int.natCast_add] at hst
   simp (disch := omega) [h0, h1, h5, hlt, hst, wrap64]
   refine ⟨i + 1, ⟨by omega, hmd.put hc.2 _, by omega, by omega, .inr ?_⟩, by omega⟩
   rw [nums_succ]
   simp [ints_append, ints_cons, ints_nil, at_lt hb]
  ·have e : i = X.length := by omega
   subst e
   simp (disch := omega) [h0, h1, h5]
   refine ⟨hmd, ?_⟩
   have := Vo.of_ints (h := h') (b := bb) (lo := lo) (hi := hi) (X := nums k X.length) (hzz.imp id fun e => ⟨e.1, by rw [e.2]; rfl⟩) (by rw [nums_len]; exact hm) (nums_i64 hk) (by
    rcases hb with hb | hb
    ·subst hb; exact .inl rfl
    ·by_cases hX : X = []
     ·subst hX; exact .inl rfl
     ·exact .inr ⟨by simpa using hb, (hc.resolve_left hX).2⟩)
   rw [nums_len] at this
   exact this
theorem nums_get {k n i : Nat} (h : i < (nums k n).length) : (nums k n)[i] = ((k + i : Nat) : Int) := by simp [nums]
theorem c275 : HeldOk 275 shInts := by
 intro h v (X : List Int) k hv hk
 rw [cvd_ints] at hk ⊢
 rw [mvd_ints] at hv
 obtain ⟨bb, o, zz, rfl, hzz, hm, hx, hc⟩ := hv.ints
 rw [nums_len]
 refine ACall_intro g275 rfl ?_
 unfold fn275
 simp (disch := omega)
 refine awp_loop (fun i σ h' => h' = h ∧ i ≤ X.length ∧ σ 0 = sl bb o X.length zz ∧ σ 1 = I ((k + i : Nat) : Int) ∧ σ 5 = I i) (fun i => X.length - i) 0 ?_ ?_
 ·simp
 ·rintro i σ h' ⟨rfl, hi', h0, h1, h5⟩
  simp (disch := omega) [h0, h5]
  refine fork_dec (fun hlt => ?_) (fun hge => ?_)
  ·have hlt : i < X.length := by omega
   have hcell := ints_cell hc (by rw [nums_len]; exact hlt)
   rw [nums_get] at hcell
   simp (disch := omega) [h0, h1, h5, hlt, hcell, wrap64]
   exact ⟨i + 1, ⟨by omega, by omega, by omega⟩, by omega⟩
  ·have e : i = X.length := by omega
   subst e
   simp (disch := omega) [h0, h1, h5, Grows.refl]
theorem Vr.panel {h : Heap} {v : Value} {W H : Int} {br : List Int} (x : Vr h shPanel v (W, H, br)) : ∃ s, v = .agg #[I W, I H, s] ∧ I64 W ∧ I64 H ∧ Vr h shInts s br := by
 obtain ⟨cs, ⟨c1, c2, rfl, ⟨rfl, w1⟩, ⟨c3, c4, rfl, ⟨rfl, w2⟩, r⟩⟩, rfl⟩ := x
 have hl := r.len
 match c4, hl with
 | [s], _ => exact ⟨s, rfl, wf_i64.1 w1, wf_i64.1 w2, [s], r, rfl⟩
theorem Vr.of_panel {h : Heap} {s : Value} {W H : Int} {br : List Int} (h1 : I64 W) (h2 : I64 H) (x : Vr h shInts s br) : Vr h shPanel (.agg #[I W, I H, s]) (W, H, br) := by
 obtain ⟨cs, r, rfl⟩ := x
 have hl := r.len
 match cs, hl with
 | [s], _ => exact ⟨[I W, I H, s], ⟨[I W], [I H, s], rfl, ⟨rfl, wf_i64.2 h1⟩, [I H], [s], rfl, ⟨rfl, wf_i64.2 h2⟩, r⟩, rfl⟩
theorem Vo.panel {h : Heap} {lo hi : Nat} {v : Value} {W H : Int} {br : List Int} (x : Vo h lo hi shPanel v (W, H, br)) : ∃ s, v = .agg #[I W, I H, s] ∧ I64 W ∧ I64 H ∧ Vo h lo hi shInts s br := by
 obtain ⟨cs, bs, ⟨c1, c2, b1, b2, rfl, rfl, ⟨rfl, w1, rfl⟩, ⟨c3, c4, b3, b4, rfl, rfl, ⟨rfl, w2, rfl⟩, r⟩⟩, rfl, nd, hb⟩ := x
 have hl := r.len
 match c4, hl with
 | [s], _ => exact ⟨s, rfl, wf_i64.1 w1, wf_i64.1 w2, [s], _, r, rfl, by simpa using nd, by simpa using hb⟩
theorem Vo.of_panel {h : Heap} {lo hi : Nat} {s : Value} {W H : Int} {br : List Int} (h1 : I64 W) (h2 : I64 H) (x : Vo h lo hi shInts s br) : Vo h lo hi shPanel (.agg #[I W, I H, s]) (W, H, br) := by
 obtain ⟨cs, bs, r, rfl, nd, hb⟩ := x
 have hl := r.len
 match cs, hl with
 | [s], _ => exact ⟨[I W, I H, s], bs, ⟨[I W], [I H, s], [], bs, rfl, rfl, ⟨rfl, wf_i64.2 h1, rfl⟩, [I H], [s], [], bs, rfl, rfl, ⟨rfl, wf_i64.2 h2, rfl⟩, r⟩, rfl, nd, hb⟩
theorem siz_panel (W H : Int) (br : List Int) : siz shPanel (W, H, br) = br.length := by
 show 0 + (0 + siz shInts br) = _
 rw [siz_ints]; omega
theorem cvd_panel (W H : Int) (br : List Int) : cvd shPanel (W, H, br) = br.length := by
 show 0 + (0 + cvd shInts br) = _
 rw [cvd_ints]; omega
theorem mvd_panel (W H : Int) (br : List Int) (k : Nat) : mvd shPanel (W, H, br) k = (W, H, nums k br.length) := by
 show (W, H, mvd shInts br (k + 0 + 0)) = _
 rw [mvd_ints]; rfl
theorem c295 : SzOk 295 shPanel := by
 rintro h v ⟨(W : Int), (H : Int), (br : List Int)⟩ left hv hl
 obtain ⟨s, rfl, _, _, hs⟩ := hv.panel
 refine ACall_intro g295 rfl ?_
 unfold fn295
 simp (disch := omega)
 refine callW_of (c290 _ _ br left hs hl) ?_
 rintro v h' ⟨rfl, rfl⟩
 rw [siz_panel, siz_ints]
 split
 ·simp (disch := omega)
  refine fork_dec (fun h1 => ?_) (fun h1 => ?_)
  ·omega
  ·simp
 ·simp
theorem c303 : ToOk 303 shPanel := by
 rintro h v ⟨(W : Int), (H : Int), (br : List Int)⟩ hp hv hs
 obtain ⟨s, rfl, w1, w2, hs'⟩ := hv.panel
 rw [siz_panel] at hs
 refine ACall_intro g303 rfl ?_
 unfold fn303
 simp (disch := omega)
 refine callW_of (c297 _ _ br hp hs' (by rw [siz_ints]; exact hs)) ?_
 rintro v h' ⟨hg, ho⟩
 obtain ⟨b, zz, e, _⟩ := ho.ints
 subst e
 simp (disch := omega) [resOf_box, aField]
 exact ⟨hg, Vo.of_panel w1 w2 ho⟩
theorem c265 : EqTrue 265 shPanel := by
 rintro h v w ⟨(W : Int), (H : Int), (br : List Int)⟩ hv hw
 obtain ⟨s, rfl, _, _, hs⟩ := hv.panel
 obtain ⟨s2, rfl, _, _, hs2⟩ := hw.panel
 refine ACall_intro g265 rfl ?_
 unfold fn265
 simp (disch := omega)
 refine callW_of (c259 _ _ _ br hs hs2) ?_
 rintro v h' ⟨rfl, rfl⟩
 simp
theorem c286 : MarkOk 286 shPanel := by
 rintro h lo hi v ⟨(W : Int), (H : Int), (br : List Int)⟩ k hv hk
 obtain ⟨s, rfl, w1, w2, hs⟩ := hv.panel
 rw [cvd_panel] at hk ⊢
 rw [mvd_panel]
 refine ACall_intro g286 rfl ?_
 unfold fn286
 simp (disch := omega)
 refine callW_of (c282 _ lo hi _ br k hs (by rw [cvd_ints]; exact hk)) ?_
 rintro v h' ⟨rfl, hm, ho⟩
 rw [cvd_ints]
 rw [mvd_ints] at ho
 simp
 exact ⟨hm, Vo.of_panel w1 w2 ho⟩
end Am
