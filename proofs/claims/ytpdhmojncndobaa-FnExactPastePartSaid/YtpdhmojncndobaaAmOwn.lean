/- Values with memory of their own, of whatever shape: reading, keeping apart, marking. -/
import Derived.Test.YtpdhmojncndobaaAmArgs
import Derived.Test.YtpdhmojncndobaaAmBuf
import Derived.Test.YtpdhmojncndobaaAmC4
set_option linter.unusedVariables false
set_option linter.unusedSimpArgs false
namespace Am
open Go

def All3 {α β γ : Type} (R : α → β → γ → Prop) : List α → List β → List γ → Prop
  | [], [], [] => True
  | a :: x, b :: y, c :: z => R a b c ∧ All3 R x y z
  | _, _, _ => False
theorem All3.mono {α β γ : Type} {R S : α → β → γ → Prop} : ∀ {x : List α} {y : List β} {z : List γ}, (∀ a b c, c ∈ z → R a b c → S a b c) → All3 R x y z → All3 S x y z
  | [], [], [], _, _ => trivial
  | a :: x, b :: y, c :: z, h, r => ⟨h a b c (by simp) r.1, All3.mono (fun a b c hc => h a b c (by simp [hc])) r.2⟩
  | [], _ :: _, _, _, r => r.elim
  | [], [], _ :: _, _, r => r.elim
  | _ :: _, [], _, _, r => r.elim
  | _ :: _, _ :: _, [], _, r => r.elim

/-- These cells read so; the memory behind them is our own: these blocks. -/
def Ow (h : Heap) : (D : Shp) → List Value → D.T → List Nat → Prop
  | .int k, cs, (x : Int), bs => cs = [.int k x] ∧ (Lit.int k x).wf = true ∧ bs = []
  | .str, cs, (x : List UInt8), bs => cs = [S x] ∧ x.length ≤ maxLen ∧ bs = []
  | .bool, cs, (x : Bool), bs => cs = [.bool x] ∧ bs = []
  | .pair a b, cs, (x : a.T × b.T), bs => ∃ c1 c2 b1 b2, cs = c1 ++ c2 ∧ bs = b1 ++ b2 ∧ Ow h a c1 x.1 b1 ∧ Ow h b c2 x.2 b2
  | .slice a, cs, (x : List a.T), bs => ∃ b z css bss, cs = [sl b 0 x.length z] ∧ (z = a.n ∨ b = 0 ∧ x = []) ∧ x.length ≤ maxLen ∧ All3 (fun c y s => Ow h a c y s) css x bss ∧ (x = [] ∧ bs = [] ∨ x ≠ [] ∧ bs = b :: bss.flatten ∧ h[b]? = some ⟨css.flatten, true⟩)

theorem Ow.frame {h h' : Heap} : ∀ {D : Shp} {cs : List Value} {x : D.T} {bs : List Nat}, (∀ b ∈ bs, h'[b]? = h[b]?) → Ow h D cs x bs → Ow h' D cs x bs
  | .int _, cs, x, bs, _, r => r
  | .str, cs, x, bs, _, r => r
  | .bool, cs, x, bs, _, r => r
  | .pair a b, cs, x, bs, hs, ⟨c1, c2, b1, b2, e, e', h1, h2⟩ => ⟨c1, c2, b1, b2, e, e', Ow.frame (fun b hb => hs b (by simp [e', hb])) h1, Ow.frame (fun b hb => hs b (by simp [e', hb])) h2⟩
  | .slice a, cs, x, bs, hs, ⟨b, z, css, bss, e, hz, hm, h1, .inl ⟨h2, h3⟩⟩ => ⟨b, z, css, bss, e, hz, hm, by
      have h2' : x = ([] : List a.T) := h2
      subst h2'
      cases css <;> cases bss <;> first | trivial | exact h1.elim, .inl ⟨h2, h3⟩⟩
  | .slice a, cs, x, bs, hs, ⟨b, z, css, bss, e, hz, hm, h1, .inr ⟨h2, h3, h4⟩⟩ => ⟨b, z, css, bss, e, hz, hm, All3.mono (fun c y s hsm r => Ow.frame (fun b hb => hs b (by rw [h3]; simp; exact .inr ⟨s, hsm, hb⟩)) r) h1, .inr ⟨h2, h3, by rw [hs b (by simp [h3])]; exact h4⟩⟩

theorem Ow.len {h : Heap} : ∀ {D : Shp} {cs : List Value} {x : D.T} {bs : List Nat}, Ow h D cs x bs → cs.length = D.n
  | .int _, cs, x, bs, ⟨e, _⟩ => by rw [e]; rfl
  | .str, cs, x, bs, ⟨e, _⟩ => by rw [e]; rfl
  | .bool, cs, x, bs, ⟨e, _⟩ => by rw [e]; rfl
  | .pair a b, cs, x, bs, ⟨c1, c2, b1, b2, e, _, h1, h2⟩ => by rw [e, List.length_append, h1.len, h2.len]; rfl
  | .slice a, cs, x, bs, ⟨b, z, css, bss, e, _⟩ => by rw [e]; rfl

theorem All3.two {h : Heap} {a : Shp} {R : List Value → a.T → Prop} : ∀ {css : List (List Value)} {x : List a.T} {bss : List (List Nat)}, All3 (fun c y s => Ow h a c y s) css x bss → (∀ c y s, Ow h a c y s → R c y) → All2 R css x
  | [], [], [], _, _ => trivial
  | c :: css, y :: x, s :: bss, r, f => ⟨f c y s r.1, All3.two r.2 f⟩
  | [], _ :: _, _, r, _ => r.elim
  | [], [], _ :: _, r, _ => r.elim
  | _ :: _, [], _, r, _ => r.elim
  | _ :: _, _ :: _, [], r, _ => r.elim

theorem Ow.rd {h : Heap} : ∀ {D : Shp} {cs : List Value} {x : D.T} {bs : List Nat}, Ow h D cs x bs → Rd h D cs x
  | .int _, cs, x, bs, ⟨e, w, _⟩ => ⟨e, w⟩
  | .str, cs, x, bs, ⟨e, w, _⟩ => ⟨e, w⟩
  | .bool, cs, x, bs, ⟨e, _⟩ => e
  | .pair a b, cs, x, bs, ⟨c1, c2, b1, b2, e, _, h1, h2⟩ => ⟨c1, c2, e, h1.rd, h2.rd⟩
  | .slice a, cs, x, bs, ⟨b, z, css, bss, e, hz, hm, h1, h2⟩ => by
    have h1' : All2 (fun c y => Rd h a c y) css x := All3.two h1 fun c y s r => Ow.rd r
    refine ⟨b, 0, z, css, e, hz, hm, h1', ?_⟩
    rcases h2 with ⟨h2, _⟩ | ⟨_, _, h4⟩
    · exact .inl h2
    · exact .inr (cellsAt_all h4 (All2.len_flatten h1').symm)

theorem Ow.lt {h : Heap} : ∀ {D : Shp} {cs : List Value} {x : D.T} {bs : List Nat}, Ow h D cs x bs → ∀ b ∈ bs, b < h.length
  | .int _, cs, x, bs, ⟨_, _, e⟩ => by rw [e]; simp
  | .str, cs, x, bs, ⟨_, _, e⟩ => by rw [e]; simp
  | .bool, cs, x, bs, ⟨_, e⟩ => by rw [e]; simp
  | .pair a b, cs, x, bs, ⟨c1, c2, b1, b2, _, e, h1, h2⟩ => by
    intro b hb
    rw [e] at hb
    rcases List.mem_append.1 hb with hb | hb
    · exact h1.lt b hb
    · exact h2.lt b hb
  | .slice a, cs, x, bs, ⟨b, z, css, bss, e, hz, hm, h1, .inl ⟨_, h2⟩⟩ => by rw [h2]; simp
  | .slice a, cs, x, bs, ⟨b, z, css, bss, e, hz, hm, h1, .inr ⟨_, h2, h3⟩⟩ => by
    intro b' hb
    rw [h2] at hb
    rcases List.mem_cons.1 hb with rfl | hb
    · exact at_lt h3
    · obtain ⟨s, hs, hb⟩ := List.mem_flatten.1 hb
      exact aux h1 s hs b' hb
where
  aux {h : Heap} {a : Shp} : ∀ {css : List (List Value)} {x : List a.T} {bss : List (List Nat)}, All3 (fun c y s => Ow h a c y s) css x bss → ∀ s ∈ bss, ∀ b ∈ s, b < h.length
  | [], [], [], _ => by simp
  | c :: css, y :: x, s :: bss, r => by
    intro s' hs' b hb
    rcases List.mem_cons.1 hs' with rfl | hs'
    · exact Ow.lt r.1 b hb
    · exact aux r.2 s' hs' b hb
  | [], _ :: _, _, r => r.elim
  | [], [], _ :: _, r => r.elim
  | _ :: _, [], _, r => r.elim
  | _ :: _, _ :: _, [], r => r.elim

/-! ### values -/
/-- The value reads so. -/
def Vr (h : Heap) (D : Shp) (v : Value) (X : D.T) : Prop := ∃ cs, Rd h D cs X ∧ v = asVal D cs
/-- The value reads so, and its memory is our own, apart, among the blocks from lo on, before hi. -/
def Vo (h : Heap) (lo hi : Nat) (D : Shp) (v : Value) (X : D.T) : Prop := ∃ cs bs, Ow h D cs X bs ∧ v = asVal D cs ∧ bs.Nodup ∧ ∀ b ∈ bs, lo ≤ b ∧ b < hi
/-- Only blocks from lo on, before hi, have turned. -/
def Mod (lo hi : Nat) (h h' : Heap) : Prop := h.length ≤ h'.length ∧ ∀ b, b < h.length → b < lo ∨ hi ≤ b → h'[b]? = h[b]?

theorem grows_of {h h' : Heap} (hl : h.length ≤ h'.length) (hs : ∀ b, b < h.length → h'[b]? = h[b]?) : Grows h h' := by
  refine ⟨h'.drop h.length, ?_⟩
  apply List.ext_getElem?
  intro i
  by_cases hi : i < h.length
  · rw [hs i hi, List.getElem?_append_left hi]
  · rw [List.getElem?_append_right (by omega), List.getElem?_drop]; congr 1; omega
theorem Grows.look {h h' : Heap} (g : Grows h h') {b : Nat} (hb : b < h.length) : h'[b]? = h[b]? := by
  obtain ⟨l, rfl⟩ := g; exact List.getElem?_append_left hb
theorem Grows.mod {h h' : Heap} (g : Grows h h') {lo hi : Nat} : Mod lo hi h h' := ⟨g.le, fun b hb _ => g.look hb⟩
theorem Mod.trans {lo hi : Nat} {a b c : Heap} (x : Mod lo hi a b) (y : Mod lo hi b c) : Mod lo hi a c :=
  ⟨Nat.le_trans x.1 y.1, fun k hk hn => by rw [y.2 k (Nat.lt_of_lt_of_le hk x.1) hn, x.2 k hk hn]⟩
theorem Mod.wide {lo hi lo' hi' : Nat} {a b : Heap} (x : Mod lo hi a b) (h1 : lo' ≤ lo) (h2 : hi ≤ hi') : Mod lo' hi' a b := ⟨x.1, fun k hk hn => x.2 k hk (by omega)⟩
theorem Mod.grows {lo hi : Nat} {h0 h h' : Heap} (x : Mod lo hi h h') (g : Grows h0 h) (hl : h0.length ≤ lo) : Grows h0 h' :=
  grows_of (Nat.le_trans g.le x.1) fun b hb => by rw [x.2 b (Nat.lt_of_lt_of_le hb g.le) (.inl (by omega)), g.look hb]
theorem Vr.grow {h h' : Heap} {D : Shp} {v : Value} {X : D.T} (x : Vr h D v X) (g : Grows h h') : Vr h' D v X := by
  obtain ⟨cs, r, e⟩ := x; exact ⟨cs, r.grow g, e⟩
theorem Vo.vr {h : Heap} {lo hi : Nat} {D : Shp} {v : Value} {X : D.T} (x : Vo h lo hi D v X) : Vr h D v X := by
  obtain ⟨cs, bs, r, e, _⟩ := x; exact ⟨cs, r.rd, e⟩
theorem Vo.mod {h h' : Heap} {lo hi lo' hi' : Nat} {D : Shp} {v : Value} {X : D.T} (x : Vo h lo hi D v X) (m : Mod lo' hi' h h') (hd : hi ≤ lo' ∨ hi' ≤ lo) : Vo h' lo hi D v X := by
  obtain ⟨cs, bs, r, e, n, hb⟩ := x
  exact ⟨cs, bs, r.frame fun b hb' => m.2 b (r.lt b hb') (by have := hb b hb'; omega), e, n, hb⟩
theorem Vo.grow {h h' : Heap} {lo hi : Nat} {D : Shp} {v : Value} {X : D.T} (x : Vo h lo hi D v X) (g : Grows h h') : Vo h' lo hi D v X := by
  obtain ⟨cs, bs, r, e, n, hb⟩ := x
  exact ⟨cs, bs, r.frame fun b hb' => g.look (r.lt b hb'), e, n, hb⟩
theorem Vo.wide {h : Heap} {lo hi lo' hi' : Nat} {D : Shp} {v : Value} {X : D.T} (x : Vo h lo hi D v X) (h1 : lo' ≤ lo) (h2 : hi ≤ hi') : Vo h lo' hi' D v X := by
  obtain ⟨cs, bs, r, e, n, hb⟩ := x
  exact ⟨cs, bs, r, e, n, fun b hb' => by have := hb b hb'; omega⟩
theorem Vo.low {h : Heap} {lo hi : Nat} {D : Shp} {v : Value} {X : D.T} (x : Vo h lo hi D v X) : Vo h lo h.length D v X := by
  obtain ⟨cs, bs, r, e, n, hb⟩ := x
  exact ⟨cs, bs, r, e, n, fun b hb' => ⟨(hb b hb').1, r.lt b hb'⟩⟩

/-! ### marks -/
def cnt : (D : Shp) → D.T → Nat
  | .int _, _ | .str, _ | .bool, _ => 1
  | .pair a b, (x : a.T × b.T) => cnt a x.1 + cnt b x.2
  | .slice a, (x : List a.T) => (x.map fun y => cnt a y).sum
def mkd : (D : Shp) → D.T → Nat → D.T
  | .int _, _, k => (k : Int)
  | .str, _, k => markOf k
  | .bool, x, _ => x
  | .pair a b, (x : a.T × b.T), k => (mkd a x.1 k, mkd b x.2 (k + cnt a x.1))
  | .slice a, (x : List a.T), k => mkL (fun y k => mkd a y k) (fun y => cnt a y) x k
where mkL {α : Type} (f : α → Nat → α) (c : α → Nat) : List α → Nat → List α
  | [], _ => []
  | y :: l, k => f y k :: mkL f c l (k + c y)
/-- What of a value lies in memory. -/
def cvd : (D : Shp) → D.T → Nat
  | .int _, _ | .str, _ | .bool, _ => 0
  | .pair a b, (x : a.T × b.T) => cvd a x.1 + cvd b x.2
  | .slice a, (x : List a.T) => cnt (.slice a) x
def mvd : (D : Shp) → D.T → Nat → D.T
  | .int _, x, k => x
  | .str, x, k => x
  | .bool, x, _ => x
  | .pair a b, (x : a.T × b.T), k => (mvd a x.1 k, mvd b x.2 (k + cvd a x.1))
  | .slice a, (x : List a.T), k => mkd (.slice a) x k
abbrev shInt : Shp := .int .i64
abbrev shInts : Shp := .slice shInt
abbrev shTrip : Shp := .pair shInt (.pair shInt shInt)
abbrev shTrips : Shp := .slice shTrip
abbrev shTexts : Shp := .slice .str
abbrev shPanel : Shp := .pair shInt (.pair shInt shInts)
abbrev shKept : Shp := .pair .str shPanel
abbrev shKepts : Shp := .slice shKept
abbrev shJournal : Shp := .pair shPanel (.pair shTrips shTrips)
end Am
