/- The helpers of the laws, for slices of structs of whatever shape: made anew, compared. -/
import Derived.Test.YtpdhmojncndobaaAmOwn
import Derived.Test.YtpdhmojncndobaaAmTab
set_option linter.unusedVariables false
set_option linter.unusedSimpArgs false
set_option maxHeartbeats 4000000
namespace Am
open Go

theorem All2.mem {α β : Type} {R : α → β → Prop} : ∀ {x : List α} {y : List β}, All2 R x y → ∀ a ∈ x, ∃ b ∈ y, R a b
  | [], [], _, a, ha => by simp at ha
  | p :: x, q :: y, h, a, ha => by
    rcases List.mem_cons.1 ha with rfl | ha
    · exact ⟨q, by simp, h.1⟩
    · obtain ⟨b, hb, r⟩ := All2.mem h.2 a ha
      exact ⟨b, by simp [hb], r⟩
theorem flat_part {α : Type} {z : Nat} : ∀ {css : List (List α)} (_ : ∀ c ∈ css, c.length = z) {i : Nat} {c : List α}, css[i]? = some c → (css.flatten.drop (i * z)).take z = c
  | [], _, i, c, h => by simp at h
  | d :: css, hz, 0, c, h => by
    have hd := hz d (by simp)
    simp at h; subst h
    simp only [List.flatten_cons, Nat.zero_mul, List.drop_zero]
    rw [← hd, List.take_left']
    rfl
  | d :: css, hz, i + 1, c, h => by
    have hd := hz d (by simp)
    simp only [List.flatten_cons]
    rw [List.drop_append, List.drop_eq_nil_of_le (by rw [hd, Nat.add_mul]; omega), List.nil_append, hd, Nat.add_mul, Nat.one_mul, Nat.add_sub_cancel]
    exact flat_part (fun c hc => hz c (by simp [hc])) (by simpa using h)

theorem Vr.slice {h : Heap} {a : Shp} {v : Value} {X : List a.T} (x : Vr h (.slice a) v X) : ∃ b o z, v = sl b o X.length z ∧ (z = a.n ∨ b = 0 ∧ X = []) ∧ X.length ≤ maxLen ∧ ∀ i (hi : i < X.length), ∃ c, cellsAt h b (o + i * a.n) a.n = some c ∧ Rd h a c X[i] := by
  obtain ⟨cs, ⟨b, o, z, css, rfl, hz0, hm, h1, h2⟩, rfl⟩ := x
  refine ⟨b, o, z, rfl, hz0, hm, fun i hi => ?_⟩
  have hne : X ≠ [] := by intro e; subst e; simp at hi
  have h2 := h2.resolve_left hne
  have hz : ∀ c ∈ css, c.length = a.n := fun c hc => by obtain ⟨y, _, r⟩ := All2.mem h1 c hc; exact r.len
  obtain ⟨c, hc, r⟩ := h1.get' i X[i] (by simp [hi])
  refine ⟨c, ?_, r⟩
  have := cellsAt_in (i := i * a.n) (m := a.n) h2 (by rw [← Nat.succ_mul]; exact Nat.mul_le_mul_right _ hi)
  rw [flat_part hz hc] at this
  exact this
theorem Vr.pair {h : Heap} {a b : Shp} {v : Value} {X : a.T × b.T} (x : Vr h (.pair a b) v X) : ∃ c1 c2, v = .agg (c1 ++ c2).toArray ∧ Rd h a c1 X.1 ∧ Rd h b c2 X.2 := by
  obtain ⟨cs, ⟨c1, c2, rfl, h1, h2⟩, rfl⟩ := x
  exact ⟨c1, c2, rfl, h1, h2⟩

/-- How many elements and letters. -/
def siz : (D : Shp) → D.T → Nat
  | .int _, _ | .bool, _ => 0
  | .str, (x : List UInt8) => x.length
  | .pair a b, (x : a.T × b.T) => siz a x.1 + siz b x.2
  | .slice a, (x : List a.T) => x.length + (x.map fun y => siz a y).sum
theorem siz_mem {a : Shp} : ∀ {X : List a.T} {y : a.T}, y ∈ X → siz a y ≤ (X.map fun y => siz a y).sum
  | x :: X, y, h => by
    rcases List.mem_cons.1 h with rfl | h
    · simp
    · have := siz_mem h; simp; omega

/-- It makes a value anew, in memory of its own. -/
def ToOk (f : Nat) (D : Shp) : Prop := ∀ h v X, 0 < h.length → Vr h D v X → siz D X ≤ 1048576 → ACall Gam f [v] h fun v' h' => Grows h h' ∧ Vo h' h.length h'.length D v' X
/-- It finds equal what reads alike. -/
def EqTrue (f : Nat) (D : Shp) : Prop := ∀ h v w X, Vr h D v X → Vr h D w X → ACall Gam f [v, w] h fun r h' => r = .bool true ∧ h' = h

theorem reps_succ {m : Nat} {z : List Value} : reps (m + 1) z = z ++ reps m z := by simp [reps, List.replicate_succ]
theorem splice_end {A B xs : List Value} {n : Nat} (hn : n = A.length) : splice (A ++ B) n xs = A ++ xs ++ B.drop xs.length := by
  subst hn
  unfold splice
  rw [List.take_left' rfl]
  congr 1
  rw [List.drop_append]
  simp [List.drop_eq_nil_of_le]
theorem All3.snoc {α β γ : Type} {R : α → β → γ → Prop} : ∀ {x : List α} {y : List β} {z : List γ} {a : α} {b : β} {c : γ}, All3 R x y z → R a b c → All3 R (x ++ [a]) (y ++ [b]) (z ++ [c])
  | [], [], [], _, _, _, _, r => ⟨r, trivial⟩
  | _ :: _, _ :: _, _ :: _, _, _, _, h, r => ⟨h.1, All3.snoc h.2 r⟩
  | [], _ :: _, _, _, _, _, h, _ => h.elim
  | [], [], _ :: _, _, _, _, h, _ => h.elim
  | _ :: _, [], _, _, _, _, h, _ => h.elim
  | _ :: _, _ :: _, [], _, _, _, h, _ => h.elim
theorem All3.flat_len {h : Heap} {a : Shp} {css : List (List Value)} {x : List a.T} {bss : List (List Nat)} (r : All3 (fun c y s => Ow h a c y s) css x bss) : css.flatten.length = x.length * a.n :=
  All2.len_flatten (h := h) (All3.two r fun c y s r => Ow.rd r)

def toSF (z ix : Nat) (zero : Array Value) (f : Nat) : AFun := ⟨1,
(.seq (reg [op 2 (.move (.const (sl 0 0 0 0)))])
(.seq (reg [op 5 (.move (.tmp 0)) 1,
  op 6 (bi .len #[(.global 5)] 1) 1,
  op 7 (.mapUpdate z (.global 6) (.global 6) (.const (.agg zero))) 1,
  op 3 (.move (.global 7))])
(.seq (.seq (reg [op 4 (.move (.const (I 0)))])
(.block 0
  (.loop
    (.seq (.seq (reg [op 8 (.move (.tmp 4)) 1,
      op 9 (.move (.tmp 0)) 1,
      op 10 (bi .len #[(.global 9)] 1) 1,
      op 11 (.binOp .lss 0 (.global 8) (.global 10) 0)])
    (.cond (.tmp 11)
      .skip
      (.exit 0)))
    (.seq (.block 1
      (reg [op 14 (.move (.tmp 3)) 1,
        op 15 (.move (.tmp 4)) 1,
        op 16 (.move (.tmp 0)) 1,
        op 17 (.move (.tmp 4)) 1,
        op 18 (.indexAddr ix (.global 16) (.global 17)) 1,
        op 19 (.load (z + 1) (.global 18)) 1,
        op 20 (call (.func f) #[(.global 19)]) 1,
        op 21 (.indexAddr ix (.global 14) (.global 15)) 1,
        opn (.store z (.global 21) (.global 20))]))
    (reg [op 12 (.move (.tmp 4)) 1,
      op 13 (.binOp .add 0 (.global 12) (.const (I 1)) 0) 1,
      op 4 (.move (.global 13))]))))))
(.seq (reg [op 22 (.move (.tmp 3)) 1,
  op 2 (.move (.global 22))])
.ret)))), [(2, 0)]⟩

def ToInv (h h' : Heap) (D : Shp) (X : List D.T) (zero : List Value) (k : Nat) : Prop := ∃ css bss, All3 (fun c y s => Ow h' D c y s) css (X.take k) bss ∧ bss.flatten.Nodup ∧ (∀ b ∈ bss.flatten, h.length < b) ∧
      h'[h.length]? = some ⟨css.flatten ++ reps (X.length - k) zero, true⟩

theorem toS_ok {z ix f g : Nat} {zero : Array Value} {a b : Shp} (hg : Gam g = some (toSF z ix zero f)) (hz : (Shp.pair a b).n = z) (hix : ix < 1000000 ∧ ix / 2 = z) (hzero : zero.size = z) (he : ToOk f (.pair a b)) : ToOk g (.slice (.pair a b)) := by
  intro h v (X : List (Shp.pair a b).T) hp hv hs
  obtain ⟨bb, o, zz, rfl, _, hm, hel⟩ := hv.slice
  have hlen : (X.length : Nat) ≤ 1048576 := by
    have : siz (.slice (.pair a b)) X = X.length + (X.map fun y => siz (.pair a b) y).sum := rfl
    omega
  rw [hz] at hel
  have zpos : 0 < z := by rw [← hz]; exact Shp.pos _
  refine ACall_intro hg rfl ?_
  unfold toSF
  simp (disch := omega) [aMake, hzero, maxSize, hlen]
  rw [if_pos (by omega)]
  simp
  refine awp_loop (fun k σ h' => k ≤ X.length ∧ Grows h h' ∧ σ 0 = sl bb o X.length zz ∧ σ 3 = sl h.length 0 X.length z ∧ σ 4 = I k ∧ ToInv h h' (.pair a b) X zero.toList k) (fun k => X.length - k) 0 ?_ ?_
  · refine ⟨by omega, ⟨_, rfl⟩, by simp, by simp, by simp, [], [], trivial, by simp, by simp, by simp⟩
  · rintro k σ h' ⟨hk, hgr, h0, h3, h4, hinv⟩
    obtain ⟨css, bss, ha, hnd, hlo, hb0⟩ := hinv
    simp (disch := omega) [h0, h4]
    refine fork_dec (fun hlt => ?_) (fun hge => ?_)
    · have hlt : k < X.length := by omega
      obtain ⟨c, hc, r⟩ := hel k hlt
      have hc' := grows_cellsAt hgr hc
      simp (disch := omega) [h0, h3, h4, hix.1, hix.2, hlt, hc']
      have hsk : siz (.pair a b) X[k] ≤ 1048576 := by
        have h1 := siz_mem (a := .pair a b) (List.getElem_mem hlt)
        have : siz (.slice (.pair a b)) X = X.length + (X.map fun y => siz (.pair a b) y).sum := rfl
        omega
      refine callW_of (he h' _ X[k] (by have := hgr.le; omega) ⟨c, r.grow hgr, rfl⟩ hsk) ?_
      rintro v' h2 ⟨g2, cs', bs', ow, rfl, nd', hb'⟩
      have hcl := ow.len
      rw [hz] at hcl
      have hfl := ha.flat_len
      rw [hz, List.length_take, Nat.min_eq_left hk] at hfl
      have hb2 : h2[h.length]? = some ⟨css.flatten ++ reps (X.length - k) zero.toList, true⟩ := by rw [g2.look (at_lt hb0)]; exact hb0
      have hsub : X.length - k = (X.length - (k + 1)) + 1 := by omega
      have hst : storeAt h2 h.length (k * z) cs' = some (h2.set h.length ⟨(css ++ [cs']).flatten ++ reps (X.length - (k + 1)) zero.toList, true⟩) := by
        unfold storeAt
        simp only [hb2]
        rw [if_pos ⟨trivial, by
          rw [List.length_append, hfl, hcl, hsub, reps_succ]; simp [hzero]⟩, splice_end hfl.symm]
        congr 3
        rw [hsub, reps_succ, List.drop_append]
        simp [hcl, hzero, List.drop_eq_nil_of_le]
      simp (disch := omega) [h0, h3, h4, hix.1, hix.2, hlt, asVal, hcl, hst, wrap64]
      have hl2 : h.length < h2.length := at_lt hb2
      have ow2 : Ow (h2.set h.length ⟨(css ++ [cs']).flatten ++ reps (X.length - (k + 1)) zero.toList, true⟩) (.pair a b) cs' X[k] bs' := ow.frame fun b hb => by
        have := (hb' b hb).1
        have := hgr.le
        have := at_lt hb0
        rw [List.getElem?_set_ne (by omega)]
      have ha2 : All3 (fun c y s => Ow (h2.set h.length ⟨(css ++ [cs']).flatten ++ reps (X.length - (k + 1)) zero.toList, true⟩) (.pair a b) c y s) css (X.take k) bss := ha.mono fun c y s hs' r => r.frame fun b hb => by
        have h1 := hlo b (List.mem_flatten.2 ⟨s, hs', hb⟩)
        rw [List.getElem?_set_ne (by omega), g2.look (r.lt b hb)]
      refine ⟨k + 1, ⟨by omega, (hgr.trans g2).put (Nat.le_refl _) _, by omega, css ++ [cs'], bss ++ [bs'], ?_, ?_, ?_, ?_⟩, by omega⟩
      · rw [List.take_succ_eq_append_getElem hlt]
        have := All3.snoc ha2 ow2
        simpa using this
      · rw [List.flatten_append, List.nodup_append]
        refine ⟨hnd, by simpa using nd', fun x hx y hy e => ?_⟩
        subst e
        have h1 := (hb' x (by simpa using hy)).1
        obtain ⟨s, hs', hb⟩ := List.mem_flatten.1 hx
        have : x < h'.length := by
          have h2 := ha
          exact Ow.lt.aux h2 s hs' x hb
        omega
      · intro b hb
        rw [List.flatten_append, List.mem_append] at hb
        rcases hb with hb | hb
        · exact hlo b hb
        · have := (hb' b (by simpa using hb)).1
          have := at_lt hb0
          omega
      · simp [hl2]
    · have e : k = X.length := by omega
      subst e
      rw [List.take_length] at ha
      simp (disch := omega) [h0, h3, h4]
      simp [reps] at hb0
      refine ⟨hgr, [sl h.length 0 X.length z], if X = [] then [] else h.length :: bss.flatten, ⟨h.length, z, css, bss, rfl, .inl hz.symm, hm, ha, ?_⟩, rfl, ?_, ?_⟩
      · by_cases hX : X = []
        · exact .inl ⟨hX, by simp [hX]⟩
        · exact .inr ⟨hX, by simp [hX], hb0⟩
      · split
        · simp
        · refine List.nodup_cons.2 ⟨fun hm => ?_, hnd⟩
          have := hlo _ hm; omega
      · intro b hb
        split at hb
        · simp at hb
        · rcases List.mem_cons.1 hb with rfl | hb
          · exact ⟨Nat.le_refl _, at_lt hb0⟩
          · obtain ⟨s, hs', hb'⟩ := List.mem_flatten.1 hb
            exact ⟨by have := hlo b hb; omega, Ow.lt.aux ha s hs' b hb'⟩

def eqSF (z ix : Nat) (f : Nat) : AFun := ⟨2,
(.seq (reg [op 4 (.move (.const (B false)))])
(.seq (.seq (reg [op 6 (.move (.tmp 0)) 1,
  op 7 (bi .len #[(.global 6)] 1) 1,
  op 8 (.move (.tmp 1)) 1,
  op 9 (bi .len #[(.global 8)] 1) 1,
  op 10 (.binOp .neq 0 (.global 7) (.global 9) 0)])
(.cond (.tmp 10)
  (.seq (reg [op 4 (.move (.const (B false)))])
  .ret)
  .skip))
(.seq (.seq (reg [op 5 (.move (.const (I 0)))])
(.block 0
  (.loop
    (.seq (.seq (reg [op 11 (.move (.tmp 5)) 1,
      op 12 (.move (.tmp 0)) 1,
      op 13 (bi .len #[(.global 12)] 1) 1,
      op 14 (.binOp .lss 0 (.global 11) (.global 13) 0)])
    (.cond (.tmp 14)
      .skip
      (.exit 0)))
    (.seq (.block 1
      (.seq (reg [op 17 (.move (.tmp 0)) 1,
        op 18 (.move (.tmp 5)) 1,
        op 19 (.indexAddr ix (.global 17) (.global 18)) 1,
        op 20 (.load (z + 1) (.global 19)) 1,
        op 21 (.move (.tmp 1)) 1,
        op 22 (.move (.tmp 5)) 1,
        op 23 (.indexAddr ix (.global 21) (.global 22)) 1,
        op 24 (.load (z + 1) (.global 23)) 1,
        op 25 (call (.func f) #[(.global 20), (.global 24)]) 1,
        op 26 (.unOp .not 0 (.global 25))])
      (.cond (.tmp 26)
        (.seq (reg [op 4 (.move (.const (B false)))])
        .ret)
        .skip)))
    (reg [op 15 (.move (.tmp 5)) 1,
      op 16 (.binOp .add 0 (.global 15) (.const (I 1)) 0) 1,
      op 5 (.move (.global 16))]))))))
(.seq (reg [op 4 (.move (.const (B true)))])
.ret)))), [(4, 0)]⟩

theorem maxLen_eq : maxLen = 9223372036854775807 := by decide

theorem eqS_ok {z ix f g : Nat} {a b : Shp} (hg : Gam g = some (eqSF z ix f)) (hz : (Shp.pair a b).n = z) (hix : ix < 1000000 ∧ ix / 2 = z) (he : EqTrue f (.pair a b)) : EqTrue g (.slice (.pair a b)) := by
  intro h v w (X : List (Shp.pair a b).T) hv hw
  obtain ⟨bb, o, zz, rfl, _, hm, hel⟩ := hv.slice
  obtain ⟨bb2, o2, zz2, rfl, _, _, hel2⟩ := hw.slice
  rw [hz] at hel hel2
  rw [maxLen_eq] at hm
  refine ACall_intro hg rfl ?_
  unfold eqSF
  simp (disch := omega)
  refine awp_loop (fun k σ h' => h' = h ∧ k ≤ X.length ∧ σ 0 = sl bb o X.length zz ∧ σ 1 = sl bb2 o2 X.length zz2 ∧ σ 5 = I k) (fun k => X.length - k) 0 ?_ ?_
  · simp
  · rintro k σ h' ⟨rfl, hk, h0, h1, h5⟩
    simp (disch := omega) [h0, h5]
    refine fork_dec (fun hlt => ?_) (fun hge => ?_)
    · have hlt : k < X.length := by omega
      obtain ⟨c, hc, r⟩ := hel k hlt
      obtain ⟨c2, hc2, r2⟩ := hel2 k hlt
      simp (disch := omega) [h0, h1, h5, hix.1, hix.2, hlt, hc, hc2]
      refine callW_of (he h' _ _ X[k] ⟨c, r, rfl⟩ ⟨c2, r2, rfl⟩) ?_
      rintro v' h2 ⟨rfl, rfl⟩
      simp (disch := omega) [h0, h1, h5, wrap64]
      exact ⟨k + 1, ⟨by omega, by omega⟩, by omega⟩
    · simp (disch := omega) [h0, h1, h5]

/-! ### numbers -/
def ints (l : List Int) : List Value := l.map I
def I64 (n : Int) : Prop := -9223372036854775808 ≤ n ∧ n < 9223372036854775808
theorem wf_i64 {n : Int} : (Lit.int .i64 n).wf = true ↔ I64 n := by
  simp [Lit.wf, IntKind.min, IntKind.max, IntKind.signed, IntKind.bits, I64]
  omega
theorem rd_ints {h : Heap} : ∀ {css : List (List Value)} {X : List Int}, All2 (fun c y => Rd h shInt c y) css X → css.flatten = ints X ∧ ∀ x ∈ X, I64 x
  | [], [], _ => by simp [ints]
  | c :: css, x :: X, r => by
    obtain ⟨e, w⟩ := r.1
    obtain ⟨h1, h2⟩ := rd_ints r.2
    refine ⟨by simp [e, h1, ints], fun y hy => ?_⟩
    rcases List.mem_cons.1 hy with rfl | hy
    · exact wf_i64.1 w
    · exact h2 y hy
/-- A slice of numbers. -/
theorem Vr.ints {h : Heap} {v : Value} {X : List Int} (x : Vr h shInts v X) : ∃ b o z, v = sl b o X.length z ∧ (z = 1 ∨ b = 0 ∧ X = []) ∧ X.length ≤ maxLen ∧ (∀ x ∈ X, I64 x) ∧ (X = [] ∨ cellsAt h b o X.length = some (Am.ints X)) := by
  obtain ⟨cs, ⟨b, o, z, css, rfl, hz, hm, h1, h2⟩, rfl⟩ := x
  obtain ⟨e1, e2⟩ := rd_ints h1
  have h2' : X = [] ∨ cellsAt h b o (X.length * 1) = some css.flatten := h2
  rw [e1, Nat.mul_one] at h2'
  exact ⟨b, o, z, rfl, hz, hm, e2, h2'⟩
theorem ints_cell {h : Heap} {b o k : Nat} {X : List Int} (hr : X = [] ∨ cellsAt h b o X.length = some (ints X)) (hk : k < X.length) : cell h b (o + k) = some (I X[k]) := by
  rcases hr with h0 | hr
  · subst h0; simp at hk
  · rw [(cell_in (i := k) hr hk).1]; simp [ints, hk]
theorem all_ints (h : Heap) : ∀ (X : List Int), (∀ x ∈ X, I64 x) → All2 (fun c y => Rd h shInt c y) (X.map fun x => [I x]) X
  | [], _ => trivial
  | x :: X, hx => ⟨⟨rfl, wf_i64.2 (hx x (by simp))⟩, all_ints h X fun y hy => hx y (by simp [hy])⟩
theorem flat_ints : ∀ (X : List Int), (X.map fun x => [I x]).flatten = ints X
  | [] => rfl
  | x :: X => by simp [ints, List.flatten_cons]; have := flat_ints X; simp [ints] at this; exact this
theorem Vr.of_ints {h : Heap} {b o z : Nat} {X : List Int} (hz : z = 1 ∨ b = 0 ∧ X = []) (hm : X.length ≤ maxLen) (hx : ∀ x ∈ X, I64 x) (hc : X = [] ∨ cellsAt h b o X.length = some (Am.ints X)) : Vr h shInts (sl b o X.length z) X :=
  ⟨[sl b o X.length z], ⟨b, o, z, X.map fun x => [I x], rfl, hz, hm, all_ints h X hx, hc.imp id fun h => by rw [flat_ints]; show cellsAt _ _ _ (X.length * 1) = _; rw [Nat.mul_one]; exact h⟩, rfl⟩
theorem all3_ints (h : Heap) : ∀ (X : List Int), (∀ x ∈ X, I64 x) → All3 (fun c y s => Ow h shInt c y s) (X.map fun x => [I x]) X (X.map fun _ => [])
  | [], _ => trivial
  | x :: X, hx => ⟨⟨rfl, wf_i64.2 (hx x (by simp)), rfl⟩, all3_ints h X fun y hy => hx y (by simp [hy])⟩
theorem nils_flat {α β : Type} : ∀ (X : List α), (X.map fun _ => ([] : List β)).flatten = []
  | [] => rfl
  | x :: X => by simp [nils_flat X]
theorem Vo.of_ints {h : Heap} {b lo hi z : Nat} {X : List Int} (hz : z = 1 ∨ b = 0 ∧ X = []) (hm : X.length ≤ maxLen) (hx : ∀ x ∈ X, I64 x) (hc : X = [] ∨ h[b]? = some ⟨Am.ints X, true⟩ ∧ lo ≤ b ∧ b < hi) : Vo h lo hi shInts (sl b 0 X.length z) X := by
  refine ⟨[sl b 0 X.length z], if X = [] then [] else [b], ⟨b, z, X.map fun x => [I x], X.map fun _ => [], rfl, hz, hm, all3_ints h X hx, ?_⟩, rfl, ?_, ?_⟩
  · by_cases h0 : X = []
    · exact .inl ⟨h0, by simp [h0]⟩
    · exact .inr ⟨h0, by rw [if_neg h0, nils_flat], by rw [flat_ints]; exact (hc.resolve_left h0).1⟩
  · split <;> simp
  · intro b' hb'
    by_cases h0 : X = []
    · simp [h0] at hb'
    · simp [h0] at hb'; subst hb'; exact (hc.resolve_left h0).2
theorem All3.ints {h : Heap} : ∀ {css : List (List Value)} {X : List Int} {bss : List (List Nat)}, All3 (fun c y s => Ow h shInt c y s) css X bss → css.flatten = ints X ∧ (∀ x ∈ X, I64 x) ∧ bss.flatten = []
  | [], [], [], _ => by simp [Am.ints]
  | c :: css, x :: X, s :: bss, r => by
    obtain ⟨e, w, es⟩ := r.1
    obtain ⟨h1, h2, h3⟩ := All3.ints r.2
    refine ⟨by simp [e, h1, Am.ints], fun y hy => ?_, by simp [es, h3]⟩
    rcases List.mem_cons.1 hy with rfl | hy
    · exact wf_i64.1 w
    · exact h2 y hy
  | [], _ :: _, _, r => r.elim
  | [], [], _ :: _, r => r.elim
  | _ :: _, [], _, r => r.elim
  | _ :: _, _ :: _, [], r => r.elim
theorem Vo.ints {h : Heap} {lo hi : Nat} {v : Value} {X : List Int} (x : Vo h lo hi shInts v X) : ∃ b z, v = sl b 0 X.length z ∧ (z = 1 ∨ b = 0 ∧ X = []) ∧ X.length ≤ maxLen ∧ (∀ x ∈ X, I64 x) ∧ (X = [] ∨ h[b]? = some ⟨Am.ints X, true⟩ ∧ lo ≤ b ∧ b < hi) := by
  obtain ⟨cs, bs, ⟨b, z, css, bss, rfl, hz, hm, h1, h2⟩, rfl, _, hb⟩ := x
  obtain ⟨e1, e2, e3⟩ := All3.ints h1
  refine ⟨b, z, rfl, hz, hm, e2, ?_⟩
  rcases h2 with ⟨h2, _⟩ | ⟨_, h3, h4⟩
  · exact .inl h2
  · rw [e3] at h3; rw [e1] at h4
    exact .inr ⟨h4, hb b (by simp [h3])⟩
end Am
