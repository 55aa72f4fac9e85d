/- Contracts: packed panels. -/
import Derived.Test.YtpdhmojncndobaaAmP1
import Derived.Test.YtpdhmojncndobaaAmC1
import Derived.Test.YtpdhmojncndobaaAmC6
set_option linter.unusedVariables false
set_option linter.unusedSimpArgs false
set_option maxHeartbeats 4000000
namespace Am
open Go

def byteI (x : Int) : UInt8 := UInt8.ofNat x.toNat
theorem byteI_toNat {x : Int} (h : 0 ≤ x ∧ x < 256) : ((byteI x).toNat : Int) = x := by
  simp [byteI]; omega
theorem append_bytes {h h' : Heap} {v : Value} {l xs : List UInt8} {n : Nat} {bs : Option (Value × Heap)} {K : Value → Heap → Prop} (hp : 0 < h.length) (hl : l.length + xs.length ≤ 1048576) (hg : Grows h h') (hv : Buf h h' v 1 (bytesV l)) (hne : xs ≠ []) (hn : n = xs.length)
    (e : bs = some (sl h'.length 0 n 1, h' ++ [⟨bytesV xs, true⟩]))
    (hK : ∀ v' h'', Grows h h'' → Buf h h'' v' 1 (bytesV (l ++ xs)) → K v' h'') : bindW bs fun y h'' => bindW (aAppend 1 h'' y v) K := by
  subst hn
  rw [e]
  simp only [bindW_some]
  have hne' : xs.length ≠ 0 := by simpa using hne
  refine append_buf hp (hg.push _) (hv.grow ⟨_, rfl⟩) (new := bytesV xs) ?_ (by omega) (by simpa [bytesV] using hne) (by simp [bytesV]) (by simp [bytesV, maxSize]; omega) ?_
  · simp [newCells, hne]
    rw [cellsAt_of (k := ⟨bytesV xs, true⟩) (by simp) (by simp [bytesV])]
    simp [bytesV, List.take_of_length_le]
  · intro v' h'' g1 b1 _
    exact hK v' h'' g1 (by simpa [bytesV] using b1)

theorem checksum_bd (l : List UInt8) : 0 ≤ checksum l ∧ checksum l < 64256 := by
  have := sums_bd l
  unfold checksum; omega
def ended (l : List UInt8) : List UInt8 := l ++ [byteI (checksum l / 256), byteI (checksum l % 256)]
theorem ended_len (l : List UInt8) : (ended l).length = l.length + 2 := by simp [ended]

theorem two_bytes {h' : Heap} {l : List UInt8} : aBuildSlice 1 2 h' [(0, Value.agg #[U 0, U 0]), (1, U (IntKind.u8.wrap (checksum l / 256))), (1001, U (IntKind.u8.wrap (checksum l % 256)))] =
    some (sl h'.length 0 2 1, h' ++ [⟨bytesV [byteI (checksum l / 256), byteI (checksum l % 256)], true⟩]) := by
  have hb := checksum_bd l
  rw [wrap8 (by omega) (by omega), wrap8 (by omega) (by omega)]
  simp [aBuildSlice, bytesV, byteI]
  omega

theorem c568 (l : List UInt8) (hl : l.length ≤ 1048000) (h0 h : Heap) (hp : 0 < h0.length) (v : Value) (hg : Grows h0 h) (hv : Buf h0 h v 1 (bytesV l)) : ACall Gam 568 [v] h fun r h' => r = S (ended l) ∧ Grows h0 h' := by
  have hb := checksum_bd l
  refine ACall_intro g568 rfl ?_
  unfold fn568
  simp (disch := omega)
  rw [text_buf hv]
  simp
  refine callW_of (c573 l (by omega) h) ?_
  rintro v' h' ⟨rfl, rfl⟩
  simp (disch := omega) [wrap64, tdiv_pos, tmod_pos]
  refine append_bytes hp (xs := [byteI (checksum l / 256), byteI (checksum l % 256)]) (by simp; omega) hg hv (by simp) rfl two_bytes ?_
  intro v' h'' g1 b1
  rw [text_buf b1]
  simp [ended]
  exact g1

theorem c191 (l : List UInt8) (hl : l.length ≤ 1048000) (h : Heap) : ACall Gam 191 [S l] h fun r h' => r = S (ended l) ∧ Grows h h' := by
  have hb := checksum_bd l
  refine ACall_intro g191 rfl ?_
  unfold fn191
  simp (disch := omega)
  refine callW_of (c64 l (by omega) h) ?_
  rintro v' h' ⟨rfl, rfl⟩
  simp (disch := omega) [wrap64, tdiv_pos, tmod_pos]
  rw [two_bytes]
  simp only [bindW_some]
  rw [text_buf (h0 := h') (l := [byteI (checksum l / 256), byteI (checksum l % 256)]) (.inr ⟨h'.length, 2, rfl, by simp [bytesV], Nat.le_refl _, by simp⟩)]
  simp
  rw [if_pos (by omega)]
  simp [ended]
  exact ⟨_, rfl⟩

/-! ### the digits of five breaks -/

def pv (br : List Int) (i : Nat) : Nat → Int
  | 0 => 0
  | j + 1 => 3 * pv br i j + at0 br (i + j)
def fiveV (br : List Int) (i : Nat) : Int := pv br i 5
theorem at0_bd {br : List Int} (hb : ∀ x ∈ br, 0 ≤ x ∧ x ≤ 2) (i : Nat) : 0 ≤ at0 br i ∧ at0 br i ≤ 2 := by
  unfold at0
  rw [List.getD_eq_getElem?_getD]
  by_cases h : i < br.length
  · rw [List.getElem?_eq_getElem h]
    exact hb _ (List.getElem_mem h)
  · rw [List.getElem?_eq_none (by omega)]; simp
theorem pv_bd {br : List Int} (hb : ∀ x ∈ br, 0 ≤ x ∧ x ≤ 2) (i : Nat) : ∀ j, 0 ≤ pv br i j ∧ pv br i j < 3 ^ j
  | 0 => by simp [pv]
  | j + 1 => by
    have := pv_bd hb i j
    have h2 := at0_bd hb (i + j)
    simp only [pv, Int.pow_succ]
    omega
theorem pv_le {br : List Int} (hb : ∀ x ∈ br, 0 ≤ x ∧ x ≤ 2) (i j : Nat) (hj : j ≤ 5) : 0 ≤ pv br i j ∧ pv br i j ≤ 242 ∧ (j ≤ 4 → pv br i j ≤ 80) := by
  have h1 := pv_bd hb i j
  have : j = 0 ∨ j = 1 ∨ j = 2 ∨ j = 3 ∨ j = 4 ∨ j = 5 := by omega
  rcases this with rfl | rfl | rfl | rfl | rfl | rfl <;> simp at h1 <;> omega
def packB (br : List Int) (q : Nat) : List UInt8 := (List.range q).map fun i => byteI (fiveV br (5 * i))
theorem packB_succ (br : List Int) (q : Nat) : packB br (q + 1) = packB br q ++ [byteI (fiveV br (5 * q))] := by simp [packB, List.range_succ]
theorem packB_len (br : List Int) (q : Nat) : (packB br q).length = q := by simp [packB]
def packBody (X : Pan) : List UInt8 := [77, byteI X.1, byteI X.2.1] ++ packB X.2.2 ((X.2.2.length + 4) / 5)
def packP (X : Pan) : List UInt8 := ended (packBody X)

theorem three_bytes {h' : Heap} {W H : Int} (hW : 1 ≤ W ∧ W ≤ 8) (hH : 1 ≤ H ∧ H ≤ 8) : aBuildSlice 1 3 h' [(0, Value.agg #[U 0, U 0, U 0]), (1, U 77), (1001, U (IntKind.u8.wrap W)), (2001, U (IntKind.u8.wrap H))] =
    some (sl h'.length 0 3 1, h' ++ [⟨bytesV [77, byteI W, byteI H], true⟩]) := by
  rw [wrap8 (by omega) (by omega), wrap8 (by omega) (by omega)]
  simp [aBuildSlice, bytesV, byteI]
  omega
theorem one_byte {h' : Heap} {x : Int} (hx : 0 ≤ x ∧ x < 256) : aBuildSlice 1 1 h' [(0, Value.agg #[U 0]), (1, U x)] = some (sl h'.length 0 1 1, h' ++ [⟨bytesV [byteI x], true⟩]) := by
  simp [aBuildSlice, bytesV, byteI]
  omega

theorem c571 (v : Value) (X : Pan) (h : Heap) (hp : 0 < h.length) (hv : PtP h v X) (ok : OkP X) : ACall Gam 571 [v] h fun r h' => r = S (packP X) ∧ Grows h h' := by
  obtain ⟨b, o, s, rfl, h1, h2, h3, hs, hW, hH⟩ := hv
  obtain ⟨W, H, br⟩ := X
  obtain ⟨b2, o2, z, rfl, _, hm, hx, hc⟩ := hs.ints
  obtain ⟨qW, qH, qn, qb⟩ := ok
  have qi := inner_bd qW qH
  simp only at h1 h2 qW qH qn qb qi
  refine ACall_intro g571 rfl ?_
  unfold fn571
  simp (disch := omega) [h1, h2]
  rw [three_bytes qW qH]
  simp
  have g0 : Grows h (h ++ [⟨bytesV [77, byteI W, byteI H], true⟩]) := ⟨_, rfl⟩
  refine awp_loop (fun q σ h' => Grows h h' ∧ 5 * q ≤ br.length + 4 ∧ σ 0 = pt b o ∧ σ 4 = I ((5 * q : Nat) : Int) ∧ Buf h h' (σ 3) 1 (bytesV ([77, byteI W, byteI H] ++ packB br q))) (fun q => br.length + 4 - 5 * q) 0 ?_ ?_
  · refine ⟨g0, by omega, by simp, by simp, ?_⟩
    simp [packB]
    exact .inr ⟨h.length, 3, rfl, by simp [bytesV], Nat.le_refl _, by simp⟩
  · rintro q σ h' ⟨hg, hq, q0, q4, hb⟩
    have h3' := hg.cell h3
    simp (disch := omega) [q0, q4, h3']
    refine fork_dec (fun hlt => ?_) (fun hge => ?_)
    · simp (disch := omega) [q0, q4]
      refine awp_loop (fun j σ' h'' => h'' = h' ∧ j ≤ 5 ∧ σ' 0 = pt b o ∧ σ' 3 = σ 3 ∧ σ' 4 = I ((5 * q : Nat) : Int) ∧ σ' 6 = I ((5 * q + j : Nat) : Int) ∧ σ' 5 = I (pv br (5 * q) j)) (fun j => 5 - j) 0 ?_ ?_
      · simp [q0, q4, pv]
      · rintro j σ' h'' ⟨rfl, hj, p0, p3, p4, p6, p5⟩
        simp (disch := omega) [p4, p6, wrap64]
        refine fork_dec (fun hlt2 => ?_) (fun hge2 => ?_)
        · have hj4 : j ≤ 4 := by omega
          have hpv := pv_le qb (5 * q) j hj
          have hpv2 := pv_le qb (5 * q) (j + 1) (by omega)
          have e1 : pv br (5 * q) (j + 1) = 3 * pv br (5 * q) j + at0 br (5 * q + j) := rfl
          have ha := at0_bd qb (5 * q + j)
          simp (disch := omega) [p0, p5, p6, h3', wrap64]
          refine fork_dec (fun hlt3 => ?_) (fun hge3 => ?_)
          · have k1 : 5 * q + j < br.length := by omega
            have hcell := ints_cell (hc.imp id (grows_cellsAt hg)) k1
            have eat : at0 br (5 * q + j) = br[5 * q + j] := by simp [at0, k1]
            have et : (5 * (q : Int) + j).toNat = 5 * q + j := by omega
            have c1 : (0 : Int) ≤ 5 * q + j := by omega
            have c2 : 5 * (q : Int) + j < br.length := by omega
            simp (disch := omega) [p0, p5, p6, h3', et, c1, c2, hcell, wrap64, p3, p4]
            refine ⟨j + 1, ⟨by omega, by omega, ?_⟩, by omega⟩
            rw [e1, eat]; omega
          · have eat : at0 br (5 * q + j) = 0 := by
              unfold at0; rw [List.getD_eq_getElem?_getD, List.getElem?_eq_none (by omega)]; rfl
            simp (disch := omega) [p0, p5, p6, p3, p4, wrap64]
            exact ⟨j + 1, ⟨by omega, by omega, by omega⟩, by omega⟩
        · have : j = 5 := by omega
          subst this
          have hpv := pv_le qb (5 * q) 5 (by omega)
          simp (disch := omega) [p0, p5, p3, p4, wrap64]
          rw [wrap8 (by omega) (by omega)]
          refine append_bytes hp (xs := [byteI (pv br (5 * q) 5)]) (by simp [packB_len]; omega) hg hb (by simp) rfl (one_byte (by omega)) ?_
          intro v' h2 g1 b1
          refine ⟨q + 1, ⟨g1, by omega, by omega, ?_⟩, by omega⟩
          rw [packB_succ]
          simpa [fiveV] using b1
    · have e : q = (br.length + 4) / 5 := by omega
      simp (disch := omega) [q0, q4]
      refine callW_of (c568 _ (by simp [packB_len]; omega) h h' hp _ hg hb) ?_
      rintro v' h2 ⟨rfl, g2⟩
      simp [packP, packBody, ← e]
      exact g2

theorem c180 (v : Value) (X : Pan) (h : Heap) (hp : 0 < h.length) (hv : Vr h shPanel v X) (ok : OkP X) : ACall Gam 180 [v] h fun r h' => r = S (packP X) ∧ Grows h h' := by
  obtain ⟨W, H, br⟩ := X
  obtain ⟨s, rfl, hW, hH, hs⟩ := hv.panel
  obtain ⟨b2, o2, z, rfl, _, hm, hx, hc⟩ := hs.ints
  obtain ⟨qW, qH, qn, qb⟩ := ok
  have qi := inner_bd qW qH
  simp only at qW qH qn qb qi
  refine ACall_intro g180 rfl ?_
  unfold fn180
  simp (disch := omega)
  rw [three_bytes qW qH]
  simp
  have g0 : Grows h (h ++ [⟨bytesV [77, byteI W, byteI H], true⟩]) := ⟨_, rfl⟩
  refine awp_loop (fun q σ h' => Grows h h' ∧ 5 * q ≤ br.length + 4 ∧ σ 1 = .agg #[I W, I H, sl b2 o2 br.length z] ∧ σ 4 = I ((5 * q : Nat) : Int) ∧ Buf h h' (σ 3) 1 (bytesV ([77, byteI W, byteI H] ++ packB br q))) (fun q => br.length + 4 - 5 * q) 0 ?_ ?_
  · refine ⟨g0, by omega, by simp, by simp, ?_⟩
    simp [packB]
    exact .inr ⟨h.length, 3, rfl, by simp [bytesV], Nat.le_refl _, by simp⟩
  · rintro q σ h' ⟨hg, hq, q0, q4, hb⟩
    simp (disch := omega) [q0, q4]
    refine fork_dec (fun hlt => ?_) (fun hge => ?_)
    · simp (disch := omega) [q0, q4]
      refine awp_loop (fun j σ' h'' => h'' = h' ∧ j ≤ 5 ∧ σ' 1 = .agg #[I W, I H, sl b2 o2 br.length z] ∧ σ' 3 = σ 3 ∧ σ' 4 = I ((5 * q : Nat) : Int) ∧ σ' 6 = I ((5 * q + j : Nat) : Int) ∧ σ' 5 = U (pv br (5 * q) j)) (fun j => 5 - j) 0 ?_ ?_
      · simp [q0, q4, pv]
      · rintro j σ' h'' ⟨rfl, hj, p0, p3, p4, p6, p5⟩
        simp (disch := omega) [p4, p6, wrap64]
        refine fork_dec (fun hlt2 => ?_) (fun hge2 => ?_)
        · have hj4 : j ≤ 4 := by omega
          have hpv := pv_le qb (5 * q) j hj
          have hpv2 := pv_le qb (5 * q) (j + 1) (by omega)
          have e1 : pv br (5 * q) (j + 1) = 3 * pv br (5 * q) j + at0 br (5 * q + j) := rfl
          have ha := at0_bd qb (5 * q + j)
          simp (disch := omega) [p0, p5, p6, wrap64, wrap8]
          refine fork_dec (fun hlt3 => ?_) (fun hge3 => ?_)
          · have k1 : 5 * q + j < br.length := by omega
            have hcell := ints_cell (hc.imp id (grows_cellsAt hg)) k1
            have eat : at0 br (5 * q + j) = br[5 * q + j] := by simp [at0, k1]
            have et : (5 * (q : Int) + j).toNat = 5 * q + j := by omega
            have c1 : (0 : Int) ≤ 5 * q + j := by omega
            have c2 : 5 * (q : Int) + j < br.length := by omega
            simp (disch := omega) [p0, p5, p6, et, c1, c2, hcell, wrap64, p3, p4]
            refine ⟨j + 1, ⟨by omega, by omega, ?_⟩, by omega⟩
            rw [wrap8 (n := br[5 * q + j]) (by rw [← eat]; omega) (by rw [← eat]; omega), wrap8 (by rw [← eat]; omega) (by rw [← eat]; omega), e1, eat]; omega
          · have eat : at0 br (5 * q + j) = 0 := by
              unfold at0; rw [List.getD_eq_getElem?_getD, List.getElem?_eq_none (by omega)]; rfl
            simp (disch := omega) [p0, p5, p6, p3, p4, wrap64]
            exact ⟨j + 1, ⟨by omega, by omega, by omega⟩, by omega⟩
        · have : j = 5 := by omega
          subst this
          have hpv := pv_le qb (5 * q) 5 (by omega)
          simp (disch := omega) [p0, p5, p3, p4, wrap64]
          refine append_bytes hp (xs := [byteI (pv br (5 * q) 5)]) (by simp [packB_len]; omega) hg hb (by simp) rfl (one_byte (by omega)) ?_
          intro v' h2 g1 b1
          refine ⟨q + 1, ⟨g1, by omega, by omega, ?_⟩, by omega⟩
          rw [packB_succ]
          simpa [fiveV] using b1
    · have e : q = (br.length + 4) / 5 := by omega
      simp (disch := omega) [q0, q4]
      rw [text_buf hb]
      simp
      refine callW_of (c191 _ (by simp [packB_len]; omega) h') ?_
      rintro v' h2 ⟨rfl, g2⟩
      simp [packP, packBody, ← e]
      exact hg.trans g2

def packAnsP (X : Pan) : List UInt8 × Int := if okP X then (packP X, 0) else ([], 1)
theorem c398 (h : Heap) (hp : 0 < h.length) (v : Value) (X : Pan) (hv : Vr h shPanel v X) (hs : siz shPanel X ≤ 1048576) : ACall Gam 398 [v] h fun r h' => Grows h h' ∧ r = .tuple #[S (packAnsP X).1, I (packAnsP X).2] := by
  obtain ⟨W, H, br⟩ := X
  obtain ⟨s, rfl, hW, hH, hs⟩ := hv.panel
  refine ACall_intro g398 rfl ?_
  unfold fn398
  simp (disch := omega)
  have hpt : PtP (h ++ [⟨[I W, I H, s], true⟩]) (pt h.length 0) (W, H, br) := PtP.push hs hW hH
  refine callW_of (c452 _ _ _ hpt) ?_
  rintro v' h' ⟨rfl, rfl⟩
  cases hb : okP (W, H, br)
  · simp [packAnsP, hb]
    exact ⟨_, rfl⟩
  · simp
    refine callW_of (c571 _ _ _ (by simp) hpt (okP_iff.1 hb)) ?_
    rintro v' h' ⟨rfl, g⟩
    simp [packAnsP, hb]
    exact Grows.trans ⟨_, rfl⟩ g
theorem c107 (h : Heap) (hp : 0 < h.length) (v : Value) (X : Pan) (hv : Vr h shPanel v X) (hs : siz shPanel X ≤ 1048576) : ACall Gam 107 [v] h fun r h' => Grows h h' ∧ r = .tuple #[S (packAnsP X).1, I (packAnsP X).2] := by
  obtain ⟨W, H, br⟩ := X
  have hv0 := hv
  obtain ⟨s, rfl, hW, hH, hs⟩ := hv.panel
  refine ACall_intro g107 rfl ?_
  unfold fn107
  simp (disch := omega)
  refine callW_of (c140 _ _ h hv0) ?_
  rintro v' h' ⟨rfl, rfl⟩
  cases hb : okP (W, H, br)
  · simp [packAnsP, hb, Grows.refl]
  · simp
    refine callW_of (c180 _ _ _ hp hv0 (okP_iff.1 hb)) ?_
    rintro v' h' ⟨rfl, g⟩
    simp [packAnsP, hb, g]
end Am
