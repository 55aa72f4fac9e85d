/- Contracts: HexText, and the law on it. -/
import Derived.Test.YtpdhmojncndobaaAmBuf
import Derived.Test.YtpdhmojncndobaaAmTab
set_option linter.unusedVariables false
set_option linter.unusedSimpArgs false
set_option maxHeartbeats 4000000
namespace Am
open Go
def hexDigits : List UInt8 := [48, 49, 50, 51, 52, 53, 54, 55, 56, 57, 97, 98, 99, 100, 101, 102]
def hexD (n : Nat) : UInt8 := hexDigits.getD n 0
def hexOf (c : UInt8) : List UInt8 := [hexD (c.toNat / 16), hexD (c.toNat % 16)]
def hexText (l : List UInt8) : List UInt8 := l.flatMap hexOf
def bytesV (l : List UInt8) : List Value := l.map fun b => U b.toNat

theorem asInts_bytes (l : List UInt8) : asInts (bytesV l) = some l := by
  induction l with
  | nil => rfl
  | cons c l ih => simp only [bytesV, List.map_cons, asInts] at ih ⊢; rw [ih]; simp

theorem text_buf {h0 h : Heap} {v : Value} {l : List UInt8} (hv : Buf h0 h v 1 (bytesV l)) : aConv 21 v h = some (S l, h) := by
  rcases hv with ⟨h1, rfl⟩ | ⟨b, n, rfl, h2, h3, h4⟩
  · have : l = [] := by simpa [bytesV] using h1
    subst this; simp [aConv]
  · simp only [aConv]
    by_cases hn : n = 0
    · subst hn
      have : l = [] := by simp [bytesV] at h2; simpa using h2.symm
      subst this; simp
    · have hc := cellsAt_all (n := n) h4 (by simpa using h2)
      simp [hn, hc, asInts_bytes]

theorem hex_idx (n : Nat) (h : n < 16) : (hexDigits[n]?).map (fun b => U b.toNat) = some (U (hexD n).toNat) := by
  have : n < hexDigits.length := by simpa [hexDigits] using h
  simp [hexD, List.getElem?_eq_getElem this]

theorem hex_hi (c : UInt8) : (if 0 ≤ IntKind.u8.wrap (↑c.toNat / 16) ∧ IntKind.u8.wrap (↑c.toNat / 16) < 16 then
          Option.map (fun b : UInt8 => U ↑b.toNat) [48, 49, 50, 51, 52, 53, 54, 55, 56, 57, 97, 98, 99, 100, 101, 102][(IntKind.u8.wrap (↑c.toNat / 16)).toNat]? else none) = some (U ((hexD (c.toNat / 16)).toNat : Int)) := by
  have hc : c.toNat < 256 := UInt8.toNat_lt _
  have e : IntKind.u8.wrap ((c.toNat : Int) / 16) = ((c.toNat / 16 : Nat) : Int) := by rw [wrap8 (by omega) (by omega)]; omega
  rw [e, if_pos (by omega)]
  exact hex_idx (c.toNat / 16) (by omega)
theorem hex_lo (c : UInt8) : (if 0 ≤ (↑c.toNat : Int) % 16 ∧ (↑c.toNat : Int) % 16 < 16 then
          Option.map (fun b : UInt8 => U ↑b.toNat) [48, 49, 50, 51, 52, 53, 54, 55, 56, 57, 97, 98, 99, 100, 101, 102][((↑c.toNat : Int) % 16).toNat]? else none) = some (U ((hexD (c.toNat % 16)).toNat : Int)) := by
  have hc : c.toNat < 256 := UInt8.toNat_lt _
  have e : ((c.toNat : Int) % 16) = ((c.toNat % 16 : Nat) : Int) := by omega
  rw [e, if_pos (by omega)]
  exact hex_idx (c.toNat % 16) (by omega)
theorem hexText_len (l : List UInt8) : (hexText l).length = 2 * l.length := by
  induction l with
  | nil => rfl
  | cons c l ih =>
    simp only [hexText, List.flatMap_cons, List.length_append, List.length_cons] at ih ⊢
    simp only [hexOf, List.length_cons, List.length_nil] at ih ⊢
    omega
theorem hexText_step (l : List UInt8) (k : Nat) (hk : k < l.length) : hexText (l.take (k + 1)) = hexText (l.take k) ++ hexOf l[k] := by
  unfold hexText; rw [List.take_succ_eq_append_getElem hk, List.flatMap_append]; simp

/-- The step that both have: two letters are appended. -/
theorem hex_step {h h' : Heap} {v : Value} {l : List UInt8} {k : Nat} {K : Value → Heap → Prop} (hp : 0 < h.length) (hl : l.length ≤ 1048576) (hlt : k < l.length) (hg : Grows h h') (hv : Buf h h' v 1 (bytesV (hexText (l.take k))))
    (hK : ∀ v' h'', Grows h h'' → Buf h h'' v' 1 (bytesV (hexText (l.take (k + 1)))) → K v' h'') :
    bindW (aBuildSlice 1 2 h' [(0, Value.agg #[U 0, U 0]), (1, U ((hexD (l[k].toNat / 16)).toNat : Int)), (1001, U ((hexD (l[k].toNat % 16)).toNat : Int))]) fun x h'' => bindW (aAppend 1 h'' x v) K := by
  have e : aBuildSlice 1 2 h' [(0, Value.agg #[U 0, U 0]), (1, U ((hexD (l[k].toNat / 16)).toNat : Int)), (1001, U ((hexD (l[k].toNat % 16)).toNat : Int))] =
      some (sl h'.length 0 2 1, h' ++ [⟨bytesV (hexOf l[k]), true⟩]) := by simp [aBuildSlice, bytesV, hexOf]
  rw [e]
  simp only [bindW_some]
  have hlen := hexText_len (l.take k)
  simp at hlen
  refine append_buf hp (hg.push _) (hv.grow ⟨_, rfl⟩) (new := bytesV (hexOf l[k])) ?_ (by omega) (by simp [bytesV, hexOf]) (by simp [bytesV, hexOf]) (by simp [bytesV, hexOf, hlen, maxSize]; omega) ?_
  · simp [newCells]
    rw [cellsAt_of (k := ⟨bytesV (hexOf l[k]), true⟩) (by simp) (by simp [bytesV, hexOf])]
    simp [bytesV, hexOf]
  · intro v' h'' g1 b1 _
    refine hK v' h'' g1 ?_
    rw [hexText_step l k hlt]
    simpa [bytesV] using b1

theorem c87 (l : List UInt8) (hl : l.length ≤ 1048576) (h : Heap) (hp : 0 < h.length) : ACall Gam 87 [S l] h fun v h' => v = S (hexText l) ∧ Grows h h' := by
  refine ACall_intro g87 rfl ?_
  unfold fn87
  simp (disch := omega)
  refine awp_loop (fun k σ h' => Grows h h' ∧ k ≤ l.length ∧ σ 0 = S l ∧ Buf h h' (σ 3) 1 (bytesV (hexText (l.take k))) ∧ σ 7 = I l.length ∧ σ 8 = I k) (fun k => l.length - k) 0 ?_ ?_
  · simp [hexText, bytesV, Grows.refl, Buf.nil]
  · rintro k σ h' ⟨hg, hk, h0, h3, h7, h8⟩
    simp [h7, h8]
    refine fork_dec (fun hlt => ?_) (fun hge => ?_)
    · simp (disch := omega) [h0, h7, h8, hlt, tmod_pos]
      rw [hex_hi, hex_lo]
      simp only [with_some, bindW_some]
      refine hex_step hp hl hlt hg h3 fun v' h'' g1 b1 => ⟨k + 1, ⟨g1, by omega, b1, ?_⟩, by omega⟩
      rw [wrap64 (by omega) (by omega)]; simp
    · have e : k = l.length := by omega
      subst e
      simp only [List.take_length] at h3 ⊢
      simp [text_buf h3, hg]

theorem c380 (l : List UInt8) (hl : l.length ≤ 1048576) (h : Heap) (hp : 0 < h.length) : ACall Gam 380 [S l] h fun v h' => v = S (hexText l) ∧ Grows h h' := by
  refine ACall_intro g380 rfl ?_
  unfold fn380
  simp (disch := omega)
  refine awp_loop (fun k σ h' => Grows h h' ∧ k ≤ l.length ∧ σ 0 = S l ∧ σ 3 = S hexDigits ∧ Buf h h' (σ 4) 1 (bytesV (hexText (l.take k))) ∧ σ 5 = I k) (fun k => l.length - k) 0 ?_ ?_
  · simp [hexText, bytesV, Grows.refl, Buf.nil, hexDigits]
  · rintro k σ h' ⟨hg, hk, h0, h3, h4, h5⟩
    simp (disch := omega) [h0, h5]
    refine fork_dec (fun hlt => ?_) (fun hge => ?_)
    · simp (disch := omega) [h0, h3, h5, hlt, tmod_pos, hexDigits]
      rw [hex_hi, hex_lo]
      simp only [with_some, bindW_some]
      refine hex_step hp hl hlt hg h4 fun v' h'' g1 b1 => ⟨k + 1, ⟨g1, by omega, b1, ?_⟩, by omega⟩
      rw [wrap64 (by omega) (by omega)]; simp
    · have e : k = l.length := by omega
      subst e
      simp only [List.take_length] at h4 ⊢
      simp [text_buf h4, hg]

theorem law217 (l : List UInt8) (hl : l.length ≤ 9223372036854775807) (h : Heap) (hp : 0 < h.length) : ACall Gam 217 [S l] h fun v _ => v = .bool true := by
  refine ACall_intro g217 rfl ?_
  unfold fn217
  simp (disch := omega)
  refine fork_dec (fun hgt => ?_) (fun hle => ?_)
  · simp
  · simp (disch := omega)
    refine callW_of (c380 l (by omega) h hp) ?_
    rintro v h' ⟨rfl, hg⟩
    simp
    refine callW_of (c87 l (by omega) h' (Nat.lt_of_lt_of_le hp hg.le)) ?_
    rintro v h'' ⟨rfl, hg⟩
    simp
end Am
