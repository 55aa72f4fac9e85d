/- Contracts: ReadHex, and the law on it. -/
import Derived.Test.YtpdhmojncndobaaAmC2
import Derived.Test.YtpdhmojncndobaaAmTab
set_option linter.unusedVariables false
set_option linter.unusedSimpArgs false
set_option maxHeartbeats 4000000
namespace Am
open Go
def digitV (c : UInt8) : Int := if 48 ≤ c.toNat ∧ c.toNat ≤ 57 then c.toNat - 48 else if 97 ≤ c.toNat ∧ c.toNat ≤ 102 then c.toNat - 97 + 10 else -1
theorem digitV_bd (c : UInt8) : -1 ≤ digitV c ∧ digitV c ≤ 15 := by
  unfold digitV
  split
  · omega
  · split <;> omega

theorem c567 (c : UInt8) (h : Heap) : ACall Gam 567 [U c.toNat] h fun v h' => v = I (digitV c) ∧ h' = h := by
  have hc : c.toNat < 256 := UInt8.toNat_lt _
  refine ACall_intro g567 rfl ?_
  unfold fn567
  simp (disch := omega)
  refine fork_dec (fun h1 => ?_) (fun h1 => ?_)
  · simp (disch := omega) [h1]
    refine fork_dec (fun h2 => ?_) (fun h2 => ?_)
    · simp (disch := omega)
      rw [wrap8 (by omega) (by omega), wrap64 (by omega) (by omega)]
      simp [digitV]; omega
    · simp (disch := omega)
      refine fork_dec (fun h3 => ?_) (fun h3 => ?_)
      · simp (disch := omega) [h3]
        refine fork_dec (fun h4 => ?_) (fun h4 => ?_)
        · simp (disch := omega)
          have e : IntKind.i64.wrap (IntKind.u8.wrap ((c.toNat : Int) - 97)) = (c.toNat : Int) - 97 := by rw [wrap8 (by omega) (by omega), wrap64 (by omega) (by omega)]
          rw [e, wrap64 (by omega) (by omega)]
          simp [digitV]; omega
        · simp (disch := omega)
          simp [digitV]; omega
      · simp (disch := omega) [h3]
        simp [digitV]; omega
  · simp (disch := omega) [h1]
    refine fork_dec (fun h3 => ?_) (fun h3 => ?_)
    · exfalso; omega
    · simp (disch := omega) [h3]
      simp [digitV]; omega

/-- The first place of a byte. -/
def idx : List UInt8 → UInt8 → Nat → Int
  | [], _, _ => -1
  | x :: r, c, i => if x = c then i else idx r c (i + 1)
theorem idx_drop (s : List UInt8) (c : UInt8) (k : Nat) (hk : k < s.length) : idx (s.drop k) c k = if s[k] = c then (k : Int) else idx (s.drop (k + 1)) c (k + 1) := by
  rw [List.drop_eq_getElem_cons hk]; rfl
theorem c183 (s : List UInt8) (hs : s.length ≤ 1048576) (c : UInt8) (h : Heap) : ACall Gam 183 [S s, U c.toNat, I 0] h fun v h' => v = I (idx s c 0) ∧ h' = h := by
  refine ACall_intro g183 rfl ?_
  unfold fn183
  simp (disch := omega)
  refine awp_loop (fun k σ h' => h' = h ∧ k ≤ s.length ∧ idx (s.drop k) c k = idx s c 0 ∧ σ 0 = S s ∧ σ 1 = U c.toNat ∧ σ 7 = I k) (fun k => s.length - k) 0 ?_ ?_
  · simp
  · rintro k σ h' ⟨rfl, hk, hd, h0, h1, h7⟩
    simp (disch := omega) [h0, h7]
    refine fork_dec (fun hlt => ?_) (fun hge => ?_)
    · rw [idx_drop s c k hlt] at hd
      simp (disch := omega) [h0, h1, h7, hlt]
      refine fork_dec (fun he => ?_) (fun he => ?_)
      · have : s[k] = c := UInt8.toNat_inj.1 (by omega)
        rw [if_pos this] at hd
        simp (disch := omega) [h0, h1, h7, hd]
      · have : ¬ s[k] = c := fun e => he (by rw [e])
        rw [if_neg this] at hd
        simp (disch := omega) [h0, h1, h7, wrap64]
        exact ⟨k + 1, ⟨by omega, hd, by omega⟩, by omega⟩
    · have : k = s.length := by omega
      subst this
      simp [idx] at hd
      simp (disch := omega) [h0, h1, h7, hd]

theorem idx_hex (c : UInt8) : idx hexDigits c 0 = digitV c := by
  have hc : c.toNat < 256 := UInt8.toNat_lt _
  have key : ∀ n : Fin 256, idx hexDigits (UInt8.ofNat n.val) 0 = digitV (UInt8.ofNat n.val) := by decide +kernel
  have := key ⟨c.toNat, hc⟩
  simpa using this
theorem c183h (c : UInt8) (h : Heap) : ACall Gam 183 [S hexDigits, U c.toNat, I 0] h fun v h' => v = I (digitV c) ∧ h' = h := by
  have := c183 hexDigits (by simp [hexDigits]) c h
  rwa [idx_hex] at this
def rdHex : List UInt8 → List UInt8 → List UInt8 × Bool
  | x :: y :: r, acc => if digitV x < 0 ∨ digitV y < 0 then ([], false) else rdHex r (acc ++ [UInt8.ofNat (16 * digitV x + digitV y).toNat])
  | _, acc => (acc, true)
def readHex (s : List UInt8) : List UInt8 × Bool := if s.length % 2 = 1 then ([], false) else rdHex s []

theorem rd_step (s acc : List UInt8) (j : Nat) (hk : j + 1 < s.length) : rdHex (s.drop j) acc = if digitV s[j] < 0 ∨ digitV s[j + 1] < 0 then ([], false) else rdHex (s.drop (j + 2)) (acc ++ [UInt8.ofNat (16 * digitV s[j] + digitV s[j + 1]).toNat]) := by
  rw [List.drop_eq_getElem_cons (show j < s.length by omega), List.drop_eq_getElem_cons hk]; rfl

/-- One byte is appended. -/
theorem byte_step {h h' : Heap} {v : Value} {l : List UInt8} {x : Int} {K : Value → Heap → Prop} (hp : 0 < h.length) (hl : l.length ≤ 1048576) (hx : 0 ≤ x ∧ x < 256) (hg : Grows h h') (hv : Buf h h' v 1 (bytesV l))
    (hK : ∀ v' h'', Grows h h'' → Buf h h'' v' 1 (bytesV (l ++ [UInt8.ofNat x.toNat])) → K v' h'') :
    bindW (aBuildSlice 1 1 h' [(0, Value.agg #[U 0]), (1, U x)]) fun y h'' => bindW (aAppend 1 h'' y v) K := by
  have e : aBuildSlice 1 1 h' [(0, Value.agg #[U 0]), (1, U x)] = some (sl h'.length 0 1 1, h' ++ [⟨[U x], true⟩]) := by simp [aBuildSlice]
  rw [e]
  simp only [bindW_some]
  refine append_buf hp (hg.push _) (hv.grow ⟨_, rfl⟩) (new := [U x]) ?_ (by omega) (by simp) (by simp) (by simp [bytesV, maxSize]; omega) ?_
  · simp [newCells]
    rw [cellsAt_of (k := ⟨[U x], true⟩) (by simp) (by simp)]
    simp
  · intro v' h'' g1 b1 _
    refine hK v' h'' g1 ?_
    have e2 : max x 0 % 256 = x := by omega
    simpa [bytesV, e2] using b1

theorem c411 (s : List UInt8) (hs : s.length ≤ 1048576) (h : Heap) (hp : 0 < h.length) : ACall Gam 411 [S s] h fun v h' => v = .tuple #[S (readHex s).1, B (readHex s).2] ∧ Grows h h' := by
  refine ACall_intro g411 rfl ?_
  unfold fn411
  simp (disch := omega) [tmod_pos]
  refine fork_dec (fun hodd => ?_) (fun heven => ?_)
  · have : s.length % 2 = 1 := by omega
    simp (disch := omega) [readHex, this, Grows.refl]
  · have hev : s.length % 2 = 0 := by omega
    have hR : readHex s = rdHex s [] := by simp [readHex, hev]
    simp (disch := omega)
    refine awp_loop (fun j σ h' => Grows h h' ∧ j ≤ s.length ∧ j % 2 = 0 ∧ σ 0 = S s ∧ σ 5 = I j ∧ ∃ acc : List UInt8, 2 * acc.length = j ∧ Buf h h' (σ 4) 1 (bytesV acc) ∧ rdHex (s.drop j) acc = rdHex s []) (fun k => s.length - k) 0 ?_ ?_
    · simp [Grows.refl]
      exact ⟨[], rfl, Buf.nil, rfl⟩
    · rintro j σ h' ⟨hg, hk, hj2, h0, h5, acc, hacc, hB, hd⟩
      simp (disch := omega) [h0, h5]
      refine fork_dec (fun hlt => ?_) (fun hge => ?_)
      · have k1 : j + 1 < s.length := by omega
        have e1 : ((j : Int) + 1).toNat = j + 1 := by omega
        simp (disch := omega) [h0, h5, hlt, wrap64, e1, k1, show (j : Int) + 1 < s.length by omega, show (0 : Int) ≤ j + 1 by omega]
        refine callW_of (c567 s[j] _) ?_
        rintro v h1 ⟨rfl, rfl⟩
        simp
        refine callW_of (c567 s[j + 1] _) ?_
        rintro v h1 ⟨rfl, rfl⟩
        simp (disch := omega)
        rw [rd_step s acc j k1] at hd
        refine fork_dec (fun hneg => ?_) (fun hneg => ?_)
        · rw [if_pos (.inl hneg)] at hd
          simp (disch := omega) [hneg]
          simp [hR, ← hd, hg]
        · simp (disch := omega) [hneg]
          refine fork_dec (fun hneg2 => ?_) (fun hneg2 => ?_)
          · rw [if_pos (.inr hneg2)] at hd
            simp (disch := omega) [hneg2]
            simp [hR, ← hd, hg]
          · rw [if_neg (by omega)] at hd
            have b1 := digitV_bd s[j]
            have b2 := digitV_bd s[j + 1]
            simp (disch := omega) [h0, h5, wrap64]
            rw [wrap8 (by omega) (by omega)]
            refine byte_step hp (by omega) (by omega) hg hB fun v' h'' g1 b1 => ⟨j + 2, ⟨g1, by omega, by omega, by omega, _, by simp; omega, b1, hd⟩, by omega⟩
      · simp (disch := omega) [h0, h5]
        have e : j = s.length := by omega
        have hz : rdHex [] acc = (acc, true) := by simp [rdHex]
        rw [e, List.drop_length, hz] at hd
        rw [text_buf hB]
        simp [hR, ← hd, hg]
theorem c120 (s : List UInt8) (hs : s.length ≤ 1048576) (h : Heap) (hp : 0 < h.length) : ACall Gam 120 [S s] h fun v h' => v = .tuple #[S (readHex s).1, B (readHex s).2] ∧ Grows h h' := by
  refine ACall_intro g120 rfl ?_
  unfold fn120
  simp (disch := omega) [tmod_pos]
  refine fork_dec (fun heven => ?_) (fun hodd => ?_)
  rotate_left
  · have : s.length % 2 = 1 := by omega
    simp (disch := omega) [readHex, this, Grows.refl]
  · have hev : s.length % 2 = 0 := by omega
    have hR : readHex s = rdHex s [] := by simp [readHex, hev]
    simp (disch := omega)
    refine awp_loop (fun j σ h' => Grows h h' ∧ j ≤ s.length ∧ j % 2 = 0 ∧ σ 0 = S s ∧ σ 5 = I j ∧ ∃ acc : List UInt8, 2 * acc.length = j ∧ Buf h h' (σ 4) 1 (bytesV acc) ∧ rdHex (s.drop j) acc = rdHex s []) (fun k => s.length - k) 0 ?_ ?_
    · simp [Grows.refl]
      exact ⟨[], rfl, Buf.nil, rfl⟩
    · rintro j σ h' ⟨hg, hk, hj2, h0, h5, acc, hacc, hB, hd⟩
      simp (disch := omega) [h0, h5]
      refine fork_dec (fun hlt => ?_) (fun hge => ?_)
      · have k1 : j + 1 < s.length := by omega
        have e1 : ((j : Int) + 1).toNat = j + 1 := by omega
        simp (disch := omega) [h0, h5, hlt, wrap64, e1, k1, show (j : Int) + 1 < s.length by omega, show (0 : Int) ≤ j + 1 by omega]
        refine callW_of (c183h s[j] _) ?_
        rintro v h1 ⟨rfl, rfl⟩
        simp
        refine callW_of (c183h s[j + 1] _) ?_
        rintro v h1 ⟨rfl, rfl⟩
        simp (disch := omega)
        rw [rd_step s acc j k1] at hd
        refine fork_dec (fun hneg => ?_) (fun hneg => ?_)
        · rw [if_pos (.inl hneg)] at hd
          simp (disch := omega) [hneg]
          simp [hR, ← hd, hg]
        · simp (disch := omega) [hneg]
          refine fork_dec (fun hneg2 => ?_) (fun hneg2 => ?_)
          · rw [if_pos (.inr hneg2)] at hd
            simp (disch := omega) [hneg2]
            simp [hR, ← hd, hg]
          · rw [if_neg (by omega)] at hd
            have b1 := digitV_bd s[j]
            have b2 := digitV_bd s[j + 1]
            simp (disch := omega) [h0, h5, wrap64]
            rw [wrap8 (by omega) (by omega)]
            refine byte_step hp (by omega) (by omega) hg hB fun v' h'' g1 b1 => ⟨j + 2, ⟨g1, by omega, by omega, by omega, _, by simp; omega, b1, hd⟩, by omega⟩
      · simp (disch := omega) [h0, h5]
        have e : j = s.length := by omega
        have hz : rdHex [] acc = (acc, true) := by simp [rdHex]
        rw [e, List.drop_length, hz] at hd
        rw [text_buf hB]
        simp [hR, ← hd, hg]

theorem law235 (s : List UInt8) (hs : s.length ≤ 9223372036854775807) (h : Heap) (hp : 0 < h.length) : ACall Gam 235 [S s] h fun v _ => v = .bool true := by
  refine ACall_intro g235 rfl ?_
  unfold fn235
  simp (disch := omega)
  refine fork_dec (fun hb => ?_) (fun hb => ?_)
  · simp
  · simp
    refine callW_of (c411 s (by omega) h hp) ?_
    rintro v h1 ⟨rfl, g1⟩
    simp
    refine callW_of (c120 s (by omega) h1 (by have := g1.le; omega)) ?_
    rintro v h2 ⟨rfl, g2⟩
    simp
end Am
