/- Sets of small numbers as bits of a number. -/
import Derived.Test.YthcoliemlekojaaJA
namespace Go.KLib

theorem bv_nat (n : Nat) : BitVec.ofInt IntKind.i64.bits (n : Int) = BitVec.ofNat 64 n := by
  show BitVec.ofInt 64 (n : Int) = BitVec.ofNat 64 n
  exact BitVec.ofInt_natCast ..
theorem ishr_nat {m : Int} {i : Nat} (h0 : 0 ≤ m) (hi : i ≤ 64) : ishr m i = ((m.toNat >>> i : Nat) : Int) := by
  obtain ⟨n, rfl⟩ := Int.eq_ofNat_of_zero_le h0
  unfold ishr
  rw [Nat.shiftRight_eq_div_pow]
  have e : min ((i : Int)).toNat IntKind.i64.bits = i := by simp [IntKind.bits]; omega
  rw [e, Int.toNat_natCast, Int.natCast_ediv]
  rw [Int.fdiv_eq_ediv_of_nonneg]
  · simp
  · exact Int.le_of_lt (Int.pow_pos (by decide))
theorem iand_one {n : Nat} (h : n < 9223372036854775808) : iand n 1 = ((n % 2 : Nat) : Int) := by
  have e : (BitVec.ofInt IntKind.i64.bits (n : Int) &&& BitVec.ofInt IntKind.i64.bits 1).toNat = n % 2 := by
    rw [bv_nat, show (1 : Int) = ((1 : Nat) : Int) from rfl, bv_nat]
    show (BitVec.ofNat 64 n &&& BitVec.ofNat 64 1).toNat = n % 2
    rw [BitVec.toNat_and, BitVec.toNat_ofNat, BitVec.toNat_ofNat, Nat.mod_eq_of_lt (by omega), Nat.mod_eq_of_lt (by omega), Nat.and_one_is_mod]
  unfold iand; rw [e]; exact IntWalk.i64_in _ (by omega)
theorem ishl_one {s : Nat} (h : s < 62) : ishl 1 s = ((2 ^ s : Nat) : Int) := by
  have e : min ((s : Int)).toNat IntKind.i64.bits = s := by simp [IntKind.bits]; omega
  have h2 : (2 : Nat) ^ s ≤ 2 ^ 62 := Nat.pow_le_pow_right (by decide) (by omega)
  unfold ishl; rw [e]
  have e2 : (1 : Int) * 2 ^ s = ((2 ^ s : Nat) : Int) := by simp
  rw [e2]; clear e e2
  generalize (2 : Nat) ^ s = q at h2
  exact IntWalk.i64_in _ (by omega)
theorem ior_nat {a b : Nat} (ha : a < 4611686018427387904) (hb : b < 4611686018427387904) : ior a b = ((a ||| b : Nat) : Int) := by
  have h3 : a ||| b < 2 ^ 62 := Nat.or_lt_two_pow ha hb
  have e : (BitVec.ofInt IntKind.i64.bits (a : Int) ||| BitVec.ofInt IntKind.i64.bits (b : Int)).toNat = a ||| b := by
    rw [bv_nat, bv_nat]
    show (BitVec.ofNat 64 a ||| BitVec.ofNat 64 b).toNat = _
    rw [BitVec.toNat_or, BitVec.toNat_ofNat, BitVec.toNat_ofNat, Nat.mod_eq_of_lt (by omega), Nat.mod_eq_of_lt (by omega)]
  unfold ior; rw [e]; exact IntWalk.i64_in _ (by omega)
theorem bit_eq {m : Int} {i : Nat} (h0 : 0 ≤ m) (h1 : m < 4611686018427387904) (hi : i ≤ 64) : iand (ishr m i) 1 = if m.toNat.testBit i then 1 else 0 := by
  rw [ishr_nat h0 hi, iand_one (by rw [Nat.shiftRight_eq_div_pow]; have := Nat.div_le_self m.toNat (2 ^ i); omega), Nat.testBit_eq_decide_div_mod_eq, Nat.shiftRight_eq_div_pow]
  have h2 : m.toNat / 2 ^ i % 2 < 2 := Nat.mod_lt _ (by decide)
  by_cases h : m.toNat / 2 ^ i % 2 = 1
  · simp [h]
  · have : m.toNat / 2 ^ i % 2 = 0 := by omega
    simp [this]
theorem bit_y {m : Int} {i : Nat} (h : iand (ishr m i) 1 = 1) (h0 : 0 ≤ m) (h1 : m < 4611686018427387904) (hi : i ≤ 64) : m.toNat.testBit i = true := by
  rw [bit_eq h0 h1 hi] at h; cases hb : m.toNat.testBit i
  · rw [hb] at h; simp at h
  · rfl
theorem bit_n {m : Int} {i : Nat} (h : ¬ iand (ishr m i) 1 = 1) (h0 : 0 ≤ m) (h1 : m < 4611686018427387904) (hi : i ≤ 64) : m.toNat.testBit i = false := by
  rw [bit_eq h0 h1 hi] at h; cases hb : m.toNat.testBit i
  · rfl
  · rw [hb] at h; simp at h
theorem bit_z {m : Int} {i : Nat} (h : iand (ishr m i) 1 = 0) (h0 : 0 ≤ m) (h1 : m < 4611686018427387904) (hi : i ≤ 64) : m.toNat.testBit i = false := bit_n (by rw [h]; decide) h0 h1 hi
theorem bit_nz {m : Int} {i : Nat} (h : ¬ iand (ishr m i) 1 = 0) (h0 : 0 ≤ m) (h1 : m < 4611686018427387904) (hi : i ≤ 64) : m.toNat.testBit i = true := by
  rw [bit_eq h0 h1 hi] at h; cases hb : m.toNat.testBit i
  · rw [hb] at h; simp at h
  · rfl
theorem ior_bit {m : Int} {s : Nat} (h0 : 0 ≤ m) (h1 : m < 4611686018427387904) (hs : s < 62) : ior m (ishl 1 s) = ((m.toNat ||| 2 ^ s : Nat) : Int) := by
  have h2 : (2 : Nat) ^ s < 2 ^ 62 := Nat.pow_lt_pow_right (by decide) hs
  obtain ⟨n, rfl⟩ := Int.eq_ofNat_of_zero_le h0
  rw [ishl_one hs, ior_nat (by omega) (by omega), Int.toNat_natCast]

/-! ### the members of a set -/
def bitsL (m : Nat) (k : Nat) : List Int := ((List.range k).filter fun i => m.testBit i).map fun (i : Nat) => (i : Int)
theorem bitsL_step (m k : Nat) : bitsL m (k + 1) = if m.testBit k then bitsL m k ++ [(k : Int)] else bitsL m k := by
  unfold bitsL
  rw [List.range_succ, List.filter_append, List.map_append, List.filter_cons]
  cases m.testBit k <;> simp
theorem bitsL_y {m : Int} {k : Nat} (h : iand (ishr m k) 1 = 1) (h0 : 0 ≤ m) (h1 : m < 4611686018427387904) (hi : k ≤ 64) : bitsL m.toNat k ++ [(k : Int)] = bitsL m.toNat (k + 1) := by
  rw [bitsL_step, bit_y h h0 h1 hi]; rfl
theorem bitsL_n {m : Int} {k : Nat} (h : ¬ iand (ishr m k) 1 = 1) (h0 : 0 ≤ m) (h1 : m < 4611686018427387904) (hi : k ≤ 64) : bitsL m.toNat k = bitsL m.toNat (k + 1) := by
  rw [bitsL_step, bit_n h h0 h1 hi]; rfl
theorem bitsL_len (m k : Nat) : (bitsL m k).length ≤ k := by
  unfold bitsL; rw [List.length_map]; exact Nat.le_trans (List.length_filter_le _ _) (by simp)
theorem bitsL_end {m k : Nat} (h : m >>> k = 0) : ∀ d, bitsL m (k + d) = bitsL m k
  | 0 => rfl
  | d + 1 => by
    rw [← Nat.add_assoc, bitsL_step, bitsL_end h d]
    have : m.testBit (k + d) = false := by
      rw [← Nat.testBit_shiftRight, h]; simp
    rw [this]; rfl
theorem bitsL_fin {m : Int} {k : Nat} (h : ishr m k = 0) (h0 : 0 ≤ m) (hk : k ≤ 30) : bitsL m.toNat k = bitsL m.toNat 30 := by
  rw [ishr_nat h0 (by omega)] at h
  have := bitsL_end (m := m.toNat) (k := k) (by omega) (30 - k)
  rw [show k + (30 - k) = 30 by omega] at this; exact this.symm
theorem bits_more {m : Int} {k : Nat} (h : ¬ ishr m k = 0) (h0 : 0 ≤ m) (h1 : m < 1073741824) (hk : k ≤ 30) : k < 30 := by
  rcases Nat.lt_or_ge k 30 with h2 | h2
  · exact h2
  · exfalso; apply h
    have : k = 30 := by omega
    subst this
    rw [ishr_nat h0 (by omega), Nat.shiftRight_eq_div_pow, Nat.div_eq_of_lt (by omega)]; rfl

/-! ### a closure -/
/-- how many numbers below k are not in the set -/
def zc (m : Nat) : Nat → Nat
  | 0 => 0
  | k + 1 => zc m k + if m.testBit k then 0 else 1
theorem or_bit (m s i : Nat) : (m ||| 2 ^ s).testBit i = (m.testBit i || decide (s = i)) := by
  rw [Nat.testBit_or, Nat.testBit_two_pow]
theorem zc_hi {m s : Nat} : ∀ {k}, k ≤ s → zc (m ||| 2 ^ s) k = zc m k
  | 0, _ => rfl
  | k + 1, h => by
    unfold zc; rw [zc_hi (by omega : k ≤ s), or_bit]; simp [show ¬ s = k by omega]
theorem zc_set {m s : Nat} (hb : m.testBit s = false) : ∀ {k}, s < k → zc (m ||| 2 ^ s) k + 1 = zc m k
  | 0, h => by omega
  | k + 1, h => by
    unfold zc; rw [or_bit]
    rcases Nat.lt_or_ge s k with h1 | h1
    · have := zc_set hb h1; simp [show ¬ s = k by omega]; omega
    · have e : s = k := by omega
      subst e; rw [zc_hi (Nat.le_refl _), hb]; simp
def clo (N : List (List Int)) (c : Int) : Nat → Int → Nat → Nat
  | 0, _, m => m
  | f + 1, s, m => bif decide (0 ≤ s) && !m.testBit s.toNat then clo N c f (moveA N s c) (m ||| 2 ^ s.toNat) else m
theorem clo_stop1 {N c f s m} (h : ¬ (0 : Int) ≤ s) : clo N c f s m = m := by
  cases f
  · rfl
  · unfold clo; simp [h]
theorem clo_stop2 {N c f s m} (h : m.testBit s.toNat = true) : clo N c f s m = m := by
  cases f
  · rfl
  · unfold clo; simp [h]
theorem clo_step {N : List (List Int)} {c : Int} {s : Int} {m : Nat} (h0 : 0 ≤ s) (hb : m.testBit s.toNat = false) (hs : s.toNat < 12) :
    clo N c (zc m 12) s m = clo N c (zc (m ||| 2 ^ s.toNat) 12) (moveA N s c) (m ||| 2 ^ s.toNat) := by
  rw [← zc_set hb hs]
  show (bif _ then _ else _) = _
  rw [hb, decide_eq_true h0]
  simp only [Bool.not_false, Bool.and_true, cond_true]
/-- the states behind tests: the relation of the loop, and what it gives -/
noncomputable def CloI (N : List (List Int)) (c : Int) (s0 s m : Int) : Prop := 0 ≤ m ∧ m < 4096 ∧ clo N c (zc m.toNat 12) s m.toNat = clo N c (zc 0 12) s0 0
theorem cloi_zero (N : List (List Int)) (c : Int) (s0 : Int) : CloI N c s0 s0 0 := ⟨by decide, by decide, rfl⟩
theorem cloi_step {N : List (List Int)} {c : Int} {s0 s m : Int} (h : CloI N c s0 s m) (h0 : 0 ≤ s) (hs : s.toNat < 12) (hb : iand (ishr m s) 1 = 0) : CloI N c s0 (moveA N s c) (ior m (ishl 1 s)) := by
  obtain ⟨k, rfl⟩ := Int.eq_ofNat_of_zero_le h0
  simp only [Int.toNat_natCast] at hs
  obtain ⟨h1, h2, h3⟩ := h
  have e := ior_bit h1 (by omega) (s := k) (by omega)
  have hl : m.toNat ||| 2 ^ k < 2 ^ 12 := Nat.or_lt_two_pow (by omega) (Nat.pow_lt_pow_right (by decide) hs)
  refine ⟨by rw [e]; omega, by rw [e]; omega, ?_⟩
  rw [e, Int.toNat_natCast, ← h3, clo_step (s := (k : Int)) h0 (by simpa using bit_z hb h1 (by omega) (by omega)) (by simpa using hs)]; rfl
theorem cloi_mu {N : List (List Int)} {c : Int} {s0 s m : Int} (h : CloI N c s0 s m) (h0 : 0 ≤ s) (hs : s.toNat < 12) (hb : iand (ishr m s) 1 = 0) : zc (ior m (ishl 1 s)).toNat 12 < zc m.toNat 12 := by
  obtain ⟨k, rfl⟩ := Int.eq_ofNat_of_zero_le h0
  simp only [Int.toNat_natCast] at hs
  obtain ⟨h1, h2, h3⟩ := h
  rw [ior_bit h1 (by omega) (s := k) (by omega), Int.toNat_natCast]
  have := zc_set (bit_z hb h1 (by omega) (by omega)) hs
  omega
def cloR (N : List (List Int)) (c : Int) (s : Int) : Nat := clo N c (zc 0 12) s 0
theorem cloi_end1 {N : List (List Int)} {c : Int} {s0 s m : Int} (h : CloI N c s0 s m) (h0 : ¬ 0 ≤ s) : m = ((cloR N c s0 : Nat) : Int) := by
  obtain ⟨h1, h2, h3⟩ := h
  rw [clo_stop1 h0] at h3; unfold cloR; omega
theorem cloi_end2 {N : List (List Int)} {c : Int} {s0 s m : Int} (h : CloI N c s0 s m) (h0 : 0 ≤ s) (hs : s.toNat < 12) (hb : ¬ iand (ishr m s) 1 = 0) : m = ((cloR N c s0 : Nat) : Int) := by
  obtain ⟨k, rfl⟩ := Int.eq_ofNat_of_zero_le h0
  simp only [Int.toNat_natCast] at hs
  obtain ⟨h1, h2, h3⟩ := h
  rw [clo_stop2 (by simpa using bit_nz hb h1 (by omega) (by omega))] at h3; unfold cloR; omega
theorem clo_lt {S : Int} {A : List Bool} {N : List (List Int)} {c : Int} (hv : ValidA S A N) : ∀ {f s m}, (-1 ≤ s ∧ s ≤ (A.length : Int) - 1) → m < 4096 → clo N c f s m < 4096
  | 0, _, _, _, h => h
  | f + 1, s, m, hs, h => by
    unfold clo
    cases hc : decide (0 ≤ s) && !m.testBit s.toNat
    · exact h
    · simp only [cond_true]
      have := hv.1
      exact clo_lt hv (move_rng hv hs) (Nat.or_lt_two_pow (n := 12) h (Nat.pow_lt_pow_right (by decide) (by omega)))
theorem cloR_lt {S : Int} {A : List Bool} {N : List (List Int)} {c s : Int} (hv : ValidA S A N) (hs : -1 ≤ s ∧ s ≤ (A.length : Int) - 1) : cloR N c s < 4096 := clo_lt hv hs (by decide)
/-- TestClosure -/
noncomputable def tcR (S : Int) (A : List Bool) (N : List (List Int)) (s v : Int) : List Int := bif tt (ValidA S A N ∧ (0 ≤ s ∧ s ≤ A.length - 1) ∧ 0 ≤ v ∧ v ≤ 2) then bitsL (cloR N (6 + v) s) 30 else []
theorem tcR_n {S : Int} {A : List Bool} {N : List (List Int)} {s v : Int} (h : ¬ (ValidA S A N ∧ (0 ≤ s ∧ s ≤ A.length - 1) ∧ 0 ≤ v ∧ v ≤ 2)) : [] = tcR S A N s v := by unfold tcR; rw [← tt_false h]; rfl
theorem tcR_y {S : Int} {A : List Bool} {N : List (List Int)} {s v : Int} (h : ValidA S A N) (h1 : 0 ≤ s ∧ s ≤ A.length - 1) (h2 : 0 ≤ v ∧ v ≤ 2) : bitsL (cloR N (6 + v) s) 30 = tcR S A N s v := by unfold tcR; rw [← tt_true ⟨h, h1, h2⟩]; rfl
theorem tcR_len (S : Int) (A : List Bool) (N : List (List Int)) (s v : Int) : (tcR S A N s v).length ≤ 30 := by
  by_cases h : ValidA S A N ∧ (0 ≤ s ∧ s ≤ A.length - 1) ∧ 0 ≤ v ∧ v ≤ 2
  · rw [← tcR_y h.1 h.2.1 h.2.2]; exact bitsL_len _ _
  · rw [← tcR_n h]; simp
end Go.KLib
