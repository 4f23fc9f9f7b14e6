/-
  Plain numbers: a quotient of 128 bits by 64 bits, digit by digit, as math/bits.Div64 reckons it.
-/
import Derived.Laws.BitsAllLaws
import Derived.Laws.BitsLemmas
import Derived.Lib.ItoaNum
import Derived.Lib.BitFns
import Derived.IntWalk
namespace Go.Proofs.Ytdlhmabjgbiagaa.Sky
set_option linter.unusedVariables false

/-- What a guess of a digit keeps: it is not below the digit, and what is left of the head. -/
def Inv (y1 y0 u d q r : Nat) : Prop := q * y1 + r = u ∧ u * 4294967296 + d < (q + 1) * (y1 * 4294967296 + y0)

theorem eq1 (y1 y0 u q r : Nat) (h : q * y1 + r = u) : q * (y1 * 4294967296 + y0) + r * 4294967296 = u * 4294967296 + q * y0 := by
  subst h
  rw [Nat.mul_add, Nat.add_mul, Nat.mul_assoc]; omega

theorem inv_start (y1 y0 u d : Nat) (h1 : 0 < y1) (hd : d < 4294967296) : Inv y1 y0 u d (u / y1) (u - u / y1 * y1) := by
  have e : y1 * (u / y1) + u % y1 = u := Nat.div_add_mod u y1
  have hm := Nat.mod_lt u h1
  have e2 : u / y1 * y1 = y1 * (u / y1) := Nat.mul_comm _ _
  refine ⟨by omega, ?_⟩
  have e3 : (u / y1 + 1) * (y1 * 4294967296 + y0) = ((u / y1) * y1 + y1) * 4294967296 + (u / y1 + 1) * y0 := by
    rw [Nat.mul_add, ← Nat.mul_assoc, Nat.add_mul (u / y1) 1 y1, Nat.one_mul]
  rw [e3]
  generalize (u / y1 + 1) * y0 = z
  omega

theorem inv_cont (y1 y0 u d q r : Nat) (h : Inv y1 y0 u d q r) (hd : d < 4294967296) (hu : u < y1 * 4294967296 + y0)
    (hc : 4294967296 ≤ q ∨ 4294967296 * r + d < q * y0) : 0 < q ∧ Inv y1 y0 u d (q - 1) (r + y1) := by
  obtain ⟨ha, hb⟩ := h
  have e := eq1 y1 y0 u q r ha
  have hq : 0 < q := by
    rcases hc with hc | hc
    · omega
    · rcases Nat.eq_zero_or_pos q with h0 | h0
      · subst h0; simp at hc
      · exact h0
  refine ⟨hq, ?_, ?_⟩
  · obtain ⟨p, rfl⟩ : ∃ p, q = p + 1 := ⟨q - 1, by omega⟩
    rw [Nat.add_sub_cancel]
    rw [Nat.add_mul, Nat.one_mul] at ha
    omega
  · rw [Nat.sub_add_cancel hq]
    rcases hc with hc | hc
    · have : 4294967296 * (y1 * 4294967296 + y0) ≤ q * (y1 * 4294967296 + y0) := Nat.mul_le_mul_right _ hc
      omega
    · omega

theorem inv_exit (y1 y0 u d q r : Nat) (h : Inv y1 y0 u d q r) (hc : q * y0 ≤ 4294967296 * r + d) : (u * 4294967296 + d) / (y1 * 4294967296 + y0) = q := by
  obtain ⟨ha, hb⟩ := h
  have e := eq1 y1 y0 u q r ha
  refine Nat.div_eq_of_lt_le ?_ hb
  omega

theorem inv_q (y1 y0 u d q r : Nat) (h : Inv y1 y0 u d q r) (hy0 : y0 < 4294967296) (hu : u < y1 * 4294967296 + y0) (hr : 4294967296 ≤ r) : q < 4294967296 := by
  obtain ⟨ha, hb⟩ := h
  rcases Nat.lt_or_ge q 4294967296 with h | h
  · exact h
  · have : 4294967296 * y1 ≤ q * y1 := Nat.mul_le_mul_right _ h
    omega

theorem inv_break (y1 y0 u d q r : Nat) (h : Inv y1 y0 u d q r) (hy0 : y0 < 4294967296) (hu : u < y1 * 4294967296 + y0) (hr : 4294967296 ≤ r) : (u * 4294967296 + d) / (y1 * 4294967296 + y0) = q := by
  have hq := inv_q y1 y0 u d q r h hy0 hu hr
  refine inv_exit y1 y0 u d q r h ?_
  have h1 : q * y0 ≤ 4294967296 * y0 := Nat.mul_le_mul_right _ (by omega)
  have h2 : 4294967296 * y0 ≤ 4294967296 * r := Nat.mul_le_mul_left _ (by omega)
  omega

/-- Two digits make the quotient; the rest, moved back, is the rest. -/
theorem join (N y S Y u0 d1 d0 q1 q0 r1 r0 : Nat) (hS : 0 < S) (hY : Y = y * S) (hN : N * S = (u0 * 4294967296 + d1) * 4294967296 + d0)
    (h1 : u0 * 4294967296 + d1 = q1 * Y + r1) (h0 : r1 * 4294967296 + d0 = q0 * Y + r0) (hr : r0 < Y) (hy : 0 < y) :
    N / y = q1 * 4294967296 + q0 ∧ N % y = r0 / S := by
  have e : N * S = (q1 * 4294967296 + q0) * y * S + r0 := by
    rw [hN, h1]
    rw [Nat.mul_assoc _ y S, ← hY, Nat.add_mul (q1 * 4294967296) q0 Y, Nat.add_mul (q1 * Y) r1, Nat.add_assoc, h0]
    rw [Nat.mul_right_comm q1 Y 4294967296, Nat.add_assoc]
  generalize q1 * 4294967296 + q0 = Q at e ⊢
  have h5 : Q * y ≤ N := by
    rcases Nat.lt_or_ge N (Q * y) with hlt | hge
    · have := Nat.mul_lt_mul_of_pos_right hlt hS
      omega
    · exact hge
  obtain ⟨k, rfl⟩ : ∃ k, N = Q * y + k := ⟨N - Q * y, by omega⟩
  rw [Nat.add_mul] at e
  have e2 : k * S = r0 := by omega
  have hk : k < y := by
    rcases Nat.lt_or_ge k y with hlt | hge
    · exact hlt
    · have := Nat.mul_le_mul_right S hge
      rw [e2, ← hY] at this
      omega
  constructor
  · rw [Nat.mul_comm, Nat.mul_add_div hy, Nat.div_eq_of_lt hk]; rfl
  · rw [Nat.mul_comm, Nat.mul_add_mod, Nat.mod_eq_of_lt hk, ← e2, Nat.mul_div_cancel _ hS]


theorem lz_bounds (y : Nat) (h0 : 0 < y) (h1 : y < 18446744073709551616) : Lib.bitLen y ≤ 64 ∧ 1 ≤ Lib.bitLen y ∧ 9223372036854775808 ≤ y * 2 ^ (64 - Lib.bitLen y) ∧ y * 2 ^ (64 - Lib.bitLen y) < 18446744073709551616 := by
  obtain ⟨h2, h3, h4⟩ := Lib.bitLenAux_bounds 64 y (by omega) (by omega)
  have hb : Lib.bitLen y = Lib.bitLenAux 64 y := rfl
  rw [← hb] at h2 h3 h4
  have hle : Lib.bitLen y ≤ 64 := by
    rcases Nat.lt_or_ge 64 (Lib.bitLen y) with h | h
    · have : 2 ^ 64 ≤ 2 ^ (Lib.bitLen y - 1) := Nat.pow_le_pow_right (by omega) (by omega)
      omega
    · exact h
  generalize Lib.bitLen y = n at *
  refine ⟨hle, h2, ?_, ?_⟩
  · have e : 2 ^ (n - 1) * 2 ^ (64 - n) = 9223372036854775808 := by
      rw [← Nat.pow_add, show n - 1 + (64 - n) = 63 by omega]
    rw [← e]
    exact Nat.mul_le_mul_right _ h3
  · have e : 2 ^ n * 2 ^ (64 - n) = 18446744073709551616 := by
      rw [← Nat.pow_add, show n + (64 - n) = 64 by omega]
    rw [← e]
    exact Nat.mul_lt_mul_of_pos_right h4 (Nat.pow_pos (by omega))

theorem wrap_nat (n : Nat) (h : n < 18446744073709551616) : IntKind.u64.wrap (n : Int) = n := by
  rw [IntKind.wrap_u64]; omega
theorem wrap_mod (n : Nat) : IntKind.u64.wrap (n : Int) = ((n % 18446744073709551616 : Nat) : Int) := by
  rw [IntKind.wrap_u64]; omega
theorem and_mask (n : Nat) (h : n < 18446744073709551616) : Go.bits .and .u64 (n : Int) 4294967295 = ((n % 4294967296 : Nat) : Int) := by
  have e := u64_and_nat n 4294967295 h (by omega)
  have e2 : n &&& 4294967295 = n % 4294967296 := Nat.and_two_pow_sub_one_eq_mod n 32
  rw [e2] at e
  exact e

/-- What the head of the number is, moved to the left by s. -/
theorem head_or (hi lo s : Nat) (hs : s ≤ 63) (hl : lo < 18446744073709551616) (hh : hi * 2 ^ s < 18446744073709551616) :
    Go.bits .or .u64 ((hi * 2 ^ s : Nat) : Int) ((lo / 2 ^ (64 - s) : Nat) : Int) = ((hi * 2 ^ s + lo / 2 ^ (64 - s) : Nat) : Int) := by
  have e : 2 ^ s * 2 ^ (64 - s) = 18446744073709551616 := by
    rw [← Nat.pow_add, show s + (64 - s) = 64 by omega]
  have hlt : lo / 2 ^ (64 - s) < 2 ^ s := by
    rw [Nat.div_lt_iff_lt_mul (Nat.pow_pos (by omega)), e]
    exact hl
  rw [u64_or_nat _ _ hh (Nat.lt_of_le_of_lt (Nat.div_le_self _ _) hl)]
  rw [nat_join s _ _ (Nat.mul_mod_left _ _) hlt]

/-- The number moved to the left by s, in a head and two digits. -/
theorem moved (hi lo y s : Nat) (hs : s ≤ 63) (hl : lo < 18446744073709551616) (hh : hi < y) (hy : y * 2 ^ s < 18446744073709551616) :
    hi * 2 ^ s < 18446744073709551616 ∧ hi * 2 ^ s + lo / 2 ^ (64 - s) < y * 2 ^ s ∧
    (hi * 18446744073709551616 + lo) * 2 ^ s = ((hi * 2 ^ s + lo / 2 ^ (64 - s)) * 4294967296 + lo * 2 ^ s % 18446744073709551616 / 4294967296) * 4294967296 + lo * 2 ^ s % 18446744073709551616 % 4294967296 := by
  have e : 2 ^ s * 2 ^ (64 - s) = 18446744073709551616 := by
    rw [← Nat.pow_add, show s + (64 - s) = 64 by omega]
  have hlt : lo / 2 ^ (64 - s) < 2 ^ s := by
    rw [Nat.div_lt_iff_lt_mul (Nat.pow_pos (by omega)), e]
    exact hl
  have h1 : (hi + 1) * 2 ^ s ≤ y * 2 ^ s := Nat.mul_le_mul_right _ hh
  rw [Nat.add_mul, Nat.one_mul] at h1
  have h4 : hi * 2 ^ s < 18446744073709551616 ∧ hi * 2 ^ s + lo / 2 ^ (64 - s) < y * 2 ^ s := by
    generalize hi * 2 ^ s = A at *
    generalize lo / 2 ^ (64 - s) = B at *
    generalize y * 2 ^ s = C at *
    generalize 2 ^ s = D at *
    omega
  refine ⟨h4.1, h4.2, ?_⟩
  have hd : lo * 2 ^ s / 18446744073709551616 = lo / 2 ^ (64 - s) := by
    rw [← e, Nat.mul_comm (2 ^ s) (2 ^ (64 - s)), Nat.mul_div_mul_right _ _ (Nat.pow_pos (by omega))]
  have h2 := Nat.div_add_mod (lo * 2 ^ s) 18446744073709551616
  have h3 := Nat.div_add_mod (lo * 2 ^ s % 18446744073709551616) 4294967296
  rw [hd] at h2
  rw [Nat.add_mul (hi * 18446744073709551616) lo, Nat.mul_right_comm hi]
  generalize hi * 2 ^ s = A at *
  generalize lo / 2 ^ (64 - s) = B at *
  generalize lo * 2 ^ s = C at *
  omega
end Go.Proofs.Ytdlhmabjgbiagaa.Sky
