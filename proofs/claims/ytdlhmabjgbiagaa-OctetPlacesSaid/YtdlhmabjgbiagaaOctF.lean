/-
  What the document's At, Put, Signed and Unsigned (ephemerisref03) and octet.Signed, octet.Unsigned come to, as plain functions.
-/
import Derived.Test.YtdlhmabjgbiagaaOctE
import Derived.Test.YtdlhmabjgbiagaaPOctetPlacesx
namespace Go.Proofs.Ytdlhmabjgbiagaa.Oct
open Go.RowKit Go.Shelf Go.Proofs.Ytdlhmabjgbiagaa.Blk Go.Proofs.YtdlhmabjgbiagaaW.PrintWords Go.Proofs.YtdlhmabjgbiagaaW.PrintLast Go.Proofs.YtdlhmabjgbiagaaW.PrintMore
set_option linter.unusedVariables false
set_option linter.unusedSimpArgs false

theorem digits_same0 : ∀ k x y z, POctetPlaces.ephemerisref03_Digits.l0 k x y z = POctetRows.ephemerisref03_Digits.l0 k x y z
  | 0, _, _, _ => rfl
  | k + 1, x, y, z => by simp only [POctetPlaces.ephemerisref03_Digits.l0, POctetRows.ephemerisref03_Digits.l0, digits_same0 k]
theorem digits_same (k : Nat) (n z : Int) : POctetPlaces.ephemerisref03_Digits.f k n z = POctetRows.ephemerisref03_Digits.f k n z := by
  unfold POctetPlaces.ephemerisref03_Digits.f POctetRows.ephemerisref03_Digits.f
  simp only [digits_same0]
theorem number_same0 : ∀ k x y z, POctetPlaces.ephemerisref03_Number.l0 k x y z = POctetRows.ephemerisref03_Number.l0 k x y z
  | 0, _, _, _ => rfl
  | k + 1, x, y, z => by simp only [POctetPlaces.ephemerisref03_Number.l0, POctetRows.ephemerisref03_Number.l0, number_same0 k]
theorem number_same (k : Nat) (l : List Int) : POctetPlaces.ephemerisref03_Number.f k l = POctetRows.ephemerisref03_Number.f k l := by
  unfold POctetPlaces.ephemerisref03_Number.f POctetRows.ephemerisref03_Number.f
  simp only [number_same0]
theorem size_p (n : Int) : POctetPlaces.ephemerisref03_Size.f n = some (sizedB n) := size_f n
theorem own_p (l : List Int) (h : l.length < 140737488355328) : POctetPlaces.ephemerisref03_Own.f l = some l := own_f l h
theorem digits_p (n : Int) (z : Nat) (h0 : 0 ≤ n) (h1 : n < 18446744073709551616) (hz : z ≤ 8) (k : Nat) (hk : z < k) : POctetPlaces.ephemerisref03_Digits.f k n z = some (digL n z, fitsB n z) := by
  rw [digits_same]; exact digits_f n z h0 h1 hz k hk
theorem number_p (l : List Int) (hl : l.length ≤ 8) (hwf : ∀ d ∈ l, 0 ≤ d ∧ d ≤ 255) (k : Nat) (hk : l.length < k) : POctetPlaces.ephemerisref03_Number.f k l = some (numL l) := by
  rw [number_same]; exact number_f l hl hwf k hk

open POctetPlaces
theorem at_f (l : List Int) (at_ size : Int) (hl : l.length ≤ 1000000) (hwf : ∀ d ∈ l, 0 ≤ d ∧ d ≤ 255) (k : Nat) (hk : 10 < k) : ephemerisref03_At.f k l at_ size = some (atL l at_ size) := by
  unfold ephemerisref03_At.f atL
  rw [size_p]
  simp only [Option.bind_some]
  cases hs : sizedB size with
  | false => simp
  | true =>
    have hz := sizedB_range _ hs
    simp only [Bool.true_and, if_true]
    by_cases h1 : at_ < 0
    · rw [if_pos h1, if_neg (by simp [insB]; omega)]
    · rw [if_neg h1]
      by_cases h2 : at_ > (l.length : Int)
      · rw [if_pos h2, if_neg (by simp [insB]; omega)]
      · rw [if_neg h2, show wrap64 ((l.length : Int) - at_) = (l.length : Int) - at_ by unfold wrap64; omega]
        by_cases h3 : (l.length : Int) - at_ < size
        · rw [if_pos h3, if_neg (by simp [insB]; omega)]
        · rw [if_neg h3, show wrap64 (at_ + size) = at_ + size by unfold wrap64; omega, if_pos (by omega), if_pos (by omega), if_pos (by omega), if_pos (by simp [insB]; omega)]
          have e : (l.take (at_ + size).toNat).drop at_.toNat = (l.drop at_.toNat).take size.toNat := by
            rw [List.drop_take]
            congr 1
            omega
          rw [e, number_p _ (by simp; omega) (fun x hx => hwf x (List.mem_of_mem_drop (List.mem_of_mem_take hx))) k (by simp; omega)]
          rfl
theorem put_f (l : List Int) (at_ size n : Int) (hl : l.length ≤ 1000000) (hwf : ∀ d ∈ l, 0 ≤ d ∧ d ≤ 255) (h0 : 0 ≤ n) (h1 : n < 18446744073709551616) (k : Nat) (hk : 20 < k) : ephemerisref03_Put.f k l at_ size n = some (putL l at_ size n) := by
  unfold ephemerisref03_Put.f putL
  rw [size_p]
  simp only [Option.bind_some]
  obtain ⟨k, rfl⟩ : ∃ m, k = m + 1 := ⟨k - 1, by omega⟩
  simp only [ephemerisref03_Put.j0]
  cases hs : sizedB size with
  | false => simp
  | true =>
    have hz := sizedB_range _ hs
    obtain ⟨z, rfl⟩ := Int.eq_ofNat_of_zero_le (show 0 ≤ size by omega)
    simp only [if_true]
    by_cases h2 : at_ < 0
    · rw [if_pos (by simpa using h2), if_pos (.inr h2)]
    · rw [if_neg (by simpa using h2), if_neg (by simp; omega), digits_p n z h0 h1 (by omega) k (by omega)]
      simp only [Option.bind_some, Int.toNat_natCast]
      cases hf : fitsB n z with
      | false => simp
      | true =>
        simp only [if_true]
        rw [at_f l at_ z hl hwf k (by omega)]
        simp only [Option.bind_some, atL, hs, Bool.true_and]
        cases hi : insB l.length at_ z with
        | false => simp
        | true =>
          have hb : 0 ≤ at_ ∧ at_ ≤ l.length ∧ (z : Int) ≤ (l.length : Int) - at_ := by simpa [insB, and_assoc] using hi
          obtain ⟨x, rfl⟩ := Int.eq_ofNat_of_zero_le hb.1
          simp only [if_true, Int.toNat_natCast]
          rw [if_pos (by omega), if_pos (by omega), own_p _ (by simp; omega)]
          simp only [Option.bind_some]
          rw [if_pos (by simp [digL_length]; omega), show wrap64 ((x : Int) + (z : Int)) = ((x + z : Nat) : Int) by unfold wrap64; omega, if_pos (by omega), if_pos (by omega), Int.toNat_natCast, if_pos (by simp [digL_length]; omega)]
          simp [putB]

/-! ### Signed numbers -/
def signedP (n size : Int) : Int × Int :=
  if sizedB size = true then (if fitsB n size.toNat = true then (if n < 128 * 256 ^ (size.toNat - 1) then n else n - 256 ^ size.toNat, 0) else (0, 20)) else (0, 1)
def unsignedP (n size : Int) : Int × Int :=
  if sizedB size = true then (if -(128 * 256 ^ (size.toNat - 1)) ≤ n ∧ n < 128 * 256 ^ (size.toNat - 1) then (if 0 ≤ n then n else n + 256 ^ size.toNat, 0) else (0, 20)) else (0, 1)
theorem size_cases (size : Int) (h : sizedB size = true) : size = 1 ∨ size = 2 ∨ size = 3 ∨ size = 4 ∨ size = 5 ∨ size = 6 ∨ size = 7 ∨ size = 8 := by
  have := sizedB_range _ h
  omega
theorem signed_f (n size : Int) (h0 : 0 ≤ n) (h1 : n < 18446744073709551616) : POctetRows.octet_Signed.f n size = some (signedP n size) := by
  unfold POctetRows.octet_Signed.f signedP
  rw [sized_f]
  simp only [Option.bind_some]
  cases hs : sizedB size with
  | false => simp
  | true =>
    have hz := sizedB_range _ hs
    simp only [if_true]
    obtain ⟨z, rfl⟩ := Int.eq_ofNat_of_zero_le (show 0 ≤ size by omega)
    rw [fits_f n z h0 h1 (by omega)]
    simp only [Option.bind_some, Int.toNat_natCast]
    cases hf : fitsB n z with
    | false => simp
    | true =>
      simp only [if_true]
      have hf2 : n < 256 ^ z := by simpa [fitsB] using hf
      have hw : wrap64 (8 * wrap64 (8 - (z : Int))) = 8 * (8 - (z : Int)) := by unfold wrap64; omega
      rw [hw, if_pos (by omega)]
      congr 2
      have hc := size_cases _ hs
      clear hs hf hw
      have hcz : z = 1 ∨ z = 2 ∨ z = 3 ∨ z = 4 ∨ z = 5 ∨ z = 6 ∨ z = 7 ∨ z = 8 := by omega
      unfold shr shl
      rcases hcz with rfl | rfl | rfl | rfl | rfl | rfl | rfl | rfl
      · have e1 : min (8 * (8 - ((1 : Nat) : Int))).toNat 64 = 56 := by decide
        have e2 : (2 : Int) ^ 56 = 72057594037927936 := by decide
        have e3 : (256 : Int) ^ (1 - 1) = 1 := by decide
        have e4 : (256 : Int) ^ 1 = 256 := by decide
        rw [e4] at hf2
        simp only [IntKind.bits, IntKind.wrap_u64, wrap64, e1, e2, e3, e4]
        split <;> omega
      · have e1 : min (8 * (8 - ((2 : Nat) : Int))).toNat 64 = 48 := by decide
        have e2 : (2 : Int) ^ 48 = 281474976710656 := by decide
        have e3 : (256 : Int) ^ (2 - 1) = 256 := by decide
        have e4 : (256 : Int) ^ 2 = 65536 := by decide
        rw [e4] at hf2
        simp only [IntKind.bits, IntKind.wrap_u64, wrap64, e1, e2, e3, e4]
        split <;> omega
      · have e1 : min (8 * (8 - ((3 : Nat) : Int))).toNat 64 = 40 := by decide
        have e2 : (2 : Int) ^ 40 = 1099511627776 := by decide
        have e3 : (256 : Int) ^ (3 - 1) = 65536 := by decide
        have e4 : (256 : Int) ^ 3 = 16777216 := by decide
        rw [e4] at hf2
        simp only [IntKind.bits, IntKind.wrap_u64, wrap64, e1, e2, e3, e4]
        split <;> omega
      · have e1 : min (8 * (8 - ((4 : Nat) : Int))).toNat 64 = 32 := by decide
        have e2 : (2 : Int) ^ 32 = 4294967296 := by decide
        have e3 : (256 : Int) ^ (4 - 1) = 16777216 := by decide
        have e4 : (256 : Int) ^ 4 = 4294967296 := by decide
        rw [e4] at hf2
        simp only [IntKind.bits, IntKind.wrap_u64, wrap64, e1, e2, e3, e4]
        split <;> omega
      · have e1 : min (8 * (8 - ((5 : Nat) : Int))).toNat 64 = 24 := by decide
        have e2 : (2 : Int) ^ 24 = 16777216 := by decide
        have e3 : (256 : Int) ^ (5 - 1) = 4294967296 := by decide
        have e4 : (256 : Int) ^ 5 = 1099511627776 := by decide
        rw [e4] at hf2
        simp only [IntKind.bits, IntKind.wrap_u64, wrap64, e1, e2, e3, e4]
        split <;> omega
      · have e1 : min (8 * (8 - ((6 : Nat) : Int))).toNat 64 = 16 := by decide
        have e2 : (2 : Int) ^ 16 = 65536 := by decide
        have e3 : (256 : Int) ^ (6 - 1) = 1099511627776 := by decide
        have e4 : (256 : Int) ^ 6 = 281474976710656 := by decide
        rw [e4] at hf2
        simp only [IntKind.bits, IntKind.wrap_u64, wrap64, e1, e2, e3, e4]
        split <;> omega
      · have e1 : min (8 * (8 - ((7 : Nat) : Int))).toNat 64 = 8 := by decide
        have e2 : (2 : Int) ^ 8 = 256 := by decide
        have e3 : (256 : Int) ^ (7 - 1) = 281474976710656 := by decide
        have e4 : (256 : Int) ^ 7 = 72057594037927936 := by decide
        rw [e4] at hf2
        simp only [IntKind.bits, IntKind.wrap_u64, wrap64, e1, e2, e3, e4]
        split <;> omega
      · have e1 : min (8 * (8 - ((8 : Nat) : Int))).toNat 64 = 0 := by decide
        have e2 : (2 : Int) ^ 0 = 1 := by decide
        have e3 : (256 : Int) ^ (8 - 1) = 72057594037927936 := by decide
        have e4 : (256 : Int) ^ 8 = 18446744073709551616 := by decide
        rw [e4] at hf2
        simp only [IntKind.bits, IntKind.wrap_u64, wrap64, e1, e2, e3, e4]
        split <;> omega
theorem unsigned_f (n size : Int) (h0 : -9223372036854775808 ≤ n) (h1 : n < 9223372036854775808) : POctetRows.octet_Unsigned.f n size = some (unsignedP n size) := by
  unfold POctetRows.octet_Unsigned.f unsignedP
  rw [sized_f]
  simp only [Option.bind_some]
  cases hs : sizedB size with
  | false => simp
  | true =>
    have hz := sizedB_range _ hs
    simp only [if_true]
    obtain ⟨z, rfl⟩ := Int.eq_ofNat_of_zero_le (show 0 ≤ size by omega)
    have hw : wrap64 (8 * wrap64 (8 - (z : Int))) = 8 * (8 - (z : Int)) := by unfold wrap64; omega
    rw [hw, if_pos (by omega), Int.toNat_natCast]
    have hcz : z = 1 ∨ z = 2 ∨ z = 3 ∨ z = 4 ∨ z = 5 ∨ z = 6 ∨ z = 7 ∨ z = 8 := by omega
    clear hs hw
    unfold shr shl
    rcases hcz with rfl | rfl | rfl | rfl | rfl | rfl | rfl | rfl
    · have e1 : min (8 * (8 - ((1 : Nat) : Int))).toNat 64 = 56 := by decide
      have e2 : (2 : Int) ^ 56 = 72057594037927936 := by decide
      have e3 : (256 : Int) ^ (1 - 1) = 1 := by decide
      have e4 : (256 : Int) ^ 1 = 256 := by decide
      simp only [IntKind.bits, IntKind.wrap_u64, IntKind.wrap_i64, e1, e2, e3, e4]
      by_cases hn : -(128 * 1) ≤ n ∧ n < 128 * 1
      · rw [if_pos (by omega), if_pos hn]
        congr 2
        split <;> omega
      · rw [if_neg (by omega), if_neg hn]
    · have e1 : min (8 * (8 - ((2 : Nat) : Int))).toNat 64 = 48 := by decide
      have e2 : (2 : Int) ^ 48 = 281474976710656 := by decide
      have e3 : (256 : Int) ^ (2 - 1) = 256 := by decide
      have e4 : (256 : Int) ^ 2 = 65536 := by decide
      simp only [IntKind.bits, IntKind.wrap_u64, IntKind.wrap_i64, e1, e2, e3, e4]
      by_cases hn : -(128 * 256) ≤ n ∧ n < 128 * 256
      · rw [if_pos (by omega), if_pos hn]
        congr 2
        split <;> omega
      · rw [if_neg (by omega), if_neg hn]
    · have e1 : min (8 * (8 - ((3 : Nat) : Int))).toNat 64 = 40 := by decide
      have e2 : (2 : Int) ^ 40 = 1099511627776 := by decide
      have e3 : (256 : Int) ^ (3 - 1) = 65536 := by decide
      have e4 : (256 : Int) ^ 3 = 16777216 := by decide
      simp only [IntKind.bits, IntKind.wrap_u64, IntKind.wrap_i64, e1, e2, e3, e4]
      by_cases hn : -(128 * 65536) ≤ n ∧ n < 128 * 65536
      · rw [if_pos (by omega), if_pos hn]
        congr 2
        split <;> omega
      · rw [if_neg (by omega), if_neg hn]
    · have e1 : min (8 * (8 - ((4 : Nat) : Int))).toNat 64 = 32 := by decide
      have e2 : (2 : Int) ^ 32 = 4294967296 := by decide
      have e3 : (256 : Int) ^ (4 - 1) = 16777216 := by decide
      have e4 : (256 : Int) ^ 4 = 4294967296 := by decide
      simp only [IntKind.bits, IntKind.wrap_u64, IntKind.wrap_i64, e1, e2, e3, e4]
      by_cases hn : -(128 * 16777216) ≤ n ∧ n < 128 * 16777216
      · rw [if_pos (by omega), if_pos hn]
        congr 2
        split <;> omega
      · rw [if_neg (by omega), if_neg hn]
    · have e1 : min (8 * (8 - ((5 : Nat) : Int))).toNat 64 = 24 := by decide
      have e2 : (2 : Int) ^ 24 = 16777216 := by decide
      have e3 : (256 : Int) ^ (5 - 1) = 4294967296 := by decide
      have e4 : (256 : Int) ^ 5 = 1099511627776 := by decide
      simp only [IntKind.bits, IntKind.wrap_u64, IntKind.wrap_i64, e1, e2, e3, e4]
      by_cases hn : -(128 * 4294967296) ≤ n ∧ n < 128 * 4294967296
      · rw [if_pos (by omega), if_pos hn]
        congr 2
        split <;> omega
      · rw [if_neg (by omega), if_neg hn]
    · have e1 : min (8 * (8 - ((6 : Nat) : Int))).toNat 64 = 16 := by decide
      have e2 : (2 : Int) ^ 16 = 65536 := by decide
      have e3 : (256 : Int) ^ (6 - 1) = 1099511627776 := by decide
      have e4 : (256 : Int) ^ 6 = 281474976710656 := by decide
      simp only [IntKind.bits, IntKind.wrap_u64, IntKind.wrap_i64, e1, e2, e3, e4]
      by_cases hn : -(128 * 1099511627776) ≤ n ∧ n < 128 * 1099511627776
      · rw [if_pos (by omega), if_pos hn]
        congr 2
        split <;> omega
      · rw [if_neg (by omega), if_neg hn]
    · have e1 : min (8 * (8 - ((7 : Nat) : Int))).toNat 64 = 8 := by decide
      have e2 : (2 : Int) ^ 8 = 256 := by decide
      have e3 : (256 : Int) ^ (7 - 1) = 281474976710656 := by decide
      have e4 : (256 : Int) ^ 7 = 72057594037927936 := by decide
      simp only [IntKind.bits, IntKind.wrap_u64, IntKind.wrap_i64, e1, e2, e3, e4]
      by_cases hn : -(128 * 281474976710656) ≤ n ∧ n < 128 * 281474976710656
      · rw [if_pos (by omega), if_pos hn]
        congr 2
        split <;> omega
      · rw [if_neg (by omega), if_neg hn]
    · have e1 : min (8 * (8 - ((8 : Nat) : Int))).toNat 64 = 0 := by decide
      have e2 : (2 : Int) ^ 0 = 1 := by decide
      have e3 : (256 : Int) ^ (8 - 1) = 72057594037927936 := by decide
      have e4 : (256 : Int) ^ 8 = 18446744073709551616 := by decide
      simp only [IntKind.bits, IntKind.wrap_u64, IntKind.wrap_i64, e1, e2, e3, e4]
      by_cases hn : -(128 * 72057594037927936) ≤ n ∧ n < 128 * 72057594037927936
      · rw [if_pos (by omega), if_pos hn]
        congr 2
        split <;> omega
      · rw [if_neg (by omega), if_neg hn]

/-- What is wanting to 255, digit by digit. -/
def compL (l : List Int) : List Int := l.map fun d => 255 - d
theorem compL_range (l : List Int) (h : ∀ d ∈ l, 0 ≤ d ∧ d ≤ 255) : ∀ d ∈ compL l, 0 ≤ d ∧ d ≤ 255 := by
  intro d hd
  obtain ⟨x, hx, rfl⟩ := List.mem_map.1 hd
  have := h x hx
  omega
theorem numL_compL (l : List Int) : numL (compL l) = 256 ^ l.length - 1 - numL l := by
  refine snoc_ind (p := fun l => numL (compL l) = 256 ^ l.length - 1 - numL l) ?_ ?_ l
  · simp [compL, numL]
  · intro l d ih
    rw [show compL (l ++ [d]) = compL l ++ [255 - d] by simp [compL], numL_snoc, numL_snoc, ih, List.length_append, List.length_singleton, Int.pow_succ]
    omega
theorem comp_step (l : List Int) (i : Nat) (hi : i < l.length) (h : ∀ d ∈ l, 0 ≤ d ∧ d ≤ 255) :
    (compL (l.take i) ++ l.drop i).set i ((255 - rd (compL (l.take i) ++ l.drop i) i) % 256) = compL (l.take (i + 1)) ++ l.drop (i + 1) := by
  have hl : (compL (l.take i)).length = i := by simp [compL]; omega
  have hd := h _ (rd_mem l i hi)
  have e1 : rd (compL (l.take i) ++ l.drop i) i = rd l i := by
    unfold rd
    simp only [Int.toNat_natCast, List.getD_eq_getElem?_getD]
    rw [List.getElem?_append_right (by omega), hl, Nat.sub_self, List.getElem?_drop, Nat.add_zero]
  rw [e1, drop_cons l i hi, List.set_append_right _ _ (by omega), hl, Nat.sub_self, List.set_cons_zero]
  have e2 : l.take (i + 1) = l.take i ++ [rd l i] := by
    rw [List.take_succ_eq_append_getElem hi]
    unfold rd
    simp [List.getD_eq_getElem?_getD, List.getElem?_eq_getElem hi]
  rw [e2, show (255 - rd l i) % 256 = 255 - rd l i by omega]
  simp [compL]
theorem signed_loop (l : List Int) (hl : l.length ≤ 8) (h : ∀ d ∈ l, 0 ≤ d ∧ d ≤ 255) (d : Nat) : ∀ (k i : Nat), i ≤ l.length → l.length - i = d → d + 10 < k →
    ephemerisref03_Signed.l0 k (compL (l.take i) ++ l.drop i) (i : Int) = some (wrap64 (wrap64 (-(wrap64 (numL (compL l)))) - 1), 0) := by
  induction d with
  | zero =>
    intro k i h1 h2 h3
    obtain ⟨k, rfl⟩ : ∃ m, k = m + 1 := ⟨k - 1, by omega⟩
    simp only [ephemerisref03_Signed.l0]
    rw [if_neg (by simp [compL]; omega), List.take_of_length_le (by omega), List.drop_eq_nil_of_le (by omega), List.append_nil, number_p _ (by simp [compL]; omega) (compL_range l h) k (by simp [compL]; omega)]
    rfl
  | succ d ih =>
    intro k i h1 h2 h3
    obtain ⟨k, rfl⟩ : ∃ m, k = m + 1 := ⟨k - 1, by omega⟩
    simp only [ephemerisref03_Signed.l0]
    rw [if_pos (by simp [compL]; omega), if_pos (by omega), Int.toNat_natCast, comp_step l i (by omega) h, wrap_succ i (by omega)]
    exact ih k (i + 1) (by omega) (by omega) (by omega)
theorem unsigned_loop (l : List Int) (hl : l.length ≤ 8) (h : ∀ d ∈ l, 0 ≤ d ∧ d ≤ 255) (d : Nat) : ∀ (k i : Nat), i ≤ l.length → l.length - i = d → d + 10 < k →
    ephemerisref03_Unsigned.l0 k (compL (l.take i) ++ l.drop i) (i : Int) = some (numL (compL l), 0) := by
  induction d with
  | zero =>
    intro k i h1 h2 h3
    obtain ⟨k, rfl⟩ : ∃ m, k = m + 1 := ⟨k - 1, by omega⟩
    simp only [ephemerisref03_Unsigned.l0]
    rw [if_neg (by simp [compL]; omega), List.take_of_length_le (by omega), List.drop_eq_nil_of_le (by omega), List.append_nil, number_p _ (by simp [compL]; omega) (compL_range l h) k (by simp [compL]; omega)]
    rfl
  | succ d ih =>
    intro k i h1 h2 h3
    obtain ⟨k, rfl⟩ : ∃ m, k = m + 1 := ⟨k - 1, by omega⟩
    simp only [ephemerisref03_Unsigned.l0]
    rw [if_pos (by simp [compL]; omega), if_pos (by omega), Int.toNat_natCast, comp_step l i (by omega) h, wrap_succ i (by omega)]
    exact ih k (i + 1) (by omega) (by omega) (by omega)
theorem rd_digL (n : Int) (z : Nat) (hz : 1 ≤ z) : rd (digL n z) 0 = n / 256 ^ (z - 1) % 256 := by
  unfold rd digL
  rw [List.getD_eq_getElem?_getD]
  simp [List.getElem?_range, show 0 < z by omega, dig_256]
theorem signed_ref (n size : Int) (h0 : 0 ≤ n) (h1 : n < 18446744073709551616) (k : Nat) (hk : 40 < k) : ephemerisref03_Signed.f k n size = some (signedP n size) := by
  unfold ephemerisref03_Signed.f signedP
  rw [size_p]
  simp only [Option.bind_some]
  cases hs : sizedB size with
  | false => simp
  | true =>
    have hz := sizedB_range _ hs
    simp only [if_true]
    obtain ⟨z, rfl⟩ := Int.eq_ofNat_of_zero_le (show 0 ≤ size by omega)
    rw [digits_p n z h0 h1 (by omega) k (by omega)]
    simp only [Option.bind_some, Int.toNat_natCast]
    cases hf : fitsB n z with
    | false => simp
    | true =>
      simp only [if_true]
      have hf2 : n < 256 ^ z := by simpa [fitsB] using hf
      rw [if_pos (by rw [digL_length]; omega), rd_digL n z (by omega)]
      have hl := signed_loop (digL n z) (by rw [digL_length]; omega) (digL_range n z) z k 0 (by omega) (by rw [digL_length]; omega) (by omega)
      simp only [List.take_zero, List.drop_zero, compL, List.map_nil, List.nil_append] at hl
      have hc := numL_compL (digL n z)
      rw [digL_length, numL_digL z n h0 hf2] at hc
      have hl2 : ephemerisref03_Signed.l0 k (digL n z) 0 = some (wrap64 (wrap64 (-(wrap64 (256 ^ z - 1 - n))) - 1), 0) := by
        rw [← hc]
        exact hl
      rw [hl2]
      clear hl hl2 hc hs hf
      have hcz : z = 1 ∨ z = 2 ∨ z = 3 ∨ z = 4 ∨ z = 5 ∨ z = 6 ∨ z = 7 ∨ z = 8 := by omega
      rcases hcz with rfl | rfl | rfl | rfl | rfl | rfl | rfl | rfl
      · have e3 : (256 : Int) ^ (1 - 1) = 1 := by decide
        have e4 : (256 : Int) ^ 1 = 256 := by decide
        rw [e4] at hf2
        simp only [e3, e4, wrap64]
        by_cases hn : n < 128 * 1
        · rw [if_pos (by omega), if_pos hn]
          congr 2
          omega
        · rw [if_neg (by omega), if_neg hn]
          congr 2
          omega
      · have e3 : (256 : Int) ^ (2 - 1) = 256 := by decide
        have e4 : (256 : Int) ^ 2 = 65536 := by decide
        rw [e4] at hf2
        simp only [e3, e4, wrap64]
        by_cases hn : n < 128 * 256
        · rw [if_pos (by omega), if_pos hn]
          congr 2
          omega
        · rw [if_neg (by omega), if_neg hn]
          congr 2
          omega
      · have e3 : (256 : Int) ^ (3 - 1) = 65536 := by decide
        have e4 : (256 : Int) ^ 3 = 16777216 := by decide
        rw [e4] at hf2
        simp only [e3, e4, wrap64]
        by_cases hn : n < 128 * 65536
        · rw [if_pos (by omega), if_pos hn]
          congr 2
          omega
        · rw [if_neg (by omega), if_neg hn]
          congr 2
          omega
      · have e3 : (256 : Int) ^ (4 - 1) = 16777216 := by decide
        have e4 : (256 : Int) ^ 4 = 4294967296 := by decide
        rw [e4] at hf2
        simp only [e3, e4, wrap64]
        by_cases hn : n < 128 * 16777216
        · rw [if_pos (by omega), if_pos hn]
          congr 2
          omega
        · rw [if_neg (by omega), if_neg hn]
          congr 2
          omega
      · have e3 : (256 : Int) ^ (5 - 1) = 4294967296 := by decide
        have e4 : (256 : Int) ^ 5 = 1099511627776 := by decide
        rw [e4] at hf2
        simp only [e3, e4, wrap64]
        by_cases hn : n < 128 * 4294967296
        · rw [if_pos (by omega), if_pos hn]
          congr 2
          omega
        · rw [if_neg (by omega), if_neg hn]
          congr 2
          omega
      · have e3 : (256 : Int) ^ (6 - 1) = 1099511627776 := by decide
        have e4 : (256 : Int) ^ 6 = 281474976710656 := by decide
        rw [e4] at hf2
        simp only [e3, e4, wrap64]
        by_cases hn : n < 128 * 1099511627776
        · rw [if_pos (by omega), if_pos hn]
          congr 2
          omega
        · rw [if_neg (by omega), if_neg hn]
          congr 2
          omega
      · have e3 : (256 : Int) ^ (7 - 1) = 281474976710656 := by decide
        have e4 : (256 : Int) ^ 7 = 72057594037927936 := by decide
        rw [e4] at hf2
        simp only [e3, e4, wrap64]
        by_cases hn : n < 128 * 281474976710656
        · rw [if_pos (by omega), if_pos hn]
          congr 2
          omega
        · rw [if_neg (by omega), if_neg hn]
          congr 2
          omega
      · have e3 : (256 : Int) ^ (8 - 1) = 72057594037927936 := by decide
        have e4 : (256 : Int) ^ 8 = 18446744073709551616 := by decide
        rw [e4] at hf2
        simp only [e3, e4, wrap64]
        by_cases hn : n < 128 * 72057594037927936
        · rw [if_pos (by omega), if_pos hn]
          congr 2
          omega
        · rw [if_neg (by omega), if_neg hn]
          congr 2
          omega
theorem unsigned_ref (n size : Int) (h0 : -9223372036854775808 ≤ n) (h1 : n < 9223372036854775808) (k : Nat) (hk : 50 < k) : ephemerisref03_Unsigned.f k n size = some (unsignedP n size) := by
  unfold ephemerisref03_Unsigned.f unsignedP
  rw [size_p]
  simp only [Option.bind_some]
  cases hs : sizedB size with
  | false => simp
  | true =>
    have hz := sizedB_range _ hs
    simp only [if_true]
    obtain ⟨z, rfl⟩ := Int.eq_ofNat_of_zero_le (show 0 ≤ size by omega)
    obtain ⟨m, hm⟩ : ∃ m, (if n < 0 then -(n + 1) else n) = m := ⟨_, rfl⟩
    have hm0 : 0 ≤ m ∧ m < 9223372036854775808 := by rw [← hm]; split <;> omega
    have e0 : (if n < 0 then ephemerisref03_Unsigned.j0 k n z (wrap64 (-(wrap64 (n + 1)))) else ephemerisref03_Unsigned.j0 k n z n) = ephemerisref03_Unsigned.j0 k n z m := by
      split
      · rename_i hn
        rw [if_pos hn] at hm
        rw [show wrap64 (-(wrap64 (n + 1))) = m by rw [← hm]; unfold wrap64; omega]
      · rename_i hn
        rw [if_neg hn] at hm
        rw [hm]
    rw [e0]
    obtain ⟨k, rfl⟩ : ∃ q, k = q + 1 + 1 := ⟨k - 2, by omega⟩
    simp only [ephemerisref03_Unsigned.j0]
    rw [show IntKind.u64.wrap m = m by rw [IntKind.wrap_u64]; omega, digits_p m z hm0.1 (by omega) (by omega) (k + 1) (by omega)]
    simp only [Option.bind_some, Int.toNat_natCast]
    cases hf : fitsB m z with
    | false =>
      have hf2 : ¬ (m < 256 ^ z) := by simpa [fitsB] using hf
      simp only [Bool.false_eq_true, if_false, ephemerisref03_Unsigned.j1, if_true]
      rw [if_neg]
      clear hs hf e0
      have hcz : z = 1 ∨ z = 2 ∨ z = 3 ∨ z = 4 ∨ z = 5 ∨ z = 6 ∨ z = 7 ∨ z = 8 := by omega
      rcases hcz with rfl | rfl | rfl | rfl | rfl | rfl | rfl | rfl
      · have e3 : (256 : Int) ^ (1 - 1) = 1 := by decide
        have e4 : (256 : Int) ^ 1 = 256 := by decide
        rw [e4] at hf2
        rw [e3]
        split at hm <;> omega
      · have e3 : (256 : Int) ^ (2 - 1) = 256 := by decide
        have e4 : (256 : Int) ^ 2 = 65536 := by decide
        rw [e4] at hf2
        rw [e3]
        split at hm <;> omega
      · have e3 : (256 : Int) ^ (3 - 1) = 65536 := by decide
        have e4 : (256 : Int) ^ 3 = 16777216 := by decide
        rw [e4] at hf2
        rw [e3]
        split at hm <;> omega
      · have e3 : (256 : Int) ^ (4 - 1) = 16777216 := by decide
        have e4 : (256 : Int) ^ 4 = 4294967296 := by decide
        rw [e4] at hf2
        rw [e3]
        split at hm <;> omega
      · have e3 : (256 : Int) ^ (5 - 1) = 4294967296 := by decide
        have e4 : (256 : Int) ^ 5 = 1099511627776 := by decide
        rw [e4] at hf2
        rw [e3]
        split at hm <;> omega
      · have e3 : (256 : Int) ^ (6 - 1) = 1099511627776 := by decide
        have e4 : (256 : Int) ^ 6 = 281474976710656 := by decide
        rw [e4] at hf2
        rw [e3]
        split at hm <;> omega
      · have e3 : (256 : Int) ^ (7 - 1) = 281474976710656 := by decide
        have e4 : (256 : Int) ^ 7 = 72057594037927936 := by decide
        rw [e4] at hf2
        rw [e3]
        split at hm <;> omega
      · have e3 : (256 : Int) ^ (8 - 1) = 72057594037927936 := by decide
        have e4 : (256 : Int) ^ 8 = 18446744073709551616 := by decide
        rw [e4] at hf2
        rw [e3]
        split at hm <;> omega
    | true =>
      have hf2 : m < 256 ^ z := by simpa [fitsB] using hf
      simp only [if_true]
      rw [if_pos (by rw [digL_length]; omega), rd_digL m z (by omega)]
      simp only [ephemerisref03_Unsigned.j1]
      have hl := unsigned_loop (digL m z) (by rw [digL_length]; omega) (digL_range m z) z k 0 (by omega) (by rw [digL_length]; omega) (by omega)
      simp only [List.take_zero, List.drop_zero, compL, List.map_nil, List.nil_append] at hl
      have hc := numL_compL (digL m z)
      rw [digL_length, numL_digL z m hm0.1 hf2] at hc
      have hl2 : ephemerisref03_Unsigned.l0 k (digL m z) 0 = some (256 ^ z - 1 - m, 0) := by
        rw [← hc]
        exact hl
      rw [hl2]
      clear hl hl2 hc hs hf e0
      have hcz : z = 1 ∨ z = 2 ∨ z = 3 ∨ z = 4 ∨ z = 5 ∨ z = 6 ∨ z = 7 ∨ z = 8 := by omega
      rcases hcz with rfl | rfl | rfl | rfl | rfl | rfl | rfl | rfl
      · have e3 : (256 : Int) ^ (1 - 1) = 1 := by decide
        have e4 : (256 : Int) ^ 1 = 256 := by decide
        rw [e4] at hf2
        simp only [e3, e4]
        by_cases hneg : n < 0
        · rw [if_pos hneg] at hm
          by_cases hn : m < 128 * 1
          · rw [if_neg (by simp; omega), if_neg (by omega), if_pos (by omega), if_neg (by omega)]
            congr 2
            omega
          · rw [if_pos (by simp; omega), if_neg (by omega)]
        · rw [if_neg hneg] at hm
          by_cases hn : m < 128 * 1
          · rw [if_neg (by simp; omega), if_pos (by omega), if_pos (by omega), if_pos (by omega), IntKind.wrap_u64]
            congr 2
            omega
          · rw [if_pos (by simp; omega), if_neg (by omega)]
      · have e3 : (256 : Int) ^ (2 - 1) = 256 := by decide
        have e4 : (256 : Int) ^ 2 = 65536 := by decide
        rw [e4] at hf2
        simp only [e3, e4]
        by_cases hneg : n < 0
        · rw [if_pos hneg] at hm
          by_cases hn : m < 128 * 256
          · rw [if_neg (by simp; omega), if_neg (by omega), if_pos (by omega), if_neg (by omega)]
            congr 2
            omega
          · rw [if_pos (by simp; omega), if_neg (by omega)]
        · rw [if_neg hneg] at hm
          by_cases hn : m < 128 * 256
          · rw [if_neg (by simp; omega), if_pos (by omega), if_pos (by omega), if_pos (by omega), IntKind.wrap_u64]
            congr 2
            omega
          · rw [if_pos (by simp; omega), if_neg (by omega)]
      · have e3 : (256 : Int) ^ (3 - 1) = 65536 := by decide
        have e4 : (256 : Int) ^ 3 = 16777216 := by decide
        rw [e4] at hf2
        simp only [e3, e4]
        by_cases hneg : n < 0
        · rw [if_pos hneg] at hm
          by_cases hn : m < 128 * 65536
          · rw [if_neg (by simp; omega), if_neg (by omega), if_pos (by omega), if_neg (by omega)]
            congr 2
            omega
          · rw [if_pos (by simp; omega), if_neg (by omega)]
        · rw [if_neg hneg] at hm
          by_cases hn : m < 128 * 65536
          · rw [if_neg (by simp; omega), if_pos (by omega), if_pos (by omega), if_pos (by omega), IntKind.wrap_u64]
            congr 2
            omega
          · rw [if_pos (by simp; omega), if_neg (by omega)]
      · have e3 : (256 : Int) ^ (4 - 1) = 16777216 := by decide
        have e4 : (256 : Int) ^ 4 = 4294967296 := by decide
        rw [e4] at hf2
        simp only [e3, e4]
        by_cases hneg : n < 0
        · rw [if_pos hneg] at hm
          by_cases hn : m < 128 * 16777216
          · rw [if_neg (by simp; omega), if_neg (by omega), if_pos (by omega), if_neg (by omega)]
            congr 2
            omega
          · rw [if_pos (by simp; omega), if_neg (by omega)]
        · rw [if_neg hneg] at hm
          by_cases hn : m < 128 * 16777216
          · rw [if_neg (by simp; omega), if_pos (by omega), if_pos (by omega), if_pos (by omega), IntKind.wrap_u64]
            congr 2
            omega
          · rw [if_pos (by simp; omega), if_neg (by omega)]
      · have e3 : (256 : Int) ^ (5 - 1) = 4294967296 := by decide
        have e4 : (256 : Int) ^ 5 = 1099511627776 := by decide
        rw [e4] at hf2
        simp only [e3, e4]
        by_cases hneg : n < 0
        · rw [if_pos hneg] at hm
          by_cases hn : m < 128 * 4294967296
          · rw [if_neg (by simp; omega), if_neg (by omega), if_pos (by omega), if_neg (by omega)]
            congr 2
            omega
          · rw [if_pos (by simp; omega), if_neg (by omega)]
        · rw [if_neg hneg] at hm
          by_cases hn : m < 128 * 4294967296
          · rw [if_neg (by simp; omega), if_pos (by omega), if_pos (by omega), if_pos (by omega), IntKind.wrap_u64]
            congr 2
            omega
          · rw [if_pos (by simp; omega), if_neg (by omega)]
      · have e3 : (256 : Int) ^ (6 - 1) = 1099511627776 := by decide
        have e4 : (256 : Int) ^ 6 = 281474976710656 := by decide
        rw [e4] at hf2
        simp only [e3, e4]
        by_cases hneg : n < 0
        · rw [if_pos hneg] at hm
          by_cases hn : m < 128 * 1099511627776
          · rw [if_neg (by simp; omega), if_neg (by omega), if_pos (by omega), if_neg (by omega)]
            congr 2
            omega
          · rw [if_pos (by simp; omega), if_neg (by omega)]
        · rw [if_neg hneg] at hm
          by_cases hn : m < 128 * 1099511627776
          · rw [if_neg (by simp; omega), if_pos (by omega), if_pos (by omega), if_pos (by omega), IntKind.wrap_u64]
            congr 2
            omega
          · rw [if_pos (by simp; omega), if_neg (by omega)]
      · have e3 : (256 : Int) ^ (7 - 1) = 281474976710656 := by decide
        have e4 : (256 : Int) ^ 7 = 72057594037927936 := by decide
        rw [e4] at hf2
        simp only [e3, e4]
        by_cases hneg : n < 0
        · rw [if_pos hneg] at hm
          by_cases hn : m < 128 * 281474976710656
          · rw [if_neg (by simp; omega), if_neg (by omega), if_pos (by omega), if_neg (by omega)]
            congr 2
            omega
          · rw [if_pos (by simp; omega), if_neg (by omega)]
        · rw [if_neg hneg] at hm
          by_cases hn : m < 128 * 281474976710656
          · rw [if_neg (by simp; omega), if_pos (by omega), if_pos (by omega), if_pos (by omega), IntKind.wrap_u64]
            congr 2
            omega
          · rw [if_pos (by simp; omega), if_neg (by omega)]
      · have e3 : (256 : Int) ^ (8 - 1) = 72057594037927936 := by decide
        have e4 : (256 : Int) ^ 8 = 18446744073709551616 := by decide
        rw [e4] at hf2
        simp only [e3, e4]
        by_cases hneg : n < 0
        · rw [if_pos hneg] at hm
          by_cases hn : m < 128 * 72057594037927936
          · rw [if_neg (by simp; omega), if_neg (by omega), if_pos (by omega), if_neg (by omega)]
            congr 2
            omega
          · rw [if_pos (by simp; omega), if_neg (by omega)]
        · rw [if_neg hneg] at hm
          by_cases hn : m < 128 * 72057594037927936
          · rw [if_neg (by simp; omega), if_pos (by omega), if_pos (by omega), if_pos (by omega), IntKind.wrap_u64]
            congr 2
            omega
          · rw [if_pos (by simp; omega), if_neg (by omega)]
end Go.Proofs.Ytdlhmabjgbiagaa.Oct
