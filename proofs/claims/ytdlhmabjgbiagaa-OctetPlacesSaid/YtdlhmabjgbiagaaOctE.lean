/-
  What the document's own functions (ephemerisref03) come to, as plain functions on lists.
-/
import Derived.Test.YtdlhmabjgbiagaaOctD
namespace Go.Proofs.Ytdlhmabjgbiagaa.Oct
open Go.RowKit Go.Shelf Go.Proofs.Ytdlhmabjgbiagaa.Blk Go.Proofs.YtdlhmabjgbiagaaW.PrintWords Go.Proofs.YtdlhmabjgbiagaaW.PrintLast Go.Proofs.YtdlhmabjgbiagaaW.PrintMore Go.Proofs.Ytdlhmabjgbiagaa.POctetRows
set_option linter.unusedVariables false
set_option linter.unusedSimpArgs false

/-! ### What the document's own functions come to -/
theorem own_f (l : List Int) (h : l.length < 140737488355328) : ephemerisref03_Own.f l = some l := by
  unfold ephemerisref03_Own.f
  rw [if_pos (by simpa using h)]
  simp
theorem size_f (n : Int) : ephemerisref03_Size.f n = some (sizedB n) := by
  unfold ephemerisref03_Size.f sizedB
  by_cases h : 0 < n ∧ n ≤ 8
  · have : n = 1 ∨ n = 2 ∨ n = 3 ∨ n = 4 ∨ n = 5 ∨ n = 6 ∨ n = 7 ∨ n = 8 := by omega
    rcases this with rfl | rfl | rfl | rfl | rfl | rfl | rfl | rfl <;> decide
  · rw [if_neg (by omega), if_neg (by omega), if_neg (by omega), if_neg (by omega), if_neg (by omega), if_neg (by omega), if_neg (by omega)]
    congr 1
    rw [Bool.eq_iff_iff]
    simp
    omega
theorem drop_cons (l : List Int) (i : Nat) (h : i < l.length) : l.drop i = rd l i :: l.drop (i + 1) := by
  rw [List.drop_eq_getElem_cons h]
  congr 1
  unfold rd
  simp [List.getD_eq_getElem?_getD, List.getElem?_eq_getElem h]
theorem wrap_succ (i : Nat) (h : i ≤ 1000000000000) : wrap64 ((i : Int) + 1) = ((i + 1 : Nat) : Int) := by unfold wrap64; omega

/-- How wide the document says a row is. -/
def widR (l : List Int) : Int := if l.any badB = true then -1 else offs l l.length
theorem width_loop (l : List Int) (hl : l.length ≤ 1000000000) (d : Nat) : ∀ (k i : Nat), i ≤ l.length → l.length - i = d → d < k → (∀ s ∈ l.take i, 1 ≤ s ∧ s ≤ 8) →
    ephemerisref03_Width.l0 k l (offs l i : Int) (i : Int) = some (if (l.drop i).any badB = true then -1 else (offs l l.length : Int)) := by
  induction d with
  | zero =>
    intro k i h1 h2 h3 h4
    obtain ⟨k, rfl⟩ : ∃ m, k = m + 1 := ⟨k - 1, by omega⟩
    obtain rfl : i = l.length := by omega
    simp only [ephemerisref03_Width.l0]
    rw [if_neg (by omega)]
    simp
  | succ d ih =>
    intro k i h1 h2 h3 h4
    obtain ⟨k, rfl⟩ : ∃ m, k = m + 1 := ⟨k - 1, by omega⟩
    simp only [ephemerisref03_Width.l0]
    rw [if_pos (by omega), if_pos (by omega), size_f]
    simp only [Option.bind_some]
    rw [drop_cons l i (by omega), List.any_cons]
    cases hb : sizedB (rd l i) with
    | true =>
      have hz := sizedB_range _ hb
      have ho := offs_succ l i (by omega) (by omega)
      have hsm : offs l i ≤ 8 * i := by
        clear ih h3 ho
        have : ∀ j, j ≤ i → offs l j ≤ 8 * j := by
          intro j
          induction j with
          | zero => intro _; simp [offs]
          | succ j ihj =>
            intro hj
            have h5 := ihj (by omega)
            have hm : rd l j ∈ l.take i := by
              have := rd_mem (l.take i) j (by simp; omega)
              have e : rd (l.take i) j = rd l j := by
                unfold rd
                simp only [Int.toNat_natCast, List.getD_eq_getElem?_getD, List.getElem?_take_of_lt (show j < i by omega)]
              rwa [e] at this
            have h6 := h4 _ hm
            have h7 := offs_succ l j (by omega) (by omega)
            omega
        exact this i (Nat.le_refl _)
      rw [if_pos rfl, wrap_succ i (by omega), show wrap64 ((offs l i : Int) + rd l i) = (offs l (i + 1) : Int) by rw [ho]; unfold wrap64; omega]
      rw [ih k (i + 1) (by omega) (by omega) (by omega)]
      · simp [badB, hb]
      · intro s hs
        rw [List.take_succ_eq_append_getElem (by omega)] at hs
        rcases List.mem_append.1 hs with hs | hs
        · exact h4 s hs
        · simp at hs
          have e : rd l i = l[i] := by
            unfold rd
            simp [List.getD_eq_getElem?_getD, List.getElem?_eq_getElem (show i < l.length by omega)]
          rw [hs, ← e]
          exact hz
    | false =>
      rw [if_neg (by simp)]
      simp [badB, hb]
theorem width_f (l : List Int) (hl : l.length ≤ 1000000000) (k : Nat) (hk : l.length < k) : ephemerisref03_Width.f k l = some (widR l) := by
  unfold ephemerisref03_Width.f widR
  have := width_loop l hl l.length k 0 (by omega) (by omega) hk (by simp)
  simpa [offs_zero] using this

theorem digits_loop (n : Int) (z : Nat) (h0 : 0 ≤ n) (h1 : n < 18446744073709551616) (hz : z ≤ 8) (i : Nat) : ∀ (k : Nat), i ≤ z → i < k →
    ephemerisref03_Digits.l0 k (n / 256 ^ (z - i)) (List.replicate i 0 ++ (digL n z).drop i) ((i : Int) - 1) = some (digL n z, n / 256 ^ z == 0) := by
  induction i with
  | zero =>
    intro k _ hk
    obtain ⟨k, rfl⟩ : ∃ m, k = m + 1 := ⟨k - 1, by omega⟩
    simp only [ephemerisref03_Digits.l0]
    rw [if_neg (by omega)]
    simp
  | succ i ih =>
    intro k hi hk
    obtain ⟨k, rfl⟩ : ∃ m, k = m + 1 := ⟨k - 1, by omega⟩
    simp only [ephemerisref03_Digits.l0]
    have hi1 : ((i + 1 : Nat) : Int) - 1 = (i : Int) := by omega
    rw [hi1, if_pos (by omega), if_pos (by omega), if_pos (by simp [digL_length]; omega)]
    have hp := p256_pos (z - (i + 1))
    have hnn : 0 ≤ n / 256 ^ (z - (i + 1)) := Int.ediv_nonneg h0 (by omega)
    have hle : n / 256 ^ (z - (i + 1)) ≤ n := Int.ediv_le_self _ h0
    have e1 : Int.tdiv (n / 256 ^ (z - (i + 1))) 256 = n / 256 ^ (z - i) := by
      rw [Int.tdiv_eq_ediv_of_nonneg hnn, Int.ediv_ediv_of_nonneg (by omega), ← Int.pow_succ]
      congr 2
      omega
    have hnn2 : 0 ≤ n / 256 ^ (z - i) := Int.ediv_nonneg h0 (by have := p256_pos (z - i); omega)
    have hle2 : n / 256 ^ (z - i) ≤ n := Int.ediv_le_self _ h0
    have e2 : Int.tmod (n / 256 ^ (z - (i + 1))) 256 % 256 = dig n z i := by
      rw [Int.tmod_eq_emod_of_nonneg hnn, dig_256, show z - 1 - i = z - (i + 1) by omega]
      omega
    have e3 : wrap64 ((i : Int) - 1) = (i : Int) - 1 := by unfold wrap64; omega
    rw [e1, e2, IntKind.wrap_u64, Int.emod_eq_of_lt hnn2 (by omega), e3, Int.toNat_natCast]
    have e4 : (List.replicate (i + 1) (0 : Int) ++ (digL n z).drop (i + 1)).set i (dig n z i) = List.replicate i 0 ++ (digL n z).drop i := by
      have e5 : (digL n z).drop i = dig n z i :: (digL n z).drop (i + 1) := by
        rw [List.drop_eq_getElem_cons (by rw [digL_length]; omega)]
        simp [digL]
      rw [e5, List.replicate_succ', List.append_assoc, List.set_append_right _ _ (by simp)]
      simp
    rw [e4]
    exact ih k (by omega) (by omega)
theorem digits_f (n : Int) (z : Nat) (h0 : 0 ≤ n) (h1 : n < 18446744073709551616) (hz : z ≤ 8) (k : Nat) (hk : z < k) : ephemerisref03_Digits.f k n z = some (digL n z, fitsB n z) := by
  unfold ephemerisref03_Digits.f
  rw [if_pos (by omega), if_pos (by omega), Int.toNat_natCast, show wrap64 ((z : Int) - 1) = (z : Int) - 1 by unfold wrap64; omega]
  have := digits_loop n z h0 h1 hz z k (Nat.le_refl _) hk
  rw [Nat.sub_self, List.drop_eq_nil_of_le (by rw [digL_length]; omega)] at this
  simp only [Int.pow_zero, Int.ediv_one, List.append_nil] at this
  rw [this]
  congr 2
  unfold fitsB
  have hp := p256_pos z
  rw [Bool.eq_iff_iff, beq_iff_eq, decide_eq_true_eq]
  constructor
  · intro h
    by_cases h3 : n < 256 ^ z
    · exact h3
    · have h4 : 1 ≤ n / 256 ^ z := (Int.le_ediv_iff_mul_le hp).2 (by omega)
      omega
  · intro h
    exact Int.ediv_eq_zero_of_lt h0 h

theorem pow_le_64 (z : Nat) (hz : z ≤ 8) : (256 : Int) ^ z ≤ 18446744073709551616 := by
  have h := Nat.pow_le_pow_right (n := 256) (by omega) hz
  have h' : ((256 ^ z : Nat) : Int) ≤ ((256 ^ 8 : Nat) : Int) := Int.ofNat_le.2 h
  rw [Int.natCast_pow, Int.natCast_pow] at h'
  have h3 : (((256 : Nat) : Int)) ^ 8 = 18446744073709551616 := by decide
  rw [h3] at h'
  exact h'
theorem number_loop (l : List Int) (hl : l.length ≤ 8) (hwf : ∀ d ∈ l, 0 ≤ d ∧ d ≤ 255) (d : Nat) : ∀ (k i : Nat), i ≤ l.length → l.length - i = d → d < k →
    ephemerisref03_Number.l0 k l (numL (l.take i)) (i : Int) = some (numL l) := by
  induction d with
  | zero =>
    intro k i h1 h2 h3
    obtain ⟨k, rfl⟩ : ∃ m, k = m + 1 := ⟨k - 1, by omega⟩
    simp only [ephemerisref03_Number.l0]
    rw [if_neg (by omega), List.take_of_length_le (by omega)]
  | succ d ih =>
    intro k i h1 h2 h3
    obtain ⟨k, rfl⟩ : ∃ m, k = m + 1 := ⟨k - 1, by omega⟩
    simp only [ephemerisref03_Number.l0]
    rw [if_pos (by omega), if_pos (by omega), wrap_succ i (by omega)]
    have hd := hwf _ (rd_mem l i (by omega))
    have hb := numL_bound (l.take (i + 1)) (fun d hd => hwf d (List.mem_of_mem_take hd))
    have e1 : l.take (i + 1) = l.take i ++ [rd l i] := by
      rw [List.take_succ_eq_append_getElem (by omega)]
      unfold rd
      simp [List.getD_eq_getElem?_getD, List.getElem?_eq_getElem (show i < l.length by omega)]
    have hb0 := numL_bound (l.take i) (fun d hd => hwf d (List.mem_of_mem_take hd))
    have hp := pow_le_64 (l.take (i + 1)).length (by simp; omega)
    rw [e1, numL_snoc] at hb
    rw [e1] at hp
    have e2 : IntKind.u64.wrap (IntKind.u64.wrap (numL (l.take i) * 256) + IntKind.u64.wrap (rd l i)) = numL (l.take (i + 1)) := by
      rw [e1, numL_snoc, IntKind.wrap_u64, IntKind.wrap_u64, IntKind.wrap_u64]
      omega
    rw [e2]
    exact ih k (i + 1) (by omega) (by omega) (by omega)
theorem number_f (l : List Int) (hl : l.length ≤ 8) (hwf : ∀ d ∈ l, 0 ≤ d ∧ d ≤ 255) (k : Nat) (hk : l.length < k) : ephemerisref03_Number.f k l = some (numL l) := by
  unfold ephemerisref03_Number.f
  have := number_loop l hl hwf l.length k 0 (by omega) (by omega) hk
  simpa [numL] using this

theorem sizes_wf (sizes : List Int) (j : Nat) (hj : j < sizes.length) (hb : sizes.any badB = false) : 1 ≤ rd sizes j ∧ rd sizes j ≤ 8 := good_of sizes hb _ (rd_mem sizes j hj)
theorem allFit_false (sizes l : List Int) (k m : Nat) (hkm : k < m) (h : fitsB (rd l k) (rd sizes k).toNat = false) : allFit sizes l m = false := by
  unfold allFit
  rw [List.all_eq_false]
  exact ⟨k, List.mem_range.2 hkm, by simp [h]⟩
theorem lay_loop (sizes l : List Int) (hne : sizes.length = l.length) (hlen : sizes.length ≤ 1000000000) (hb : sizes.any badB = false) (hwf : ∀ x ∈ l, 0 ≤ x ∧ x < 18446744073709551616) (d : Nat) : ∀ (k i : Nat), i ≤ l.length → l.length - i = d → d + 10 < k → allFit sizes l i = true →
    ephemerisref03_Lay.l0 k sizes l (layK sizes l i) (i : Int) = some (if allFit sizes l sizes.length = true then (layK sizes l sizes.length, 0) else ([], 20)) := by
  induction d with
  | zero =>
    intro k i h1 h2 h3 h4
    obtain ⟨k, rfl⟩ : ∃ m, k = m + 1 := ⟨k - 1, by omega⟩
    obtain rfl : i = sizes.length := by omega
    simp only [ephemerisref03_Lay.l0]
    rw [if_neg (by omega), if_pos h4]
  | succ d ih =>
    intro k i h1 h2 h3 h4
    obtain ⟨k, rfl⟩ : ∃ m, k = m + 1 := ⟨k - 1, by omega⟩
    simp only [ephemerisref03_Lay.l0]
    have hz := sizes_wf sizes i (by omega) hb
    have hw := hwf _ (rd_mem l i (by omega))
    obtain ⟨z, hzz⟩ := Int.eq_ofNat_of_zero_le (show 0 ≤ rd sizes i by omega)
    rw [if_pos (by omega), if_pos (by omega), if_pos (by omega), hzz, digits_f (rd l i) z hw.1 hw.2 (by omega) k (by omega)]
    simp only [Option.bind_some]
    have hzn : (rd sizes i).toNat = z := by omega
    cases hf : fitsB (rd l i) z with
    | true =>
      have hll := layK_length sizes l i (by omega) (good_of sizes hb)
      have hoo := (sumW_offs sizes (good_of sizes hb) (by omega) i (by omega)).2
      rw [if_pos rfl, if_pos (by rw [hll, digL_length]; omega), wrap_succ i (by omega)]
      have e : layK sizes l i ++ digL (rd l i) z = layK sizes l (i + 1) := by rw [layK, hzn]
      rw [e]
      exact ih k (i + 1) (by omega) (by omega) (by omega) (by rw [allFit_snoc, h4, hzn, hf]; rfl)
    | false =>
      rw [if_neg (by simp), if_neg]
      rw [allFit_false sizes l i sizes.length (by omega) (by rw [hzn]; exact hf)]
      simp
theorem lay_f (sizes l : List Int) (hlen : sizes.length ≤ 1000000000) (hwf : ∀ x ∈ l, 0 ≤ x ∧ x < 18446744073709551616) (k : Nat) (hk : sizes.length + 20 < k) : ephemerisref03_Lay.f k sizes l = some (layP sizes l) := by
  unfold ephemerisref03_Lay.f layP
  rw [width_f sizes hlen k (by omega)]
  simp only [Option.bind_some, widR]
  obtain ⟨k, rfl⟩ : ∃ m, k = m + 1 := ⟨k - 1, by omega⟩
  simp only [ephemerisref03_Lay.j0]
  cases hb : sizes.any badB with
  | true => simp
  | false =>
    have hno : ¬ ((if (false = true) then (-1 : Int) else (offs sizes sizes.length : Int)) < 0) := by rw [if_neg (by simp)]; omega
    rw [if_neg hno]
    by_cases hne : sizes.length = l.length
    · rw [if_neg (by simp [hne]), if_neg (by simp [hne])]
      have := lay_loop sizes l hne hlen hb hwf l.length k 0 (by omega) (by omega) (by omega) rfl
      exact this
    · rw [if_pos (by simp; omega), if_pos (.inr hne)]

theorem take_loop (sizes lb : List Int) (hlen : sizes.length ≤ 1000000000) (hb : sizes.any badB = false) (hm : offs sizes sizes.length ≤ lb.length) (hlb : lb.length < 140737488355328) (hwf : ∀ x ∈ lb, 0 ≤ x ∧ x ≤ 255) (d : Nat) : ∀ (k i : Nat), i ≤ sizes.length → sizes.length - i = d → d + 10 < k →
    ephemerisref03_Take.l0 k sizes lb ((List.range i).map fun j => numL (partOf sizes lb j)) (offs sizes i : Int) (i : Int) = some ((List.range sizes.length).map (fun j => numL (partOf sizes lb j)), lb.drop (offs sizes sizes.length), 0) := by
  induction d with
  | zero =>
    intro k i h1 h2 h3
    obtain ⟨k, rfl⟩ : ∃ m, k = m + 1 := ⟨k - 1, by omega⟩
    obtain rfl : i = sizes.length := by omega
    simp only [ephemerisref03_Take.l0]
    rw [if_neg (by omega), if_pos (by omega), if_pos (by omega), Int.toNat_natCast, own_f _ (by simp; omega)]
    rfl
  | succ d ih =>
    intro k i h1 h2 h3
    obtain ⟨k, rfl⟩ : ∃ m, k = m + 1 := ⟨k - 1, by omega⟩
    simp only [ephemerisref03_Take.l0]
    have hok := good_of sizes hb
    have hz := sizes_wf sizes i (by omega) hb
    have ho := offs_succ sizes i (by omega) (by omega)
    have hmo := offs_mono sizes (i + 1) sizes.length (by omega) (fun s hs => (hok s hs).1)
    have hoo := (sumW_offs sizes hok (by omega) i (by omega)).2
    obtain ⟨hpl, hpo⟩ := partOf_length sizes lb i (by omega) hok hm
    rw [show wrap64 ((offs sizes i : Int) + rd sizes i) = (offs sizes (i + 1) : Int) by rw [ho]; unfold wrap64; omega]
    rw [if_pos (by omega), if_pos (by omega), if_pos (by omega), if_pos (by omega), if_pos (by omega), Int.toNat_natCast, Int.toNat_natCast]
    have e : (lb.take (offs sizes (i + 1))).drop (offs sizes i) = partOf sizes lb i := by
      unfold partOf
      rw [List.drop_take]
      congr 1
      omega
    rw [e, number_f _ (by omega) (fun x hx => hwf x (mem_part hx)) k (by omega)]
    simp only [Option.bind_some]
    rw [if_pos (by simp; omega), wrap_succ i (by omega)]
    have := ih k (i + 1) (by omega) (by omega) (by omega)
    rw [List.range_succ, List.map_append] at this
    exact this
theorem take_f (sizes lb : List Int) (hlen : sizes.length ≤ 1000000000) (hlb : lb.length < 140737488355328) (hwf : ∀ x ∈ lb, 0 ≤ x ∧ x ≤ 255) (k : Nat) (hk : sizes.length + 20 < k) : ephemerisref03_Take.f k sizes lb = some (takeP sizes lb) := by
  unfold ephemerisref03_Take.f takeP
  rw [width_f sizes hlen k (by omega)]
  simp only [Option.bind_some, widR]
  cases hb : sizes.any badB with
  | true => simp
  | false =>
    simp only [Bool.false_eq_true, if_false]
    rw [if_neg (show ¬ ((offs sizes sizes.length : Int) < 0) by omega)]
    by_cases hm : lb.length < offs sizes sizes.length
    · rw [if_pos (show (lb.length : Int) < (offs sizes sizes.length : Int) by omega), if_pos hm]
    · rw [if_neg (show ¬ ((lb.length : Int) < (offs sizes sizes.length : Int)) by omega), if_neg hm]
      have := take_loop sizes lb hlen hb (by omega) hlb hwf sizes.length k 0 (by omega) (by omega) (by omega)
      simpa [offs_zero] using this
end Go.Proofs.Ytdlhmabjgbiagaa.Oct
