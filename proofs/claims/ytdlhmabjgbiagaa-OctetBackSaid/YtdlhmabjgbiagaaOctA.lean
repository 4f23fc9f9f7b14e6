/-
  Plain lemmas on digits to the base 256; what write and Lay leave, as lists.
-/
import Derived.Test.YtdlhmabjgbiagaaOct9
import Derived.Laws.BitsAllLaws
namespace Go.Proofs.Ytdlhmabjgbiagaa.Oct
open Go.RowKit Go.Shelf Go.Proofs.Ytdlhmabjgbiagaa.Blk Go.Proofs.YtdlhmabjgbiagaaW.PrintWords Go.Proofs.YtdlhmabjgbiagaaW.PrintLast Go.Proofs.YtdlhmabjgbiagaaW.PrintMore Go.Proofs.Ytdlhmabjgbiagaa.POctetRows
set_option linter.unusedVariables false
set_option linter.unusedSimpArgs false

theorem snoc_ind {α : Type} {p : List α → Prop} (h0 : p []) (h1 : ∀ l a, p l → p (l ++ [a])) (l : List α) : p l := by
  have h : ∀ r : List α, p r.reverse := by
    intro r
    induction r with
    | nil => exact h0
    | cons a r ih => rw [List.reverse_cons]; exact h1 _ _ ih
  simpa using h l.reverse
/-! ### Digits to the base 256 -/
def digL (n : Int) (z : Nat) : List Int := (List.range z).map (dig n z)
def numL (l : List Int) : Int := l.foldl (fun n d => n * 256 + d) 0
theorem digL_length (n : Int) (z : Nat) : (digL n z).length = z := by simp [digL]
theorem numL_snoc (l : List Int) (d : Int) : numL (l ++ [d]) = numL l * 256 + d := by simp [numL]
theorem pow2_256 (k : Nat) : (2 : Int) ^ (8 * k) = 256 ^ k := by rw [Int.pow_mul]; rfl
theorem p256_pos (k : Nat) : (0 : Int) < 256 ^ k := Int.pow_pos (by omega)
theorem dig_256 (n : Int) (z x : Nat) : dig n z x = n / 256 ^ (z - 1 - x) % 256 := by unfold dig; rw [pow2_256]
theorem dig_range (n : Int) (z x : Nat) : 0 ≤ dig n z x ∧ dig n z x ≤ 255 := by unfold dig; omega
theorem digL_range (n : Int) (z : Nat) : ∀ d ∈ digL n z, 0 ≤ d ∧ d ≤ 255 := by
  intro d hd
  obtain ⟨x, _, rfl⟩ := List.mem_map.1 hd
  exact dig_range _ _ _
theorem digL_succ (n : Int) (z : Nat) : digL n (z + 1) = digL (n / 256) z ++ [n % 256] := by
  unfold digL
  rw [List.range_succ, List.map_append]
  congr 1
  · apply List.map_congr_left
    intro x hx
    have hx := List.mem_range.1 hx
    rw [dig_256, dig_256, show z + 1 - 1 - x = (z - 1 - x) + 1 by omega, Int.pow_succ, Int.mul_comm, Int.ediv_ediv_of_nonneg (by omega)]
  · simp [dig_256]
theorem numL_digL (z : Nat) : ∀ n : Int, 0 ≤ n → n < 256 ^ z → numL (digL n z) = n := by
  induction z with
  | zero =>
    intro n h0 h1
    simp at h1
    simp [digL, numL]
    omega
  | succ z ih =>
    intro n h0 h1
    rw [digL_succ, numL_snoc, ih (n / 256) (by omega)]
    · omega
    · rw [Int.pow_succ] at h1
      exact Int.ediv_lt_of_lt_mul (by omega) h1
theorem numL_bound (l : List Int) (h : ∀ d ∈ l, 0 ≤ d ∧ d ≤ 255) : 0 ≤ numL l ∧ numL l < 256 ^ l.length := by
  revert h
  refine snoc_ind (p := fun l => (∀ d ∈ l, 0 ≤ d ∧ d ≤ 255) → 0 ≤ numL l ∧ numL l < 256 ^ l.length) ?_ ?_ l
  · intro _; simp [numL]
  · intro l d ih h
    have hd := h d (by simp)
    have hi := ih (fun x hx => h x (by simp [hx]))
    rw [numL_snoc, List.length_append, List.length_singleton, Int.pow_succ]
    omega
theorem digL_numL (l : List Int) (h : ∀ d ∈ l, 0 ≤ d ∧ d ≤ 255) : digL (numL l) l.length = l := by
  revert h
  refine snoc_ind (p := fun l => (∀ d ∈ l, 0 ≤ d ∧ d ≤ 255) → digL (numL l) l.length = l) ?_ ?_ l
  · intro _; rfl
  · intro l d ih h
    have hd := h d (by simp)
    have hi := ih (fun x hx => h x (by simp [hx]))
    rw [List.length_append, List.length_singleton, digL_succ, numL_snoc]
    rw [show (numL l * 256 + d) / 256 = numL l by omega, show (numL l * 256 + d) % 256 = d by omega, hi]

/-! ### What a part says is its number -/
theorem or_add (a b : Int) (m : Nat) (ha : 0 ≤ a) (ha2 : a * 256 ^ m + b < 18446744073709551616) (hb : 0 ≤ b) (hb2 : b < 256 ^ m) : Go.bits .or .u64 (a * 256 ^ m) b = a * 256 ^ m + b := by
  have hp := p256_pos m
  have hA : 0 ≤ a * 256 ^ m := Int.mul_nonneg ha (Int.le_of_lt hp)
  rw [u64_or _ _ hA (by omega) hb (by omega)]
  obtain ⟨x, rfl⟩ := Int.eq_ofNat_of_zero_le ha
  obtain ⟨y, rfl⟩ := Int.eq_ofNat_of_zero_le hb
  have e : ((x : Int) * 256 ^ m).toNat = 2 ^ (8 * m) * x := by
    rw [show ((x : Int) * 256 ^ m) = ((2 ^ (8 * m) * x : Nat) : Int) by push_cast; rw [pow2_256]; exact Int.mul_comm _ _]
    rfl
  rw [e, Int.toNat_natCast]
  have hy : y < 2 ^ (8 * m) := by
    have : ((y : Int)) < ((2 ^ (8 * m) : Nat) : Int) := by push_cast; rw [pow2_256]; exact hb2
    omega
  rw [← Nat.two_pow_add_eq_or_of_lt hy]
  push_cast
  rw [pow2_256, Int.mul_comm]
theorem valF_take (l : List Int) (hl : l.length ≤ 8) (h : ∀ d ∈ l, 0 ≤ d ∧ d ≤ 255) (k : Nat) (hk : k ≤ l.length) :
    (List.range k).foldl (fun n x => orDig l n x) 0 = numL (l.take k) * 256 ^ (l.length - k) := by
  induction k with
  | zero => simp [numL]
  | succ k ih =>
    rw [List.range_succ, List.foldl_append, ih (by omega)]
    simp only [List.foldl_cons, List.foldl_nil]
    have hd := h _ (rd_mem l k (by omega))
    have e1 : l.take (k + 1) = l.take k ++ [rd l k] := by
      rw [List.take_succ_eq_append_getElem (by omega)]
      unfold rd
      simp [List.getD_eq_getElem?_getD, List.getElem?_eq_getElem (show k < l.length by omega)]
    have hb := numL_bound (l.take k) (fun d hd => h d (List.mem_of_mem_take hd))
    rw [List.length_take, Nat.min_eq_left (by omega)] at hb
    have hp := p256_pos (l.length - (k + 1))
    have hm : l.length - k = (l.length - (k + 1)) + 1 := by omega
    have hlt : rd l (k : Int) * 256 ^ (l.length - (k + 1)) < 256 ^ (l.length - k) := by
      rw [hm, Int.pow_succ, Int.mul_comm]
      exact Int.mul_lt_mul_of_pos_left (by omega) hp
    have htot : numL (l.take k) * 256 ^ (l.length - k) + rd l (k : Int) * 256 ^ (l.length - (k + 1)) < 18446744073709551616 := by
      have h1 : numL (l.take k) * 256 ^ (l.length - k) + 256 ^ (l.length - k) ≤ 256 ^ k * 256 ^ (l.length - k) := by
        rw [show numL (l.take k) * 256 ^ (l.length - k) + 256 ^ (l.length - k) = (numL (l.take k) + 1) * 256 ^ (l.length - k) by rw [Int.add_mul, Int.one_mul]]
        exact Int.mul_le_mul_of_nonneg_right (by omega) (Int.le_of_lt (p256_pos _))
      rw [← Int.pow_add, show k + (l.length - k) = l.length by omega] at h1
      have h2 : (256 : Int) ^ l.length ≤ 256 ^ 8 := by
        have h := Nat.pow_le_pow_right (n := 256) (by omega) hl
        have h' : ((256 ^ l.length : Nat) : Int) ≤ ((256 ^ 8 : Nat) : Int) := Int.ofNat_le.2 h
        rw [Int.natCast_pow, Int.natCast_pow] at h'
        exact h'
      have h3 : (256 : Int) ^ 8 = 18446744073709551616 := by decide
      omega
    have h0 : 0 ≤ rd l (k : Int) * 256 ^ (l.length - (k + 1)) := Int.mul_nonneg hd.1 (Int.le_of_lt hp)
    have h0' : 0 ≤ numL (l.take k) * 256 ^ (l.length - k) := Int.mul_nonneg hb.1 (Int.le_of_lt (p256_pos _))
    unfold orDig
    rw [pow2_256, show l.length - 1 - k = l.length - (k + 1) by omega, IntKind.wrap_u64, Int.emod_eq_of_lt h0 (by omega), or_add _ _ _ hb.1 htot h0 hlt, e1, numL_snoc, hm, Int.pow_succ]
    generalize (256 : Int) ^ (l.length - (k + 1)) = p
    rw [Int.add_mul, Int.mul_assoc, Int.mul_comm 256 p]
theorem foldl_finRange {α : Type} (n : Nat) (f : α → Nat → α) (a : α) : (List.finRange n).foldl (fun s x => f s x.1) a = (List.range n).foldl f a := by
  have e : (List.finRange n).map (fun x => x.1) = List.range n := by apply List.ext_getElem <;> simp
  rw [← e, List.foldl_map]
theorem valO_numL (l : List Int) (hl : l.length ≤ 8) (h : ∀ d ∈ l, 0 ≤ d ∧ d ≤ 255) : valO l = numL l := by
  unfold valO valF
  rw [foldl_finRange l.length (fun n x => orDig l n x) 0, valF_take l hl h l.length (Nat.le_refl _)]
  simp

/-! ### The cells behind write -/
theorem mixd_get (cs : List Value) (o len : Nat) (n : Int) (ps : List (Fin len)) (i : Nat) :
    (mixd cs o len n ps)[i]? = if (∃ x ∈ ps, o + x.1 = i) ∧ i < cs.length then some (.int .u8 (dig n len (i - o))) else cs[i]? := by
  refine snoc_ind (p := fun ps => (mixd cs o len n ps)[i]? = if (∃ x ∈ ps, o + x.1 = i) ∧ i < cs.length then some (.int .u8 (dig n len (i - o))) else cs[i]?) ?_ ?_ ps
  · simp [mixd]
  · intro ps x ih
    rw [mixd_snoc, List.getElem?_set, mixd_length]
    by_cases hx : o + x.1 = i
    · subst hx
      by_cases hl : o + x.1 < cs.length
      · rw [if_pos rfl, if_pos hl, if_pos ⟨⟨x, by simp, rfl⟩, hl⟩]
        congr 3
        omega
      · rw [if_pos rfl, if_neg hl, if_neg (fun h => hl h.2), List.getElem?_eq_none (by omega)]
    · rw [if_neg hx, ih]
      have hiff : ((∃ y ∈ ps, o + y.1 = i) ∧ i < cs.length) ↔ ((∃ y ∈ ps ++ [x], o + y.1 = i) ∧ i < cs.length) := by
        constructor
        · rintro ⟨⟨y, hy, e⟩, h⟩
          exact ⟨⟨y, by simp [hy], e⟩, h⟩
        · rintro ⟨⟨y, hy, e⟩, h⟩
          rcases List.mem_append.1 hy with hy | hy
          · exact ⟨⟨y, hy, e⟩, h⟩
          · simp at hy
            subst hy
            exact absurd e hx
      simp only [hiff]
theorem mixd_full (cs : List Value) (o len : Nat) (n : Int) (h : o + len ≤ cs.length) :
    mixd cs o len n (List.finRange len) = cs.take o ++ (digL n len).map (Value.int .u8) ++ cs.drop (o + len) := by
  apply List.ext_getElem?
  intro i
  rw [mixd_get]
  by_cases h1 : i < o
  · rw [if_neg (by rintro ⟨⟨x, _, e⟩, _⟩; omega), List.append_assoc, List.getElem?_append_left (by simp; omega), List.getElem?_take_of_lt h1]
  · by_cases h2 : i < o + len
    · rw [if_pos ⟨⟨⟨i - o, by omega⟩, List.mem_finRange _, by simp; omega⟩, by omega⟩, List.getElem?_append_left (by simp [digL_length]; omega), List.getElem?_append_right (by simp; omega)]
      simp [digL, List.getElem?_range, show min o cs.length = o by omega, show i - o < len by omega]
    · rw [if_neg (by rintro ⟨⟨x, _, e⟩, _⟩; have := x.2; omega), List.getElem?_append_right (by simp [digL_length]; omega), List.getElem?_drop]
      congr 1
      simp [digL_length]
      omega

/-- The bytes of the first k numbers. -/
def layK (sizes l : List Int) : Nat → List Int
  | 0 => []
  | k + 1 => layK sizes l k ++ digL (rd l k) (rd sizes k).toNat
theorem layK_length (sizes l : List Int) (k : Nat) (hk : k ≤ sizes.length) (hok : ∀ s ∈ sizes, 1 ≤ s ∧ s ≤ 8) : (layK sizes l k).length = offs sizes k := by
  induction k with
  | zero => simp [layK, offs]
  | succ k ih =>
    have hz := hok _ (rd_mem sizes k (by omega))
    have ho := offs_succ sizes k (by omega) (by omega)
    rw [layK, List.length_append, ih (by omega), digL_length]
    omega
theorem layK_range (sizes l : List Int) (k : Nat) : ∀ d ∈ layK sizes l k, 0 ≤ d ∧ d ≤ 255 := by
  induction k with
  | zero => simp [layK]
  | succ k ih =>
    intro d hd
    rcases List.mem_append.1 hd with hd | hd
    · exact ih d hd
    · exact digL_range _ _ d hd
theorem laidC_eq (sizes l : List Int) (k : Nat) (hk : k ≤ sizes.length) (hok : ∀ s ∈ sizes, 1 ≤ s ∧ s ≤ 8) :
    laidC sizes l (zer (offs sizes sizes.length)) k = (layK sizes l k).map (Value.int .u8) ++ zer (offs sizes sizes.length - offs sizes k) := by
  induction k with
  | zero => simp [laidC, layK, offs_zero]
  | succ k ih =>
    have hz := hok _ (rd_mem sizes k (by omega))
    have ho := offs_succ sizes k (by omega) (by omega)
    have hm := offs_mono sizes (k + 1) sizes.length hk (fun s hs => (hok s hs).1)
    have hl := layK_length sizes l k (by omega) hok
    rw [laidC, ih (by omega), mixd_full _ _ _ _ (by simp [hl, zer]; omega), layK, List.map_append]
    congr 1
    · congr 1
      rw [List.take_append_of_le_length (by simp [hl]), List.take_of_length_le (by simp [hl])]
    · rw [List.drop_append, List.drop_eq_nil_of_le (by simp [hl])]
      simp [hl, zer]
      omega
theorem laidC_all (sizes l : List Int) (hok : ∀ s ∈ sizes, 1 ≤ s ∧ s ≤ 8) : laidC sizes l (zer (offs sizes sizes.length)) sizes.length = (layK sizes l sizes.length).map (Value.int .u8) := by
  rw [laidC_eq sizes l _ (Nat.le_refl _) hok]
  simp [zer]
end Go.Proofs.Ytdlhmabjgbiagaa.Oct
