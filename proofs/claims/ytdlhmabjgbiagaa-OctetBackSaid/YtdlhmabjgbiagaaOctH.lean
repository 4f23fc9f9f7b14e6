/-
  Plain laws: bytes that are laid compare as the number that differs; what is laid is what is taken.
-/
import Derived.Test.YtdlhmabjgbiagaaOctG
import Derived.Lib.BytesEntry
namespace Go.Proofs.Ytdlhmabjgbiagaa.Oct
open Go.RowKit Go.Shelf Go.Proofs.Ytdlhmabjgbiagaa.Blk Go.Proofs.YtdlhmabjgbiagaaW.PrintWords Go.Proofs.YtdlhmabjgbiagaaW.PrintLast Go.Proofs.YtdlhmabjgbiagaaW.PrintMore Go.Proofs.Ytdlhmabjgbiagaa.POctetRows
set_option linter.unusedVariables false
set_option linter.unusedSimpArgs false

/-! ### Order -/
def ordI (a b : Int) : Int := if a < b then -1 else if b < a then 1 else 0
def cmpI (a b : List Int) : Int := Lib.compareBytes (Lib.bytesOf a) (Lib.bytesOf b)
theorem u8_lt {a b : Int} (ha : 0 ≤ a ∧ a ≤ 255) (hb : 0 ≤ b ∧ b ≤ 255) : UInt8.ofNat a.toNat < UInt8.ofNat b.toNat ↔ a < b := by
  rw [UInt8.lt_iff_toNat_lt, UInt8.toNat_ofNat', UInt8.toNat_ofNat', Nat.mod_eq_of_lt (by omega), Nat.mod_eq_of_lt (by omega)]
  omega
theorem cmp_self (l : List UInt8) : Lib.compareBytes l l = 0 := by
  induction l with
  | nil => rfl
  | cons x l ih => rw [Lib.compareBytes, if_neg (UInt8.lt_irrefl x), if_neg (UInt8.lt_irrefl x), ih]
theorem cmp_append (a b s t : List UInt8) (h : a.length = b.length) : Lib.compareBytes (a ++ s) (b ++ t) = if Lib.compareBytes a b = 0 then Lib.compareBytes s t else Lib.compareBytes a b := by
  induction a generalizing b with
  | nil =>
    obtain rfl : b = [] := List.eq_nil_of_length_eq_zero h.symm
    rfl
  | cons x a ih =>
    cases b with
    | nil => simp at h
    | cons y b =>
      have h' : a.length = b.length := by simpa using h
      simp only [List.cons_append, Lib.compareBytes]
      by_cases h1 : x < y
      · simp only [if_pos h1]; rfl
      · by_cases h2 : y < x
        · simp only [if_neg h1, if_pos h2]; rfl
        · simp only [if_neg h1, if_neg h2]
          exact ih b h'
theorem cmpI_append (a b s t : List Int) (h : a.length = b.length) : cmpI (a ++ s) (b ++ t) = if cmpI a b = 0 then cmpI s t else cmpI a b := by
  unfold cmpI Lib.bytesOf
  rw [List.map_append, List.map_append, cmp_append _ _ _ _ (by simp [h])]
theorem cmpI_self (a : List Int) : cmpI a a = 0 := cmp_self _
theorem cmpI_one (a b : Int) (ha : 0 ≤ a ∧ a ≤ 255) (hb : 0 ≤ b ∧ b ≤ 255) : cmpI [a] [b] = ordI a b := by
  unfold cmpI Lib.bytesOf ordI
  simp only [List.map_cons, List.map_nil, Lib.compareBytes]
  have h1 := u8_lt ha hb
  have h2 := u8_lt hb ha
  simp only [Nat.toUInt8, h1, h2]
theorem cmpI_dig (z : Nat) : ∀ a b : Int, 0 ≤ a → a < 256 ^ z → 0 ≤ b → b < 256 ^ z → cmpI (digL a z) (digL b z) = ordI a b := by
  induction z with
  | zero =>
    intro a b h0 h1 h2 h3
    simp at h1 h3
    obtain rfl : a = 0 := by omega
    obtain rfl : b = 0 := by omega
    exact cmpI_self _
  | succ z ih =>
    intro a b h0 h1 h2 h3
    rw [Int.pow_succ] at h1 h3
    rw [digL_succ, digL_succ, cmpI_append _ _ _ _ (by simp [digL_length]), ih (a / 256) (b / 256) (by omega) (Int.ediv_lt_of_lt_mul (by omega) h1) (by omega) (Int.ediv_lt_of_lt_mul (by omega) h3), cmpI_one _ _ (by omega) (by omega)]
    clear ih h1 h3
    unfold ordI
    by_cases c1 : a / 256 < b / 256
    · rw [if_pos c1, if_neg (by omega), if_pos (by omega)]
    · rw [if_neg c1]
      by_cases c2 : b / 256 < a / 256
      · rw [if_pos c2, if_neg (by omega), if_neg (by omega), if_pos (by omega)]
      · rw [if_neg c2, if_pos rfl]
        by_cases c3 : a % 256 < b % 256
        · rw [if_pos c3, if_pos (by omega)]
        · rw [if_neg c3, if_neg (show ¬ a < b by omega)]
          by_cases c4 : b % 256 < a % 256
          · rw [if_pos c4, if_pos (by omega)]
          · rw [if_neg c4, if_neg (by omega)]
theorem lay_order {ss aa : List Int} (h : Good ss aa) (k : Nat) (n : Int) (hk : k < ss.length) (h0 : 0 ≤ n) (h1 : n < 256 ^ (rd ss k).toNat) (j : Nat) (hj : j ≤ ss.length) :
    cmpI (layK ss aa j) (layK ss (aa.set k n) j) = if j ≤ k then 0 else ordI (rd aa k) n := by
  have hg := h.set k n hk h0 h1
  induction j with
  | zero => rw [if_pos (by omega)]; exact cmpI_self _
  | succ j ih =>
    have l1 := layK_length ss aa j (by omega) h.sizes
    have l2 := layK_length ss (aa.set k n) j (by omega) h.sizes
    rw [layK, layK, cmpI_append _ _ _ _ (by rw [l1, l2]), ih (by omega), rd_set aa k n j (by rw [← h.1]; exact hk)]
    clear ih
    by_cases c : j = k
    · subst c
      have hq := (h.2.2 j hk).2
      rw [if_pos (Nat.le_refl _), if_pos rfl, if_pos rfl, if_neg (by omega)]
      exact cmpI_dig _ _ _ hq.1 hq.2 h0 h1
    · rw [if_neg c, cmpI_self]
      by_cases c2 : j ≤ k
      · rw [if_pos c2, if_pos rfl, if_pos (by omega)]
      · rw [if_neg c2, if_neg (show ¬ j + 1 ≤ k by omega)]
        split
        · rename_i e; exact e.symm
        · rfl
/-! ### There and back -/
theorem part_lay {ss aa : List Int} (h : Good ss aa) (j : Nat) (k : Nat) (hk : k ≤ ss.length) (hj : j < k) (t : List Int) : (((layK ss aa k ++ t).drop (offs ss j)).take (rd ss j).toNat) = digL (rd aa j) (rd ss j).toNat := by
  induction k generalizing t with
  | zero => omega
  | succ k ih =>
    rw [layK, List.append_assoc]
    by_cases c : j = k
    · subst c
      rw [List.drop_append_of_le_length (by rw [layK_length ss aa j (by omega) h.sizes]; omega), List.drop_of_length_le (by rw [layK_length ss aa j (by omega) h.sizes]; omega), List.nil_append]
      rw [List.take_append_of_le_length (by rw [digL_length]; omega), List.take_of_length_le (by rw [digL_length]; omega)]
    · exact ih (by omega) (by omega) _
theorem list_rd (l : List Int) : (List.range l.length).map (fun j : Nat => rd l (j : Int)) = l := by
  apply List.ext_getElem
  · simp
  · intro i h1 h2
    rw [List.getElem_map, List.getElem_range]
    unfold rd
    simp [List.getD_eq_getElem?_getD, List.getElem?_eq_getElem h2]
theorem take_lay {ss aa : List Int} (h : Good ss aa) (t : List Int) : takeP ss (layK ss aa ss.length ++ t) = (aa, t, 0) := by
  have hl := layK_length ss aa ss.length (Nat.le_refl _) h.sizes
  unfold takeP
  rw [if_neg (by rw [h.bad]; decide), if_neg (by rw [List.length_append, hl]; omega)]
  congr 1
  · have : aa = (List.range ss.length).map (fun j : Nat => rd aa (j : Int)) := by rw [h.1, list_rd]
    rw [this]
    apply List.map_congr_left
    intro j hj
    have hq := (h.2.2 j (List.mem_range.1 hj)).2
    unfold partOf
    rw [← this, part_lay h j ss.length (Nat.le_refl _) (List.mem_range.1 hj) t, numL_digL _ _ hq.1 hq.2]
  · rw [← hl, List.drop_left]
theorem at_lay {ss aa : List Int} (h : Good ss aa) (j : Nat) (hj : j < ss.length) : atL (layK ss aa ss.length) (offs ss j : Nat) (rd ss j) = (rd aa j, true) := by
  have hl := layK_length ss aa ss.length (Nat.le_refl _) h.sizes
  have hq := h.2.2 j hj
  have ho := offs_succ ss j hj (by omega)
  have hm := offs_mono ss (j + 1) ss.length (by omega) (fun s hs => (h.sizes s hs).1)
  have hp := part_lay h j ss.length (Nat.le_refl _) hj []
  rw [List.append_nil] at hp
  unfold atL
  rw [Int.toNat_natCast, hp, numL_digL _ _ hq.2.1 hq.2.2, if_pos]
  unfold sizedB insB
  rw [hl]
  simp
  omega
theorem take_back (ss lb : List Int) (hok : ∀ s ∈ ss, 1 ≤ s ∧ s ≤ 8) (hwf : ∀ x ∈ lb, 0 ≤ x ∧ x ≤ 255) (hm : offs ss ss.length ≤ lb.length) (l : List Int) (hl : ∀ j, j < ss.length → rd l j = numL (partOf ss lb j)) (k : Nat) (hk : k ≤ ss.length) : layK ss l k = lb.take (offs ss k) := by
  induction k with
  | zero => simp [layK, offs_zero]
  | succ k ih =>
    have hz := hok _ (rd_mem ss k (by omega))
    have ho := offs_succ ss k (by omega) (by omega)
    have hp := partOf_length ss lb k (by omega) hok hm
    rw [layK, ih (by omega), hl k (by omega), ← hp.1, digL_numL _ (fun d hd => hwf d (mem_part hd))]
    unfold partOf
    rw [show offs ss (k + 1) = offs ss k + (rd ss k).toNat by omega, List.take_add]
theorem lay_take (ss lb : List Int) (hb : ss.any badB = false) (hwf : ∀ x ∈ lb, 0 ≤ x ∧ x ≤ 255) (hm : offs ss ss.length ≤ lb.length) :
    layP ss ((List.range ss.length).map fun j : Nat => numL (partOf ss lb j)) = (lb.take (offs ss ss.length), 0) := by
  have hok := good_of ss hb
  have hr : ∀ j, j < ss.length → rd ((List.range ss.length).map fun j : Nat => numL (partOf ss lb j)) j = numL (partOf ss lb j) := by
    intro j hj
    unfold rd
    simp [List.getD_eq_getElem?_getD, hj]
  unfold layP
  rw [if_neg (by rw [hb]; simp), if_pos, take_back ss lb hok hwf hm _ hr ss.length (Nat.le_refl _)]
  unfold allFit
  rw [List.all_eq_true]
  intro j hj
  have hj := List.mem_range.1 hj
  have hp := partOf_length ss lb j hj hok hm
  have hn := (numL_bound (partOf ss lb j) (fun d hd => hwf d (mem_part hd))).2
  rw [hr j hj]
  unfold fitsB
  rw [hp.1] at hn
  exact decide_eq_true hn
end Go.Proofs.Ytdlhmabjgbiagaa.Oct
