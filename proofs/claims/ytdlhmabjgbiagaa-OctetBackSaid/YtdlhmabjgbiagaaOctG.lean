/-
  What cells tells: sizes and the numbers that fit them; at most thirty.
-/
import Derived.Test.YtdlhmabjgbiagaaOctD
import Derived.Test.YtdlhmabjgbiagaaPOctetOrderx
namespace Go.Proofs.Ytdlhmabjgbiagaa.Oct
open Go.RowKit Go.Shelf Go.Proofs.Ytdlhmabjgbiagaa.Blk Go.Proofs.YtdlhmabjgbiagaaW.PrintWords Go.Proofs.YtdlhmabjgbiagaaW.PrintLast Go.Proofs.YtdlhmabjgbiagaaW.PrintMore Go.Proofs.Ytdlhmabjgbiagaa.POctetRows
open Go.Proofs.Ytdlhmabjgbiagaa.POctetOrder (S116 k116 rd_T116 z116 ephemerislaw03_cells.f ephemerislaw03_cells.l0 ephemerislaw03_cells.calls)
set_option linter.unusedVariables false
set_option linter.unusedSimpArgs false

def szC (x : S116) : Int := 1 + x.f0 % 8
def vaC (x : S116) : Int := x.f1 / 2 ^ (64 - 8 * (szC x)).toNat
/-- Sizes, and the numbers that fit them. -/
def Good (ss aa : List Int) : Prop := ss.length = aa.length ∧ ss.length ≤ 30 ∧ ∀ j, j < ss.length → (1 ≤ rd ss j ∧ rd ss j ≤ 8) ∧ 0 ≤ rd aa j ∧ rd aa j < 256 ^ (rd ss j).toNat
theorem szC_range (x : S116) : 1 ≤ szC x ∧ szC x ≤ 8 := by unfold szC; omega
theorem cut_fits (n s : Int) (h0 : 0 ≤ n) (h1 : n < 18446744073709551616) (hs : 1 ≤ s ∧ s ≤ 8) : 0 ≤ n / 2 ^ (64 - 8 * s).toNat ∧ n / 2 ^ (64 - 8 * s).toNat < 256 ^ s.toNat := by
  have hp : (0 : Int) < 2 ^ (64 - 8 * s).toNat := Int.pow_pos (by omega)
  refine ⟨Int.ediv_nonneg h0 (Int.le_of_lt hp), Int.ediv_lt_of_lt_mul hp ?_⟩
  rw [← pow2_256, ← Int.pow_add, show 8 * s.toNat + (64 - 8 * s).toNat = 64 by omega]
  exact h1
theorem take_snocS {α β : Type} [Inhabited α] (l : List α) (f : α → β) (i : Nat) (d : α) (h : i < l.length) : (l.take (i + 1)).map f = (l.take i).map f ++ [f (l.getD i d)] := by
  rw [List.take_succ_eq_append_getElem h, List.map_append]
  congr 1
  rw [List.getD_eq_getElem?_getD, List.getElem?_eq_getElem h]
  rfl
theorem cells_step (k : Nat) (p q : List Int) (l : List S116) (i : Nat) (x : S116) (hx : (0 ≤ x.f0 ∧ x.f0 ≤ 255) ∧ 0 ≤ x.f1 ∧ x.f1 < 18446744073709551616) (ex : rd_T116 l (i : Int) = x) (h1 : i < 30) (h2 : (i : Int) < l.length) (hp : p.length < 17592186044416) (hq : q.length < 17592186044416) :
    ephemerislaw03_cells.l0 (k + 1) p q l (l.length : Int) (i : Int) = ephemerislaw03_cells.l0 k (p ++ [szC x]) (q ++ [vaC x]) l (l.length : Int) ((i + 1 : Nat) : Int) := by
  have hr := szC_range x
  have c30 : ¬ ((i : Int) = 30) := by omega
  have c0 : 0 ≤ 64 - 8 * szC x := by omega
  have w1 : wrap64 (1 + wrap64 (Int.tmod x.f0 8)) = szC x := by
    rw [Int.tmod_eq_emod_of_nonneg hx.1.1]; unfold wrap64 szC; omega
  have w2 : wrap64 (64 - wrap64 (8 * szC x)) = 64 - 8 * szC x := by unfold wrap64; omega
  have w3 : shr .u64 x.f1 (64 - 8 * szC x) = vaC x := by
    unfold shr vaC
    rw [Nat.min_eq_left (by simp [IntKind.bits]; omega)]
  have w4 : wrap64 ((i : Int) + 1) = ((i + 1 : Nat) : Int) := by unfold wrap64; omega
  rw [ephemerislaw03_cells.l0, if_pos h2, if_pos (Int.natCast_nonneg i), if_pos h2, if_neg c30, ex, w1, w2, w3, w4, if_pos hp, if_pos c0, if_pos hq]
theorem cells_loop (l : List S116) (hwf : ∀ x ∈ l, (0 ≤ x.f0 ∧ x.f0 ≤ 255) ∧ 0 ≤ x.f1 ∧ x.f1 < 18446744073709551616) (d : Nat) : ∀ (k i : Nat), i ≤ 30 → i ≤ l.length → 30 - i = d → d < k →
    ephemerislaw03_cells.l0 k ((l.take i).map szC) ((l.take i).map vaC) l (l.length : Int) (i : Int) = some ((l.take 30).map szC, (l.take 30).map vaC) := by
  induction d with
  | zero =>
    intro k i h1 h2 h3 h4
    obtain ⟨k, rfl⟩ : ∃ m, k = m + 1 := ⟨k - 1, by omega⟩
    obtain rfl : i = 30 := by omega
    rw [ephemerislaw03_cells.l0]
    by_cases hl : ((30 : Nat) : Int) < (l.length : Int)
    · rw [if_pos (by omega), if_pos (by omega), if_pos (by omega), if_pos (by omega)]
    · rw [if_neg (by omega)]
  | succ d ih =>
    intro k i h1 h2 h3 h4
    obtain ⟨k, rfl⟩ : ∃ m, k = m + 1 := ⟨k - 1, by omega⟩
    by_cases hl : (i : Int) < (l.length : Int)
    · have hx := hwf _ (List.getElem_mem (show i < l.length by omega))
      have ex : rd_T116 l (i : Int) = l[i]'(by omega) := by unfold rd_T116; rw [Int.toNat_natCast, List.getD_eq_getElem?_getD, List.getElem?_eq_getElem (show i < l.length by omega)]; rfl
      have : Inhabited S116 := ⟨z116⟩
      have e1 := take_snocS l szC i z116 (by omega)
      have e2 := take_snocS l vaC i z116 (by omega)
      have eg : l.getD i z116 = l[i]'(by omega) := by rw [List.getD_eq_getElem?_getD, List.getElem?_eq_getElem (show i < l.length by omega)]; rfl
      rw [eg] at e1 e2
      rw [cells_step k _ _ l i _ hx ex (by omega) hl (by rw [List.length_map, List.length_take]; omega) (by rw [List.length_map, List.length_take]; omega), ← e1, ← e2]
      exact ih k (i + 1) (by omega) (by omega) (by omega) (by omega)
    · rw [ephemerislaw03_cells.l0, if_neg hl, List.take_of_length_le (show l.length ≤ i by omega), List.take_of_length_le (show l.length ≤ 30 by omega)]
theorem cells_good (l : List S116) (hwf : ∀ x ∈ l, (0 ≤ x.f0 ∧ x.f0 ≤ 255) ∧ 0 ≤ x.f1 ∧ x.f1 < 18446744073709551616) : ∃ ss aa, ephemerislaw03_cells.f 40 l = some (ss, aa) ∧ Good ss aa := by
  refine ⟨(l.take 30).map szC, (l.take 30).map vaC, cells_loop l hwf 30 40 0 (by omega) (by omega) (by omega) (by omega), by simp, by simp; omega, ?_⟩
  intro j hj
  have hj : j < (l.take 30).length := by simpa using hj
  have hx := hwf _ (List.mem_of_mem_take (List.getElem_mem hj))
  have e1 : rd ((l.take 30).map szC) j = szC ((l.take 30)[j]) := by unfold rd; simp only [Int.toNat_natCast, List.getD_eq_getElem?_getD, List.getElem?_map, List.getElem?_eq_getElem hj]; rfl
  have e2 : rd ((l.take 30).map vaC) j = vaC ((l.take 30)[j]) := by unfold rd; simp only [Int.toNat_natCast, List.getD_eq_getElem?_getD, List.getElem?_map, List.getElem?_eq_getElem hj]; rfl
  rw [e1, e2]
  exact ⟨szC_range _, cut_fits _ _ hx.2.1 hx.2.2 (szC_range _)⟩
/-! ### What follows -/
theorem Good.sizes {ss aa : List Int} (h : Good ss aa) : ∀ s ∈ ss, 1 ≤ s ∧ s ≤ 8 := by
  intro s hs
  obtain ⟨j, hj, rfl⟩ := List.getElem_of_mem hs
  have := (h.2.2 j hj).1
  unfold rd at this
  simpa [List.getD_eq_getElem?_getD, List.getElem?_eq_getElem hj] using this
theorem Good.fits {ss aa : List Int} (h : Good ss aa) : allFit ss aa ss.length = true := by
  unfold allFit
  rw [List.all_eq_true]
  intro j hj
  have := (h.2.2 j (List.mem_range.1 hj)).2.2
  unfold fitsB
  exact decide_eq_true this
theorem Good.bad {ss aa : List Int} (h : Good ss aa) : ss.any badB = false := by
  rw [List.any_eq_false]
  intro s hs
  have := h.sizes s hs
  unfold badB
  unfold sizedB
  simp
  omega
theorem Good.lay {ss aa : List Int} (h : Good ss aa) : layP ss aa = (layK ss aa ss.length, 0) := by
  unfold layP
  rw [if_neg (by rw [h.bad]; simp [h.1]), if_pos h.fits]
theorem Good.wf {ss aa : List Int} (h : Good ss aa) : ∀ x ∈ aa, 0 ≤ x ∧ x < 18446744073709551616 := by
  intro x hx
  obtain ⟨j, hj, rfl⟩ := List.getElem_of_mem hx
  have hq := h.2.2 j (by rw [h.1]; exact hj)
  have e : rd aa j = aa[j] := by unfold rd; simp [List.getD_eq_getElem?_getD, List.getElem?_eq_getElem hj]
  rw [e] at hq
  have h2 : (256 : Int) ^ (rd ss j).toNat ≤ 256 ^ 8 := by
    have h := Nat.pow_le_pow_right (n := 256) (by omega) (show (rd ss j).toNat ≤ 8 by omega)
    have h' : ((256 ^ (rd ss j).toNat : Nat) : Int) ≤ ((256 ^ 8 : Nat) : Int) := Int.ofNat_le.2 h
    rw [Int.natCast_pow, Int.natCast_pow] at h'
    exact h'
  have h3 : (256 : Int) ^ 8 = 18446744073709551616 := by decide
  omega
theorem rd_set (l : List Int) (k : Nat) (n : Int) (j : Nat) (hk : k < l.length) : rd (l.set k n) j = if j = k then n else rd l j := by
  unfold rd
  simp only [Int.toNat_natCast, List.getD_eq_getElem?_getD, List.getElem?_set]
  by_cases h : k = j
  · subst h; simp [hk]
  · rw [if_neg h, if_neg (fun e => h e.symm)]
theorem Good.set {ss aa : List Int} (h : Good ss aa) (k : Nat) (n : Int) (hk : k < ss.length) (h0 : 0 ≤ n) (h1 : n < 256 ^ (rd ss k).toNat) : Good ss (aa.set k n) := by
  refine ⟨by simp [h.1], h.2.1, fun j hj => ?_⟩
  rw [rd_set aa k n j (by rw [← h.1]; exact hk)]
  have := h.2.2 j hj
  split
  · rename_i e; subst e; exact ⟨this.1, h0, h1⟩
  · exact this
end Go.Proofs.Ytdlhmabjgbiagaa.Oct
