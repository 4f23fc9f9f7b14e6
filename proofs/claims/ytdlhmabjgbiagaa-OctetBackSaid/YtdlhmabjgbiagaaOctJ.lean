/-
  A slice of cells that came in, opened: a list of pairs, each number within its kind.
-/
import Derived.Test.YtdlhmabjgbiagaaOctG
import Derived.Deep.Slices
import Derived.ChangeSame
import Derived.Lib.SmallJoins
namespace Go.Proofs.Ytdlhmabjgbiagaa.Oct
open Go.RowKit Go.Shelf Go.Proofs.Ytdlhmabjgbiagaa.Blk Go.Proofs.YtdlhmabjgbiagaaW.PrintWords Go.Proofs.YtdlhmabjgbiagaaW.PrintLast Go.Proofs.YtdlhmabjgbiagaaW.PrintMore
open Go.ChangeShapes Go.WideShapes Go.ChangeAt Go.Joins Go.Deep
open Go.Proofs.Ytdlhmabjgbiagaa.POctetOrder (S116 k116 k116_mk)
set_option linter.unusedVariables false
set_option linter.unusedSimpArgs false

theorem choose_list {α : Type} (n : Nat) (p : Nat → α → Prop) (h : ∀ i, i < n → ∃ x, p i x) : ∃ l : List α, l.length = n ∧ ∀ i x, l[i]? = some x → p i x := by
  induction n with
  | zero => exact ⟨[], rfl, by simp⟩
  | succ n ih =>
    obtain ⟨l, hl, hp⟩ := ih (fun i hi => h i (by omega))
    obtain ⟨x, hx⟩ := h n (by omega)
    refine ⟨l ++ [x], by simp [hl], fun i y hy => ?_⟩
    by_cases c : i < l.length
    · rw [List.getElem?_append_left c] at hy
      exact hp i y hy
    · have hi : i < (l ++ [x]).length := (List.getElem?_eq_some_iff.1 hy).1
      simp at hi
      obtain rfl : i = l.length := by omega
      rw [List.getElem?_concat_length] at hy
      obtain rfl := Option.some.inj hy
      rw [hl]
      exact hx
section
variable {H : Type} {enc : TypeId × Value → H} {w : World} {base : Nat} {spare : Nat → Bool} {held : Bool}
set_option maxRecDepth 20000 in
theorem open_cells {fuel : Nat} {a : Option Addr} {len cap : Nat} {x : DataW H × List MemPlace} (h : DataW.trod enc Try.prog w base spare held fuel 58 [.slice a len cap] = some x) :
    ∃ l : List S116, l.length = len ∧ Kd.C k116 w a len l ∧ len ≤ cap ∧ ∀ y ∈ l, (0 ≤ y.f0 ∧ y.f0 ≤ 255) ∧ 0 ≤ y.f1 ∧ y.f1 < 18446744073709551616 := by
  rcases open_slice Try.underlying58 h with ⟨h0, _⟩ | ⟨a', len', cap', m, n, D, Pl, hcs, hb, hl, hm, hmm, hx, hi⟩
  · simp at h0
    obtain ⟨rfl, rfl, rfl⟩ := h0
    exact ⟨[], rfl, ⟨rfl, by omega, fun h => absurd h (by omega)⟩, Nat.le_refl _, by simp⟩
  · simp at hcs
    obtain ⟨rfl, rfl, rfl⟩ := hcs
    have hC : Try.prog.cellsOf 116 = 2 := by kernel_rfl
    have hC5 : Try.prog.cellsOf 5 = 1 := by kernel_rfl
    have hC40 : Try.prog.cellsOf 40 = 1 := by kernel_rfl
    have each : ∀ i, i < len → ∃ y : S116, (w.cell? (a'.add (i * 2)) = some (.int .u8 y.f0) ∧ w.cell? (a'.add (i * 2 + 1)) = some (.int .u64 y.f1)) ∧ (0 ≤ y.f0 ∧ y.f0 ≤ 255) ∧ 0 ≤ y.f1 ∧ y.f1 < 18446744073709551616 := by
      intro i hil
      obtain ⟨cs', hc, ht'⟩ := hi i (by rw [hmm]; split <;> omega)
      rw [hC] at hc
      obtain ⟨y0, y1, n', _, hlen, hf0, hf1⟩ := trod_struct2 Try.underlying116 ht'
      obtain ⟨_, hcl, hat⟩ := World.cells?_some hc
      rw [hC] at hlen
      obtain ⟨c0, c1, rfl⟩ : ∃ c0 c1, cs' = [c0, c1] := by
        match cs', hlen with
        | [c0, c1], _ => exact ⟨c0, c1, rfl⟩
      have hf0 : DataW.trod enc Try.prog w base spare held n' 5 (([c0, c1].drop 0).take (Try.prog.cellsOf 5)) = some y0 := hf0
      have hf1 : DataW.trod enc Try.prog w base spare held n' 40 (([c0, c1].drop 1).take (Try.prog.cellsOf 40)) = some y1 := hf1
      rw [hC5] at hf0
      rw [hC40] at hf1
      obtain ⟨n0, g0, _, w0⟩ := DataW.trod_int Try.underlying5 hf0
      obtain ⟨n1, g1, _, w1⟩ := DataW.trod_int Try.underlying40 hf1
      simp at g0 g1
      subst g0 g1
      have a0 := hat 0 (by omega)
      have a1 := hat 1 (by omega)
      rw [Go.Deep.add_add] at a0 a1
      have hb1 := bounds_u64 w1
      exact ⟨⟨n0, n1⟩, ⟨a0, a1⟩, bounds_u8 w0, hb1.1, Int.lt_of_le_of_lt hb1.2 (by decide)⟩
    obtain ⟨l, hll, hp⟩ := choose_list len _ each
    unfold maxLen at hm
    refine ⟨l, hll, ⟨hll, by omega, fun h0 => ⟨a', rfl, fun j p hj => ⟨_, rfl, k116_mk w p, fun i u hu => ?_⟩⟩⟩, hl, fun y hy => ?_⟩
    · have hq := (hp j p hj).1
      have hi : i < 2 := by
        have := (List.getElem?_eq_some_iff.1 hu).1
        simpa using this
      have e : k116.sz = 2 := rfl
      rw [e]
      match i, hi with
      | 0, _ => rw [Nat.add_zero, hq.1]; exact hu
      | 1, _ => rw [hq.2]; exact hu
    · obtain ⟨j, hj, rfl⟩ := List.getElem_of_mem hy
      exact (hp j _ (List.getElem?_eq_getElem hj)).2
end
end Go.Proofs.Ytdlhmabjgbiagaa.Oct
