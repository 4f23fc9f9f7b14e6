/-
  Lay, Take and Put by one contract each, over plain functions on lists.
-/
import Derived.Test.YtdlhmabjgbiagaaOctB
namespace Go.Proofs.Ytdlhmabjgbiagaa.Oct
open Go.RowKit Go.Shelf Go.Proofs.Ytdlhmabjgbiagaa.Blk Go.Proofs.YtdlhmabjgbiagaaW.PrintWords Go.Proofs.YtdlhmabjgbiagaaW.PrintLast Go.Proofs.YtdlhmabjgbiagaaW.PrintMore Go.Proofs.Ytdlhmabjgbiagaa.POctetRows
set_option linter.unusedVariables false
set_option linter.unusedSimpArgs false

/-- What Lay tells. -/
def layP (sizes l : List Int) : List Int × Int :=
  if sizes.any badB = true ∨ sizes.length ≠ l.length then ([], 1) else if allFit sizes l sizes.length = true then (layK sizes l sizes.length, 0) else ([], 20)
theorem lay_calls (As : Option Addr) (cs : Nat) (sizes : List Int) (A : Option Addr) (cl : Nat) (l : List Int) (w : World)
    (hs : Kd.C (Kd.int .i64) w As sizes.length sizes) (hcs : sizes.length ≤ cs) (hlen : sizes.length ≤ 1000000000) (hl : Kd.C (Kd.int .u64) w A l.length l) (hcl : l.length ≤ cl) (hwf : ∀ x ∈ l, 0 ≤ x ∧ x < 18446744073709551616) :
    Calls Try.prog 13 #[.slice As sizes.length cs, .slice A l.length cl] w fun e w' => ∃ v, e = .returned (.tuple #[v, .int .i64 (layP sizes l).2]) ∧ Kd.R (Kd.int .u8) 5 w' w.heap.size (fun _ => True) v (layP sizes l).1 ∧ Below w.heap.size w w' := by
  unfold layP
  cases hb : sizes.any badB with
  | true =>
    refine (lay_bad As cs sizes A cl l w hs hcs hb).mono ?_
    rintro e w' ⟨rfl, hB⟩
    rw [if_pos (.inl rfl)]
    exact ⟨_, rfl, Kd.R_nil _ _ _ _ _, hB⟩
  | false =>
    by_cases hne : sizes.length = l.length
    · refine (lay_ok As cs sizes A cl l w hs hcs hb hne hlen hl hcl hwf).mono ?_
      rintro e w' ⟨hB, ⟨ha, g, hg, rfl, hk⟩ | ⟨ha, rfl⟩⟩
      · rw [if_neg (by simp [hne]), if_pos ha]
        have hok := good_of sizes hb
        obtain ⟨_, hsb⟩ := sumW_offs sizes hok (by omega) sizes.length (Nat.le_refl _)
        rw [laidC_all sizes l hok] at hk
        have hll := layK_length sizes l sizes.length (Nat.le_refl _) hok
        have hR := R_of_blk w' g w.heap.size .u8 5 _ hk hg (by rw [hll]; unfold maxLen; omega)
        rw [hll] at hR
        exact ⟨_, rfl, hR, hB⟩
      · rw [if_neg (by simp [hne]), if_neg (by simp [ha])]
        exact ⟨_, rfl, Kd.R_nil _ _ _ _ _, hB⟩
    · refine (lay_len As cs sizes A cl l w hs hcs hb hne).mono ?_
      rintro e w' ⟨rfl, hB⟩
      rw [if_pos (.inr hne)]
      exact ⟨_, rfl, Kd.R_nil _ _ _ _ _, hB⟩

/-- What Take tells. -/
def takeP (sizes lb : List Int) : List Int × List Int × Int :=
  if sizes.any badB = true then ([], [], 1) else if lb.length < offs sizes sizes.length then ([], [], 4) else ((List.range sizes.length).map fun j => numL (partOf sizes lb j), lb.drop (offs sizes sizes.length), 0)
theorem takeL_num (sizes lb : List Int) (hok : ∀ s ∈ sizes, 1 ≤ s ∧ s ≤ 8) (hwf : ∀ x ∈ lb, 0 ≤ x ∧ x ≤ 255) : takeL sizes lb sizes.length = (List.range sizes.length).map fun j => numL (partOf sizes lb j) := by
  unfold takeL
  apply List.map_congr_left
  intro j hj
  have hz := hok _ (rd_mem sizes j (List.mem_range.1 hj))
  refine valO_numL _ ?_ (fun x hx => hwf x (mem_part hx))
  unfold partOf
  simp
  omega
theorem take_calls (As : Option Addr) (cs : Nat) (sizes : List Int) (A : Option Addr) (c : Nat) (lb : List Int) (w : World)
    (hs : Kd.C (Kd.int .i64) w As sizes.length sizes) (hcs : sizes.length ≤ cs) (hlen : sizes.length ≤ 1000000000)
    (hr : Kd.C (Kd.int .u8) w A lb.length lb) (hc : lb.length ≤ c) (hcm : c ≤ 9223372036854775807 ∧ lb.length ≤ 140737488355328) (hwf : ∀ x ∈ lb, 0 ≤ x ∧ x ≤ 255) :
    Calls Try.prog 15 #[.slice As sizes.length cs, .slice A lb.length c] w fun e w' => ∃ v0 v1, e = .returned (.tuple #[v0, v1, .int .i64 (takeP sizes lb).2.2]) ∧
      Kd.R (Kd.int .u64) 40 w' w.heap.size (fun _ => True) v0 (takeP sizes lb).1 ∧ Kd.R (Kd.int .u8) 5 w' w.heap.size (fun _ => True) v1 (takeP sizes lb).2.1 ∧ Below w.heap.size w w' := by
  unfold takeP
  cases hb : sizes.any badB with
  | true =>
    refine (take_bad As cs sizes _ w hs hcs hb).mono ?_
    rintro e w' ⟨rfl, hB⟩
    rw [if_pos rfl]
    exact ⟨_, _, rfl, Kd.R_nil _ _ _ _ _, Kd.R_nil _ _ _ _ _, hB⟩
  | false =>
    rw [if_neg (by simp)]
    by_cases hm : lb.length < offs sizes sizes.length
    · refine (take_short As cs sizes A lb.length c w hs hcs hb hlen hm).mono ?_
      rintro e w' ⟨rfl, hB⟩
      rw [if_pos hm]
      exact ⟨_, _, rfl, Kd.R_nil _ _ _ _ _, Kd.R_nil _ _ _ _ _, hB⟩
    · refine (take_ok As cs sizes A c lb w hs hcs hb hlen (by omega) hr hc hcm hwf).mono ?_
      rintro e w' ⟨v0, v1, rfl, h0, h1, hB⟩
      rw [if_neg hm, ← takeL_num sizes lb (good_of sizes hb) hwf]
      exact ⟨v0, v1, rfl, h0, h1, hB⟩

theorem put_calls (A : Option Addr) (c : Nat) (l : List Int) (at_ size n : Int) (w : World) (h0 : 0 ≤ n) (h1 : n < 18446744073709551616)
    (hr : Kd.C (Kd.int .u8) w A l.length l) (hc : l.length ≤ c) (hcm : c ≤ 9223372036854775807 ∧ l.length ≤ 140737488355328) :
    Calls Try.prog 24 #[.slice A l.length c, .int .i64 at_, .int .i64 size, .int .u64 n] w fun e w' => ∃ v, e = .returned (.tuple #[v, .int .i64 (putL l at_ size n).2]) ∧ Kd.R (Kd.int .u8) 5 w' w.heap.size (fun _ => True) v (putL l at_ size n).1 ∧ Below w.heap.size w w' := by
  unfold putL
  by_cases h : sizedB size = false ∨ at_ < 0
  · refine (put_arg A c l.length at_ size n w h).mono ?_
    rintro e w' ⟨rfl, hB⟩
    rw [if_pos h]
    exact ⟨_, rfl, Kd.R_nil _ _ _ _ _, hB⟩
  · rw [if_neg h]
    have hs : sizedB size = true := by
      cases hs : sizedB size with
      | true => rfl
      | false => exact absurd (.inl hs) h
    have ha : 0 ≤ at_ := by
      by_cases ha : 0 ≤ at_
      · exact ha
      · exact absurd (.inr (by omega)) h
    have hz := sizedB_range _ hs
    obtain ⟨z, rfl⟩ := Int.eq_ofNat_of_zero_le (show 0 ≤ size by omega)
    rw [Int.toNat_natCast]
    cases hf : fitsB n z with
    | false =>
      rw [if_pos rfl]
      refine (put_range A c l.length at_ z n w hs ha h0 h1 hf).mono ?_
      rintro e w' ⟨rfl, hB⟩
      exact ⟨_, rfl, Kd.R_nil _ _ _ _ _, hB⟩
    | true =>
      rw [if_neg (by simp)]
      cases hi : insB l.length at_ z with
      | false =>
        rw [if_pos rfl]
        refine (put_short A c l at_ z n w hs ha h0 h1 hf hr hc hcm hi).mono ?_
        rintro e w' ⟨rfl, hB⟩
        exact ⟨_, rfl, Kd.R_nil _ _ _ _ _, hB⟩
      | true =>
        rw [if_neg (by simp)]
        have hb : 0 ≤ at_ ∧ at_ ≤ l.length ∧ (z : Int) ≤ (l.length : Int) - at_ := by simpa [insB, and_assoc] using hi
        obtain ⟨x, rfl⟩ := Int.eq_ofNat_of_zero_le ha
        exact put_ok A c l x z n w hs h0 h1 hf hr hc hcm (by omega)

theorem C_of_blk {w : World} {g : Nat} {k : IntKind} {t : Nat} (xs : List Int) (h : Blk w g (xs.map (Value.int k)) t) (hm : xs.length ≤ 1000000) : Kd.C (Kd.int k) w (some ⟨g, 0, none⟩) xs.length xs := by
  refine ⟨rfl, by omega, fun hp => ⟨_, rfl, fun j p hj => ⟨[.int k p], rfl, rfl, fun i u hu => ?_⟩⟩⟩
  have hi : i = 0 := by
    have := (List.getElem?_eq_some_iff.1 hu).1
    simp at this
    exact this
  subst hi
  have e : (⟨g, 0, none⟩ : Addr).add (j * (Kd.int k).sz + 0) = ⟨g, j, none⟩ := by
    have : (Kd.int k).sz = 1 := rfl
    rw [this, add_plain]
    simp
  rw [e]
  refine h.cell ?_
  have h2 : u = .int k p := by simpa using hu.symm
  rw [List.getElem?_map, hj, h2]
  rfl
end Go.Proofs.Ytdlhmabjgbiagaa.Oct
