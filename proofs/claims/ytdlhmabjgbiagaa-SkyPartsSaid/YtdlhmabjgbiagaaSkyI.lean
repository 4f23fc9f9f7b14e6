/-
  Contracts of Sky.Worst, and of the law's own one and alive: the chapter's sky says what the chapter says.
-/
import Derived.Test.YtdlhmabjgbiagaaSkyH
namespace Go.Proofs.Ytdlhmabjgbiagaa.Sky
open Go.RowKit Go.Proofs.Ytdlhmabjgbiagaa.Blk Go.Proofs.YtdlhmabjgbiagaaW.PrintWords Go.Proofs.YtdlhmabjgbiagaaW.PrintLast Go.Proofs.YtdlhmabjgbiagaaW.PrintMore
open Go.Proofs.Ytdlhmabjgbiagaa.PSkyGoes
set_option linter.unusedVariables false
set_option linter.unusedSimpArgs false

/-- Pieces, cell by cell. -/
def flat : List S96 → List Value
  | [] => []
  | x :: l => .int .i64 x.f0 :: .int .i64 x.f1 :: flat l
theorem flat_length : ∀ l : List S96, (flat l).length = l.length * 2
  | [] => rfl
  | x :: l => by simp only [flat, List.length_cons, flat_length l]; omega
theorem flat_at : ∀ (l : List S96) (j : Nat) (p : S96), l[j]? = some p → (flat l)[j * 2]? = some (.int .i64 p.f0) ∧ (flat l)[j * 2 + 1]? = some (.int .i64 p.f1)
  | [], j, p, h => by simp at h
  | x :: l, 0, p, h => by
    obtain rfl : x = p := by simpa using h
    exact ⟨rfl, rfl⟩
  | x :: l, j + 1, p, h => by
    have := flat_at l j p (by simpa using h)
    rw [show (j + 1) * 2 = j * 2 + 1 + 1 by omega, show j * 2 + 1 + 1 + 1 = (j * 2 + 1) + 1 + 1 by omega]
    simpa only [flat, List.getElem?_cons_succ] using this
theorem reps_flat (w : World) (base : Nat) (ok : Nat → Prop) (l : List S96) : Reps (k96.M w base ok) k96.sz l (flat l) := by
  refine ⟨flat_length l, fun j p hj => ?_⟩
  obtain ⟨h0, h1⟩ := flat_at l j p hj
  have hs : k96.sz = 2 := rfl
  rw [hs]
  have e : ((flat l).drop (j * 2)).take 2 = [.int .i64 p.f0, .int .i64 p.f1] := by
    apply List.ext_getElem?
    intro i
    match i with
    | 0 => rw [List.getElem?_take_of_lt (by omega), List.getElem?_drop]; exact h0
    | 1 => rw [List.getElem?_take_of_lt (by omega), List.getElem?_drop]; exact h1
    | i + 2 => rw [List.getElem?_take_eq_none (by omega)]; rfl
  rw [e]
  exact k96_mkM w base ok p
theorem R_flat {w : World} {g base : Nat} {l : List S96} (h : Blk w g (flat l) 96) (hb : base ≤ g) (hm : l.length ≤ 9223372036854775807) : Kd.R k96 96 w base (fun _ => True) (.slice (some ⟨g, 0, none⟩) l.length l.length) l := by
  refine ⟨fun _ _ => trivial, flat l, ⟨flat_length l, .inr ⟨g, l.length, (flat l).toArray, rfl, hb, h, Nat.le_refl _, by unfold maxLen; exact hm, ?_, ?_⟩⟩, reps_flat _ _ _ _⟩
  · simp [flat_length]; rfl
  · rw [List.take_of_length_le (by simp [flat_length]; exact Nat.le_refl _)]
theorem C_flat {w : World} {g : Nat} {l : List S96} (h : Blk w g (flat l) 96) (hm : l.length ≤ 9223372036854775807) : Kd.C k96 w (some ⟨g, 0, none⟩) l.length l :=
  (Kd.R_reads' (R_flat h (Nat.zero_le _) hm)).2.2

def worstF (l : List S96) : Nat → Int
  | 0 => 0
  | k + 1 => max (worstF l k) (absI (of l k))

set_option maxRecDepth 100000 in
set_option maxHeartbeats 4000000 in
theorem worst_calls (g h mask first : Nat) (l : List S96) (w : World) (hs : SkyAt w g h mask first l) :
    Calls Try.prog 57 #[.pointer (some ⟨g, 0, none⟩)] w fun e w' => e = .returned (.int .i64 (worstF l l.length)) ∧ Below w.heap.size w w' := by
  obtain ⟨A, c, hb, hc, hk⟩ := hs.blk
  obtain ⟨hh0, hh1⟩ := hs.hh
  have hlt := hb.lt
  have c0 := hb.cell (j := 0) rfl
  have c3 := hb.cell (j := 3) rfl
  have HB := Aside0.mk hb
  have HK := Aside0.mk hk
  have HI := Aside0.mk hs.val.inI64
  have hml : l.length ≤ 9223372036854775807 := hk.2.1
  clear hs hb hk
  go_enter Try.func57, Try.ntmps57
  go_wp2_with (first | (go_at_call 85; refine (none_calls g h _ c0 (by omega)).mono ?_; rintro e w' ⟨rfl, rfl⟩))
  go_loopw [3, 13] (fun v3 v13 wr => ∃ k : Nat, v13 = .int .i64 k ∧ k ≤ l.length ∧ v3 = .int .i64 (worstF l k) ∧ Below w.heap.size w wr) (fun _ v13 _ => l.length - (intOf v13).toNat)
  case atStart => exact ⟨0, rfl, Nat.zero_le _, rfl, Below.refl _ _⟩
  case round =>
    obtain ⟨k, rfl, hkl, rfl, hB⟩ := hrel
    by_cases hlt2 : k < l.length
    · obtain ⟨ad, rfl, hf0, hf1⟩ := at_T96 (Kd.C_below HK.out hB) (k : Int) (by omega) (by omega)
      simp only [Int.toNat_natCast] at hf0 hf1
      obtain ⟨i0, i1⟩ := HI.out k hlt2
      have AC := Aside0.mk (fun W => abs_calls _ W i0 i1)
      have HW : Aside0 (worstF l (k + 1) = max (worstF l k) (absI (of l k))) := ⟨rfl⟩
      obtain ⟨o, ho⟩ : ∃ o, (rd_T96 l (k : Int)).f1 = o := ⟨_, rfl⟩
      have ho' : of l k = o := ho
      rw [ho'] at AC HW
      rw [ho] at hf1
      obtain ⟨x, hx⟩ : ∃ x, absI o = x := ⟨_, rfl⟩
      rw [hx] at AC HW
      clear i0 i1 ho ho' hx
      go_wp2_with (go_at_call 94; refine (AC.out _).mono ?_; rintro e w' ⟨rfl, rfl⟩)
      go_roundw
      case rel => exact ⟨k + 1, by go_num, by omega, by rw [HW.out], below_alloc hB _⟩
      case measure => simp [intOf]; omega
    · obtain rfl : k = l.length := by omega
      go_wp2
      go_ret
      exact ⟨rfl, hB⟩

/-- The chapter's pieces. -/
def exL : List S96 := [⟨0, 0⟩, ⟨2000000000, 500000⟩]
theorem exL_vld : Vld exL := by
  refine ⟨by decide, rfl, fun i hi => ?_, fun i hi => ?_, fun i hi => ?_⟩ <;> (have hl : exL.length = 2 := rfl) <;> rw [hl] at hi
  · obtain rfl : i = 0 := by omega
    decide
  · rcases (show i = 0 ∨ i = 1 by omega) with rfl | rfl <;> decide
  · rcases (show i = 0 ∨ i = 1 by omega) with rfl | rfl <;> decide
theorem ex_t1 : tickz 1000 exL 999999 = 0 := by decide +kernel
theorem ex_t2 : tickz 1000 exL 1000000 = 1 := by decide +kernel
theorem ex_t3 : tickz 1000 exL 2000000000 = 2000 := by decide +kernel
theorem ex_t4 : tickz 1000 exL 4000000000 = 4001 := by decide +kernel
theorem ex_t5 : tickz 1000 exL 3999999999 = 4000 := by decide +kernel
theorem ex_r : readz 1000 (maskN 16) 65530 exL 10000000 = 4 := by decide +kernel
theorem ex_w : rawz 1000 exL 4000000000 = 4001000000 := by decide +kernel
theorem ex_o : worstF exL 2 = 500000 := by decide +kernel
end Go.Proofs.Ytdlhmabjgbiagaa.Sky
