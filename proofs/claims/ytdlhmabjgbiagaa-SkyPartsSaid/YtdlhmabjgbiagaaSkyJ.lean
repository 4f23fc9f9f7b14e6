/-
  Contracts of the law's own one and alive: the chapter's sky says what the chapter says.
-/
import Derived.Test.YtdlhmabjgbiagaaSkyI
namespace Go.Proofs.Ytdlhmabjgbiagaa.Sky
open Go.RowKit Go.Proofs.Ytdlhmabjgbiagaa.Blk Go.Proofs.YtdlhmabjgbiagaaW.PrintWords Go.Proofs.YtdlhmabjgbiagaaW.PrintLast Go.Proofs.YtdlhmabjgbiagaaW.PrintMore
open Go.Proofs.Ytdlhmabjgbiagaa.PSkyGoes
set_option linter.unusedVariables false
set_option linter.unusedSimpArgs false

theorem one_calls (w : World) : Calls Try.prog 90 #[] w (NewOk 1000 (maskN 16) 65530 exL w) := by
  have hx : (flat exL).toArray = #[.int .i64 0, .int .i64 0, .int .i64 2000000000, .int .i64 500000] := rfl
  have NC : Aside0 (∀ W n : _, Blk W n (flat exL) 96 → Calls Try.prog 49 #[.int .u64 1000, .int .i64 16, .int .u64 65530, .slice (some ⟨n, 0, none⟩) 2 2] W (NewOk 1000 (maskN 16) 65530 exL W)) := ⟨fun W n hb =>
    new_ok 1000 16 65530 ⟨n, 0, none⟩ 2 exL W (by omega) (by omega) (by omega) (by omega) (by decide +kernel) (by decide) (C_flat hb (by decide)) (by decide) exL_vld⟩
  clear hx
  go_enter Try.func90, Try.ntmps90
  go_wp2_with (go_at_call 49; refine (NC.out _ _ (Blk.new w _ 96)).mono ?_; rintro e w2 ⟨g, rfl, hs, hg, hb⟩; have HS := Aside0.mk hs; have HB := Aside0.mk hb; clear hs hb)
  go_ret2
  exact ⟨g, rfl, HS.out, by simp at hg; omega, (below_alloc (Below.refl _ w) _).trans (HB.out.mono (by simp))⟩

set_option maxRecDepth 100000 in
set_option maxHeartbeats 4000000 in
theorem alive_calls (w : World) : Calls Try.prog 47 #[] w fun e w' => e = .returned (.bool true) ∧ Below w.heap.size w w' := by
  have OC := Aside0.mk one_calls
  have e1 := ex_t1
  have e2 := ex_t2
  have e3 := ex_t3
  have e4 := ex_t4
  have e5 := ex_r
  have e6 := ex_w
  have e7 := ex_o
  have TC : Aside0 (∀ (t : Int) (g : Nat) (w1 W : World), SkyAt w1 g 1000 (maskN 16) 65530 exL → Below w1.heap.size w1 W → Calls Try.prog 44 #[.pointer (some ⟨g, 0, none⟩), .int .i64 t] W fun e w' => e = .returned (.int .u64 (tickz 1000 exL t)) ∧ Below W.heap.size W w') := ⟨fun t g w1 W hs hb => ticks_calls g 1000 (maskN 16) 65530 exL t W (hs.below hb)⟩
  have RC : Aside0 (∀ (t : Int) (g : Nat) (w1 W : World), SkyAt w1 g 1000 (maskN 16) 65530 exL → Below w1.heap.size w1 W → Calls Try.prog 45 #[.pointer (some ⟨g, 0, none⟩), .int .i64 t] W fun e w' => e = .returned (.int .u64 (readz 1000 (maskN 16) 65530 exL t)) ∧ Below W.heap.size W w') := ⟨fun t g w1 W hs hb => read_calls g 1000 (maskN 16) 65530 exL t W (hs.below hb)⟩
  have AC : Aside0 (∀ (t : Int) (g : Nat) (w1 W : World), SkyAt w1 g 1000 (maskN 16) 65530 exL → Below w1.heap.size w1 W → Calls Try.prog 46 #[.pointer (some ⟨g, 0, none⟩), .int .i64 t] W fun e w' => e = .returned (.int .i64 (rawz 1000 exL t)) ∧ Below W.heap.size W w') := ⟨fun t g w1 W hs hb => raw_calls g 1000 (maskN 16) 65530 exL t W (hs.below hb)⟩
  have WC : Aside0 (∀ (g : Nat) (w1 W : World), SkyAt w1 g 1000 (maskN 16) 65530 exL → Below w1.heap.size w1 W → Calls Try.prog 57 #[.pointer (some ⟨g, 0, none⟩)] W fun e w' => e = .returned (.int .i64 (worstF exL 2)) ∧ Below W.heap.size W w') := ⟨fun g w1 W hs hb => worst_calls g 1000 (maskN 16) 65530 exL W (hs.below hb)⟩
  have NC : Aside0 (∀ (g : Nat) (w1 W : World), SkyAt w1 g 1000 (maskN 16) 65530 exL → Below w1.heap.size w1 W → Calls Try.prog 48 #[.pointer (some ⟨g, 0, none⟩), .int .u64 4001] W fun e w' => e = .returned (.tuple #[.int .i64 4000000000, .bool true]) ∧ Below W.heap.size W w') := ⟨fun g w1 W hs hb => by
    refine (when_yes g 1000 (maskN 16) 65530 4001 exL W (hs.below hb) (by decide +kernel)).mono ?_
    rintro e w' ⟨r, rfl, ⟨h1, h2, h3⟩, hb2⟩
    have m1 : ∀ t : Int, t ≤ 3999999999 → tickz 1000 exL t ≤ 4000 := fun t ht => by rw [← ex_t5]; exact tickz_mono exL_vld ht
    have m2 : ∀ t : Int, 4000000000 ≤ t → 4001 ≤ tickz 1000 exL t := fun t ht => by rw [← ex_t4]; exact tickz_mono exL_vld ht
    have hr : (r : Int) = 4000000000 := by
      rcases Int.lt_trichotomy (r : Int) 4000000000 with h | h | h
      · have := m1 r (by omega)
        omega
      · exact h
      · have := m2 ((r : Int) - 1) (by omega)
        have := h2 (by omega)
        omega
    exact ⟨by rw [hr], hb2⟩⟩
  go_enter Try.func47, Try.ntmps47
  go_wp2_with (first | (go_at_call 90; refine (OC.out _).mono ?_; rintro e w1 ⟨g, rfl, hs, hg, hb⟩; have HS := Aside0.mk hs; have HB := Aside0.mk hb; clear hs hb hg; have hz := Below.refl w1.heap.size w1) | (go_at_call 48; refine (NC.out _ _ _ HS.out hz).mono ?_; rintro e w' ⟨rfl, hb⟩; replace hz := hz.trans (hb.mono hz.size); clear hb) | (go_at_call 44; refine (TC.out _ _ _ _ HS.out hz).mono ?_; rintro e w' ⟨rfl, hb⟩; replace hz := hz.trans (hb.mono hz.size); clear hb) | (go_at_call 45; refine (RC.out _ _ _ _ HS.out hz).mono ?_; rintro e w' ⟨rfl, hb⟩; replace hz := hz.trans (hb.mono hz.size); clear hb) | (go_at_call 46; refine (AC.out _ _ _ _ HS.out hz).mono ?_; rintro e w' ⟨rfl, hb⟩; replace hz := hz.trans (hb.mono hz.size); clear hb) | (go_at_call 57; refine (WC.out _ _ _ HS.out hz).mono ?_; rintro e w' ⟨rfl, hb⟩; replace hz := hz.trans (hb.mono hz.size); clear hb))
  go_ret
  exact ⟨rfl, HB.out.trans (hz.mono HB.out.size)⟩
end Go.Proofs.Ytdlhmabjgbiagaa.Sky
