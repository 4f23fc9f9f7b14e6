/-
  Contracts of Sky.Read and Sky.Raw.
-/
import Derived.Test.YtdlhmabjgbiagaaSkyC
namespace Go.Proofs.Ytdlhmabjgbiagaa.Sky
open Go.RowKit Go.Proofs.Ytdlhmabjgbiagaa.Blk Go.Proofs.YtdlhmabjgbiagaaW.PrintWords Go.Proofs.YtdlhmabjgbiagaaW.PrintLast Go.Proofs.YtdlhmabjgbiagaaW.PrintMore
open Go.Proofs.Ytdlhmabjgbiagaa.PSkyGoes
set_option linter.unusedVariables false
set_option linter.unusedSimpArgs false

theorem ret_i64 {a c : Int} (h : a = c) : Ending.returned (.int .i64 a) = .returned (.int .i64 c) := by rw [h]
theorem tickz_bound {h : Nat} {l : List S96} (hv : Vld l) (hh : 0 < h ∧ h ≤ 1000000000) (t : Int) : 0 ≤ tickz h l t ∧ tickz h l t ≤ 4505851427184181 ∧ tickz h l t * 1000000000 ≤ 4505851427184181248 * h := by
  obtain ⟨a, b⟩ := paced_bound hv (clampT_lo t) (clampT_hi t) l.length (Nat.le_refl _)
  unfold tickz ticksF
  generalize paced (fr l) (of l) l.length (clampT t) l.length = P at *
  have h1 : 0 ≤ P * (h : Int) := Int.mul_nonneg a (by omega)
  have h2 : P * (h : Int) ≤ 4505851427184181248000000 * (h : Int) := Int.mul_le_mul_of_nonneg_right b (by omega)
  generalize P * (h : Int) = Q at *
  refine ⟨by omega, by omega, by omega⟩

theorem tickz_mono {h : Nat} {l : List S96} (hv : Vld l) {a b : Int} (hab : a ≤ b) : tickz h l a ≤ tickz h l b := by
  have h1 := (paced_goes hv (clampT_lo a) (clampT_mono hab) l.length (Nat.le_refl _)).1
  unfold tickz ticksF
  have h2 := Int.mul_le_mul_of_nonneg_right h1 (show (0 : Int) ≤ (h : Int) by omega)
  generalize paced (fr l) (of l) l.length (clampT a) l.length * (h : Int) = x at *
  generalize paced (fr l) (of l) l.length (clampT b) l.length * (h : Int) = y at *
  omega

def readz (h mask first : Nat) (l : List S96) (t : Int) : Int := Go.bits .and .u64 (IntKind.u64.wrap ((first : Int) + tickz h l t)) (mask : Int)
def rawz (h : Nat) (l : List S96) (t : Int) : Int := tickz h l t * 1000000000 / h

set_option maxRecDepth 100000 in
set_option maxHeartbeats 4000000 in
theorem read_calls (g h mask first : Nat) (l : List S96) (t : Int) (w : World) (hs : SkyAt w g h mask first l) :
    Calls Try.prog 45 #[.pointer (some ⟨g, 0, none⟩), .int .i64 t] w fun e w' => e = .returned (.int .u64 (readz h mask first l t)) ∧ Below w.heap.size w w' := by
  obtain ⟨A, c, hb, hc, hk⟩ := hs.blk
  obtain ⟨hh0, hh1⟩ := hs.hh
  have c0 := hb.cell (j := 0) rfl
  have c1 := hb.cell (j := 1) rfl
  have c2 := hb.cell (j := 2) rfl
  have TC : Aside0 (∀ W, Below w.heap.size w W → Calls Try.prog 44 #[.pointer (some ⟨g, 0, none⟩), .int .i64 t] W fun e w' => e = .returned (.int .u64 (tickz h l t)) ∧ Below W.heap.size W w') := ⟨fun W hW => ticks_calls g h mask first l t W (hs.below hW)⟩
  have KZ : Aside0 (∀ W w2 : World, Below w.heap.size w W → Below W.heap.size W w2 → (w2.cell? ⟨g, 1, none⟩ = some (.int .u64 mask) ∧ w2.cell? ⟨g, 2, none⟩ = some (.int .u64 first)) ∧ Below w.heap.size w w2) := ⟨by
    intro W w2 h1 h2
    have b1 := (hb.below h1 hb.lt)
    have b2 := b1.below h2 b1.lt
    exact ⟨⟨b2.cell (j := 1) rfl, b2.cell (j := 2) rfl⟩, h1.trans (h2.mono h1.size)⟩⟩
  clear hs hb hk
  go_enter Try.func45, Try.ntmps45
  go_wp2_with (first | (go_at_call 85; refine (none_calls g h _ c0 (by omega)).mono ?_; rintro e w' ⟨rfl, rfl⟩))
  go_region_held3 (fun w' => w'.cell? ⟨g, 1, none⟩ = some (.int .u64 mask) ∧ w'.cell? ⟨g, 2, none⟩ = some (.int .u64 first)) (go_keep) (first | (go_at_call 44; refine (TC.out _ (by repeat (first | exact Below.refl _ _ | apply pw_below_drewN | apply below_drew | apply below_alloc))).mono ?_; rintro e w2 ⟨rfl, hb⟩; have c2 := KZ.out _ w2 (by repeat (first | exact Below.refl _ _ | apply pw_below_drewN | apply below_drew | apply below_alloc)) hb; obtain ⟨⟨c2, c3⟩, hbz⟩ := c2))
  all_goals
    go_wp2
    go_ret
    refine ⟨rfl, ?_⟩
    repeat (first | exact hbz | apply pw_below_drewN | apply below_drew)

set_option maxRecDepth 100000 in
set_option maxHeartbeats 4000000 in
theorem raw_calls (g h mask first : Nat) (l : List S96) (t : Int) (w : World) (hs : SkyAt w g h mask first l) :
    Calls Try.prog 46 #[.pointer (some ⟨g, 0, none⟩), .int .i64 t] w fun e w' => e = .returned (.int .i64 (rawz h l t)) ∧ Below w.heap.size w w' := by
  obtain ⟨A, c, hb, hc, hk⟩ := hs.blk
  obtain ⟨hh0, hh1⟩ := hs.hh
  obtain ⟨x1, x2, x3⟩ := tickz_bound hs.val hs.hh t
  have c0 := hb.cell (j := 0) rfl
  obtain ⟨n, hn⟩ : ∃ n : Nat, (n : Int) = tickz h l t := ⟨(tickz h l t).toNat, by omega⟩
  have hraw : rawz h l t = ((n * 1000000000 / h : Nat) : Int) := by
    unfold rawz
    rw [← hn]
    simp
  rw [← hn] at x1 x2 x3
  have TC : Aside0 (∀ W, Below w.heap.size w W → Calls Try.prog 44 #[.pointer (some ⟨g, 0, none⟩), .int .i64 t] W fun e w' => e = .returned (.int .u64 (n : Int)) ∧ Below W.heap.size W w') := ⟨fun W hW => by
    have h := ticks_calls g h mask first l t W (hs.below hW)
    rw [← hn] at h
    exact h⟩
  obtain ⟨p, q, hpq, hq⟩ := split64 (n * 1000000000)
  have MC := Aside0.mk (fun W => mul64 n 1000000000 p q W (by omega) (by omega) hpq hq)
  have hx : n * 1000000000 ≤ 4505851427184181248 * h := by omega
  have DC := fun W => div64 p q h W (by omega) hq (by omega)
  rw [← hpq] at DC
  have hr : n * 1000000000 / h ≤ 4505851427184181248 := Nat.div_le_of_le_mul (by omega)
  obtain ⟨r, hrr⟩ : ∃ r, n * 1000000000 / h = r := ⟨_, rfl⟩
  rw [hrr] at DC hr hraw
  have DC := Aside0.mk DC
  have HRAW := Aside0.mk hraw
  have b1 : wrap64 (r : Int) = r := by unfold wrap64; omega
  have KZ : Aside0 (∀ w2 : World, Below w.heap.size w w2 → w2.cell? ⟨g, 0, none⟩ = some (.int .u64 h)) := ⟨fun w2 h1 => (hb.below h1 hb.lt).cell (j := 0) rfl⟩
  clear hs hb hk hpq hq hx hrr hraw hn x1 x2 x3 hr
  go_enter Try.func46, Try.ntmps46
  go_wp2_with (first | (go_at_call 85; refine (none_calls g h _ c0 (by omega)).mono ?_; rintro e w' ⟨rfl, rfl⟩) | (go_at_call 44; refine (TC.out _ (Below.refl _ _)).mono ?_; rintro e w2 ⟨rfl, hb⟩; have c2 := KZ.out w2 hb) | (go_at_call 89; refine (MC.out _).mono ?_; rintro e w' ⟨rfl, rfl⟩) | (go_at_call 88; refine (DC.out _).mono ?_; rintro e w' ⟨rfl, ⟨nd, rfl⟩⟩))
  go_ret
  exact ⟨ret_i64 (by first | exact HRAW.out.symm | (rw [b1]; exact HRAW.out.symm)), pw_below_drewN hb _⟩
end Go.Proofs.Ytdlhmabjgbiagaa.Sky
