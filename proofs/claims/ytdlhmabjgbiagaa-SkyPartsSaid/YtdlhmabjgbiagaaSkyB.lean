/-
  Contracts of sky's sum.plus, Sky.none and of the words they use.
-/
import Derived.Test.YtdlhmabjgbiagaaSkyA
import Derived.Test.YtdlhmabjgbiagaaBlk
import Derived.Test.YtdlhmabjgbiagaaSkyN
import Derived.Laws.Externs
namespace Go.Proofs.Ytdlhmabjgbiagaa.Sky
open Go.RowKit Go.Proofs.Ytdlhmabjgbiagaa.Blk Go.Proofs.YtdlhmabjgbiagaaW.PrintWords Go.Proofs.YtdlhmabjgbiagaaW.PrintLast Go.Proofs.YtdlhmabjgbiagaaW.PrintMore
set_option linter.unusedVariables false
set_option linter.unusedSimpArgs false

theorem mul64 (x y p q : Nat) (w : World) (hx : x < 18446744073709551616) (hy : y < 18446744073709551616) (h : x * y = p * 18446744073709551616 + q) (hq : q < 18446744073709551616) :
    Calls Try.prog 89 #[.int .u64 x, .int .u64 y] w fun e w' => e = .returned (.tuple #[.int .u64 p, .int .u64 q]) ∧ w = w' :=
  (Try.bits_Mul64 x y hx hy w).mono fun _ _ k => ⟨by rw [k.1, h, show (p * 18446744073709551616 + q) / 18446744073709551616 = p by omega, show (p * 18446744073709551616 + q) % 18446744073709551616 = q by omega], k.2.symm⟩

theorem add64 (x y c m : Nat) (h : x + y = c * 18446744073709551616 + m) (hm : m < 18446744073709551616) (w : World) : (callFunc 115 #[.int .u64 (x : Int), .int .u64 (y : Int), .int .u64 0]).run Try.prog w =
    .ok (.value (.tuple #[.int .u64 (m : Int), .int .u64 (c : Int)])) w := by
  rw [run_callFunc_extern Try.func115 (by kernel_rfl) (by kernel_rfl) (by kernel_rfl) (e := add64Entry) (by kernel_rfl), run_add64 (x : Int) (y : Int) 0 (by omega) (by omega) (by omega) (by omega)]
  simp only [Result.andThen]
  rw [show ((x : Int) + (y : Int) + 0) % 18446744073709551616 = (m : Int) by omega, show ((x : Int) + (y : Int) + 0) / 18446744073709551616 = (c : Int) by omega]

theorem split64 (n : Nat) : ∃ p q, n = p * 18446744073709551616 + q ∧ q < 18446744073709551616 := ⟨n / 18446744073709551616, n % 18446744073709551616, by omega, by omega⟩

set_option maxRecDepth 100000 in
set_option maxHeartbeats 4000000 in
theorem plus_calls (n0 n1 a b N : Nat) (w : World) (h0 : n0 < 18446744073709551616) (h1 : n1 < 18446744073709551616) (ha : a < 18446744073709551616) (hb : b < 18446744073709551616)
    (hN : n0 * 18446744073709551616 + n1 + a * b = N) (hM : N < 340282366920938463463374607431768211456) :
    Calls Try.prog 87 #[.agg #[.int .u64 n0, .int .u64 n1], .int .u64 a, .int .u64 b] w fun e w' => e = .returned (.agg #[.int .u64 (N / 18446744073709551616 : Nat), .int .u64 (N % 18446744073709551616 : Nat)]) ∧ Below w.heap.size w w' := by
  obtain ⟨p, q, hpq, hq⟩ := split64 (a * b)
  obtain ⟨c, m, hcm, hm⟩ := split64 (n1 + q)
  have A := Aside0.mk (fun W => mul64 a b p q W ha hb hpq hq)
  have B := add64 n1 q c m hcm hm
  obtain ⟨s1, hs1⟩ : ∃ s1, n0 + p = s1 := ⟨_, rfl⟩
  obtain ⟨s2, hs2⟩ : ∃ s2, s1 + c = s2 := ⟨_, rfl⟩
  have b1 := wrap_add n0 p s1 hs1 (by omega)
  have b2 := wrap_add s1 c s2 hs2 (by omega)
  have E := Aside0.mk (show N / 18446744073709551616 = s2 ∧ N % 18446744073709551616 = m by omega)
  clear h0 h1 ha hb hN hM hpq hq hcm hm hs1 hs2
  go_enter Try.func87, Try.ntmps87
  go_wp2_with (first | (go_at_call 89; refine (A.out _).mono ?_; rintro e w' ⟨rfl, rfl⟩) | (simp only [B]))
  refine bodyPost_ret (v := .agg #[.int .u64 s2, .int .u64 m]) (by simp [results, Try.f87, go_sem]) rfl ⟨?_, ?_⟩
  · rw [E.out.1, E.out.2]
  · exact ((Below.refl _ _).alloc (Nat.le_refl _) _).alloc (by simp) _

theorem none_calls (g : Nat) (h : Int) (w : World) (hc : w.cell? ⟨g, 0, none⟩ = some (.int .u64 h)) (h0 : 0 < h) :
    Calls Try.prog 85 #[.pointer (some ⟨g, 0, none⟩)] w fun e w' => e = .returned (.bool false) ∧ w = w' := by
  have hn : (h == 0) = false := by simp; omega
  go_enter Try.func85, Try.ntmps85
  go_wp2
  go_ret
  exact ⟨rfl, rfl⟩
theorem none_nil (w : World) : Calls Try.prog 85 #[.pointer none] w fun e w' => e = .returned (.bool true) ∧ w = w' := by
  go_enter Try.func85, Try.ntmps85
  go_wp2
  go_ret
  exact ⟨rfl, rfl⟩

set_option maxRecDepth 100000 in
theorem clamp_calls (t : Int) (w : World) : Calls Try.prog 113 #[.int .i64 t, .int .i64 0, .int .i64 4503599627370496] w fun e w' => e = .returned (.int .i64 (clampT t)) ∧ w = w' := by
  unfold clampT
  by_cases c1 : t < 0
  · rw [if_pos c1]
    go_enter Try.func113, Try.ntmps113
    go_wp2
    go_ret
    exact ⟨rfl, rfl⟩
  · rw [if_neg c1]
    by_cases c2 : t > 4503599627370496
    · rw [if_pos c2]
      go_enter Try.func113, Try.ntmps113
      go_wp2
      go_ret
      exact ⟨rfl, rfl⟩
    · rw [if_neg c2]
      go_enter Try.func113, Try.ntmps113
      go_wp2
      go_ret
      exact ⟨rfl, rfl⟩
theorem time_calls (t : Int) (w : World) : Calls Try.prog 86 #[.int .i64 t] w fun e w' => e = .returned (.int .i64 (clampT t)) ∧ w = w' := by
  go_enter Try.func86, Try.ntmps86
  go_wp2_with (go_at_call 113; refine (clamp_calls t _).mono ?_; rintro e w' ⟨rfl, rfl⟩)
  go_ret
  exact ⟨rfl, rfl⟩
end Go.Proofs.Ytdlhmabjgbiagaa.Sky
