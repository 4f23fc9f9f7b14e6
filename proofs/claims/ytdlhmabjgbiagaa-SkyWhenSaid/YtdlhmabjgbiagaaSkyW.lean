/-
  The walk of SkyWhen: it comes to true, whatever is asked for.
-/
import Derived.Test.YtdlhmabjgbiagaaSkyL
namespace Go.Proofs.Ytdlhmabjgbiagaa.Sky
open Go.RowKit Go.Proofs.Ytdlhmabjgbiagaa.Blk Go.Proofs.YtdlhmabjgbiagaaW.PrintWords Go.Proofs.YtdlhmabjgbiagaaW.PrintLast Go.Proofs.YtdlhmabjgbiagaaW.PrintMore
open Go.Proofs.Ytdlhmabjgbiagaa.PSkyGoes
set_option linter.unusedVariables false
set_option linter.unusedSimpArgs false

theorem when_le {h : Nat} {l : List S96} (hv : Vld l) {tt r : Nat} {x : Int} (htt : (tt : Int) = tickz h l x) (h0 : 0 ≤ x) (hr : IsWhen h l tt r) : (r : Int) ≤ x := by
  obtain ⟨h1, h2, h3⟩ := hr
  rcases Int.lt_or_le x (r : Int) with c | c
  · have := h2 (by omega)
    have := tickz_mono (h := h) hv (show x ≤ (r : Int) - 1 by omega)
    omega
  · exact c
theorem pick3 (a b k : Nat) (hk : k < 3) (ha : a < 18446744073709551616) (hb : b + 1 < 18446744073709551616) :
    ∃ n : Nat, n < 18446744073709551616 ∧ ∀ w, (Instr.index 87 (.agg #[.int .u64 (a : Int), .int .u64 (b : Int), .int .u64 ((b : Int) + 1)]) (.int .i64 (k : Int))).run Try.prog w = .ok (.int .u64 (n : Int)) w := by
  rcases (show k = 0 ∨ k = 1 ∨ k = 2 by omega) with rfl | rfl | rfl
  · exact ⟨a, ha, fun _ => by kernel_rfl⟩
  · exact ⟨b, by omega, fun _ => by kernel_rfl⟩
  · exact ⟨b + 1, hb, fun _ => by kernel_rfl⟩

set_option maxRecDepth 100000 in
set_option maxHeartbeats 8000000 in
theorem when_walk (hz : Nat) (A1 A2 : Option Addr) (c1 c2 : Nat) (lasts offs : List Int) (t : Int) (ticks : Nat) (w : World) (hhz : hz < 4294967296) (htk : ticks < 18446744073709551616)
    (h1 : Kd.C (Kd.int .u64) w A1 lasts.length lasts) (h2 : Kd.C (Kd.int .i32) w A2 offs.length offs) (w1 : ∀ x ∈ lasts, 0 ≤ x ∧ x < 18446744073709551616) (w2 : ∀ x ∈ offs, -2147483648 ≤ x ∧ x ≤ 2147483647) :
    Calls Try.prog 9 #[.int .u32 hz, .slice A1 lasts.length c1, .slice A2 offs.length c2, .int .i64 t, .int .u64 ticks] w fun e w' => e = .returned (.bool true) ∧ Below w.heap.size w w' := by
  have MC := Aside0.mk (made_calls hz A1 A2 c1 c2 lasts offs w hhz h1 h2 w1 w2)
  obtain ⟨H, hH⟩ : ∃ H, 1000 + hz % 999999001 = H := ⟨_, rfl⟩
  rw [hH] at MC
  have hHb : H ≤ 1000000000 := by omega
  clear h1 h2 w1 w2 hH hhz
  have ea := and52 t
  obtain ⟨a0, a1⟩ := made_bits t
  obtain ⟨x, hx⟩ : ∃ x, t % 4503599627370496 = x := ⟨_, rfl⟩
  rw [hx] at ea a0 a1
  clear hx
  have LC := Aside0.mk alive_calls
  go_enter Try.func9, Try.ntmps9
  go_wp2_with (go_at_call 43; (with_reducible refine MC.out.mono ?_); rintro e w1 ⟨g, l, rfl, hs, hb⟩; have HS := Aside0.mk hs; have HB := Aside0.mk hb; clear hs hb)
  have hv := HS.out.val
  obtain ⟨u1, u2, u3⟩ := tickz_bound hv HS.out.hh x
  obtain ⟨tt, htt⟩ : ∃ tt : Nat, (tt : Int) = tickz H l x := ⟨(tickz H l x).toNat, by omega⟩
  have TC0 : Aside0 (∀ (W : World), Below w1.heap.size w1 W → Calls Try.prog 44 #[.pointer (some ⟨g, 0, none⟩), .int .i64 x] W fun e w' => e = .returned (.int .u64 (tt : Int)) ∧ Below W.heap.size W w') := ⟨fun W hb => by
    have h := ticks_calls g H 18446744073709551615 0 l x W (HS.out.below hb)
    rw [← htt] at h
    exact h⟩
  have TC : Aside0 (∀ (t : Int) (W : World), Below w1.heap.size w1 W → Calls Try.prog 44 #[.pointer (some ⟨g, 0, none⟩), .int .i64 t] W fun e w' => e = .returned (.int .u64 (tickz H l t)) ∧ Below W.heap.size W w') := ⟨fun t W hb => ticks_calls g H 18446744073709551615 0 l t W (HS.out.below hb)⟩
  have q1 : IntKind.u64.wrap ((tt : Int) + 1) = ((tt + 1 : Nat) : Int) := by rw [IntKind.wrap_u64]; omega
  have PK := Aside0.mk (fun k (hk : k < 3) => pick3 ticks tt k hk htk (by omega))
  have HTT := Aside0.mk htt
  have HX : Aside0 (tickz H l x ≤ tickz H l 4503599627370496) := ⟨tickz_mono hv (by omega)⟩
  clear u1 u2 u3 htt hv
  have hz := Below.refl w1.heap.size w1
  refine (TC0.out _ hz).mono ?_
  rintro e w2 ⟨rfl, hb⟩
  replace hz := hz.trans (hb.mono hz.size)
  clear hb
  go_wp2_with (first | (go_at_call 44; (with_reducible refine (TC0.out _ hz).mono ?_); rintro e w' ⟨rfl, hb⟩; replace hz := hz.trans (hb.mono hz.size); clear hb))
  go_loopw [35] (fun v35 wr => ∃ k : Nat, v35 = .int .i64 (k : Int) ∧ k ≤ 3 ∧ Below w1.heap.size w1 wr) (fun v35 _ => 3 - (intOf v35).toNat)
  case atStart => exact ⟨0, rfl, by omega, hz⟩
  case round =>
    clear hz
    obtain ⟨k, rfl, hk, hz⟩ := hrel
    by_cases hk3 : k < 3
    · obtain ⟨n, hn, hix⟩ := PK.out k hk3
      have t0 : decide ((k : Int) < 3) = true := by simp; omega
      obtain ⟨X, hX⟩ : ∃ X, tickz H l 4503599627370496 = X := ⟨_, rfl⟩
      by_cases hnX : X < (n : Int)
      · have WN : Aside0 (∀ (W : World), Below w1.heap.size w1 W → Calls Try.prog 48 #[.pointer (some ⟨g, 0, none⟩), .int .u64 n] W fun e w' => e = .returned (.tuple #[.int .i64 0, .bool false]) ∧ Below W.heap.size W w') := ⟨fun W hb => when_no g H 18446744073709551615 0 n l W (HS.out.below hb) (by rw [hX]; exact hnX)⟩
        have t1 : decide ((n : Int) ≤ X) = false := by simp; omega
        clear hnX hn
        go_wp2_with (first | (go_at_call 44; (with_reducible refine (TC.out _ _ hz).mono ?_); rintro e w' ⟨rfl, hb⟩; replace hz := hz.trans (hb.mono hz.size); clear hb) | (go_at_call 48; (with_reducible refine (WN.out _ hz).mono ?_); rintro e w' ⟨rfl, hb⟩; replace hz := hz.trans (hb.mono hz.size); clear hb))
        go_roundw
        case rel => exact ⟨k + 1, by go_num, by omega, hz⟩
        case measure => simp [intOf]; omega
      · have t1 : decide ((n : Int) ≤ X) = true := by simp; omega
        have WY : Aside0 (∀ (W : World), Below w1.heap.size w1 W → Calls Try.prog 48 #[.pointer (some ⟨g, 0, none⟩), .int .u64 n] W (WhenYes H l n W)) := ⟨fun W hb => when_yes g H 18446744073709551615 0 n l W (HS.out.below hb) (by rw [hX]; omega)⟩
        clear hnX hn
        go_wp2_with (first | (go_at_call 48; (with_reducible refine (WY.out _ hz).mono ?_); rintro e w' ⟨r, rfl, hr, hb⟩; replace hz := hz.trans (hb.mono hz.size); clear hb; have HRR := Aside0.mk hr; clear hr))
        obtain ⟨r1, r2, r3⟩ := HRR.out
        obtain ⟨Y, hY⟩ : ∃ Y, tickz H l (r : Int) = Y := ⟨_, rfl⟩
        rw [hY] at r3
        have t2 : decide (Y < (n : Int)) = false := by simp; omega
        have t4 : decide ((r : Int) < 0) = false := by rw [decide_eq_false_iff_not]; omega
        have t5 : decide (4503599627370496 < (r : Int)) = false := by rw [decide_eq_false_iff_not]; omega
        by_cases hr0 : 0 < r
        · have t3 : decide (0 < (r : Int)) = true := by simp; omega
          have q2 : wrap64 ((r : Int) - 1) = (r : Int) - 1 := by unfold wrap64; omega
          obtain ⟨Z, hZ⟩ : ∃ Z, tickz H l ((r : Int) - 1) = Z := ⟨_, rfl⟩
          have r2' := r2 hr0
          rw [hZ] at r2'
          have t6 : decide ((n : Int) ≤ Z) = false := by simp; omega
          clear r1 r2 r3 r2'
          refine (TC.out _ _ hz).mono ?_
          rintro e w3 ⟨rfl, hb⟩
          replace hz := hz.trans (hb.mono hz.size)
          clear hb
          go_wp2_with (first | (go_at_call 44; (with_reducible refine (TC.out _ _ hz).mono ?_); rintro e w' ⟨rfl, hb⟩; replace hz := hz.trans (hb.mono hz.size); clear hb))
          go_roundw
          case rel => exact ⟨k + 1, by go_num, by omega, hz⟩
          case measure => simp [intOf]; omega
        · obtain rfl : r = 0 := by omega
          have hY' : tickz H l 0 = Y := hY
          clear r1 r2 r3
          refine (TC.out _ _ hz).mono ?_
          rintro e w3 ⟨rfl, hb⟩
          replace hz := hz.trans (hb.mono hz.size)
          clear hb
          go_wp2_with (first | (go_at_call 44; (with_reducible refine (TC.out _ _ hz).mono ?_); rintro e w' ⟨rfl, hb⟩; replace hz := hz.trans (hb.mono hz.size); clear hb))
          go_roundw
          case rel => exact ⟨k + 1, by go_num, by omega, hz⟩
          case measure => simp [intOf]; omega
    · have t0 : decide ((k : Int) < 3) = false := by simp; omega
      have WY : Aside0 (∀ (W : World), Below w1.heap.size w1 W → Calls Try.prog 48 #[.pointer (some ⟨g, 0, none⟩), .int .u64 tt] W (WhenYes H l tt W)) := ⟨fun W hb => when_yes g H 18446744073709551615 0 tt l W (HS.out.below hb) (by rw [HTT.out]; exact HX.out)⟩
      go_wp2_with (first | (go_at_call 44; (with_reducible refine (TC0.out _ hz).mono ?_); rintro e w' ⟨rfl, hb⟩; replace hz := hz.trans (hb.mono hz.size); clear hb) | (go_at_call 48; (with_reducible refine (WY.out _ hz).mono ?_); rintro e w' ⟨r, rfl, hr, hb⟩; replace hz := hz.trans (hb.mono hz.size); clear hb; have hrx := when_le HS.out.val HTT.out a0 hr; have t1 : decide ((r : Int) ≤ x) = true := (by simpa using hrx); clear hr hrx) | (go_at_call 47; (with_reducible refine (LC.out _).mono ?_); rintro e w' ⟨rfl, hb⟩; replace hz := hz.trans (hb.mono hz.size); clear hb))
      go_ret
      exact ⟨rfl, HB.out.trans (hz.mono HB.out.size)⟩
end Go.Proofs.Ytdlhmabjgbiagaa.Sky
