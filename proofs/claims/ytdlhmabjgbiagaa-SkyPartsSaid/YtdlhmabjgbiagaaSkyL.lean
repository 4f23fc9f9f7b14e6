/-
  The walk of SkyGoes: it comes to true, whatever is asked for.
-/
import Derived.Test.YtdlhmabjgbiagaaSkyK
namespace Go.Proofs.Ytdlhmabjgbiagaa.Sky
open Go.RowKit Go.Proofs.Ytdlhmabjgbiagaa.Blk Go.Proofs.YtdlhmabjgbiagaaW.PrintWords Go.Proofs.YtdlhmabjgbiagaaW.PrintLast Go.Proofs.YtdlhmabjgbiagaaW.PrintMore
open Go.Proofs.Ytdlhmabjgbiagaa.PSkyGoes
set_option linter.unusedVariables false
set_option linter.unusedSimpArgs false

/-- The lowest 52 bits of an int64. -/
theorem and52 (a : Int) : Go.bits .and .i64 a 4503599627370495 = a % 4503599627370496 := by
  show IntKind.i64.wrap ((BitVec.ofInt 64 a &&& BitVec.ofInt 64 4503599627370495).toNat : Int) = _
  have e1 : (BitVec.ofInt 64 a).toNat = (a % 18446744073709551616).toNat := by rw [BitVec.toNat_ofInt]; rfl
  have e2 : (BitVec.ofInt 64 4503599627370495).toNat = 2 ^ 52 - 1 := by decide
  rw [BitVec.toNat_and, e1, e2, Nat.and_two_pow_sub_one_eq_mod, IntKind.wrap_i64]
  omega

theorem tickz_step {h : Nat} {l : List S96} (hv : Vld l) (hh : h ≤ 1000000000) {a b : Int} (hab : a ≤ b) : tickz h l b - tickz h l a ≤ 2 * (b - a) := by
  obtain ⟨h1, h2⟩ := paced_goes hv (clampT_lo a) (clampT_mono hab) l.length (Nat.le_refl _)
  have u1 : upTo (fr l) l.length (clampT b) l.length = clampT b := by unfold upTo; rw [if_neg (by omega)]
  have u2 : upTo (fr l) l.length (clampT a) l.length = clampT a := by unfold upTo; rw [if_neg (by omega)]
  rw [u1, u2] at h2
  have hc : clampT b - clampT a ≤ b - a := by unfold clampT; (repeat' split) <;> omega
  unfold tickz ticksF
  generalize paced (fr l) (of l) l.length (clampT a) l.length = x at *
  generalize paced (fr l) (of l) l.length (clampT b) l.length = y at *
  have h3 : (y - x) * (h : Int) ≤ (1000500000 * (b - a)) * 1000000000 := Int.mul_le_mul (by omega) (by omega) (by omega) (by omega)
  rw [Int.sub_mul] at h3
  generalize x * (h : Int) = X at *
  generalize y * (h : Int) = Y at *
  omega
theorem tickz_at0 {h : Nat} {l : List S96} (hv : Vld l) {t : Int} (ht : t ≤ 0) : tickz h l t = 0 := by
  have e : clampT t = 0 := by unfold clampT; (repeat' split) <;> omega
  unfold tickz ticksF
  rw [e, paced_zero hv _ (Nat.le_refl _)]
  simp
theorem readz_full {h : Nat} {l : List S96} (hv : Vld l) (hh : 0 < h ∧ h ≤ 1000000000) (t : Int) : readz h 18446744073709551615 0 l t = tickz h l t := by
  obtain ⟨a, b, _⟩ := tickz_bound hv hh t
  unfold readz
  obtain ⟨n, hn⟩ : ∃ n : Nat, (n : Int) = tickz h l t := ⟨(tickz h l t).toNat, by omega⟩
  rw [← hn] at a b ⊢
  rw [show ((0 : Nat) : Int) + (n : Int) = (n : Int) by omega, wrap_nat _ (by omega)]
  have e := u64_and_nat n 18446744073709551615 (by omega) (by omega)
  have e2 : n &&& 18446744073709551615 = n % 2 ^ 64 := Nat.and_two_pow_sub_one_eq_mod n 64
  rw [e2, Nat.mod_eq_of_lt (by omega)] at e
  exact e
theorem rawz_mono {h : Nat} {l : List S96} (hv : Vld l) (hh : 0 < h) {a b : Int} (hab : a ≤ b) : rawz h l a ≤ rawz h l b := by
  have h1 := tickz_mono (h := h) hv hab
  unfold rawz
  exact Int.ediv_le_ediv (by omega) (by omega)

theorem made_bits (x : Int) : 0 ≤ x % 4503599627370496 ∧ x % 4503599627370496 ≤ 4503599627370495 := by omega

theorem goes_facts {h : Nat} {l : List S96} (hv : Vld l) (hh : 0 < h ∧ h ≤ 1000000000) (hb : h ≤ 1000000000) {p q : Int} (h0 : 0 ≤ p) (hpq : p ≤ q) (hq : q ≤ 4503599627370495) :
    ∃ ta tb tc ra rb : Int, tickz h l p = ta ∧ tickz h l q = tb ∧ tickz h l (p + 1) = tc ∧ tickz h l 0 = 0 ∧ tickz h l (-5) = 0 ∧ rawz h l p = ra ∧ rawz h l q = rb ∧
      decide (ta ≤ tb) = true ∧ IntKind.u64.wrap (tb - ta) = tb - ta ∧ IntKind.u64.wrap (q - p) = q - p ∧ IntKind.u64.wrap (2 * (q - p)) = 2 * (q - p) ∧ decide (tb - ta ≤ 2 * (q - p)) = true ∧ (IntKind.u64.wrap (tc - ta) = tc - ta ∧ decide (tc - ta ≤ 2) = true) ∧ decide (ra ≤ rb) = true := by
  refine ⟨_, _, _, _, _, rfl, rfl, rfl, tickz_at0 hv (Int.le_refl 0), tickz_at0 hv (by omega), rfl, rfl, ?_⟩
  have m1 := tickz_mono (h := h) hv hpq
  have m2 := tickz_mono (h := h) hv (show p ≤ p + 1 by omega)
  have s1 := tickz_step hv hb hpq
  have s2 := tickz_step hv hb (show p ≤ p + 1 by omega)
  have b1 := tickz_bound hv hh p
  have b2 := tickz_bound hv hh q
  have b3 := tickz_bound hv hh (p + 1)
  have r1 := rawz_mono hv hh.1 hpq
  simp only [IntKind.wrap_u64, decide_eq_true_eq]
  generalize tickz h l p = ta at *
  generalize tickz h l q = tb at *
  generalize tickz h l (p + 1) = tc at *
  refine ⟨m1, by omega, by omega, by omega, s1, ⟨by omega, by omega⟩, r1⟩

set_option maxRecDepth 100000 in
set_option maxHeartbeats 8000000 in
theorem goes_walk (hz : Nat) (A1 A2 : Option Addr) (c1 c2 : Nat) (lasts offs : List Int) (a b : Int) (w : World) (hhz : hz < 4294967296)
    (h1 : Kd.C (Kd.int .u64) w A1 lasts.length lasts) (h2 : Kd.C (Kd.int .i32) w A2 offs.length offs) (w1 : ∀ x ∈ lasts, 0 ≤ x ∧ x < 18446744073709551616) (w2 : ∀ x ∈ offs, -2147483648 ≤ x ∧ x ≤ 2147483647) :
    Calls Try.prog 8 #[.int .u32 hz, .slice A1 lasts.length c1, .slice A2 offs.length c2, .int .i64 a, .int .i64 b] w fun e w' => e = .returned (.bool true) ∧ Below w.heap.size w w' := by
  have MC := Aside0.mk (made_calls hz A1 A2 c1 c2 lasts offs w hhz h1 h2 w1 w2)
  obtain ⟨H, hH⟩ : ∃ H, 1000 + hz % 999999001 = H := ⟨_, rfl⟩
  rw [hH] at MC
  have hHb : H ≤ 1000000000 := by omega
  clear h1 h2 w1 w2 hH hhz
  have ea := and52 a
  have eb := and52 b
  obtain ⟨a0, a1⟩ := made_bits a
  obtain ⟨b0, b1⟩ := made_bits b
  obtain ⟨x, hx⟩ : ∃ x, a % 4503599627370496 = x := ⟨_, rfl⟩
  obtain ⟨y, hy⟩ : ∃ y, b % 4503599627370496 = y := ⟨_, rfl⟩
  rw [hx] at ea a0 a1
  rw [hy] at eb b0 b1
  clear hx hy
  have LC := Aside0.mk alive_calls
  go_enter Try.func8, Try.ntmps8
  go_wp2_with (go_at_call 43; (with_reducible refine MC.out.mono ?_); rintro e w1 ⟨g, l, rfl, hs, hb⟩; have HS := Aside0.mk hs; have HB := Aside0.mk hb; clear hs hb)
  · have hyx : y < x := by assumption
    obtain ⟨ta, tb, tc, ra, rb, e1, e2, e3, e4, e5, e6, e7, e8, d1, d2, d3, d4, ⟨d5, d7⟩, d6⟩ := goes_facts HS.out.val HS.out.hh hHb (p := y) (q := x) (by omega) (by omega) (by omega)
    have TC : Aside0 (∀ (t : Int) (W : World), Below w1.heap.size w1 W → Calls Try.prog 44 #[.pointer (some ⟨g, 0, none⟩), .int .i64 t] W fun e w' => e = .returned (.int .u64 (tickz H l t)) ∧ Below W.heap.size W w') := ⟨fun t W hb => ticks_calls g H 18446744073709551615 0 l t W (HS.out.below hb)⟩
    have RC : Aside0 (∀ (t : Int) (W : World), Below w1.heap.size w1 W → Calls Try.prog 45 #[.pointer (some ⟨g, 0, none⟩), .int .i64 t] W fun e w' => e = .returned (.int .u64 (tickz H l t)) ∧ Below W.heap.size W w') := ⟨fun t W hb => by
      have h := read_calls g H 18446744073709551615 0 l t W (HS.out.below hb)
      rw [readz_full HS.out.val HS.out.hh] at h
      exact h⟩
    have AC : Aside0 (∀ (t : Int) (W : World), Below w1.heap.size w1 W → Calls Try.prog 46 #[.pointer (some ⟨g, 0, none⟩), .int .i64 t] W fun e w' => e = .returned (.int .i64 (rawz H l t)) ∧ Below W.heap.size W w') := ⟨fun t W hb => raw_calls g H 18446744073709551615 0 l t W (HS.out.below hb)⟩
    have hz := Below.refl w1.heap.size w1
    refine (TC.out _ _ hz).mono ?_
    rintro e w2 ⟨rfl, hb⟩
    replace hz := hz.trans (hb.mono hz.size)
    clear hb
    go_wp2_with (first | (go_at_call 44; (with_reducible refine (TC.out _ _ hz).mono ?_); rintro e w' ⟨rfl, hb⟩; replace hz := hz.trans (hb.mono hz.size); clear hb) | (go_at_call 45; (with_reducible refine (RC.out _ _ hz).mono ?_); rintro e w' ⟨rfl, hb⟩; replace hz := hz.trans (hb.mono hz.size); clear hb) | (go_at_call 46; (with_reducible refine (AC.out _ _ hz).mono ?_); rintro e w' ⟨rfl, hb⟩; replace hz := hz.trans (hb.mono hz.size); clear hb) | (go_at_call 47; (with_reducible refine (LC.out _).mono ?_); rintro e w' ⟨rfl, hb⟩; replace hz := hz.trans (hb.mono hz.size); clear hb))
    go_ret
    exact ⟨rfl, HB.out.trans (hz.mono HB.out.size)⟩
  · have hyx : ¬ y < x := by first | assumption | exact Int.not_lt.2 (by assumption)
    obtain ⟨ta, tb, tc, ra, rb, e1, e2, e3, e4, e5, e6, e7, e8, d1, d2, d3, d4, ⟨d5, d7⟩, d6⟩ := goes_facts HS.out.val HS.out.hh hHb (p := x) (q := y) (by omega) (by omega) (by omega)
    have TC : Aside0 (∀ (t : Int) (W : World), Below w1.heap.size w1 W → Calls Try.prog 44 #[.pointer (some ⟨g, 0, none⟩), .int .i64 t] W fun e w' => e = .returned (.int .u64 (tickz H l t)) ∧ Below W.heap.size W w') := ⟨fun t W hb => ticks_calls g H 18446744073709551615 0 l t W (HS.out.below hb)⟩
    have RC : Aside0 (∀ (t : Int) (W : World), Below w1.heap.size w1 W → Calls Try.prog 45 #[.pointer (some ⟨g, 0, none⟩), .int .i64 t] W fun e w' => e = .returned (.int .u64 (tickz H l t)) ∧ Below W.heap.size W w') := ⟨fun t W hb => by
      have h := read_calls g H 18446744073709551615 0 l t W (HS.out.below hb)
      rw [readz_full HS.out.val HS.out.hh] at h
      exact h⟩
    have AC : Aside0 (∀ (t : Int) (W : World), Below w1.heap.size w1 W → Calls Try.prog 46 #[.pointer (some ⟨g, 0, none⟩), .int .i64 t] W fun e w' => e = .returned (.int .i64 (rawz H l t)) ∧ Below W.heap.size W w') := ⟨fun t W hb => raw_calls g H 18446744073709551615 0 l t W (HS.out.below hb)⟩
    have hz := Below.refl w1.heap.size w1
    refine (TC.out _ _ hz).mono ?_
    rintro e w2 ⟨rfl, hb⟩
    replace hz := hz.trans (hb.mono hz.size)
    clear hb
    go_wp2_with (first | (go_at_call 44; (with_reducible refine (TC.out _ _ hz).mono ?_); rintro e w' ⟨rfl, hb⟩; replace hz := hz.trans (hb.mono hz.size); clear hb) | (go_at_call 45; (with_reducible refine (RC.out _ _ hz).mono ?_); rintro e w' ⟨rfl, hb⟩; replace hz := hz.trans (hb.mono hz.size); clear hb) | (go_at_call 46; (with_reducible refine (AC.out _ _ hz).mono ?_); rintro e w' ⟨rfl, hb⟩; replace hz := hz.trans (hb.mono hz.size); clear hb) | (go_at_call 47; (with_reducible refine (LC.out _).mono ?_); rintro e w' ⟨rfl, hb⟩; replace hz := hz.trans (hb.mono hz.size); clear hb))
    go_ret
    exact ⟨rfl, HB.out.trans (hz.mono HB.out.size)⟩
end Go.Proofs.Ytdlhmabjgbiagaa.Sky
