/-
  Contract of math/bits.Div64: the quotient and the rest of a number of 128 bits, where the quotient fits.
-/
import Derived.Test.YtdlhmabjgbiagaaPSkyGoesx0
import Derived.Test.YtdlhmabjgbiagaaShelf
import Derived.Test.YtdlhmabjgbiagaaSkyM
import Derived.Outline
import Derived.Lib.Hide
import Derived.IntWalk
namespace Go.Proofs.Ytdlhmabjgbiagaa.Sky
open Go.RowKit Go.Proofs.YtdlhmabjgbiagaaW.PrintWords Go.Proofs.YtdlhmabjgbiagaaW.PrintLast Go.Proofs.YtdlhmabjgbiagaaW.PrintMore
set_option linter.unusedVariables false
set_option linter.unusedSimpArgs false

theorem lz_calls (y : Nat) (w : World) (h0 : 0 < y) (h1 : y < 18446744073709551616) :
    Calls Try.prog 116 #[.int .u64 y] w fun e w' => ∃ s : Nat, s ≤ 63 ∧ 9223372036854775808 ≤ y * 2 ^ s ∧ y * 2 ^ s < 18446744073709551616 ∧ e = .returned (.int .i64 s) ∧ w = w' := by
  obtain ⟨a, b, c, d⟩ := lz_bounds y h0 h1
  refine (Try.bits_LeadingZeros64 y w (by omega) (by omega)).mono fun _ _ h => ⟨64 - Lib.bitLen y, by omega, c, d, ?_, h.2.symm⟩
  rw [h.1, Int.toNat_natCast]
  congr 2
  omega

structure DivFacts (hi lo y s y1 y0 u d1 d0 : Nat) : Prop where
  hs : s ≤ 63
  hY : y * 2 ^ s = y1 * 4294967296 + y0
  h1 : 2147483648 ≤ y1
  h2 : y1 < 4294967296
  h3 : y0 < 4294967296
  h4 : u < y1 * 4294967296 + y0
  hN : (hi * 18446744073709551616 + lo) * 2 ^ s = (u * 4294967296 + d1) * 4294967296 + d0
  h5 : d1 < 4294967296
  h6 : d0 < 4294967296

theorem cast_pow (y s : Nat) : (y : Int) * 2 ^ s = ((y * 2 ^ s : Nat) : Int) := by simp
theorem vwrap (y s Y : Nat) (h : y * 2 ^ s = Y) (hY : Y < 18446744073709551616) : IntKind.u64.wrap ((y : Int) * 2 ^ s) = (Y : Int) := by
  rw [cast_pow, h, wrap_nat _ hY]
theorem vmod (y s : Nat) : IntKind.u64.wrap ((y : Int) * 2 ^ s) = ((y * 2 ^ s % 18446744073709551616 : Nat) : Int) := by
  rw [cast_pow, wrap_mod]
theorem vu64 {a b : Int} (h : a = b) : Value.int .u64 a = .int .u64 b := by rw [h]

theorem div_facts (hi lo y s : Nat) (hy : y < 18446744073709551616) (hl : lo < 18446744073709551616) (hh : hi < y) (hs : s ≤ 63) (hs1 : 9223372036854775808 ≤ y * 2 ^ s) (hs2 : y * 2 ^ s < 18446744073709551616) :
    DivFacts hi lo y s (y * 2 ^ s / 4294967296) (y * 2 ^ s % 4294967296) (hi * 2 ^ s + lo / 2 ^ (64 - s)) (lo * 2 ^ s % 18446744073709551616 / 4294967296) (lo * 2 ^ s % 18446744073709551616 % 4294967296) := by
  obtain ⟨a, b, c⟩ := moved hi lo y s hs hl hh hs2
  have e := Nat.div_add_mod (y * 2 ^ s) 4294967296
  rw [Nat.mul_comm] at e
  refine ⟨hs, e.symm, ?_, ?_, Nat.mod_lt _ (by omega), by rw [e]; exact b, c, ?_, Nat.mod_lt _ (by omega)⟩
  · generalize y * 2 ^ s = Y at *
    omega
  · generalize y * 2 ^ s = Y at *
    omega
  · generalize lo * 2 ^ s = C at *
    omega

theorem start_q (u y1 : Nat) (hu : u < 18446744073709551616) : IntKind.u64.wrap ((u : Int) / (y1 : Int)) = ((u / y1 : Nat) : Int) := by
  have e : (u : Int) / (y1 : Int) = ((u / y1 : Nat) : Int) := by simp
  have := Nat.div_le_self u y1
  rw [e, wrap_nat _ (by omega)]
theorem start_r (u y1 : Nat) (hu : u < 18446744073709551616) : IntKind.u64.wrap ((u : Int) - IntKind.u64.wrap (IntKind.u64.wrap ((u : Int) / (y1 : Int)) * (y1 : Int))) = ((u - u / y1 * y1 : Nat) : Int) := by
  have h := Nat.div_mul_le_self u y1
  rw [start_q u y1 hu, show ((u / y1 : Nat) : Int) * (y1 : Int) = ((u / y1 * y1 : Nat) : Int) by simp, wrap_nat _ (by omega), show (u : Int) - ((u / y1 * y1 : Nat) : Int) = ((u - u / y1 * y1 : Nat) : Int) by omega, wrap_nat _ (by omega)]
theorem start_lt (u y1 : Nat) (h : 0 < y1) : u - u / y1 * y1 < y1 := by
  have a1 := Nat.div_add_mod u y1
  have a2 := Nat.mod_lt u h
  have e : y1 * (u / y1) = u / y1 * y1 := Nat.mul_comm _ _
  omega
theorem wrap_add (a b n : Nat) (h : a + b = n) (hn : n < 18446744073709551616) : IntKind.u64.wrap ((a : Int) + (b : Int)) = (n : Int) := by
  rw [show (a : Int) + (b : Int) = ((a + b : Nat) : Int) by simp, h, wrap_nat _ hn]
theorem wrap_mul (a b n : Nat) (h : a * b = n) (hn : n < 18446744073709551616) : IntKind.u64.wrap ((a : Int) * (b : Int)) = (n : Int) := by
  rw [show (a : Int) * (b : Int) = ((a * b : Nat) : Int) by simp, h, wrap_nat _ hn]
theorem wrap_pred (a n : Nat) (h : a = n + 1) (hn : a < 18446744073709551616) : IntKind.u64.wrap ((a : Int) - 1) = (n : Int) := by
  rw [show (a : Int) - 1 = (n : Int) by omega, wrap_nat _ (by omega)]
theorem wrap_b (a n : Nat) (h : 4294967296 * a = n) (hn : n < 18446744073709551616) : IntKind.u64.wrap (4294967296 * (a : Int)) = (n : Int) := by
  rw [show 4294967296 * (a : Int) = ((4294967296 * a : Nat) : Int) by simp, h, wrap_nat _ hn]

theorem rest_lt (u d Y q u1 : Nat) (hq : (u * 4294967296 + d) / Y = q) (h : u * 4294967296 + d - q * Y = u1) (hY : 0 < Y) : u * 4294967296 + d = q * Y + u1 ∧ u1 < Y := by
  have a1 := Nat.div_add_mod (u * 4294967296 + d) Y
  have a2 := Nat.mod_lt (u * 4294967296 + d) hY
  rw [hq, Nat.mul_comm] at a1
  omega
/-- What Go's words say of the rest: they wrap around, and the rest fits. -/
theorem rest_eq (u d y1 y0 q u1 : Nat) (hu1 : u1 < y1 * 4294967296 + y0) (hY : y1 * 4294967296 + y0 < 18446744073709551616) (h : u * 4294967296 + d = q * (y1 * 4294967296 + y0) + u1) :
    IntKind.u64.wrap (IntKind.u64.wrap (IntKind.u64.wrap ((u : Int) * 4294967296) + (d : Int)) - IntKind.u64.wrap ((q : Int) * ((y1 : Int) * 4294967296 + (y0 : Int)))) = (u1 : Int) := by
  have e1 : (u : Int) * 4294967296 + (d : Int) = (q : Int) * ((y1 : Int) * 4294967296 + (y0 : Int)) + (u1 : Int) := by
    have := congrArg (fun n : Nat => (n : Int)) h
    simpa using this
  generalize (q : Int) * ((y1 : Int) * 4294967296 + (y0 : Int)) = A at *
  simp only [IntKind.wrap_u64]
  omega

theorem ret_pair {a b c d : Int} (h : a = c) (h2 : b = d) : Ending.returned (.tuple #[.int .u64 a, .int .u64 b]) = .returned (.tuple #[.int .u64 c, .int .u64 d]) := by rw [h, h2]
theorem div_end {hi lo y s y1 y0 u d1 d0 q1 q0 u1 : Nat} (F : DivFacts hi lo y s y1 y0 u d1 d0) (hX : u * 4294967296 + d1 = q1 * (y1 * 4294967296 + y0) + u1 ∧ u1 < y1 * 4294967296 + y0)
    (hE : (u1 * 4294967296 + d0) / (y1 * 4294967296 + y0) = q0) (hh : hi < y) (hl : lo < 18446744073709551616) :
    IntKind.u64.wrap (IntKind.u64.wrap ((q1 : Int) * 4294967296) + (q0 : Int)) = (((hi * 18446744073709551616 + lo) / y : Nat) : Int) ∧
    IntKind.u64.wrap (IntKind.u64.wrap (IntKind.u64.wrap ((u1 : Int) * 4294967296) + (d0 : Int)) - IntKind.u64.wrap ((q0 : Int) * ((y1 : Int) * 4294967296 + (y0 : Int)))) / 2 ^ s = (((hi * 18446744073709551616 + lo) % y : Nat) : Int) := by
  have g1 := F.h1
  have g2 := F.h2
  have g3 := F.h3
  have hY : 0 < y1 * 4294967296 + y0 := by omega
  obtain ⟨r0, hr0⟩ : ∃ r0, u1 * 4294967296 + d0 - q0 * (y1 * 4294967296 + y0) = r0 := ⟨_, rfl⟩
  obtain ⟨a1, a2⟩ := rest_lt u1 d0 _ q0 r0 hE hr0 hY
  have e := rest_eq u1 d0 y1 y0 q0 r0 a2 (by omega) a1
  obtain ⟨b1, b2⟩ := join (hi * 18446744073709551616 + lo) y (2 ^ s) (y1 * 4294967296 + y0) u d1 d0 q1 q0 u1 r0 (Nat.pow_pos (by omega)) F.hY.symm F.hN hX.1 a1 a2 (by omega)
  have hq : (hi * 18446744073709551616 + lo) / y < 18446744073709551616 := by
    rw [Nat.div_lt_iff_lt_mul (by omega)]
    have : (hi + 1) * 18446744073709551616 ≤ y * 18446744073709551616 := Nat.mul_le_mul_right _ hh
    omega
  refine ⟨?_, ?_⟩
  · rw [b1] at hq ⊢
    simp only [IntKind.wrap_u64]
    clear e a1 b1 b2 hr0 hE hX F
    omega
  · rw [e, b2]
    simp

set_option maxRecDepth 100000 in
set_option maxHeartbeats 4000000 in
theorem div_calls (hi lo y : Nat) (w : World) (hy : y < 18446744073709551616) (hl : lo < 18446744073709551616) (h0 : 0 < hi) (hh : hi < y) :
    Calls Try.prog 88 #[.int .u64 hi, .int .u64 lo, .int .u64 y] w fun e w' => e = .returned (.tuple #[.int .u64 ((hi * 18446744073709551616 + lo) / y : Nat), .int .u64 ((hi * 18446744073709551616 + lo) % y : Nat)]) ∧ Drawn0 w w' := by
  have e1 : ((y : Int) == 0) = false := by simp; omega
  have e2 : decide ((y : Int) ≤ (hi : Int)) = false := by simp; omega
  have e3 : ((hi : Int) == 0) = false := by simp; omega
  go_enter Try.func88, Try.ntmps88
  go_upto_region 14 with (go_at_call 116; refine (lz_calls y _ (by omega) hy).mono ?_; rintro e w' ⟨s, hs, hs1, hs2, rfl, rfl⟩)
  go_cut [2, 8, 9, 10, 11, 12, 13, 14] (fun v2 v8 v9 v10 v11 v12 v13 v14 wc => ∃ s y1 y0 u d1 d0 : Nat, v8 = .int .u64 s ∧ v2 = .int .u64 ((y1 : Int) * 4294967296 + y0) ∧ v9 = .int .u64 y1 ∧ v10 = .int .u64 y0 ∧ v11 = .int .u64 u ∧ v13 = .int .u64 d1 ∧ v14 = .int .u64 d0 ∧ Aside0 (DivFacts hi lo y s y1 y0 u d1 d0) ∧ w = wc)
  case first =>
    have HF := Aside0.mk (div_facts hi lo y s hy hl hh hs hs1 hs2)
    have hm := (moved hi lo y s hs hl hh hs2).1
    have q1 := Aside0.mk (vwrap y s _ rfl hs2)
    have q2 := Aside0.mk (vmod lo s)
    have q3 := Aside0.mk (vwrap hi s _ rfl hm)
    have q4 : Aside0 (((lo : Int) / 2 ^ (64 - s)) = ((lo / 2 ^ (64 - s) : Nat) : Int)) := ⟨by simp⟩
    have q5 := Aside0.mk (head_or hi lo s hs hl hm)
    have q6 := Aside0.mk (and_mask (y * 2 ^ s) hs2)
    have q7 := Aside0.mk (and_mask (lo * 2 ^ s % 18446744073709551616) (by omega))
    go_wp2
    go_meet
    case rel =>
      refine ⟨s, _, _, _, _, _, rfl, ?_, ?_, ?_, ?_, ?_, ?_, HF, rfl⟩
      · exact vu64 (by rw [q1.out]; omega)
      · exact vu64 (by rw [q1.out]; omega)
      · exact vu64 (by rw [q1.out, q6.out])
      · exact vu64 (by rw [q3.out, q4.out, q5.out])
      · exact vu64 (by rw [q2.out]; omega)
      · exact vu64 (by rw [q2.out, q7.out])
  case rest =>
    obtain ⟨s, y1, y0, u, d1, d0, rfl, rfl, rfl, rfl, rfl, rfl, rfl, HF, rfl⟩ := hcut
    have f1 := HF.out.h1
    have f2 := HF.out.h2
    have f3 := HF.out.h3
    have f4 := HF.out.h4
    have f5 := HF.out.h5
    have f6 := HF.out.h6
    have f0 := HF.out.hs
    have g1 : (y1 : Int) ≠ 0 := by omega
    have g2 : (0 : Int) < (y1 : Int) := by omega
    have hu64 : u < 18446744073709551616 := by omega
    have HS := Aside0.mk (start_q u y1 hu64)
    have HR := Aside0.mk (start_r u y1 hu64)
    have HL := start_lt u y1 (by omega)
    have HI := Aside0.mk (inv_start y1 y0 u d1 (by omega) (by omega))
    have hq64 : u / y1 ≤ u := Nat.div_le_self _ _
    have HQ0 := Aside0.mk (show u / y1 < 18446744073709551616 by omega)
    go_upto_block 0 with (fail)
    go_cut [15, 16] (fun vq v16 wc => ∃ q r : Nat, vq = .int .u64 q ∧ v16 = .int .u64 r ∧ Aside0 ((u * 4294967296 + d1) / (y1 * 4294967296 + y0) = q) ∧ w = wc)
    case first =>
      go_wp2
      go_loop [15, 16] (fun vq v16 => ∃ q r : Nat, vq = .int .u64 q ∧ v16 = .int .u64 r ∧ r < 4294967296 ∧ q < 18446744073709551616 ∧ Aside0 (Inv y1 y0 u d1 q r)) (fun vq _ => (intOf vq).toNat)
      case atStart => exact ⟨_, _, vu64 HS.out, vu64 HR.out, Nat.lt_trans HL f2, HQ0.out, HI⟩
      case round =>
        clear HS HR HL HI hq64 HQ0
        obtain ⟨q, r, rfl, rfl, hr, hq, HI⟩ := hrel
        have hP : q < 4294967296 → q * y0 < 18446744073709551616 := fun h => by
          have a1 : q * y0 ≤ 4294967295 * y0 := Nat.mul_le_mul_right _ (by omega)
          omega
        obtain ⟨P, hPP⟩ : ∃ P, q * y0 = P := ⟨_, rfl⟩
        obtain ⟨R, hRR⟩ : ∃ R, 4294967296 * r = R := ⟨_, rfl⟩
        obtain ⟨R2, hRR2⟩ : ∃ R2, R + d1 = R2 := ⟨_, rfl⟩
        rw [hPP] at hP
        have b4 := wrap_b r R hRR (by omega)
        have b5 := wrap_add R d1 R2 hRR2 (by omega)
        by_cases c1 : 4294967296 ≤ q ∨ 4294967296 * r + d1 < q * y0
        · obtain ⟨hq0, HJ⟩ := inv_cont y1 y0 u d1 q r HI.out (by omega) (by omega) c1
          have HK := Aside0.mk HJ
          have HB := inv_break y1 y0 u d1 (q - 1) (r + y1) HK.out (by omega) (by omega)
          have HB' := Aside0.mk HB
          clear HJ HB
          obtain ⟨p, hp⟩ : ∃ p, q - 1 = p := ⟨_, rfl⟩
          rw [hp] at HK HB'
          obtain ⟨r1, hr1⟩ : ∃ r1, r + y1 = r1 := ⟨_, rfl⟩
          rw [hr1] at HK HB'
          have b1 := wrap_pred q p (by omega) hq
          have b2 := wrap_add r y1 r1 hr1 (by omega)
          have hpq : p < q := by omega
          rw [hPP, hRR, hRR2] at c1
          by_cases c3 : 4294967296 ≤ q
          · have t1 : decide (4294967296 ≤ (q : Int)) = true := by simp; omega
            clear c1
            by_cases c2 : 4294967296 ≤ r1
            · have t2 : decide (4294967296 ≤ (r1 : Int)) = true := by simp; omega
              have HBB := Aside0.mk (HB'.out c2)
              clear HB' HK HI hRR hRR2 hPP hr1 hP hq hu64 hq0 c3 c2 hr hp hpq
              go_wp2
              go_meet
              case rel => exact ⟨p, r1, rfl, rfl, HBB, rfl⟩
            · have t2 : decide (4294967296 ≤ (r1 : Int)) = false := by simp; omega
              have HQ := Aside0.mk hpq
              have HQ2 := Aside0.mk hq
              have HR2 := Aside0.mk c2
              clear HB' HI hRR hRR2 hPP hr1 hP hq hu64 hq0 c3 c2 hr hp hpq
              go_wp2
              go_round
              case rel =>
                have := HQ2.out
                have := HQ.out
                have := HR2.out
                exact ⟨p, r1, rfl, rfl, by omega, by omega, HK⟩
              case measure =>
                have := HQ.out
                simp [intOf]; omega
          · have t1 : decide (4294967296 ≤ (q : Int)) = false := by simp; omega
            have t3 : decide (R2 < P) = true := by simp; omega
            have b3 := wrap_mul q y0 P hPP (hP (by omega))
            clear c1
            by_cases c2 : 4294967296 ≤ r1
            · have t2 : decide (4294967296 ≤ (r1 : Int)) = true := by simp; omega
              have HBB := Aside0.mk (HB'.out c2)
              clear HB' HK HI hRR hRR2 hPP hr1 hP hq hu64 hq0 c3 c2 hr hp hpq
              go_wp2
              go_meet
              case rel => exact ⟨p, r1, rfl, rfl, HBB, rfl⟩
            · have t2 : decide (4294967296 ≤ (r1 : Int)) = false := by simp; omega
              have HQ := Aside0.mk hpq
              have HQ2 := Aside0.mk hq
              have HR2 := Aside0.mk c2
              clear HB' HI hRR hRR2 hPP hr1 hP hq hu64 hq0 c3 c2 hr hp hpq
              go_wp2
              go_round
              case rel =>
                have := HQ2.out
                have := HQ.out
                have := HR2.out
                exact ⟨p, r1, rfl, rfl, by omega, by omega, HK⟩
              case measure =>
                have := HQ.out
                simp [intOf]; omega
        · have t1 : decide (4294967296 ≤ (q : Int)) = false := by simp; omega
          have HB := Aside0.mk (inv_exit y1 y0 u d1 q r HI.out (by omega))
          rw [hPP, hRR, hRR2] at c1
          have t3 : decide (R2 < P) = false := by simp; omega
          have b3 := wrap_mul q y0 P hPP (hP (by omega))
          clear HI hRR hRR2 hPP hP hq hu64 c1 hr
          go_wp2
          go_meet
          case rel => exact ⟨q, r, rfl, rfl, HB, rfl⟩
    case rest =>
      obtain ⟨q1, r, rfl, rfl, E1, rfl⟩ := hcut
      clear HS HR HL HI hq64 hu64 HQ0
      obtain ⟨u1, hu1⟩ : ∃ u1, u * 4294967296 + d1 - q1 * (y1 * 4294967296 + y0) = u1 := ⟨_, rfl⟩
      have HX := Aside0.mk (rest_lt u d1 (y1 * 4294967296 + y0) q1 u1 E1.out hu1 (by omega))
      have f7 := HX.out.2
      have HU' := Aside0.mk (rest_eq u d1 y1 y0 q1 u1 f7 (by omega) HX.out.1)
      clear hu1
      have hu64 : u1 < 18446744073709551616 := by omega
      have HS := Aside0.mk (start_q u1 y1 hu64)
      have HR := Aside0.mk (start_r u1 y1 hu64)
      have HL := start_lt u1 y1 (by omega)
      have HI := Aside0.mk (inv_start y1 y0 u1 d0 (by omega) (by omega))
      have hq64 : u1 / y1 ≤ u1 := Nat.div_le_self _ _
      have HQ0 := Aside0.mk (show u1 / y1 < 18446744073709551616 by omega)
      have HU := HU'.out
      go_upto_block 2 with (fail)
      go_cut [18, 16] (fun vq v16 wc => ∃ q r : Nat, vq = .int .u64 q ∧ v16 = .int .u64 r ∧ Aside0 ((u1 * 4294967296 + d0) / (y1 * 4294967296 + y0) = q) ∧ w = wc)
      case first =>
        go_wp2
        clear HU
        go_loop [18, 16] (fun vq v16 => ∃ q r : Nat, vq = .int .u64 q ∧ v16 = .int .u64 r ∧ r < 4294967296 ∧ q < 18446744073709551616 ∧ Aside0 (Inv y1 y0 u1 d0 q r)) (fun vq _ => (intOf vq).toNat)
        case atStart => exact ⟨_, _, vu64 HS.out, vu64 HR.out, Nat.lt_trans HL f2, HQ0.out, HI⟩
        case round =>
          clear HS HR HL HI hq64 HQ0
          obtain ⟨q, r, rfl, rfl, hr, hq, HI⟩ := hrel
          have hP : q < 4294967296 → q * y0 < 18446744073709551616 := fun h => by
            have a1 : q * y0 ≤ 4294967295 * y0 := Nat.mul_le_mul_right _ (by omega)
            omega
          obtain ⟨P, hPP⟩ : ∃ P, q * y0 = P := ⟨_, rfl⟩
          obtain ⟨R, hRR⟩ : ∃ R, 4294967296 * r = R := ⟨_, rfl⟩
          obtain ⟨R2, hRR2⟩ : ∃ R2, R + d0 = R2 := ⟨_, rfl⟩
          rw [hPP] at hP
          have b4 := wrap_b r R hRR (by omega)
          have b5 := wrap_add R d0 R2 hRR2 (by omega)
          by_cases c1 : 4294967296 ≤ q ∨ 4294967296 * r + d0 < q * y0
          · obtain ⟨hq0, HJ⟩ := inv_cont y1 y0 u1 d0 q r HI.out (by omega) (by omega) c1
            have HK := Aside0.mk HJ
            have HB := inv_break y1 y0 u1 d0 (q - 1) (r + y1) HK.out (by omega) (by omega)
            have HB' := Aside0.mk HB
            clear HJ HB
            obtain ⟨p, hp⟩ : ∃ p, q - 1 = p := ⟨_, rfl⟩
            rw [hp] at HK HB'
            obtain ⟨r1, hr1⟩ : ∃ r1, r + y1 = r1 := ⟨_, rfl⟩
            rw [hr1] at HK HB'
            have b1 := wrap_pred q p (by omega) hq
            have b2 := wrap_add r y1 r1 hr1 (by omega)
            have hpq : p < q := by omega
            rw [hPP, hRR, hRR2] at c1
            by_cases c3 : 4294967296 ≤ q
            · have t1 : decide (4294967296 ≤ (q : Int)) = true := by simp; omega
              clear c1
              by_cases c2 : 4294967296 ≤ r1
              · have t2 : decide (4294967296 ≤ (r1 : Int)) = true := by simp; omega
                have HBB := Aside0.mk (HB'.out c2)
                clear HB' HK HI hRR hRR2 hPP hr1 hP hq hu64 hq0 c3 c2 hr hp hpq
                go_wp2
                go_meet
                case rel => exact ⟨p, r1, rfl, rfl, HBB, rfl⟩
              · have t2 : decide (4294967296 ≤ (r1 : Int)) = false := by simp; omega
                have HQ := Aside0.mk hpq
                have HQ2 := Aside0.mk hq
                have HR2 := Aside0.mk c2
                clear HB' HI hRR hRR2 hPP hr1 hP hq hu64 hq0 c3 c2 hr hp hpq
                go_wp2
                go_round
                case rel =>
                  have := HQ2.out
                  have := HQ.out
                  have := HR2.out
                  exact ⟨p, r1, rfl, rfl, by omega, by omega, HK⟩
                case measure =>
                  have := HQ.out
                  simp [intOf]; omega
            · have t1 : decide (4294967296 ≤ (q : Int)) = false := by simp; omega
              have t3 : decide (R2 < P) = true := by simp; omega
              have b3 := wrap_mul q y0 P hPP (hP (by omega))
              clear c1
              by_cases c2 : 4294967296 ≤ r1
              · have t2 : decide (4294967296 ≤ (r1 : Int)) = true := by simp; omega
                have HBB := Aside0.mk (HB'.out c2)
                clear HB' HK HI hRR hRR2 hPP hr1 hP hq hu64 hq0 c3 c2 hr hp hpq
                go_wp2
                go_meet
                case rel => exact ⟨p, r1, rfl, rfl, HBB, rfl⟩
              · have t2 : decide (4294967296 ≤ (r1 : Int)) = false := by simp; omega
                have HQ := Aside0.mk hpq
                have HQ2 := Aside0.mk hq
                have HR2 := Aside0.mk c2
                clear HB' HI hRR hRR2 hPP hr1 hP hq hu64 hq0 c3 c2 hr hp hpq
                go_wp2
                go_round
                case rel =>
                  have := HQ2.out
                  have := HQ.out
                  have := HR2.out
                  exact ⟨p, r1, rfl, rfl, by omega, by omega, HK⟩
                case measure =>
                  have := HQ.out
                  simp [intOf]; omega
          · have t1 : decide (4294967296 ≤ (q : Int)) = false := by simp; omega
            have HB := Aside0.mk (inv_exit y1 y0 u1 d0 q r HI.out (by omega))
            rw [hPP, hRR, hRR2] at c1
            have t3 : decide (R2 < P) = false := by simp; omega
            have b3 := wrap_mul q y0 P hPP (hP (by omega))
            clear HI hRR hRR2 hPP hP hq hu64 c1 hr
            go_wp2
            go_meet
            case rel => exact ⟨q, r, rfl, rfl, HB, rfl⟩
      case rest =>
        obtain ⟨q0, r, rfl, rfl, E0, rfl⟩ := hcut
        clear HU
        clear HS HR HL HI hq64 hu64 HQ0
        go_wp2
        go_ret2
        obtain ⟨z1, z2⟩ := div_end HF.out HX.out E0.out hh hl
        exact ⟨ret_pair z1 z2, Drawn0.refl _⟩

set_option maxRecDepth 100000 in
set_option maxHeartbeats 4000000 in
theorem div_zero_calls (lo y : Nat) (w : World) (hy : y < 18446744073709551616) (hl : lo < 18446744073709551616) (h0 : 0 < y) :
    Calls Try.prog 88 #[.int .u64 0, .int .u64 lo, .int .u64 y] w fun e w' => e = .returned (.tuple #[.int .u64 (lo / y : Nat), .int .u64 (lo % y : Nat)]) ∧ Drawn0 w w' := by
  have e1 : ((y : Int) == 0) = false := by simp; omega
  have e2 : decide ((y : Int) ≤ 0) = false := by simp; omega
  have g1 : (y : Int) ≠ 0 := by omega
  have g2 : (0 : Int) < (y : Int) := by omega
  go_enter Try.func88, Try.ntmps88
  go_wp2
  go_quiet (fail)
  go_wp2
  go_ret2
  exact ⟨ret_pair (start_q lo y hl) (by simp), by repeat (first | exact Drawn0.refl _ | apply Drawn0.step)⟩

/-- The number hi, lo divided by y, hi below y: whatever they are. -/
theorem div64 (hi lo y : Nat) (w : World) (hy : y < 18446744073709551616) (hl : lo < 18446744073709551616) (hh : hi < y) :
    Calls Try.prog 88 #[.int .u64 hi, .int .u64 lo, .int .u64 y] w fun e w' => e = .returned (.tuple #[.int .u64 ((hi * 18446744073709551616 + lo) / y : Nat), .int .u64 ((hi * 18446744073709551616 + lo) % y : Nat)]) ∧ Drawn0 w w' := by
  rcases Nat.eq_zero_or_pos hi with h | h
  · subst h
    simp only [Nat.zero_mul, Nat.zero_add]
    exact div_zero_calls lo y w hy hl hh
  · exact div_calls hi lo y w hy hl h hh
end Go.Proofs.Ytdlhmabjgbiagaa.Sky
