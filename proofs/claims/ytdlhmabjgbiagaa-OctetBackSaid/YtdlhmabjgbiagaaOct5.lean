/-
  Contract of the closure in octet.Lay: one number laid, or refused.
-/
import Derived.Test.YtdlhmabjgbiagaaOct4
namespace Go.Proofs.Ytdlhmabjgbiagaa.Oct
open Go.RowKit Go.Shelf Go.Proofs.Ytdlhmabjgbiagaa.Blk Go.Proofs.YtdlhmabjgbiagaaW.PrintWords Go.Proofs.YtdlhmabjgbiagaaW.PrintLast Go.Proofs.YtdlhmabjgbiagaaW.PrintMore Go.Proofs.Ytdlhmabjgbiagaa.POctetRows
set_option linter.unusedVariables false
set_option linter.unusedSimpArgs false

/-- A number fits so many digits. -/
def fitsB (n : Int) (z : Nat) : Bool := decide (n < 256 ^ z)
theorem fits_f (n : Int) (z : Nat) (h0 : 0 ≤ n) (h1 : n < 18446744073709551616) (hz : z ≤ 8) : octet_fits.f n z = some (fitsB n z) := by
  unfold octet_fits.f fitsB
  by_cases h : (z : Int) = 8
  · rw [if_pos h]
    obtain rfl : z = 8 := by omega
    simp
    omega
  · rw [if_neg h]
    have hw : wrap64 (8 * (z : Int)) = 8 * (z : Int) := by unfold wrap64; omega
    rw [hw, if_pos (by omega)]
    congr 1
    unfold shr
    have e1 : min ((8 * (z : Int)).toNat) IntKind.u64.bits = 8 * z := by
      simp [IntKind.bits]; omega
    rw [e1, Bool.eq_iff_iff]
    have e2 : (2 : Int) ^ (8 * z) = 256 ^ z := by rw [Int.pow_mul]; rfl
    rw [e2]
    have hp : (0 : Int) < 256 ^ z := Int.pow_pos (by omega)
    simp only [beq_iff_eq, decide_eq_true_eq]
    constructor
    · intro h
      by_cases h3 : n < 256 ^ z
      · exact h3
      · have h4 : 1 ≤ n / 256 ^ z := (Int.le_ediv_iff_mul_le hp).2 (by omega)
        omega
    · intro h
      exact Int.ediv_eq_zero_of_lt h0 h

set_option maxRecDepth 100000 in
set_option maxHeartbeats 1000000 in
theorem lay1_no (A : Option Addr) (cl : Nat) (l : List Int) (k z : Nat) (Bl Be : Nat) (ad : Addr) (w : World) (hk : k < l.length) (hz : z ≤ 8)
    (hl : Blk w Bl [.slice A l.length cl] 23) (he : Blk w Be [.int .i64 0] 26) (hr : Kd.C (Kd.int .u64) w A l.length l) (hcl : l.length ≤ cl) (h0 : 0 ≤ rd l k) (h1 : rd l k < 18446744073709551616) (hf : fitsB (rd l k) z = false) :
    Calls Try.prog 60 #[.int .i64 (k : Int), .slice (some ad) z z, .pointer (some ⟨Bl, 0, none⟩), .pointer (some ⟨Be, 0, none⟩)] w fun e w' => e = .returned (.bool false) ∧ Blk w' Be [.int .i64 20] 26 ∧ w.grownBy w' (some Be) := by
  obtain ⟨a2, rfl, hcell⟩ := Kd.at_int hr (k : Int) (by omega) (by omega)
  simp only [Int.toNat_natCast] at hcell
  have hm : l.length ≤ 9223372036854775807 := hr.2.1
  have c1 := hl.cell (j := 0) rfl
  have c2 := he.cell (j := 0) rfl
  have f2 := he.frozen 0
  have HF := Aside0.mk (fits_f (rd l k) z h0 h1 hz)
  have HB := Aside0.mk hf
  clear hf
  go_enter Try.func60, Try.ntmps60
  go_wp2_with (go_at_call 61; refine (octet_fits.calls (rd l k) (z : Int) _ _ HF.out).mono ?_; rw [HB.out]; rintro e w' ⟨rfl, ⟨nd, rfl⟩⟩)
  go_ret
  exact ⟨rfl, (he.drewN nd).set 0 _, grown_set (grown_drewN (World.grownBy.refl _ _) _) (.inr rfl) _⟩

set_option maxRecDepth 100000 in
set_option maxHeartbeats 1000000 in
theorem lay1_yes (A : Option Addr) (cl : Nat) (l : List Int) (k z o : Nat) (Bl Be B : Nat) (cs : List Value) (w : World) (hk : k < l.length) (hz : z ≤ 8)
    (hl : Blk w Bl [.slice A l.length cl] 23) (hr : Kd.C (Kd.int .u64) w A l.length l) (hcl : l.length ≤ cl) (h0 : 0 ≤ rd l k) (h1 : rd l k < 18446744073709551616) (hf : fitsB (rd l k) z = true) (hB : Blk w B cs 5) (ho : o + z ≤ cs.length) :
    Calls Try.prog 60 #[.int .i64 (k : Int), .slice (some ⟨B, o, none⟩) z z, .pointer (some ⟨Bl, 0, none⟩), .pointer (some ⟨Be, 0, none⟩)] w fun e w' => e = .returned (.bool true) ∧ Blk w' B (mixd cs o z (rd l k) (List.finRange z)) 5 ∧ w.grownBy w' (some B) := by
  obtain ⟨a2, rfl, hcell⟩ := Kd.at_int hr (k : Int) (by omega) (by omega)
  simp only [Int.toNat_natCast] at hcell
  have hm : l.length ≤ 9223372036854775807 := hr.2.1
  have c1 := hl.cell (j := 0) rfl
  have HF := Aside0.mk (fits_f (rd l k) z h0 h1 hz)
  have HB := Aside0.mk hf
  clear hf
  go_enter Try.func60, Try.ntmps60
  go_wp2_with (first | (go_at_call 61; refine (octet_fits.calls (rd l k) (z : Int) _ _ HF.out).mono ?_; rw [HB.out]; rintro e w' ⟨rfl, ⟨nd, rfl⟩⟩) | (go_at_call 62; refine (write_calls B o z z (rd l k) cs 5 _ h0 hz ho (hB.drewN nd)).mono ?_; rintro e w' ⟨rfl, hB', hg'⟩))
  go_ret
  exact ⟨rfl, hB', ⟨hg'.os, hg'.tape, hg'.output, hg'.size, hg'.block⟩⟩
end Go.Proofs.Ytdlhmabjgbiagaa.Oct
