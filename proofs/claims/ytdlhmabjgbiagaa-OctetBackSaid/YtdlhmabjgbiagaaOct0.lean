/-
  Contracts of slices.IndexFunc and slices.ContainsFunc at octet.Width's predicate, and of octet.Width: for every row of sizes; no condition.
-/
import Derived.Test.YtdlhmabjgbiagaaPOctetRowsx
import Derived.Outline
import Derived.Lib.Hide
namespace Go.Proofs.Ytdlhmabjgbiagaa.Oct
open Go.RowKit Go.Proofs.YtdlhmabjgbiagaaW.PrintWords Go.Proofs.YtdlhmabjgbiagaaW.PrintLast Go.Proofs.YtdlhmabjgbiagaaW.PrintMore Go.Proofs.Ytdlhmabjgbiagaa.POctetRows
set_option linter.unusedVariables false
set_option linter.unusedSimpArgs false

/-- A size that is one. -/
def sizedB (s : Int) : Bool := decide (0 < s) && decide (s ≤ 8)
theorem sized_f (s : Int) : octet_sized.f s = some (sizedB s) := by
  unfold octet_sized.f sizedB
  by_cases h : 0 < s <;> simp [h]

def badB (s : Int) : Bool := !sizedB s

theorem width1_calls (s : Int) (w : World) : Calls Try.prog 69 #[.int .i64 s] w fun e w' => e = .returned (.bool (badB s)) ∧ Drawn0 w w' := by
  have A := Aside0.mk (sized_f s)
  go_enter Try.func69, Try.ntmps69
  go_wp2_with (go_at_call 70; refine (octet_sized.calls s (sizedB s) _ A.out).mono ?_; rintro e w' ⟨rfl, ⟨nd, rfl⟩⟩)
  go_ret
  exact ⟨rfl, ⟨nd, rfl⟩⟩

/-- Some of the first k are bad. -/
def anyBad (l : List Int) (k : Nat) : Bool := (l.take k).any badB

def IdxPost (l : List Int) (w : World) (e : Ending) (w' : World) : Prop := ∃ r : Int, e = .returned (.int .i64 r) ∧ decide (0 ≤ r) = l.any badB ∧ Drawn0 w w'

theorem anyBad_snoc (l : List Int) (k : Nat) (h : k < l.length) : anyBad l (k + 1) = (anyBad l k || badB (rd l k)) := by
  unfold anyBad rd
  rw [List.take_succ_eq_append_getElem h, List.any_append]
  simp [List.getD_eq_getElem?_getD, List.getElem?_eq_getElem h]
theorem any_of_hit (l : List Int) (k : Nat) (h : k < l.length) (hb : badB (rd l k) = true) : l.any badB = true := by
  rw [List.any_eq_true]
  refine ⟨rd l k, ?_, hb⟩
  unfold rd
  simp [List.getD_eq_getElem?_getD, List.getElem?_eq_getElem h]
theorem anyBad_all (l : List Int) : anyBad l l.length = l.any badB := by simp [anyBad]

set_option maxHeartbeats 1000000 in
theorem index_calls (A : Option Addr) (c : Nat) (l : List Int) (w : World) (hr : Kd.C (Kd.int .i64) w A l.length l) (hc : l.length ≤ c) :
    Calls Try.prog 107 #[.slice A l.length c, .func (.func 69) #[] #[]] w (IdxPost l w) := by
  have hm : l.length ≤ 9223372036854775807 := hr.2.1
  have HR := Aside0.mk hr
  clear hr
  go_enter Try.func107, Try.ntmps107
  go_wp2
  go_loopw [8] (fun v8 wr => ∃ k : Nat, v8 = .int .i64 (k : Int) ∧ k ≤ l.length ∧ Aside0 (anyBad l k = false) ∧ Drawn0 w wr) (fun v8 _ => l.length - (intOf v8).toNat)
  case atStart => exact ⟨0, rfl, Nat.zero_le _, ⟨by simp [anyBad]⟩, Drawn0.refl _⟩
  case round =>
    obtain ⟨k, rfl, hk, hb, ⟨nd, rfl⟩⟩ := hrel
    by_cases hlt : k < l.length
    · have hs := anyBad_snoc l k hlt
      have HS := Aside0.mk hs
      clear hs
      obtain ⟨ad, rfl, hcell⟩ := Kd.at_int HR.out (k : Int) (by omega) (by omega)
      simp only [Int.toNat_natCast] at hcell
      cases hbad : badB (rd l k) with
      | true =>
        have HB := Aside0.mk hbad
        clear hbad
        go_wp2_with (go_at_call 69; refine (width1_calls (rd l k) _).mono ?_; rw [HB.out]; rintro e w' ⟨rfl, ⟨nd2, rfl⟩⟩)
        go_ret
        exact ⟨k, rfl, by rw [any_of_hit l k hlt HB.out]; simp, by repeat (first | exact Drawn0.refl _ | apply Drawn0.step)⟩
      | false =>
        have HB := Aside0.mk hbad
        clear hbad
        go_wp2_with (go_at_call 69; refine (width1_calls (rd l k) _).mono ?_; rw [HB.out]; rintro e w' ⟨rfl, ⟨nd2, rfl⟩⟩)
        go_roundw
        case rel => exact ⟨k + 1, by go_num, hlt, ⟨by rw [HS.out, hb.out, HB.out]; rfl⟩, by repeat (first | exact Drawn0.refl _ | apply Drawn0.step)⟩
        case measure => simp [intOf]; omega
    · obtain rfl : k = l.length := by omega
      go_wp2
      go_ret
      exact ⟨-1, rfl, by rw [← anyBad_all, hb.out]; rfl, by repeat (first | exact Drawn0.refl _ | apply Drawn0.step)⟩

theorem contains_calls (A : Option Addr) (c : Nat) (l : List Int) (w : World) (hr : Kd.C (Kd.int .i64) w A l.length l) (hc : l.length ≤ c) :
    Calls Try.prog 68 #[.slice A l.length c, .func (.func 69) #[] #[]] w fun e w' => e = .returned (.bool (l.any badB)) ∧ Drawn0 w w' := by
  have HR := Aside0.mk hr
  have HC := Aside0.mk hc
  clear hr hc
  go_enter Try.func68, Try.ntmps68
  go_wp2_with (go_at_call 107; refine (index_calls A c l _ HR.out HC.out).mono ?_; rintro e w' ⟨r, rfl, hr, ⟨nd, rfl⟩⟩)
  go_ret
  exact ⟨by rw [← hr]; rfl, ⟨nd, rfl⟩⟩

/-- The sum, as int adds. -/
def sumW (l : List Int) (k : Nat) : Int := (l.take k).foldl (fun n s => wrap64 (n + s)) 0
theorem sumW_snoc (l : List Int) (k : Nat) (h : k < l.length) : sumW l (k + 1) = wrap64 (sumW l k + rd l k) := by
  unfold sumW rd
  rw [List.take_succ_eq_append_getElem h, List.foldl_append]
  simp [List.getD_eq_getElem?_getD, List.getElem?_eq_getElem h]

set_option maxHeartbeats 1000000 in
theorem width_bad (A : Option Addr) (c : Nat) (l : List Int) (w : World) (hr : Kd.C (Kd.int .i64) w A l.length l) (hc : l.length ≤ c) (hb : l.any badB = true) :
    Calls Try.prog 17 #[.slice A l.length c] w fun e w' => e = .returned (.tuple #[.int .i64 0, .int .i64 1]) ∧ Drawn0 w w' := by
  have HR := Aside0.mk hr
  have HC := Aside0.mk hc
  have HB := Aside0.mk hb
  clear hr hc hb
  go_enter Try.func17, Try.ntmps17
  go_wp2_with (go_at_call 68; refine (contains_calls A c l _ HR.out HC.out).mono ?_; rw [HB.out]; rintro e w' ⟨rfl, ⟨nd, rfl⟩⟩)
  go_ret2
  exact ⟨rfl, ⟨nd, rfl⟩⟩

set_option maxHeartbeats 1000000 in
theorem width_ok (A : Option Addr) (c : Nat) (l : List Int) (w : World) (hr : Kd.C (Kd.int .i64) w A l.length l) (hc : l.length ≤ c) (hb : l.any badB = false) :
    Calls Try.prog 17 #[.slice A l.length c] w fun e w' => e = .returned (.tuple #[.int .i64 (sumW l l.length), .int .i64 0]) ∧ Drawn0 w w' := by
  have hm : l.length ≤ 9223372036854775807 := hr.2.1
  have HR := Aside0.mk hr
  have HC := Aside0.mk hc
  have HB := Aside0.mk hb
  clear hr hc hb
  go_enter Try.func17, Try.ntmps17
  go_wp2_with (go_at_call 68; refine (contains_calls A c l _ HR.out HC.out).mono ?_; rw [HB.out]; rintro e w' ⟨rfl, ⟨nd0, rfl⟩⟩)
  go_loop [4, 11] (fun v4 v11 => ∃ k : Nat, v11 = .int .i64 (k : Int) ∧ k ≤ l.length ∧ v4 = .int .i64 (sumW l k)) (fun _ v11 => l.length - (intOf v11).toNat)
  case atStart => exact ⟨0, rfl, Nat.zero_le _, by simp [sumW]⟩
  case round =>
    obtain ⟨k, rfl, hk, rfl⟩ := hrel
    by_cases hlt : k < l.length
    · have HS := Aside0.mk (sumW_snoc l k hlt)
      obtain ⟨ad, rfl, hcell⟩ := Kd.at_int HR.out (k : Int) (by omega) (by omega)
      simp only [Int.toNat_natCast] at hcell
      go_wp2
      go_round
      case rel => exact ⟨k + 1, by go_num, hlt, by rw [HS.out]⟩
      case measure => simp [intOf]; omega
    · obtain rfl : k = l.length := by omega
      go_wp2
      go_ret2
      exact ⟨rfl, ⟨nd0, rfl⟩⟩
end Go.Proofs.Ytdlhmabjgbiagaa.Oct
