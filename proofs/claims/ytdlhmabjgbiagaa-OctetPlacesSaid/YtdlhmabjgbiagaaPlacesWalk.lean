/-
  The walk of ephemerislaw03.OctetPlaces: it returns true and writes nothing that was there; for every argument.
-/
import Derived.Test.YtdlhmabjgbiagaaOctF
import Derived.Test.YtdlhmabjgbiagaaRowsWalk
namespace Go.Proofs.Ytdlhmabjgbiagaa.Oct
open Go.RowKit Go.Shelf Go.Proofs.Ytdlhmabjgbiagaa.Blk Go.Proofs.YtdlhmabjgbiagaaW.PrintWords Go.Proofs.YtdlhmabjgbiagaaW.PrintLast Go.Proofs.YtdlhmabjgbiagaaW.PrintMore Go.Proofs.Ytdlhmabjgbiagaa.POctetRows
attribute [local go_sem] min2_int min_two
set_option linter.unusedVariables false
set_option linter.unusedSimpArgs false

theorem putL_range (l : List Int) (at_ size n : Int) (hwf : ∀ x ∈ l, 0 ≤ x ∧ x ≤ 255) : ∀ d ∈ (putL l at_ size n).1, 0 ≤ d ∧ d ≤ 255 := by
  unfold putL
  split
  · simp
  · split
    · simp
    · split
      · simp
      · intro d hd
        simp only [putB, List.mem_append] at hd
        rcases hd with (hd | hd) | hd
        · exact hwf d (List.mem_of_mem_take hd)
        · exact digL_range _ _ d hd
        · exact hwf d (List.mem_of_mem_drop hd)

set_option maxRecDepth 100000 in
set_option maxHeartbeats 4000000 in
theorem octetPlaces_walk (a0 : Option Addr) (n0 c0 : Nat) (at_ size n : Int) (lb : List Int) (w : World)
    (hm0 : lb.length = min n0 600) (hn0 : n0 ≤ c0) (hc0 : c0 ≤ maxLen) (hn : 0 ≤ n ∧ n < 18446744073709551616)
    (hb : Kd.C (Kd.int .u8) w a0 lb.length lb) (hwb : ∀ x ∈ lb, 0 ≤ x ∧ x ≤ 255) :
    Calls Try.prog 4 #[.slice a0 n0 c0, .agg #[.int .i64 at_, .int .i64 size], .int .u64 n] w fun e w' => e = .returned (.bool true) ∧ Below w.heap.size w w' := by
  unfold maxLen at hc0
  have e0 : (if (600 : Int) < (n0 : Int) then (600 : Int) else (n0 : Int)) = (lb.length : Int) := by split <;> omega
  have i0 : (lb.length : Int) ≤ (c0 : Int) := by omega
  have q0 : lb.length ≤ c0 := by omega
  have j0 : lb.length ≤ 600 := by omega
  have HB := Aside0.mk hb
  have HWB := Aside0.mk hwb
  have HN := Aside0.mk hn
  obtain ⟨x, ex, hx⟩ : ∃ x ex, putL lb at_ size n = (x, ex) := ⟨_, _, rfl⟩
  obtain ⟨tv, tb, ht⟩ : ∃ a b, atL lb at_ size = (a, b) := ⟨_, _, rfl⟩
  obtain ⟨sv, se, hsg⟩ : ∃ a b, signedP n size = (a, b) := ⟨_, _, rfl⟩
  obtain ⟨s, hs⟩ : ∃ s, IntKind.i64.wrap n = s := ⟨_, rfl⟩
  have hsb : -9223372036854775808 ≤ s ∧ s < 9223372036854775808 := by rw [← hs, IntKind.wrap_i64]; omega
  obtain ⟨uv, ue, hus⟩ : ∃ a b, unsignedP s size = (a, b) := ⟨_, _, rfl⟩
  have hxr := putL_range lb at_ size n hwb
  rw [hx] at hxr
  have HX := Aside0.mk hx
  have HT := Aside0.mk ht
  have HSG := Aside0.mk hsg
  have HUS := Aside0.mk hus
  have HSB := Aside0.mk hsb
  have HXR := Aside0.mk hxr
  clear hb hwb hm0 hx ht hsg hus hsb hxr hn
  go_enter Try.func4, Try.ntmps4
  go_wp2
  go_quiet (fail)
  go_wp2_with fail
  refine (ephemerisref03_Own.calls a0 c0 lb _ _ (Kd.C_below HB.out (by repeat (first | exact Below.refl _ _ | apply below_alloc | apply pw_below_drewN))) q0 (own_f lb (by omega))).mono ?_
  rintro e W1 ⟨v1, rfl, hR1, hB1⟩
  obtain ⟨A1, k1, rfl, hk1, hk1m, hC1⟩ := R_use hR1
  have HC1 := Aside0.mk hC1
  have B1 := Aside0.mk (below_chain (w := w) (by repeat (first | exact Below.refl _ _ | apply below_alloc | apply pw_below_drewN)) hB1)
  clear hR1 hB1 hC1 e0 i0
  go_wp2_with fail
  have h := at_calls A1 k1 lb at_ size W1 HC1.out hk1 ⟨hk1m, by omega⟩ HWB.out
  rw [HT.out] at h
  dsimp only at h
  refine h.mono ?_
  clear h
  rintro e W2 ⟨rfl, hB2⟩
  have B2 := Aside0.mk hB2
  clear hB2
  go_wp2_with fail
  have hf := at_f lb at_ size (by omega) HWB.out 50 (by omega)
  rw [HT.out] at hf
  refine (POctetPlaces.ephemerisref03_At.calls 50 a0 c0 lb at_ size _ _ W2 (Kd.C_below HB.out (below_chain B1.out B2.out)) q0 hf).mono ?_
  clear hf
  rintro e w' ⟨rfl, ⟨d1, rfl⟩⟩
  go_wp2_with fail
  have h := put_calls A1 k1 lb at_ size n (W2.drewN d1) HN.out.1 HN.out.2 (Kd.C_below HC1.out (below_chain B2.out (pw_below_drewN (Below.refl _ _) _))) hk1 ⟨hk1m, by omega⟩
  rw [HX.out] at h
  dsimp only at h
  refine h.mono ?_
  clear h
  rintro e W3 ⟨v2, rfl, hR2, hB3⟩
  obtain ⟨A2, k2, rfl, hk2, hk2m, hC2⟩ := R_use hR2
  have HC2 := Aside0.mk hC2
  have HR2 := Aside0.mk hR2
  have B3 := Aside0.mk (below_chain (w := W2) (by repeat (first | exact Below.refl _ _ | apply below_alloc | apply pw_below_drewN)) hB3)
  clear hR2 hC2 hB3
  go_wp2_with fail
  have hf := put_f lb at_ size n (by omega) HWB.out HN.out.1 HN.out.2 50 (by omega)
  rw [HX.out] at hf
  refine (POctetPlaces.ephemerisref03_Put.calls 50 a0 c0 lb at_ size n _ _ W3 (Kd.C_below HB.out (below_chain (below_chain B1.out B2.out) B3.out)) q0 hf).mono ?_
  clear hf
  rintro e W4 ⟨v3, rfl, hR3, hB4⟩
  obtain ⟨A3, k3, rfl, hk3, _, hC3⟩ := R_use hR3
  have HC3 := Aside0.mk hC3
  have B4 := Aside0.mk hB4
  clear hR3 hC3 hB4
  go_wp2_with fail
  have hf := signed_f n size HN.out.1 HN.out.2
  rw [HSG.out] at hf
  refine (octet_Signed.calls n size _ _ _ hf).mono ?_
  clear hf
  rintro e w' ⟨rfl, ⟨d2, rfl⟩⟩
  go_wp2_with fail
  have hf := signed_ref n size HN.out.1 HN.out.2 60 (by omega)
  rw [HSG.out] at hf
  refine (POctetPlaces.ephemerisref03_Signed.calls 60 n size _ _ _ hf).mono ?_
  clear hf
  rintro e W5 ⟨rfl, hB5⟩
  have B5 := Aside0.mk (below_chain (w := W4) (by repeat (first | exact Below.refl _ _ | apply below_alloc | apply pw_below_drewN)) hB5)
  clear hB5
  go_wp2_with fail
  have hf := unsigned_f s size HSB.out.1 HSB.out.2
  rw [HUS.out] at hf
  refine (octet_Unsigned.calls s size _ _ _ hf).mono ?_
  clear hf
  rintro e w' ⟨rfl, ⟨d3, rfl⟩⟩
  go_wp2_with fail
  have hf := unsigned_ref s size HSB.out.1 HSB.out.2 60 (by omega)
  rw [HUS.out] at hf
  refine (POctetPlaces.ephemerisref03_Unsigned.calls 60 s size _ _ _ hf).mono ?_
  clear hf
  rintro e W6 ⟨rfl, hB6⟩
  have B6 := Aside0.mk (below_chain (w := W5) (by repeat (first | exact Below.refl _ _ | apply below_alloc | apply pw_below_drewN)) hB6)
  clear hB6
  have K2 := Aside0.mk (Kd.C_below HC2.out (below_chain (below_chain B4.out B5.out) B6.out))
  have K3 := Aside0.mk (Kd.C_below HC3.out (below_chain B5.out B6.out))
  go_wp2_with fail
  refine (bytes_Equal.calls A2 k2 x A3 k3 x true _ K2.out hk2 K3.out hk3 (by rw [bytes_eq _ _ HXR.out HXR.out]; simp)).mono ?_
  rintro e w' ⟨rfl, ⟨d, rfl⟩⟩
  have hR2' : (Kd.int .u8).R 5 W3 W2.heap.size (fun _ => True) (.slice A2 x.length k2) x := HR2.out
  have R0 := Aside0.mk (Kd.R_below hR2' (below_chain (below_chain (below_chain B4.out B5.out) B6.out) (pw_below_drewN (Below.refl _ _) d)))
  have D0 := Aside0.mk (below_chain (below_chain (below_chain (below_chain B3.out B4.out) B5.out) B6.out) (pw_below_drewN (Below.refl _ _) d))
  clear hR2'
  go_wp2
  go_loopw [135] (fun v wr => ∃ (k : Nat) (ys : List Int), v = .int .i64 (k : Int) ∧ k ≤ x.length ∧ Aside0 (ys.length = x.length) ∧ Aside0 ((Kd.int .u8).R 5 wr W2.heap.size (fun _ => True) (.slice A2 x.length k2) ys) ∧ Aside0 (Below W2.heap.size W2 wr)) (fun v _ => x.length - (intOf v).toNat)
  case atStart => exact ⟨0, x, rfl, Nat.zero_le _, ⟨rfl⟩, R0, D0⟩
  case round =>
    obtain ⟨k, ys, rfl, hk, hyl, hR, hD⟩ := hrel
    by_cases hlt : k < x.length
    · obtain ⟨g, cap, cs, e, hg, hblk, hyc, hcm, hcl, htk⟩ := R_blk hR.out (by rw [hyl.out]; omega)
      obtain ⟨rfl, _, rfl⟩ := Value.slice.inj e
      have hcell := hblk.cell (j := k) (v := .int .u8 (rd ys k)) (row_get htk k (by rw [hyl.out]; exact hlt))
      have hfr := hblk.frozen k
      have hset := row_set htk k (Go.bits .xor .u8 (rd ys k) 255)
      have hR' := R_of_blk2 (wr.setCell ⟨g, k, none⟩ (.int .u8 (Go.bits .xor .u8 (rd ys k) 255))) g W2.heap.size .u8 5 (ys.set k (Go.bits .xor .u8 (rd ys k) 255)) _ k2 (hblk.set k _) hg (by simpa using hyc) hcm (by simpa using hcl) (by simpa using hset)
      rw [List.length_set, hyl.out] at hR'
      have HN' := Aside0.mk hR'
      have hD' := hD.out.setCell (p := ⟨g, k, none⟩) hg (.int .u8 (Go.bits .xor .u8 (rd ys k) 255))
      have HD' := Aside0.mk hD'
      clear hblk hyc hcl htk hset hR' hD' e hcm
      have hk2' := hk2m
      go_wp2
      go_roundw
      case rel => exact ⟨k + 1, _, by go_num, hlt, ⟨by rw [List.length_set]; exact hyl.out⟩, HN', HD'⟩
      case measure => simp [intOf]; omega
    · obtain rfl : k = x.length := by omega
      have hO := below_chain B2.out hD.out
      have HO := Aside0.mk hO
      clear hR hyl hO R0 D0
      go_wp2_with fail
      refine (awake_calls wr).mono ?_
      rintro e W7 ⟨rfl, hB7⟩
      have B7 := Aside0.mk hB7
      clear hB7
      go_wp2_with fail
      refine (bytes_Equal.calls A1 k1 lb a0 c0 lb true _ (Kd.C_below HC1.out (below_chain HO.out B7.out)) hk1 (Kd.C_below HB.out (below_chain (below_chain B1.out HO.out) B7.out)) q0 (by rw [bytes_eq _ _ HWB.out HWB.out]; simp)).mono ?_
      rintro e w' ⟨rfl, ⟨d6, rfl⟩⟩
      go_wp2
      go_ret
      exact ⟨rfl, below_chain (below_chain (below_chain B1.out HO.out) B7.out) (pw_below_drewN (Below.refl _ _) _)⟩
end Go.Proofs.Ytdlhmabjgbiagaa.Oct
