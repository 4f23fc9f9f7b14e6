/-
  The walk of ephemerislaw03.OctetBack: it returns true and writes nothing that was there; for every argument.
-/
import Derived.Test.YtdlhmabjgbiagaaOctI
namespace Go.Proofs.Ytdlhmabjgbiagaa.Oct
open Go.RowKit Go.Shelf Go.Proofs.Ytdlhmabjgbiagaa.Blk Go.Proofs.YtdlhmabjgbiagaaW.PrintWords Go.Proofs.YtdlhmabjgbiagaaW.PrintLast Go.Proofs.YtdlhmabjgbiagaaW.PrintMore Go.Proofs.Ytdlhmabjgbiagaa.POctetRows
open Go.Proofs.Ytdlhmabjgbiagaa.POctetOrder (S116 k116 rd_T116 z116 ephemerislaw03_cells.f ephemerislaw03_cells.l0 ephemerislaw03_cells.calls)
attribute [local go_sem] min2_int min_two
set_option linter.unusedVariables false
set_option linter.unusedSimpArgs false

theorem C_take {k : IntKind} {w : World} {A : Option Addr} {n : Nat} {l : List Int} (h : Kd.C (Kd.int k) w A n l) (m : Nat) (hm : m ≤ n) : Kd.C (Kd.int k) w A m (l.take m) := by
  obtain ⟨h1, h2, h3⟩ := h
  refine ⟨by simp; omega, by omega, fun h0 => ?_⟩
  obtain ⟨x, e, hx⟩ := h3 (by omega)
  refine ⟨x, e, fun j p hj => hx j p ?_⟩
  have hjl : j < m := by
    have := (List.getElem?_eq_some_iff.1 hj).1
    simp at this
    omega
  rwa [List.getElem?_take_of_lt hjl] at hj
theorem wpList_of_step {P : Program} {ops : Array Oper} {Q : Exit → Act → World → Prop} {a : Act} {W : World} {rest : List Oper} {o : Oper}
    (h : if Region.wanted o (yielded ops a.tmps) = true then Oper.wp P o a W (wpList P ops Q rest) Q else wpList P ops Q rest (a.put o.dst undef) W) : wpList P ops Q (o :: rest) a W := by
  unfold wpList
  split
  · rename_i hw
    rw [if_pos hw] at h
    exact Or.inl h
  · rename_i hw
    rwa [if_neg hw] at h
theorem width_good {ss aa : List Int} (h : Good ss aa) (A : Option Addr) (c : Nat) (w : World) (hr : Kd.C (Kd.int .i64) w A ss.length ss) (hc : ss.length ≤ c) :
    Calls Try.prog 17 #[.slice A ss.length c] w fun e w' => e = .returned (.tuple #[.int .i64 (offs ss ss.length : Nat), .int .i64 0]) ∧ Drawn0 w w' := by
  have h2 := width_ok A c ss w hr hc h.bad
  rwa [(sumW_offs ss h.sizes (by have := h.2.1; omega) ss.length (Nat.le_refl _)).1] at h2

theorem back_range (ss lb : List Int) (hok : ∀ s ∈ ss, 1 ≤ s ∧ s ≤ 8) (hwf : ∀ x ∈ lb, 0 ≤ x ∧ x ≤ 255) (hm : offs ss ss.length ≤ lb.length) : ∀ x ∈ (List.range ss.length).map (fun j : Nat => numL (partOf ss lb j)), 0 ≤ x ∧ x < 18446744073709551616 := by
  intro x hx
  obtain ⟨j, hj, rfl⟩ := List.mem_map.1 hx
  have hj := List.mem_range.1 hj
  have hp := partOf_length ss lb j hj hok hm
  have hn := numL_bound (partOf ss lb j) (fun d hd => hwf d (mem_part hd))
  have hz := hok _ (rd_mem ss j hj)
  have h8 : (partOf ss lb j).length ≤ 8 := by rw [hp.1]; omega
  have h := Nat.pow_le_pow_right (n := 256) (by decide) h8
  have h' : ((256 ^ (partOf ss lb j).length : Nat) : Int) ≤ ((256 ^ 8 : Nat) : Int) := Int.ofNat_le.2 h
  rw [Int.natCast_pow, Int.natCast_pow] at h'
  have h3 : (256 : Int) ^ 8 = 18446744073709551616 := by decide
  exact ⟨hn.1, by rw [← h3]; exact Int.lt_of_lt_of_le hn.2 h'⟩
theorem back_facts (ss lb : List Int) (hok : ∀ s ∈ ss, 1 ≤ s ∧ s ≤ 8) (hb : ss.any badB = false) (hwf : ∀ x ∈ lb, 0 ≤ x ∧ x ≤ 255) (hm : offs ss ss.length ≤ lb.length) :
    ∃ Y P R, takeP ss lb = (Y, R, 0) ∧ layP ss Y = (P, 0) ∧ Y.length = ss.length ∧ P ++ R = lb ∧ ∀ x ∈ Y, 0 ≤ x ∧ x < 18446744073709551616 := by
  refine ⟨_, _, _, ?_, lay_take ss lb hb hwf hm, by simp, List.take_append_drop _ _, back_range ss lb hok hwf hm⟩
  unfold takeP
  rw [if_neg (by rw [hb]; decide), if_neg (by omega)]

set_option maxRecDepth 100000 in
set_option maxHeartbeats 4000000 in
theorem octetBack_walk (a0 : Option Addr) (c0 : Nat) (l : List S116) (a1 : Option Addr) (n1 c1 : Nat) (lb : List Int) (ct : Int) (w : World)
    (hr : Kd.C k116 w a0 l.length l) (hc : l.length ≤ c0) (hwf : ∀ x ∈ l, (0 ≤ x.f0 ∧ x.f0 ≤ 255) ∧ 0 ≤ x.f1 ∧ x.f1 < 18446744073709551616)
    (hm1 : lb.length = min n1 300) (hn1 : n1 ≤ c1) (hc1 : c1 ≤ maxLen) (hb : Kd.C (Kd.int .u8) w a1 lb.length lb) (hwb : ∀ x ∈ lb, 0 ≤ x ∧ x ≤ 255) (hct : 0 ≤ ct ∧ ct ≤ 255) :
    Calls Try.prog 6 #[.slice a0 l.length c0, .slice a1 n1 c1, .int .u8 ct] w fun e w' => e = .returned (.bool true) ∧ Below w.heap.size w w' := by
  unfold maxLen at hc1
  obtain ⟨ss, aa, hf, hg⟩ := cells_good l hwf
  have w1 : IntKind.i64.wrap ct = ct := by rw [IntKind.wrap_i64]; omega
  obtain ⟨m, hm⟩ : ∃ m : Nat, min n1 ct.toNat = m := ⟨_, rfl⟩
  have e0 : (if ct < (n1 : Int) then ct else (n1 : Int)) = (m : Int) := by split <;> omega
  have e1 : (if (300 : Int) < (n1 : Int) then (300 : Int) else (n1 : Int)) = (lb.length : Int) := by split <;> omega
  have i0 : (m : Int) ≤ (c1 : Int) := by omega
  have i1 : (lb.length : Int) ≤ (c1 : Int) := by omega
  have q0 : m ≤ lb.length := by omega
  obtain ⟨L, hL⟩ : ∃ L, lb.take m = L := ⟨_, rfl⟩
  have hll : m = L.length := by rw [← hL, List.length_take]; omega
  have hCL := C_take hb m q0
  rw [hL] at hCL
  have hwL : ∀ x ∈ L, 0 ≤ x ∧ x ≤ 255 := by rw [← hL]; exact fun x hx => hwb x (List.mem_of_mem_take hx)
  clear hm hL
  subst hll
  obtain ⟨X, hX⟩ : ∃ X, layK ss aa ss.length = X := ⟨_, rfl⟩
  have hXl : offs ss ss.length = X.length := by rw [← hX, layK_length ss aa ss.length (Nat.le_refl _) hg.sizes]
  have hXr : ∀ x ∈ X, 0 ≤ x ∧ x ≤ 255 := by rw [← hX]; exact layK_range _ _ _
  have hlay := hg.lay
  have htake := take_lay hg L
  have hat := fun (j : Nat) (hj : j < ss.length) => at_lay hg j hj
  rw [hX] at hlay htake
  simp only [hX] at hat
  have hxm : X.length ≤ 240 := by
    have := (sumW_offs ss hg.sizes (by have := hg.2.1; omega) ss.length (Nat.le_refl _)).2
    have := hg.2.1
    omega
  have q1 : L.length ≤ c1 := by omega
  have q2 : lb.length ≤ 300 := by omega
  have HF := Aside0.mk hf
  have HR := Aside0.mk hr
  have HG := Aside0.mk hg
  have HB := Aside0.mk hb
  have HCL := Aside0.mk hCL
  have HWL := Aside0.mk hwL
  have HWB := Aside0.mk hwb
  have HXL := Aside0.mk hXl
  have HXR := Aside0.mk hXr
  have HLAY := Aside0.mk hlay
  have HTAKE := Aside0.mk htake
  have HAT := Aside0.mk hat
  clear hf hr hwf hg hm1 hb hwb hwL hCL hX hXl hXr hlay htake hat
  go_enter Try.func6, Try.ntmps6
  go_wp2_with fail
  refine (ephemerislaw03_cells.calls 40 a0 c0 l ss aa _ HR.out hc HF.out).mono ?_
  rintro e W1 ⟨v1, v2, rfl, hR1, hR2, hB1⟩
  obtain ⟨A1, k1, rfl, hk1, _, hC1⟩ := R_use hR1
  obtain ⟨A2, k2, rfl, hk2, _, hC2⟩ := R_use hR2
  have HC1 := Aside0.mk hC1
  have HC2 := Aside0.mk hC2
  have B1 := Aside0.mk (below_chain (w := w) (by repeat (first | exact Below.refl _ _ | apply below_alloc | apply pw_below_drewN)) hB1)
  clear hR1 hR2 hB1 hC1 hC2
  go_wp2_with fail
  have h := lay_calls A1 k1 ss A2 k2 aa W1 HC1.out hk1 (by have := HG.out.2.1; omega) HC2.out hk2 HG.out.wf
  rw [HLAY.out] at h
  dsimp only at h
  refine h.mono ?_
  clear h
  rintro e W2 ⟨v3, rfl, hR3, hB2⟩
  obtain ⟨A3, k3, rfl, hk3, hk3m, hC3⟩ := R_use hR3
  have HC3 := Aside0.mk hC3
  have B2 := Aside0.mk hB2
  clear hR3 hB2 hC3
  go_wp2_with fail
  have h := width_good HG.out A1 k1 W2 (Kd.C_below HC1.out B2.out) hk1
  rw [HXL.out] at h
  refine h.mono ?_
  clear h
  rintro e w' ⟨rfl, ⟨d1, rfl⟩⟩
  go_wp2_with fail
  refine (clone33 A3 k3 X _ (Kd.C_below HC3.out (pw_below_drewN (Below.refl _ _) _)) (by omega)).mono ?_
  rintro e W3 ⟨v4, rfl, hR4, hB3⟩
  have HR4 := Aside0.mk hR4
  have B3 := Aside0.mk (below_chain (w := W2) (by repeat (first | exact Below.refl _ _ | apply below_alloc | apply pw_below_drewN)) hB3)
  clear hR4 hB3
  have Z0 := Aside0.mk (Kd.C_below HCL.out (below_chain B1.out (below_chain B2.out B3.out)))
  go_wp2_with (at_builtin; refine Kd.R_append_rows (Kd.int .u8) (w0 := W2) W2.heap.size rfl (.tmp 68) (.tmp 69) 24 5 (.int .u8 0) 1 rfl Try.underlying24 info5 rfl (by decide) (by omega) v4 X L _ _ _ (fun _ => True) (fun _ => False) rfl rfl ?aO ?aR (fun _ _ h => h) (fun _ h => h.elim) (fun _ _ => trivial) ?aB ?aS ?aL ?_; (case aO => exact HR4.out); (case aR => exact Z0.out); (case aB => exact B3.out); (case aS => exact B3.out.size); (case aL => omega); intro v5 W4 ho hb hg hat; have HO := Aside0.mk ho; have B4 := Aside0.mk hb; clear ho hb hg hat)
  obtain ⟨Z, hZ⟩ : ∃ Z, X ++ L = Z := ⟨_, rfl⟩
  have hzl : Z.length ≤ 1000 := by rw [← hZ, List.length_append]; omega
  have hzr : ∀ x ∈ Z, 0 ≤ x ∧ x ≤ 255 := by
    rw [← hZ]
    intro x hx
    rcases List.mem_append.1 hx with hx | hx
    · exact HXR.out x hx
    · exact HWL.out x hx
  rw [hZ] at HO HTAKE
  clear hZ
  obtain ⟨A5, k5, rfl, hk5, hk5m, hC5⟩ := R_use HO.out
  have HC5 := Aside0.mk hC5
  have HZR := Aside0.mk hzr
  clear HO hC5 hzr
  go_wp2_with fail
  have h := take_calls A1 k1 ss A5 k5 Z W4 (Kd.C_below HC1.out (below_chain B2.out B4.out)) hk1 (by have := HG.out.2.1; omega) HC5.out hk5 ⟨hk5m, by omega⟩ HZR.out
  rw [HTAKE.out] at h
  dsimp only at h
  refine h.mono ?_
  clear h
  rintro e W5 ⟨v6, v7, rfl, hR6, hR7, hB5⟩
  obtain ⟨A6, k6, rfl, hk6, _, hC6⟩ := R_use hR6
  obtain ⟨A7, k7, rfl, hk7, _, hC7⟩ := R_use hR7
  have HC6 := Aside0.mk hC6
  have HC7 := Aside0.mk hC7
  have B5 := Aside0.mk hB5
  have HA := Aside0.mk HG.out.1
  have hal : aa.length ≤ 30 := by rw [← HA.out]; exact HG.out.2.1
  clear hR6 hR7 hB5 hC6 hC7
  go_wp2_with fail
  refine (slices_Equal_uint64_uint64.calls (aa.length + 1) A6 k6 aa A2 k2 aa true _ HC6.out hk6 (Kd.C_below HC2.out (below_chain (below_chain B2.out B4.out) B5.out)) hk2 (by rw [u64s_eq _ _ (by omega)]; simp)).mono ?_
  rintro e w' ⟨rfl, ⟨d2, rfl⟩⟩
  go_wp2_with fail
  refine (bytes_Equal.calls A7 k7 L a1 c1 L true _ (Kd.C_below HC7.out (pw_below_drewN (Below.refl _ _) _)) hk7 (Kd.C_below HCL.out (pw_below_drewN (below_chain B1.out (below_chain (below_chain B2.out B4.out) B5.out)) _)) q1 (by rw [bytes_eq _ _ HWL.out HWL.out]; simp)).mono ?_
  rintro e w' ⟨rfl, ⟨d3, rfl⟩⟩
  have B6 := Aside0.mk (below_chain (below_chain B4.out B5.out) (pw_below_drewN (Below.refl _ _) (d2 + d3)))
  go_wp2
  go_loopw [17, 91] (fun v17 v91 wr => ∃ k : Nat, v91 = .int .i64 (k : Int) ∧ v17 = .int .i64 ((offs ss k : Nat) : Int) ∧ k ≤ ss.length ∧ Aside0 (Below W2.heap.size W2 wr)) (fun v17 v91 _ => ss.length - (intOf v91).toNat)
  case atStart => exact ⟨0, rfl, by rw [offs_zero]; rfl, Nat.zero_le _, B6⟩
  case round =>
    obtain ⟨k, rfl, rfl, hk, hD⟩ := hrel
    by_cases hlt : k < ss.length
    · have hD1 := below_chain B2.out hD.out
      obtain ⟨ad, rfl, hc1⟩ := Kd.at_int (Kd.C_below HC1.out hD1) (k : Int) (by omega) (by omega)
      have hal2 : k < aa.length := by have := HA.out; omega
      obtain ⟨ad2, rfl, _⟩ := Kd.at_int HC2.out (k : Int) (by omega) (by omega)
      have hq := (HG.out.2.2 k hlt).1
      have hat := HAT.out k hlt
      have ho1 := offs_succ ss k hlt (by omega)
      have ho2 := offs_mono ss (k + 1) ss.length (by omega) (fun s hs => (HG.out.sizes s hs).1)
      rw [HXL.out] at ho2
      obtain ⟨z, hz⟩ : ∃ z, rd ss k = z := ⟨_, rfl⟩
      obtain ⟨x, hx⟩ : ∃ z, rd aa k = z := ⟨_, rfl⟩
      obtain ⟨o0, ho0⟩ : ∃ z, offs ss k = z := ⟨_, rfl⟩
      obtain ⟨o1, ho01⟩ : ∃ z, offs ss (k + 1) = z := ⟨_, rfl⟩
      rw [hz, hx, ho0] at hat
      rw [ho0, ho01, hz] at ho1
      rw [ho01] at ho2
      rw [hz] at hq
      rw [Int.toNat_natCast, hz] at hc1
      rw [ho0]
      have HO1 := Aside0.mk ho01
      clear ho01
      have ho3 : (o0 : Int) + z ≤ 240 := by omega
      have hal3 : (k : Int) < (aa.length : Int) := by omega
      go_wp2_with fail
      have h := at_calls A3 k3 X (o0 : Int) z wr (Kd.C_below HC3.out hD.out) hk3 ⟨hk3m, by omega⟩ HXR.out
      rw [hat] at h
      dsimp only at h
      refine h.mono ?_
      clear h
      rintro e W7 ⟨rfl, hB7⟩
      have B7 := Aside0.mk (below_chain hD.out hB7)
      obtain ⟨ad3, e, hc2⟩ := Kd.at_int (Kd.C_below HC2.out (below_chain B2.out B7.out)) (k : Int) (by omega) (by omega)
      obtain rfl := Option.some.inj e
      rw [Int.toNat_natCast, hx] at hc2
      clear hB7 hc1
      go_wp2
      go_roundw
      case rel => exact ⟨k + 1, by go_num, by rw [HO1.out, ho1], hlt, B7⟩
      case measure => simp [intOf]; omega
    · obtain rfl : k = ss.length := by omega
      go_upto_if 118 with (fail)
      go_cut [] (fun wc => Aside0 (Below W2.heap.size W2 wc))
      case first =>
        by_cases hx0 : X.length = 0
        · go_wp2
          go_meet
          case rel => exact hD
        · have hxp : (0 : Int) < (X.length : Int) := by omega
          obtain ⟨q, hq, hql⟩ : ∃ q : Nat, ct.tmod (X.length : Int) = (q : Int) ∧ q < X.length := by
            have h3 := Int.emod_nonneg ct (show (X.length : Int) ≠ 0 by omega)
            have h4 := Int.emod_lt_of_pos ct (show (0 : Int) < X.length by omega)
            exact ⟨(ct % X.length).toNat, by rw [Int.tmod_eq_emod_of_nonneg hct.1]; omega, by omega⟩
          have hq2 : ct % (X.length : Int) = (q : Int) := by rw [← Int.tmod_eq_emod_of_nonneg hct.1]; exact hq
          have hqk : (q : Int) ≤ (k3 : Int) := by omega
          have hxt := C_take (Kd.C_below HC3.out hD.out) q (by omega)
          obtain ⟨T, hT⟩ : ∃ T, X.take q = T := ⟨_, rfl⟩
          have hTl : q = T.length := by rw [← hT, List.length_take]; omega
          have hTw : ∀ x ∈ T, 0 ≤ x ∧ x ≤ 255 := by rw [← hT]; exact fun x hx => HXR.out x (List.mem_of_mem_take hx)
          have hTk : takeP ss T = ([], [], 4) := by
            unfold takeP
            rw [if_neg (by rw [HG.out.bad]; decide), if_pos (by rw [HXL.out, ← hTl]; exact hql)]
          rw [hT] at hxt
          clear hT
          subst hTl
          have HXT := Aside0.mk hxt
          have HTW := Aside0.mk hTw
          have HTK := Aside0.mk hTk
          clear hxt hTw hTk
          go_wp2_with fail
          have h := take_calls A1 k1 ss A3 k3 T wr (Kd.C_below HC1.out (below_chain B2.out hD.out)) hk1 (by have := HG.out.2.1; omega) HXT.out (by omega) ⟨hk3m, by omega⟩ HTW.out
          rw [HTK.out] at h
          dsimp only at h
          refine h.mono ?_
          clear h
          rintro e W8 ⟨v8, v9, rfl, _, _, hB8⟩
          have B8 := Aside0.mk (below_chain hD.out hB8)
          clear hB8
          go_wp2
          go_meet
          case rel => exact B8
      case rest =>
        have hC := below_chain B2.out hcut.out
        have HCC := Aside0.mk (below_chain B1.out hC)
        have HC1' := Aside0.mk (Kd.C_below HC1.out hC)
        have HB' := Aside0.mk (Kd.C_below HB.out HCC.out)
        have q3 : lb.length ≤ c1 := by omega
        clear hD hC B6 Z0 B5 B4 HTAKE HAT
        go_wp2_with fail
        clear e0 e1 i0 i1
        by_cases hsh : lb.length < X.length
        · have htk : takeP ss lb = ([], [], 4) := by
            unfold takeP
            rw [if_neg (by rw [HG.out.bad]; decide), if_pos (by rw [HXL.out]; exact hsh)]
          have HTK := Aside0.mk htk
          clear htk
          have hsh' : (lb.length : Int) < (X.length : Int) := by omega
          have h := take_calls A1 k1 ss a1 c1 lb wc HC1'.out hk1 (by have := HG.out.2.1; omega) HB'.out q3 ⟨hc1, by omega⟩ HWB.out
          rw [HTK.out] at h
          dsimp only at h
          refine h.mono ?_
          clear h
          rintro e W8 ⟨v8, v9, rfl, _, _, hB8⟩
          have B8 := Aside0.mk (below_chain HCC.out hB8)
          clear hB8
          go_wp2_with fail
          refine (awake_calls W8).mono ?_
          rintro e W9 ⟨rfl, hB9⟩
          have B9 := Aside0.mk (below_chain B8.out hB9)
          clear hB9
          go_wp2
          go_ret
          exact ⟨rfl, B9.out⟩
        · obtain ⟨Y, P, R, htk, hlt, hYl, hPR, hYw⟩ := back_facts ss lb HG.out.sizes HG.out.bad HWB.out (by rw [HXL.out]; omega)
          have HLT := Aside0.mk hlt
          have HTK := Aside0.mk htk
          have HYL := Aside0.mk hYl
          have HYW := Aside0.mk hYw
          have HPR := Aside0.mk hPR
          have hpr : P.length + R.length ≤ 300 := by rw [← List.length_append, hPR]; omega
          clear hlt htk hYl hYw hPR
          have h := take_calls A1 k1 ss a1 c1 lb wc HC1'.out hk1 (by have := HG.out.2.1; omega) HB'.out q3 ⟨hc1, by omega⟩ HWB.out
          rw [HTK.out] at h
          dsimp only at h
          refine h.mono ?_
          clear h
          rintro e W8 ⟨v8, v9, rfl, hR8, hR9, hB8⟩
          obtain ⟨A8, k8, rfl, hk8, _, hC8⟩ := R_use hR8
          obtain ⟨A9, k9, rfl, hk9, _, hC9⟩ := R_use hR9
          have HC8 := Aside0.mk hC8
          have HC9 := Aside0.mk hC9
          have B8 := Aside0.mk hB8
          clear hB8 hR8 hR9 hC8 hC9
          go_wp2_with fail
          have h := lay_calls A1 k1 ss A8 k8 Y W8 (Kd.C_below HC1'.out B8.out) hk1 (by have := HG.out.2.1; omega) HC8.out hk8 HYW.out
          rw [HLT.out] at h
          dsimp only at h
          refine h.mono ?_
          clear h
          rintro e W9 ⟨v10, rfl, hR10, hB9⟩
          have HR10 := Aside0.mk hR10
          have B9 := Aside0.mk hB9
          clear hR10 hB9
          go_wp2_with fail
          refine (awake_calls W9).mono ?_
          rintro e W10 ⟨rfl, hB10⟩
          have B10 := Aside0.mk hB10
          clear hB10
          have Z1 := Aside0.mk (Kd.C_below HC9.out (below_chain B9.out B10.out))
          have Z2 := Aside0.mk (Kd.R_below HR10.out B10.out)
          have Z3 := Aside0.mk (below_chain B9.out B10.out)
          go_wp2_with (at_builtin; refine wpList_of_step (Kd.R_append_rows_step (Kd.int .u8) (w0 := W8) W8.heap.size (by rfl) (.tmp 170) (.tmp 171) 24 5 (.int .u8 0) 1 rfl Try.underlying24 info5 rfl (by decide) (by omega) v10 P R _ _ _ (fun _ => True) (fun _ => False) rfl rfl ?aO ?aR (fun _ _ h => h) (fun _ h => h.elim) (fun _ _ => trivial) ?aB ?aS ?aL ?_); (case aO => exact Z2.out); (case aR => exact Z1.out); (case aB => exact Z3.out); (case aS => exact Z3.out.size); (case aL => omega); intro v11 W11 ho hb hg hat; have HO := Aside0.mk ho; have B11 := Aside0.mk hb; clear ho hb hg hat)
          rw [HPR.out] at HO
          obtain ⟨A11, k11, rfl, hk11, _, hC11⟩ := R_use HO.out
          have hW11 := below_chain HCC.out (below_chain B8.out B11.out)
          have HW11 := Aside0.mk hW11
          refine (bytes_Equal.calls A11 k11 lb a1 c1 lb true _ hC11 hk11 (Kd.C_below HB.out hW11) q3 (by rw [bytes_eq _ _ HWB.out HWB.out]; simp)).mono ?_
          clear hC11 hW11 HO
          rintro e w' ⟨rfl, ⟨d6, rfl⟩⟩
          go_wp2
          go_ret
          exact ⟨rfl, below_chain HW11.out (pw_below_drewN (Below.refl _ _) _)⟩
end Go.Proofs.Ytdlhmabjgbiagaa.Oct
