/-
  The walk of ephemerislaw03.OctetRows: it returns true and writes nothing that was there; for every argument.
-/
import Derived.Test.YtdlhmabjgbiagaaOctE
namespace Go.Proofs.Ytdlhmabjgbiagaa.Oct
open Go.RowKit Go.Shelf Go.Proofs.Ytdlhmabjgbiagaa.Blk Go.Proofs.YtdlhmabjgbiagaaW.PrintWords Go.Proofs.YtdlhmabjgbiagaaW.PrintLast Go.Proofs.YtdlhmabjgbiagaaW.PrintMore Go.Proofs.Ytdlhmabjgbiagaa.POctetRows
attribute [local go_sem] min2_int min_two
set_option linter.unusedVariables false
set_option linter.unusedSimpArgs false

theorem layP_range (sizes l : List Int) : ∀ d ∈ (layP sizes l).1, 0 ≤ d ∧ d ≤ 255 := by
  unfold layP
  split
  · simp
  · split
    · exact layK_range _ _ _
    · simp
theorem takeP_range (sizes lb : List Int) (hwf : ∀ x ∈ lb, 0 ≤ x ∧ x ≤ 255) : ∀ d ∈ (takeP sizes lb).2.1, 0 ≤ d ∧ d ≤ 255 := by
  unfold takeP
  split
  · simp
  · split
    · simp
    · exact fun d hd => hwf d (List.mem_of_mem_drop hd)
theorem takeP_length (sizes lb : List Int) : (takeP sizes lb).1.length ≤ sizes.length := by
  unfold takeP
  split
  · simp
  · split
    · simp
    · simp
/-- What Width tells, and what the document says. -/
def wid1 (l : List Int) : Int := if l.any badB = true then 0 else offs l l.length
def wid2 (l : List Int) : Int := if l.any badB = true then 1 else 0
theorem width_calls (A : Option Addr) (c : Nat) (l : List Int) (w : World) (hr : Kd.C (Kd.int .i64) w A l.length l) (hc : l.length ≤ c) (hl : l.length ≤ 1000000000) :
    Calls Try.prog 17 #[.slice A l.length c] w fun e w' => e = .returned (.tuple #[.int .i64 (wid1 l), .int .i64 (wid2 l)]) ∧ Drawn0 w w' := by
  unfold wid1 wid2
  cases hb : l.any badB with
  | true => exact width_bad A c l w hr hc hb
  | false =>
    rw [if_neg (by simp), if_neg (by simp)]
    have h := width_ok A c l w hr hc hb
    rwa [(sumW_offs l (good_of l hb) (by omega) l.length (Nat.le_refl _)).1] at h
theorem wid_cases (l : List Int) : (wid1 l = 0 ∧ wid2 l = 1 ∧ widR l = -1) ∨ ∃ n : Nat, wid1 l = n ∧ wid2 l = 0 ∧ widR l = n := by
  unfold wid1 wid2 widR
  cases hb : l.any badB with
  | true => exact .inl ⟨rfl, rfl, rfl⟩
  | false => exact .inr ⟨_, rfl, rfl, rfl⟩
theorem row_get {k : IntKind} {cs : List Value} {ys : List Int} (h : cs.take ys.length = ys.map (Value.int k)) (i : Nat) (hi : i < ys.length) : cs[i]? = some (.int k (rd ys i)) := by
  have := congrArg (fun l => l[i]?) h
  simp only [List.getElem?_take_of_lt hi, List.getElem?_map] at this
  rw [this]
  unfold rd
  simp [List.getD_eq_getElem?_getD, List.getElem?_eq_getElem hi]
theorem row_set {k : IntKind} {cs : List Value} {ys : List Int} (h : cs.take ys.length = ys.map (Value.int k)) (i : Nat) (x : Int) : (cs.set i (.int k x)).take ys.length = (ys.set i x).map (Value.int k) := by
  rw [List.take_set, h, List.map_set]
theorem R_range_len {k : IntKind} {w : World} {base e : Nat} {ok : Nat → Prop} {v : Value} {xs : List Int} (h : (Kd.int k).R e w base ok v xs) : xs.length ≤ 9223372036854775807 := by
  obtain ⟨_, c, _, h1, h2, _⟩ := R_use h
  omega

set_option maxRecDepth 100000 in
set_option maxHeartbeats 4000000 in
theorem octetRows_walk (a0 : Option Addr) (n0 c0 : Nat) (a1 : Option Addr) (n1 c1 : Nat) (a2 : Option Addr) (n2 c2 : Nat) (sizes l lb : List Int) (w : World)
    (hm0 : sizes.length = min n0 60) (hm1 : l.length = min n1 60) (hm2 : lb.length = min n2 600) (hn0 : n0 ≤ c0) (hn1 : n1 ≤ c1) (hn2 : n2 ≤ c2) (hc0 : c0 ≤ maxLen) (hc1 : c1 ≤ maxLen) (hc2 : c2 ≤ maxLen)
    (hs : Kd.C (Kd.int .i64) w a0 sizes.length sizes) (hl : Kd.C (Kd.int .u64) w a1 l.length l) (hb : Kd.C (Kd.int .u8) w a2 lb.length lb) (hwl : ∀ x ∈ l, 0 ≤ x ∧ x < 18446744073709551616) (hwb : ∀ x ∈ lb, 0 ≤ x ∧ x ≤ 255) :
    Calls Try.prog 3 #[.slice a0 n0 c0, .slice a1 n1 c1, .slice a2 n2 c2] w fun e w' => e = .returned (.bool true) ∧ Below w.heap.size w w' := by
  unfold maxLen at hc0 hc1 hc2
  have e0 : (if (60 : Int) < (n0 : Int) then (60 : Int) else (n0 : Int)) = (sizes.length : Int) := by split <;> omega
  have e1 : (if (60 : Int) < (n1 : Int) then (60 : Int) else (n1 : Int)) = (l.length : Int) := by split <;> omega
  have e2 : (if (600 : Int) < (n2 : Int) then (600 : Int) else (n2 : Int)) = (lb.length : Int) := by split <;> omega
  have i0 : (sizes.length : Int) ≤ (c0 : Int) := by omega
  have i1 : (l.length : Int) ≤ (c1 : Int) := by omega
  have i2 : (lb.length : Int) ≤ (c2 : Int) := by omega
  have q0 : sizes.length ≤ c0 := by omega
  have q1 : l.length ≤ c1 := by omega
  have q2 : lb.length ≤ c2 := by omega
  have j0 : sizes.length ≤ 60 := by omega
  have j1 : l.length ≤ 60 := by omega
  have j2 : lb.length ≤ 600 := by omega
  have HS := Aside0.mk hs
  have HL := Aside0.mk hl
  have HB := Aside0.mk hb
  have HWL := Aside0.mk hwl
  have HWB := Aside0.mk hwb
  obtain ⟨x, ex, hx⟩ : ∃ x ex, layP sizes l = (x, ex) := ⟨_, _, rfl⟩
  obtain ⟨tm, tr, te, ht⟩ : ∃ a b c, takeP sizes lb = (a, b, c) := ⟨_, _, _, rfl⟩
  have hxr := layP_range sizes l
  have htr := takeP_range sizes lb hwb
  have htl := takeP_length sizes lb
  rw [hx] at hxr
  rw [ht] at htr htl
  have HX := Aside0.mk hx
  have HT := Aside0.mk ht
  have HXR := Aside0.mk hxr
  have HTR := Aside0.mk htr
  have HTL := Aside0.mk htl
  clear hs hl hb hwl hwb hm0 hm1 hm2 hx ht hxr htr htl
  go_enter Try.func3, Try.ntmps3
  go_wp2
  go_quiet (fail)
  clear e0 e1 e2 i0 i1 i2
  go_wp2_with fail
  refine (ephemerisref03_Own.calls a2 c2 lb _ _ (Kd.C_below HB.out (pw_below_drewN (Below.refl _ _) _)) (by omega) (own_f lb (by omega))).mono ?_
  rintro e W1 ⟨v1, rfl, hR1, hB1⟩
  obtain ⟨A1, k1, rfl, hk1, hk1m, hC1⟩ := R_use hR1
  have HC1 := Aside0.mk hC1
  have B1 := Aside0.mk (below_chain (w := w) (by repeat (first | exact Below.refl _ _ | apply below_alloc | apply pw_below_drewN)) hB1)
  clear hR1 hB1 hC1
  go_wp2_with fail
  have h := lay_calls a0 c0 sizes a1 c1 l W1 (Kd.C_below HS.out B1.out) (by omega) (by omega) (Kd.C_below HL.out B1.out) (by omega) HWL.out
  rw [HX.out] at h
  dsimp only at h
  refine h.mono ?_
  clear h
  rintro e W2 ⟨v2, rfl, hR2, hB2⟩
  obtain ⟨A2, k2, rfl, hk2, _, hC2⟩ := R_use hR2
  have HC2 := Aside0.mk hC2
  have B2 := Aside0.mk hB2
  clear hR2 hB2 hC2
  go_wp2_with fail
  have hBw := below_chain B1.out B2.out
  have hf := lay_f sizes l (by omega) HWL.out (sizes.length + 30) (by omega)
  rw [HX.out] at hf
  refine (ephemerisref03_Lay.calls (sizes.length + 30) a0 c0 sizes a1 c1 l _ _ W2 (Kd.C_below HS.out hBw) (by omega) (Kd.C_below HL.out hBw) (by omega) hf).mono ?_
  clear hBw hf
  rintro e W3 ⟨v3, rfl, hR3, hB3⟩
  obtain ⟨A3, k3, rfl, hk3, _, hC3⟩ := R_use hR3
  have HC3 := Aside0.mk hC3
  have B3 := Aside0.mk hB3
  clear hR3 hB3 hC3
  go_wp2_with fail
  have hB13 := below_chain B2.out B3.out
  have h := take_calls a0 c0 sizes A1 k1 lb W3 (Kd.C_below HS.out (below_chain B1.out hB13)) (by omega) (by omega) (Kd.C_below HC1.out hB13) hk1 ⟨hk1m, by omega⟩ HWB.out
  rw [HT.out] at h
  dsimp only at h
  refine h.mono ?_
  clear h hB13
  rintro e W4 ⟨v4, v5, rfl, hR4, hR5, hB4⟩
  obtain ⟨A4, k4, rfl, hk4, _, hC4⟩ := R_use hR4
  obtain ⟨A5, k5, rfl, hk5, hk5m, hC5⟩ := R_use hR5
  have HC4 := Aside0.mk hC4
  have HR5 := Aside0.mk hR5
  have HC5 := Aside0.mk hC5
  have B4 := Aside0.mk hB4
  clear hR4 hR5 hB4 hC4 hC5
  go_wp2_with fail
  have hB14 := below_chain (below_chain B2.out B3.out) B4.out
  have hf := take_f sizes lb (by omega) (by omega) HWB.out (sizes.length + 30) (by omega)
  rw [HT.out] at hf
  refine (ephemerisref03_Take.calls (sizes.length + 30) a0 c0 sizes a2 c2 lb _ _ _ W4 (Kd.C_below HS.out (below_chain B1.out hB14)) (by omega) (Kd.C_below HB.out (below_chain B1.out hB14)) (by omega) hf).mono ?_
  clear hB14 hf
  rintro e W5 ⟨v6, v7, rfl, hR6, hR7, hB5⟩
  obtain ⟨A6, k6, rfl, hk6, _, hC6⟩ := R_use hR6
  obtain ⟨A7, k7, rfl, hk7, _, hC7⟩ := R_use hR7
  have HC6 := Aside0.mk hC6
  have HC7 := Aside0.mk hC7
  have B5 := Aside0.mk hB5
  clear hR6 hR7 hB5 hC6 hC7
  go_wp2_with fail
  have hB15 := below_chain (below_chain (below_chain (below_chain B1.out B2.out) B3.out) B4.out) B5.out
  refine (width_calls a0 c0 sizes W5 (Kd.C_below HS.out hB15) q0 (by omega)).mono ?_
  rintro e w' ⟨rfl, ⟨d1, rfl⟩⟩
  go_wp2_with fail
  refine (ephemerisref03_Width.calls (sizes.length + 30) a0 c0 sizes _ _ (Kd.C_below HS.out (pw_below_drewN hB15 _)) q0 (width_f sizes (by omega) _ (by omega))).mono ?_
  clear hB15
  rintro e w' ⟨rfl, ⟨d2, rfl⟩⟩
  obtain ⟨g1, hg1⟩ : ∃ g, wid1 sizes = g := ⟨_, rfl⟩
  obtain ⟨g2, hg2⟩ : ∃ g, wid2 sizes = g := ⟨_, rfl⟩
  obtain ⟨g3, hg3⟩ : ∃ g, widR sizes = g := ⟨_, rfl⟩
  have hgc := wid_cases sizes
  rw [hg1, hg2, hg3] at hgc ⊢
  have HG := Aside0.mk hgc
  clear hg1 hg2 hg3 hgc
  go_upto_region 9 with (fail)
  go_cut [21] (fun v wc => ∃ d, v = .bool true ∧ wc = W5.drewN d)
  case first =>
    have K2 := Aside0.mk (Kd.C_below HC2.out (below_chain (below_chain B3.out B4.out) B5.out))
    have K3 := Aside0.mk (Kd.C_below HC3.out (below_chain B4.out B5.out))
    have K4 := Aside0.mk (Kd.C_below HC4.out B5.out)
    have K5 := Aside0.mk (Kd.C_below HC5.out B5.out)
    rcases HG.out with ⟨rfl, rfl, rfl⟩ | ⟨n, rfl, rfl, rfl⟩
    · clear HG
      go_wp2_with fail
      refine (bytes_Equal.calls A2 k2 x A3 k3 x true _ (Kd.C_below K2.out (pw_below_drewN (Below.refl _ _) _)) hk2 (Kd.C_below K3.out (pw_below_drewN (Below.refl _ _) _)) hk3 (by rw [bytes_eq _ _ HXR.out HXR.out]; simp)).mono ?_
      rintro e w' ⟨rfl, ⟨d3, rfl⟩⟩
      go_wp2_with fail
      refine (slices_Equal_uint64_uint64.calls (tm.length + 1) A4 k4 tm A6 k6 tm true _ (Kd.C_below K4.out (pw_below_drewN (Below.refl _ _) _)) hk4 (Kd.C_below HC6.out (pw_below_drewN (Below.refl _ _) _)) hk6 (by rw [u64s_eq _ _ (by have := HTL.out; omega)]; simp)).mono ?_
      rintro e w' ⟨rfl, ⟨d4, rfl⟩⟩
      go_wp2_with fail
      refine (bytes_Equal.calls A5 k5 tr A7 k7 tr true _ (Kd.C_below K5.out (pw_below_drewN (Below.refl _ _) _)) hk5 (Kd.C_below HC7.out (pw_below_drewN (Below.refl _ _) _)) hk7 (by rw [bytes_eq _ _ HTR.out HTR.out]; simp)).mono ?_
      rintro e w' ⟨rfl, ⟨d5, rfl⟩⟩
      go_wp2
      go_meet
      case rel => exact ⟨_, rfl, rfl⟩
    · clear HG
      have hn1 : decide ((0 : Int) ≤ (n : Int)) = true := by simp
      have hn2 : decide ((n : Int) < 0) = false := decide_eq_false (by omega)
      go_wp2_with fail
      refine (bytes_Equal.calls A2 k2 x A3 k3 x true _ (Kd.C_below K2.out (pw_below_drewN (Below.refl _ _) _)) hk2 (Kd.C_below K3.out (pw_below_drewN (Below.refl _ _) _)) hk3 (by rw [bytes_eq _ _ HXR.out HXR.out]; simp)).mono ?_
      rintro e w' ⟨rfl, ⟨d3, rfl⟩⟩
      go_wp2_with fail
      refine (slices_Equal_uint64_uint64.calls (tm.length + 1) A4 k4 tm A6 k6 tm true _ (Kd.C_below K4.out (pw_below_drewN (Below.refl _ _) _)) hk4 (Kd.C_below HC6.out (pw_below_drewN (Below.refl _ _) _)) hk6 (by rw [u64s_eq _ _ (by have := HTL.out; omega)]; simp)).mono ?_
      rintro e w' ⟨rfl, ⟨d4, rfl⟩⟩
      go_wp2_with fail
      refine (bytes_Equal.calls A5 k5 tr A7 k7 tr true _ (Kd.C_below K5.out (pw_below_drewN (Below.refl _ _) _)) hk5 (Kd.C_below HC7.out (pw_below_drewN (Below.refl _ _) _)) hk7 (by rw [bytes_eq _ _ HTR.out HTR.out]; simp)).mono ?_
      rintro e w' ⟨rfl, ⟨d5, rfl⟩⟩
      go_wp2
      go_meet
      case rel => exact ⟨_, rfl, rfl⟩
  case rest =>
    obtain ⟨d, rfl, rfl⟩ := hcut
    have R0 := Aside0.mk (Kd.R_below HR5.out (below_chain B5.out (pw_below_drewN (Below.refl _ _) d)))
    have D0 := Aside0.mk (below_chain (below_chain B4.out B5.out) (pw_below_drewN (Below.refl _ _) d))
    go_wp2
    go_loopw [126] (fun v wr => ∃ (k : Nat) (ys : List Int), v = .int .i64 (k : Int) ∧ k ≤ tr.length ∧ Aside0 (ys.length = tr.length) ∧ Aside0 ((Kd.int .u8).R 5 wr W3.heap.size (fun _ => True) (.slice A5 tr.length k5) ys) ∧ Aside0 (Below W3.heap.size W3 wr)) (fun v _ => tr.length - (intOf v).toNat)
    case atStart => exact ⟨0, tr, rfl, Nat.zero_le _, ⟨rfl⟩, R0, D0⟩
    case round =>
      obtain ⟨k, ys, rfl, hk, hyl, hR, hD⟩ := hrel
      by_cases hlt : k < tr.length
      · obtain ⟨g, cap, cs, e, hg, hblk, hyc, hcm, hcl, htk⟩ := R_blk hR.out (by rw [hyl.out]; omega)
        obtain ⟨rfl, _, rfl⟩ := Value.slice.inj e
        have hcell := hblk.cell (j := k) (v := .int .u8 (rd ys k)) (row_get htk k (by rw [hyl.out]; exact hlt))
        have hfr := hblk.frozen k
        have hset := row_set htk k (Go.bits .xor .u8 (rd ys k) 255)
        have hR' := R_of_blk2 (wr.setCell ⟨g, k, none⟩ (.int .u8 (Go.bits .xor .u8 (rd ys k) 255))) g W3.heap.size .u8 5 (ys.set k (Go.bits .xor .u8 (rd ys k) 255)) _ k5 (hblk.set k _) hg (by simpa using hyc) hcm (by simpa using hcl) (by simpa using hset)
        rw [List.length_set, hyl.out] at hR'
        have HN := Aside0.mk hR'
        have hD' := hD.out.setCell (p := ⟨g, k, none⟩) hg (.int .u8 (Go.bits .xor .u8 (rd ys k) 255))
        have HD' := Aside0.mk hD'
        clear hblk hyc hcl htk hset hR' hD' e hcm
        have hk5 := hk5m
        go_wp2
        go_roundw
        case rel => exact ⟨k + 1, _, by go_num, hlt, ⟨by rw [List.length_set]; exact hyl.out⟩, HN, HD'⟩
        case measure => simp [intOf]; omega
      · obtain rfl : k = tr.length := by omega
        have hO := below_chain (below_chain B2.out B3.out) hD.out
        have HO := Aside0.mk hO
        clear hR hyl hO R0 D0
        go_wp2_with fail
        refine (awake_calls wr).mono ?_
        rintro e W6 ⟨rfl, hB6⟩
        have B6 := Aside0.mk hB6
        clear hB6
        go_wp2_with fail
        refine (bytes_Equal.calls A1 k1 lb a2 c2 lb true _ (Kd.C_below HC1.out (below_chain HO.out B6.out)) hk1 (Kd.C_below HB.out (below_chain (below_chain B1.out HO.out) B6.out)) q2 (by rw [bytes_eq _ _ HWB.out HWB.out]; simp)).mono ?_
        rintro e w' ⟨rfl, ⟨d6, rfl⟩⟩
        go_wp2
        go_ret
        exact ⟨rfl, below_chain (below_chain (below_chain B1.out HO.out) B6.out) (pw_below_drewN (Below.refl _ _) _)⟩
end Go.Proofs.Ytdlhmabjgbiagaa.Oct
