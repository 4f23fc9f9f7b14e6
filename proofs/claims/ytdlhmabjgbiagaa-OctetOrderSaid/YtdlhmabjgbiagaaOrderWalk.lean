/-
  The walk of ephemerislaw03.OctetOrder: it returns true and writes nothing that was there; for every argument.
-/
import Derived.Test.YtdlhmabjgbiagaaOctI
import Derived.Deep.RegionHeld3
namespace Go.Proofs.Ytdlhmabjgbiagaa.Oct
open Go.RowKit Go.Shelf Go.Proofs.Ytdlhmabjgbiagaa.Blk Go.Proofs.YtdlhmabjgbiagaaW.PrintWords Go.Proofs.YtdlhmabjgbiagaaW.PrintLast Go.Proofs.YtdlhmabjgbiagaaW.PrintMore Go.Proofs.Ytdlhmabjgbiagaa.POctetRows
open Go.Proofs.Ytdlhmabjgbiagaa.POctetOrder (S116 k116 rd_T116 z116 ephemerislaw03_cells.f ephemerislaw03_cells.l0 ephemerislaw03_cells.calls)
attribute [local go_sem] min2_int min_two
set_option linter.unusedVariables false
set_option linter.unusedSimpArgs false

set_option maxRecDepth 100000 in
set_option maxHeartbeats 4000000 in
theorem octetOrder_walk (a0 : Option Addr) (c0 : Nat) (l : List S116) (n1 n2 : Int) (w : World)
    (hr : Kd.C k116 w a0 l.length l) (hc : l.length ≤ c0) (hwf : ∀ x ∈ l, (0 ≤ x.f0 ∧ x.f0 ≤ 255) ∧ 0 ≤ x.f1 ∧ x.f1 < 18446744073709551616) (h1 : 0 ≤ n1 ∧ n1 ≤ 255) (h2 : 0 ≤ n2 ∧ n2 < 18446744073709551616) :
    Calls Try.prog 5 #[.slice a0 l.length c0, .int .u8 n1, .int .u64 n2] w fun e w' => e = .returned (.bool true) ∧ Below w.heap.size w w' := by
  obtain ⟨ss, aa, hf, hg⟩ := cells_good l hwf
  have HF := Aside0.mk hf
  have HR := Aside0.mk hr
  have HG := Aside0.mk hg
  have hsl := hg.1
  have hs30 := hg.2.1
  have w1 : IntKind.i64.wrap n1 = n1 := by rw [IntKind.wrap_i64]; omega
  have H2 := Aside0.mk h2
  clear hf hr hwf hg h2
  go_enter Try.func5, Try.ntmps5
  go_wp2_with fail
  refine (ephemerislaw03_cells.calls 40 a0 c0 l ss aa _ HR.out hc HF.out).mono ?_
  rintro e W1 ⟨v1, v2, rfl, hR1, hR2, hB1⟩
  obtain ⟨A1, k1, rfl, hk1, _, hC1⟩ := R_use hR1
  obtain ⟨A2, k2, rfl, hk2, _, hC2⟩ := R_use hR2
  have HC1 := Aside0.mk hC1
  have HC2 := Aside0.mk hC2
  have B1 := Aside0.mk hB1
  clear hR1 hR2 hB1 hC1 hC2
  by_cases hz : aa.length = 0
  · go_wp2_with fail
    refine (awake_calls _).mono ?_
    rintro e w' ⟨rfl, hB⟩
    have B2 := Aside0.mk hB
    clear hB
    go_wp2
    go_ret
    exact ⟨rfl, below_chain B1.out B2.out⟩
  · obtain ⟨k, hk, hkl⟩ : ∃ k : Nat, n1.tmod (aa.length : Int) = (k : Int) ∧ k < aa.length := by
      have h3 := Int.emod_nonneg n1 (show (aa.length : Int) ≠ 0 by omega)
      have h4 := Int.emod_lt_of_pos n1 (show (0 : Int) < aa.length by omega)
      exact ⟨(n1 % aa.length).toNat, by rw [Int.tmod_eq_emod_of_nonneg h1.1]; omega, by omega⟩
    have hg := HG.out.2.2 k (by omega)
    obtain ⟨z, hzz⟩ : ∃ z, rd ss k = z := ⟨_, rfl⟩
    obtain ⟨ak, hak⟩ : ∃ z, rd aa k = z := ⟨_, rfl⟩
    rw [hzz, hak] at hg
    obtain ⟨hg1, hg2⟩ := hg
    have HG2 := Aside0.mk hg2
    clear hg2
    have hnn := cut_fits n2 z H2.out.1 H2.out.2 hg1
    obtain ⟨m, hmm⟩ : ∃ m : Int, n2 / 2 ^ (64 - 8 * z).toNat = m := ⟨_, rfl⟩
    rw [hmm] at hnn
    have hgs := HG.out.set k m (by omega) hnn.1 (by rw [hzz]; exact hnn.2)
    have ho := lay_order HG.out k m (by omega) hnn.1 (by rw [hzz]; exact hnn.2) ss.length (Nat.le_refl _)
    rw [if_neg (by omega), hak] at ho
    have HGS := Aside0.mk hgs
    have HO := Aside0.mk ho
    have HNN := Aside0.mk hnn
    clear hgs ho hnn
    go_wp2_with fail
    refine (clone31 A2 k2 aa _ HC2.out (by omega)).mono ?_
    rintro e W2 ⟨v3, rfl, hR3, hB2⟩
    have B2 := Aside0.mk hB2
    obtain ⟨g, cap, cs, rfl, hgb, hblk, hyc, hcm, hcl, htk⟩ := R_blk hR3 (by omega)
    have hcell := hblk.cell (j := k) (v := .int .u64 (rd aa k)) (row_get2 htk k hkl)
    have hfr := hblk.frozen k
    obtain ⟨ad, rfl, hc1⟩ := Kd.at_int (Kd.C_below HC1.out hB2) (k : Int) (by omega) (by omega)
    obtain ⟨ad2, rfl, _⟩ := Kd.at_int HC2.out (k : Int) (by omega) (by omega)
    rw [hzz, Int.toNat_natCast] at hc1
    rw [hak] at hcell
    have HBK := Aside0.mk (hblk.set k (.int .u64 m))
    have hset := row_set2 htk k m
    have hR' := R_of_blk2 (W2.setCell ⟨g, k, none⟩ (.int .u64 m)) g W1.heap.size .u64 40 (aa.set k m) _ cap HBK.out hgb (by simpa using hyc) hcm (by simpa using hcl) (by simpa using hset)
    obtain ⟨_, _, e, hk3, _, hC3⟩ := R_use hR'
    obtain ⟨rfl, _, rfl⟩ := Value.slice.inj e
    have HC3 := Aside0.mk hC3
    have B3 := Aside0.mk (hB2.setCell (p := ⟨g, k, none⟩) hgb (.int .u64 m))
    have hml : ((cs.set k (.int .u64 m))[k]? = some (.int .u64 m)) := by
      rw [List.getElem?_set_self (by omega)]
    have HML := Aside0.mk hml
    clear hR3 hB2 hset hR' hC3 e htk hml
    go_wp2_with fail
    obtain ⟨X, hX⟩ : ∃ X, layK ss aa ss.length = X := ⟨_, rfl⟩
    obtain ⟨Y, hY⟩ : ∃ X, layK ss (aa.set k m) ss.length = X := ⟨_, rfl⟩
    rw [hX, hY] at HO
    have h := lay_calls (some ad) k1 ss (some ad2) k2 aa _ (Kd.C_below HC1.out B3.out) hk1 (by omega) (Kd.C_below HC2.out B3.out) hk2 HG.out.wf
    rw [HG.out.lay, hX, hsl] at h
    dsimp only at h
    refine h.mono ?_
    clear h
    rintro e W4 ⟨v4, rfl, hR4, hB4⟩
    obtain ⟨A4, k4, rfl, hk4, _, hC4⟩ := R_use hR4
    have HC4 := Aside0.mk hC4
    have B4 := Aside0.mk hB4
    clear hR4 hC4 hB4
    go_wp2_with fail
    have h := lay_calls (some ad) k1 ss (some ⟨g, 0, none⟩) cap (aa.set k m) W4 (Kd.C_below HC1.out (below_chain B3.out B4.out)) hk1 (by omega) (Kd.C_below HC3.out B4.out) hk3 HGS.out.wf
    rw [HGS.out.lay, hY, hsl, List.length_set] at h
    dsimp only at h
    refine h.mono ?_
    clear h
    rintro e W5 ⟨v5, rfl, hR5, hB5⟩
    obtain ⟨A5, k5, rfl, hk5, _, hC5⟩ := R_use hR5
    have HC5 := Aside0.mk hC5
    have B5 := Aside0.mk hB5
    clear hR5 hC5 hB5
    go_wp2_with fail
    refine (compare_calls A4 k4 X A5 k5 Y W5 (Kd.C_below HC4.out B5.out) HC5.out).mono ?_
    rintro e w' ⟨rfl, rfl⟩
    have KA : ∀ w1 w2 : World, Below w'.heap.size w' w1 → Below w1.heap.size w1 w2 → w2.cell? (ad2.add k) = some (.int .u64 ak) ∧ w2.cell? ⟨g, k, none⟩ = some (.int .u64 m) ∧ Below w.heap.size w w2 := by
      intro w1 w2 hb1 hb2
      have hb := below_chain hb1 hb2
      have hb3 := below_chain (below_chain (below_chain B3.out B4.out) B5.out) hb
      obtain ⟨ad', e', hc'⟩ := Kd.at_int (Kd.C_below HC2.out hb3) (k : Int) (by omega) (by omega)
      obtain rfl := Option.some.inj e'
      rw [hak, Int.toNat_natCast] at hc'
      have hb4 := below_chain (below_chain B4.out B5.out) hb
      exact ⟨hc', (HBK.out.below hb4 HBK.out.lt).cell HML.out, below_chain B1.out hb3⟩
    have KA := Aside0.mk KA
    have hcase : (decide (ak < m) = true ∧ decide (ak = m) = false ∧ cmpI X Y = -1) ∨ (decide (ak < m) = false ∧ decide (ak = m) = true ∧ cmpI X Y = 0) ∨ (decide (ak < m) = false ∧ decide (ak = m) = false ∧ cmpI X Y = 1) := by
      rw [HO.out]
      unfold ordI
      rcases Int.lt_trichotomy ak m with h | h | h
      · left; simp [h]; omega
      · right; left; simp [h]
      · right; right; rw [if_neg (by omega), if_pos h]; simp; omega
    obtain ⟨q, hq⟩ : ∃ q, cmpI X Y = q := ⟨_, rfl⟩
    rw [hq] at hcase ⊢
    clear hq HO hX hY
    rcases hcase with ⟨hd1, hd2, rfl⟩ | ⟨hd1, hd2, rfl⟩ | ⟨hd1, hd2, rfl⟩
    all_goals
      have j1 := (KA.out _ _ (Below.refl _ _) (Below.refl _ _)).1
      have j2 := (KA.out _ _ (Below.refl _ _) (Below.refl _ _)).2.1
      go_wp2
      go_region_held3 (fun w' => w'.cell? (ad2.add k) = some (.int .u64 ak) ∧ w'.cell? ⟨g, k, none⟩ = some (.int .u64 m)) (go_keep) (first | (go_at_call 21; refine (awake_calls _).mono ?_; rintro e w2 ⟨rfl, hb⟩; have c2 := KA.out _ w2 (by repeat (first | exact Below.refl _ _ | apply pw_below_drewN | apply below_drew)) hb; obtain ⟨c2, c3, hbz⟩ := c2))
      all_goals
        go_wp2
        go_ret
        refine ⟨?_, below_chain hbz (by repeat (first | exact Below.refl _ _ | apply below_alloc | apply pw_below_drewN | apply below_drew))⟩
        simp only [decide_eq_true_eq, decide_eq_false_iff_not] at hd2
        simp [hd2]
end Go.Proofs.Ytdlhmabjgbiagaa.Oct
