/-
  The walk of SkyParts: it comes to true, whatever is asked for.
-/
import Derived.Test.YtdlhmabjgbiagaaSkyL
import Derived.Test.YtdlhmabjgbiagaaSkyP
import Derived.Deep.RegionLaw
namespace Go.Proofs.Ytdlhmabjgbiagaa.Sky
open Go.RowKit Go.Proofs.Ytdlhmabjgbiagaa.Blk Go.Proofs.YtdlhmabjgbiagaaW.PrintWords Go.Proofs.YtdlhmabjgbiagaaW.PrintLast Go.Proofs.YtdlhmabjgbiagaaW.PrintMore
open Go.Proofs.Ytdlhmabjgbiagaa.PSkyGoes
set_option linter.unusedVariables false
set_option linter.unusedSimpArgs false

theorem pick4 (a b c d : Int) (k : Nat) (hk : k < 4) :
    ∃ x : Int, ∀ w, (Instr.index 104 (.agg #[.int .i64 a, .int .i64 b, .int .i64 c, .int .i64 d]) (.int .i64 (k : Int))).run Try.prog w = .ok (.int .i64 x) w := by
  rcases (show k = 0 ∨ k = 1 ∨ k = 2 ∨ k = 3 by omega) with rfl | rfl | rfl | rfl
  · exact ⟨a, fun _ => by kernel_rfl⟩
  · exact ⟨b, fun _ => by kernel_rfl⟩
  · exact ⟨c, fun _ => by kernel_rfl⟩
  · exact ⟨d, fun _ => by kernel_rfl⟩
/-- Every true time lies in a piece. -/
theorem isOff_ex {l : List S96} (v : Vld l) {T : Int} (hT : 0 ≤ T) : ∃ o, IsOff l T o := by
  have key : ∀ n, n < l.length → ∃ k, k ≤ n ∧ fr l k ≤ T ∧ (k < n → T < fr l (k + 1)) := by
    intro n
    induction n with
    | zero => exact fun _ => ⟨0, Nat.le_refl _, by rw [v.zero]; exact hT, fun h => absurd h (by omega)⟩
    | succ n ih =>
      intro hn
      by_cases c : fr l (n + 1) ≤ T
      · exact ⟨n + 1, Nat.le_refl _, c, fun h => absurd h (by omega)⟩
      · obtain ⟨k, h1, h2, h3⟩ := ih (by omega)
        refine ⟨k, by omega, h2, fun h => ?_⟩
        rcases (show k < n ∨ k = n by omega) with d | rfl
        · exact h3 d
        · omega
  have hp := v.pos
  obtain ⟨k, h1, h2, h3⟩ := key (l.length - 1) (by omega)
  exact ⟨_, k, by omega, h2, fun h => h3 (by omega), rfl⟩

set_option maxRecDepth 100000 in
set_option maxHeartbeats 8000000 in
theorem parts_walk (hz : Nat) (A1 A2 : Option Addr) (c1 c2 : Nat) (lasts offs : List Int) (a b : Int) (w : World) (hhz : hz < 4294967296)
    (h1 : Kd.C (Kd.int .u64) w A1 lasts.length lasts) (h2 : Kd.C (Kd.int .i32) w A2 offs.length offs) (w1 : ∀ x ∈ lasts, 0 ≤ x ∧ x < 18446744073709551616) (w2 : ∀ x ∈ offs, -2147483648 ≤ x ∧ x ≤ 2147483647) :
    Calls Try.prog 11 #[.int .u32 hz, .slice A1 lasts.length c1, .slice A2 offs.length c2, .int .i64 a, .int .i64 b] w fun e w' => e = .returned (.bool true) ∧ Below w.heap.size w w' := by
  have hm1 := h1.2.1
  have hm2 := h2.2.1
  have H1 := Aside0.mk h1
  have H2 := Aside0.mk h2
  have W1 := Aside0.mk w1
  have W2 := Aside0.mk w2
  clear h1 h2 w1 w2
  go_enter Try.func11, Try.ntmps11
  go_upto_block 0 with (fail)
  go_cut [11, 12] (fun v11 v12 wc => ∃ (wL : World) (xs : List S96), wL = wc ∧ Kd.R k96 96 wc w.heap.size (fun _ => True) v11 xs ∧ Vld xs ∧ xs.length ≤ 11 ∧ Below w.heap.size w wc)
  case first =>
    go_wp2
    go_loopw [11, 12] (fun v7 v8 wr => ∃ (k : Nat) (xs : List S96), v8 = .int .i64 (k : Int) ∧ k ≤ 10 ∧ Aside0 (PreV xs k) ∧ Kd.R k96 96 wr w.heap.size (fun _ => True) v7 xs ∧ Below w.heap.size w wr) (fun _ v8 _ => 10 - (intOf v8).toNat)
    case atStart => exact ⟨0, [⟨0, 0⟩], rfl, by omega, ⟨preV_zero⟩, R_flat (l := [⟨0, 0⟩]) (Blk.new w (flat [⟨0, 0⟩]) 96) (Nat.le_refl _) (by decide), below_alloc (Below.refl _ _) _⟩
    case round =>
      obtain ⟨k, xs, rfl, hk10, HP, hR, hB⟩ := hrel
      have hlen := HP.out.len
      by_cases hall : k < lasts.length ∧ k < offs.length ∧ k < 10
      · obtain ⟨b1, b2, b3⟩ := hall
        obtain ⟨g, cap, rfl, hg0, hg1, cells, hcells⟩ := Kd.R_form hR (by omega)
        obtain ⟨cc, hcc1, hM, hcc2, hfz⟩ := Kd.R_elem hR z96 (k : Int) (by omega) (by omega)
        obtain rfl := k96_openM hM
        have x0 := hcc2 0 _ rfl
        have x1 := hcc2 1 _ rfl
        have xf := hfz 1
        have hs2 : k96.sz = 2 := rfl
        rw [hs2, Int.toNat_natCast] at x0 x1 xf
        rw [Nat.add_zero] at x0
        change wr.cell? ⟨g, k * 2, none⟩ = some (.int .i64 (fr xs k)) at x0
        obtain ⟨ad1, rfl, y1⟩ := Kd.at_int (Kd.C_below H1.out hB) (k : Int) (by omega) (by omega)
        obtain ⟨ad2, rfl, y2⟩ := Kd.at_int (Kd.C_below H2.out hB) (k : Int) (by omega) (by omega)
        simp only [Int.toNat_natCast] at y1 y2
        rw [hlen] at hR ⊢
        -- what is written, and what is laid behind
        obtain ⟨f, hf⟩ : ∃ f, fr xs k = f := ⟨_, rfl⟩
        obtain ⟨o1, ho1⟩ : ∃ o1, of xs k = o1 := ⟨_, rfl⟩
        have ef : (xs.getD (k : Int).toNat z96) = ⟨f, o1⟩ := by rw [← hf, ← ho1]; rfl
        obtain ⟨o, ho⟩ : ∃ o, wrap64 ((rd offs (k : Int)).tmod 500001) = o := ⟨_, rfl⟩
        obtain ⟨L, hL⟩ : ∃ L, wrap64 (rd lasts (k : Int) % 70368744177664) = L := ⟨_, rfl⟩
        have hob : -500000 ≤ o ∧ o ≤ 500000 := by
          have z1 := Int.lt_tmod_of_pos (rd offs (k : Int)) (show (0 : Int) < 500001 by omega)
          have z2 := Int.tmod_lt_of_pos (rd offs (k : Int)) (show (0 : Int) < 500001 by omega)
          rw [← ho]
          unfold wrap64
          omega
        have hLb : 0 ≤ L ∧ L < 70368744177664 := by
          have z1 := Int.emod_nonneg (rd lasts (k : Int)) (show (70368744177664 : Int) ≠ 0 by omega)
          have z2 := Int.emod_lt_of_pos (rd lasts (k : Int)) (show (0 : Int) < 70368744177664 by omega)
          rw [← hL]
          unfold wrap64
          omega
        have hft := HP.out.top
        have hfn := HP.out.val.nonneg k (by omega)
        rw [hf] at x0 hft hfn
        have hL' : wrap64 ((rd lasts (k : Int)).tmod 70368744177664) = L := by
          rw [← hL]
          have hmem : rd lasts (k : Int) ∈ lasts := by
            unfold rd
            rw [Int.toNat_natCast, List.getD_eq_getElem?_getD, List.getElem?_eq_getElem b1]
            exact List.getElem_mem b1
          rw [Int.tmod_eq_emod_of_nonneg (W1.out _ hmem).1]
        have hL2 : IntKind.i64.wrap ((rd lasts (k : Int)).tmod 70368744177664) = L := by rw [← hL', IntKind.wrap_i64]; unfold wrap64; omega
        have q1 : IntKind.i64.wrap (f + 1) = f + 1 := by rw [IntKind.wrap_i64]; omega
        have q2 : IntKind.i64.wrap (f + 1 + L) = f + 1 + L := by rw [IntKind.wrap_i64]; omega
        have i0 : (0 : Int) ≤ (k : Int) := by omega
        have i1 : (k : Int) < (k : Int) + 1 := by omega
        have i2 : (k : Int) < (lasts.length : Int) := by omega
        have hgrow : grow1 xs k o L = xs.set k ⟨f, o⟩ ++ [⟨f + 1 + L, 0⟩] := by unfold grow1; rw [hf]
        have HP2 := Aside0.mk (preV_step HP.out b3 hob.1 hob.2 hLb.1 hLb.2)
        rw [hgrow] at HP2
        obtain ⟨W1, hW1⟩ : ∃ W1, wr.setCell ⟨g, k * 2 + 1, none⟩ (.int .i64 o) = W1 := ⟨_, rfl⟩
        have hseg := Kd.R_seg (seg := [.int .i64 o]) (j := 1) (okp := fun _ => False) (x' := (⟨f, o⟩ : S96)) hR (k : Int) (by omega) (by omega) hcc1 hcc2 (by rw [hs2]; simp) (by rw [ef]; exact k96_mkM _ _ _ _) (fun _ h => h.elim)
        rw [hs2, Int.toNat_natCast] at hseg
        have HR1 : Aside0 (Kd.R k96 96 W1 w.heap.size (fun _ => True) (.slice (some ⟨g, 0, none⟩) (k + 1) cap) (xs.set k ⟨f, o⟩)) := ⟨by rw [← hW1]; exact hseg.1⟩
        have HB1 : Aside0 (Below w.heap.size w W1) := ⟨by rw [← hW1]; exact hB.setCell hg0 _⟩
        have z0 : W1.cell? ⟨g, k * 2, none⟩ = some (.int .i64 f) := by rw [← hW1, World.cell?_setCell_other _ _ _ _ (by simp)]; exact x0
        have z1 : W1.cell? (ad1.add k) = some (.int .u64 (rd lasts (k : Int))) := by
          rw [← hW1, World.cell?_setCell_other _ _ _ _ ?_]
          · exact y1
          · intro e
            have h3 := World.block_lt_of_cell? _ _ (Kd.at_int H1.out (k : Int) (by omega) (by omega)).choose_spec.2
            have h4 := (Kd.at_int H1.out (k : Int) (by omega) (by omega)).choose_spec.1
            injection h4 with h4
            rw [← h4, Int.toNat_natCast, ← e] at h3
            simp at h3
            omega
        have hln : (xs.set k (⟨f, o⟩ : S96)).length = k + 1 := by simp [HP.out.len]
        have HLN := Aside0.mk hln
        clear hR hlen hM hcc2 hfz hcells hcc1 hseg hf ho1 ef hob hLb hft hfn hgrow hln hs2 HP
        go_wp2
        try rw [hW1]
        clear hW1 x0 x1 xf y1 y2 hB ho
        go_region_law ((refine Kd.R_append_rows_step k96 (Rr := k96.K _) (w0 := w) w.heap.size (by rfl) (.tmp 54) (.tmp 69) 91 96 (.agg #[.int .i64 0, .int .i64 0]) 16 (by rfl) Try.underlying91 info96 zs96 sz96 (by omega) (.slice (some ⟨g, 0, none⟩) (k + 1) cap) (xs.set k ⟨f, o⟩) [⟨f + 1 + L, 0⟩] (some ⟨W1.heap.size, 0, none⟩) 1 1 (fun _ => True) (fun _ => False) (by rfl) (by rfl) (Kd.R_below HR1.out (by repeat (first | exact Below.refl _ _ | apply pw_below_drewN | apply below_drew | apply below_alloc))) (C_flat (l := [⟨f + 1 + L, 0⟩]) (Blk.drew (Blk.new W1 (flat [⟨f + 1 + L, 0⟩]) 96)) (by simp)) (fun x cs h => by rw [k96_open h]; exact k96_mkM _ _ _ x) (fun _ h => h.elim) (fun _ _ => trivial) (HB1.out.trans ((Below.mono (B' := w.heap.size) · HB1.out.size) (by repeat (first | exact Below.refl _ _ | apply pw_below_drewN | apply below_drew | apply below_alloc)))) (by have := HB1.out.size; simp; omega) (by rw [HLN.out]; omega) ?_; intro v1 w1 ho hb hg hat))
        all_goals
          have HO := Aside0.mk ho
          have HBN := Aside0.mk hb
          clear ho hb hg hat z0 z1
          go_wp2
          go_roundw
          case rel => exact ⟨k + 1, _, by go_num, by omega, HP2, HO.out, HBN.out⟩
          case measure => simp [intOf]; omega
      · rcases (show ¬ k < lasts.length ∨ (k < lasts.length ∧ ¬ k < offs.length) ∨ (k < lasts.length ∧ k < offs.length ∧ ¬ k < 10) by omega) with c | ⟨c, d⟩ | ⟨c, d, e⟩
        · have t1 : decide (k < lasts.length) = false := by simp; omega
          have HR := Aside0.mk hR
          clear hall c hR hlen
          go_wp2
          go_meet
          case rel => exact ⟨_, xs, rfl, HR.out, HP.out.val, by have := HP.out.len; omega, hB⟩
        · have t1 : decide (k < lasts.length) = true := by simp; omega
          have t2 : decide (k < offs.length) = false := by simp; omega
          have HR := Aside0.mk hR
          clear hall c d hR hlen
          go_wp2
          go_meet
          case rel => exact ⟨_, xs, rfl, HR.out, HP.out.val, by have := HP.out.len; omega, hB⟩
        · have t1 : decide (k < lasts.length) = true := by simp; omega
          have t2 : decide (k < offs.length) = true := by simp; omega
          have t3 : decide ((k : Int) < 10) = false := by simp; omega
          have HR := Aside0.mk hR
          clear hall c d e hR hlen
          go_wp2
          go_meet
          case rel => exact ⟨_, xs, rfl, HR.out, HP.out.val, by have := HP.out.len; omega, hB⟩
  case rest =>
    obtain ⟨wL, l, rfl, hR, hv, hl11, hB⟩ := hcut
    obtain ⟨A, c, rfl, hc, hC⟩ := Kd.R_reads hR
    have hl0 := hv.pos
    have HC := Aside0.mk hC
    have HBL := Aside0.mk hB
    have HV := Aside0.mk hv
    have ea := and52 a
    have eb := and52 b
    obtain ⟨a0, a1⟩ := made_bits a
    obtain ⟨b0, b1⟩ := made_bits b
    obtain ⟨x, hx⟩ : ∃ x, a % 4503599627370496 = x := ⟨_, rfl⟩
    obtain ⟨y, hy⟩ : ∃ y, b % 4503599627370496 = y := ⟨_, rfl⟩
    rw [hx] at ea a0 a1
    rw [hy] at eb b0 b1
    obtain ⟨t, ht⟩ : ∃ t, 1 + x = t := ⟨_, rfl⟩
    have et : wrap64 (1 + x) = t := by rw [← ht]; unfold wrap64; omega
    have t0 : 1 ≤ t := by omega
    have t1 : t ≤ 4503599627370496 := by omega
    clear hR hC hB hv hx hy
    go_wp2
    go_loopw [14, 15] (fun v14 v15 wr => ∃ k : Nat, v15 = .int .i64 (k : Int) ∧ k ≤ l.length ∧ Kd.R k96 96 wr wL.heap.size (fun _ => True) v14 (told l t k) ∧ Below wL.heap.size wL wr) (fun _ v15 _ => l.length - (intOf v15).toNat)
    case atStart => exact ⟨0, rfl, Nat.zero_le _, Kd.R_nil _ _ _ _ _, Below.refl _ _⟩
    case round =>
      obtain ⟨k, rfl, hk, hR, hB⟩ := hrel
      by_cases hlt : k < l.length
      · obtain ⟨ad, rfl, hf0, hf1⟩ := at_T96 (Kd.C_below HC.out hB) (k : Int) (by omega) (by omega)
        simp only [Int.toNat_natCast] at hf0 hf1
        obtain ⟨f, hf⟩ : ∃ f, fr l k = f := ⟨_, rfl⟩
        obtain ⟨o, ho⟩ : ∃ o, of l k = o := ⟨_, rfl⟩
        have hrd : rd_T96 l (k : Int) = ⟨f, o⟩ := by rw [← hf, ← ho]; rfl
        rw [hrd] at hf0 hf1
        have hlen : (told l t k).length ≤ 2 * k := told_len l t k
        have htold : told l t (k + 1) = told l t k ++ [⟨f, o⟩] ++ (if cutAt l t k = true then [⟨t, o⟩] else []) := by simp only [told]; rw [hrd, ho]
        have hcut : cutAt l t k = (decide (f < t) && (decide (k + 1 = l.length) || decide (t < fr l (k + 1)))) := by unfold cutAt; rw [hf]
        have HR := Aside0.mk hR
        have HB := Aside0.mk hB
        have HR := Aside0.mk hR
        have HB := Aside0.mk hB
        have HTO := Aside0.mk htold
        have hlen2 : (told l t k).length ≤ 22 := by omega
        have hl2 : ((told l t k ++ [(⟨f, o⟩ : S96)]).length + 1) * 16 ≤ 140737488355328 := by rw [List.length_append, List.length_singleton]; omega
        obtain ⟨f2, hf2⟩ : ∃ f2, fr l (k + 1) = f2 := ⟨_, rfl⟩
        have KZ : Aside0 (∀ w2, Below wL.heap.size wL w2 → w2.cell? (ad.add (k * 2)) = some (.int .i64 f) ∧ w2.cell? ⟨(ad.add (k * 2)).block, (ad.add (k * 2)).off + 1, none⟩ = some (.int .i64 o) ∧ (k + 1 < l.length → w2.cell? (ad.add ((k + 1) * 2)) = some (.int .i64 f2))) := ⟨fun w2 hb => by
          obtain ⟨ad1, e1, m0, m1⟩ := at_T96 (Kd.C_below HC.out hb) (k : Int) (by omega) (by omega)
          obtain rfl := Option.some.inj e1
          simp only [Int.toNat_natCast] at m0 m1
          rw [hrd] at m0 m1
          refine ⟨m0, m1, fun h => ?_⟩
          obtain ⟨ad2, e2, n0, n1⟩ := at_T96 (Kd.C_below HC.out hb) ((k + 1 : Nat) : Int) (by omega) (by omega)
          obtain rfl := Option.some.inj e2
          simp only [Int.toNat_natCast] at n0
          rw [← hf2]
          exact n0⟩
        rw [hf2] at hcut
        clear hR hB hf ho hrd hlen htold hf2
        by_cases c1 : f < t
        · have d1 : decide (f < t) = true := by simpa using c1
          by_cases c2 : k + 1 = l.length
          · have d2 : decide (k + 1 = l.length) = true := by simpa using c2
            have d3 : (k + 1 == l.length) = true := by simpa using c2
            have d4 : (((k : Int) + 1) == (l.length : Int)) = true := by simp; omega
            clear c1 c2
            have HT2 : Aside0 (told l t (k + 1) = told l t k ++ [⟨f, o⟩] ++ [⟨t, o⟩]) := ⟨by rw [HTO.out, if_pos (by rw [hcut]; simp [*])]⟩
            clear hcut HTO
            go_wp2_with (first | (at_builtin; refine Kd.R_append k96 (w0 := wL) wL.heap.size rfl (.tmp 82) (.tmp 87) 91 96 (.agg #[.int .i64 0, .int .i64 0]) 16 rfl Try.underlying91 info96 zs96 sz96 (by omega) _ (told l t k) ⟨f, o⟩ [.int .i64 f, .int .i64 o] (fun _ => True) (fun _ => False) rfl rfl (k96_mkM _ _ _ _) (fun _ h => h.elim) (fun _ _ => trivial) HR.out HB.out HB.out.size (by omega) ?_; intro v1 w2 hro hrb hrg hrat; have HO := Aside0.mk hro; have HB2 := Aside0.mk hrb; clear hro hrb hrg hrat; obtain ⟨z0, z1, z2⟩ := KZ.out w2 HB2.out) | (at_builtin; refine Kd.R_append k96 (w0 := wL) wL.heap.size rfl (.tmp 113) (.tmp 121) 91 96 (.agg #[.int .i64 0, .int .i64 0]) 16 rfl Try.underlying91 info96 zs96 sz96 (by omega) v1 (told l t k ++ [⟨f, o⟩]) ⟨t, o⟩ [.int .i64 t, .int .i64 o] (fun _ => True) (fun _ => False) ?aS12 ?aX12 (k96_mkM _ _ _ _) (fun _ h => h.elim) (fun _ _ => trivial) ?aO12 ?aB12 ?aZ12 ?aL12 ?_; (case aS12 => rfl); (case aX12 => rfl); (case aO12 => exact HO.out); (case aB12 => exact HB2.out); (case aZ12 => exact HB2.out.size); (case aL12 => exact hl2); intro v2 w3 hro hrb hrg hrat; have HO2 := Aside0.mk hro; have HB3 := Aside0.mk hrb; clear hro hrb hrg hrat))
            go_roundw
            case rel => exact ⟨k + 1, by go_num, by omega, by rw [HT2.out]; exact HO2.out, HB3.out⟩
            case measure => simp [intOf]; omega
          · have d2 : decide (k + 1 = l.length) = false := by simpa using c2
            have d3 : (k + 1 == l.length) = false := by simpa using c2
            have d4 : (((k : Int) + 1) == (l.length : Int)) = false := by simp; omega
            have i1 : (k : Int) + 1 < (l.length : Int) := by omega
            have i2 : k + 1 < l.length := by omega
            by_cases c3 : t < f2
            · have d5 : decide (t < f2) = true := by simpa using c3
              clear c1 c2 c3
              have HT2 : Aside0 (told l t (k + 1) = told l t k ++ [⟨f, o⟩] ++ [⟨t, o⟩]) := ⟨by rw [HTO.out, if_pos (by rw [hcut]; simp [*])]⟩
              clear hcut HTO
              go_wp2_with (first | (at_builtin; refine Kd.R_append k96 (w0 := wL) wL.heap.size rfl (.tmp 82) (.tmp 87) 91 96 (.agg #[.int .i64 0, .int .i64 0]) 16 rfl Try.underlying91 info96 zs96 sz96 (by omega) _ (told l t k) ⟨f, o⟩ [.int .i64 f, .int .i64 o] (fun _ => True) (fun _ => False) rfl rfl (k96_mkM _ _ _ _) (fun _ h => h.elim) (fun _ _ => trivial) HR.out HB.out HB.out.size (by omega) ?_; intro v1 w2 hro hrb hrg hrat; have HO := Aside0.mk hro; have HB2 := Aside0.mk hrb; clear hro hrb hrg hrat; obtain ⟨z0, z1, z2⟩ := KZ.out w2 HB2.out; replace z2 := z2 i2) | (at_builtin; refine Kd.R_append k96 (w0 := wL) wL.heap.size rfl (.tmp 113) (.tmp 121) 91 96 (.agg #[.int .i64 0, .int .i64 0]) 16 rfl Try.underlying91 info96 zs96 sz96 (by omega) v1 (told l t k ++ [⟨f, o⟩]) ⟨t, o⟩ [.int .i64 t, .int .i64 o] (fun _ => True) (fun _ => False) ?aS14 ?aX14 (k96_mkM _ _ _ _) (fun _ h => h.elim) (fun _ _ => trivial) ?aO14 ?aB14 ?aZ14 ?aL14 ?_; (case aS14 => rfl); (case aX14 => rfl); (case aO14 => exact HO.out); (case aB14 => exact HB2.out); (case aZ14 => exact HB2.out.size); (case aL14 => exact hl2); intro v2 w3 hro hrb hrg hrat; have HO2 := Aside0.mk hro; have HB3 := Aside0.mk hrb; clear hro hrb hrg hrat))
              go_roundw
              case rel => exact ⟨k + 1, by go_num, by omega, by rw [HT2.out]; exact HO2.out, HB3.out⟩
              case measure => simp [intOf]; omega
            · have d5 : decide (t < f2) = false := by simpa using c3
              clear c1 c2 c3
              have HT2 : Aside0 (told l t (k + 1) = told l t k ++ [⟨f, o⟩]) := ⟨by rw [HTO.out, if_neg (by rw [hcut]; simp [*])]; simp⟩
              clear hcut HTO
              go_wp2_with (first | (at_builtin; refine Kd.R_append k96 (w0 := wL) wL.heap.size rfl (.tmp 82) (.tmp 87) 91 96 (.agg #[.int .i64 0, .int .i64 0]) 16 rfl Try.underlying91 info96 zs96 sz96 (by omega) _ (told l t k) ⟨f, o⟩ [.int .i64 f, .int .i64 o] (fun _ => True) (fun _ => False) rfl rfl (k96_mkM _ _ _ _) (fun _ h => h.elim) (fun _ _ => trivial) HR.out HB.out HB.out.size (by omega) ?_; intro v1 w2 hro hrb hrg hrat; have HO := Aside0.mk hro; have HB2 := Aside0.mk hrb; clear hro hrb hrg hrat; obtain ⟨z0, z1, z2⟩ := KZ.out w2 HB2.out; replace z2 := z2 i2))
              go_roundw
              case rel => exact ⟨k + 1, by go_num, by omega, by rw [HT2.out]; exact HO.out, HB2.out⟩
              case measure => simp [intOf]; omega
        · have d1 : decide (f < t) = false := by simpa using c1
          clear c1
          have HT2 : Aside0 (told l t (k + 1) = told l t k ++ [⟨f, o⟩]) := ⟨by rw [HTO.out, if_neg (by rw [hcut]; simp [*])]; simp⟩
          clear hcut HTO
          go_wp2_with (first | (at_builtin; refine Kd.R_append k96 (w0 := wL) wL.heap.size rfl (.tmp 82) (.tmp 87) 91 96 (.agg #[.int .i64 0, .int .i64 0]) 16 rfl Try.underlying91 info96 zs96 sz96 (by omega) _ (told l t k) ⟨f, o⟩ [.int .i64 f, .int .i64 o] (fun _ => True) (fun _ => False) rfl rfl (k96_mkM _ _ _ _) (fun _ h => h.elim) (fun _ _ => trivial) HR.out HB.out HB.out.size (by omega) ?_; intro v1 w2 hro hrb hrg hrat; have HO := Aside0.mk hro; have HB2 := Aside0.mk hrb; clear hro hrb hrg hrat; obtain ⟨z0, z1, z2⟩ := KZ.out w2 HB2.out))
          go_roundw
          case rel => exact ⟨k + 1, by go_num, by omega, by rw [HT2.out]; exact HO.out, HB2.out⟩
          case measure => simp [intOf]; omega
      · obtain rfl : k = l.length := by omega
        have hA := told_alike HV.out t1
        obtain ⟨l2, hl2⟩ : ∃ l2, told l t l.length = l2 := ⟨_, rfl⟩
        rw [hl2] at hR hA
        obtain ⟨A3, c3, rfl, hc3, hC3⟩ := Kd.R_reads hR
        obtain ⟨ad, rfl, _, _⟩ := at_T96 HC.out 0 (by omega) (by omega)
        have hp2 := hA.vld.pos
        have hn2 := hA.len
        obtain ⟨ad3, rfl, _, _⟩ := at_T96 hC3 0 (by omega) (by omega)
        obtain ⟨H, hH⟩ : ∃ H, 1000 + hz % 999999001 = H := ⟨_, rfl⟩
        have q1 : IntKind.u64.wrap (1000 + (hz : Int) % 999999001) = (H : Int) := by rw [IntKind.wrap_u64]; omega
        obtain ⟨M, hM⟩ : ∃ M, maskN 32 = M := ⟨_, rfl⟩
        have hM5 : 5 ≤ M := by rw [← hM]; decide +kernel
        have NC1 : Aside0 (∀ W, Below wr.heap.size wr W → Calls Try.prog 49 #[.int .u64 H, .int .i64 32, .int .u64 5, .slice (some ad) l.length c] W (NewOk H M 5 l W)) := ⟨fun W hW => by
          have k := new_ok H 32 5 ad c l W (by omega) (by omega) (by omega) (by omega) (by rw [hM]; exact hM5) (by omega) (Kd.C_below HC.out (hB.trans (hW.mono hB.size))) hc HV.out
          rw [hM] at k
          exact k⟩
        have NC2 : Aside0 (∀ W, Below wr.heap.size wr W → Calls Try.prog 49 #[.int .u64 H, .int .i64 32, .int .u64 5, .slice (some ad3) l2.length c3] W (NewOk H M 5 l2 W)) := ⟨fun W hW => by
          have k := new_ok H 32 5 ad3 c3 l2 W (by omega) (by omega) (by omega) (by omega) (by rw [hM]; exact hM5) (by omega) (Kd.C_below hC3 hW) hc3 hA.vld
          rw [hM] at k
          exact k⟩
        have HA := Aside0.mk hA
        have HBR := Aside0.mk hB
        have LC := Aside0.mk alive_calls
        have q2 : wrap64 (t - 1) = t - 1 := by unfold wrap64; omega
        clear hR hA hl2 hc3 hC3 hB hH hM hM5 hp2 hn2 hlt
        go_wp2_with (first | (go_at_call 49; (with_reducible refine (NC1.out _ (Below.refl _ _)).mono ?_); rintro e w4 ⟨g1, rfl, hs1, _, hb4⟩; have HS1 := Aside0.mk hs1; have HB4 := Aside0.mk hb4; clear hs1 hb4) | (go_at_call 49; (with_reducible refine (NC2.out _ HB4.out).mono ?_); rintro e w5 ⟨g2, rfl, hs2, _, hb5⟩; have HS2 := Aside0.mk hs2; have HB5 := Aside0.mk hb5; clear hs2 hb5))
        have hz := (Below.refl w5.heap.size w5)
        have HW4 := HB4.out.trans (HB5.out.mono HB4.out.size)
        have S1 : Aside0 (SkyAt w5 g1 H M 5 l) := ⟨HS1.out.below HB5.out⟩
        have FIN := Aside0.mk (HBL.out.trans ((HBR.out.mono HBL.out.size).trans (HW4.mono (Nat.le_trans HBL.out.size HBR.out.size))))
        have TC1 : Aside0 (∀ (x : Int) (W : World), Below w5.heap.size w5 W → Calls Try.prog 44 #[.pointer (some ⟨g1, 0, none⟩), .int .i64 x] W fun e w' => e = .returned (.int .u64 (tickz H l x)) ∧ Below W.heap.size W w') := ⟨fun x W hb => ticks_calls g1 H M 5 l x W (S1.out.below hb)⟩
        have TC2 : Aside0 (∀ (x : Int) (W : World), Below w5.heap.size w5 W → Calls Try.prog 44 #[.pointer (some ⟨g2, 0, none⟩), .int .i64 x] W fun e w' => e = .returned (.int .u64 (tickz H l x)) ∧ Below W.heap.size W w') := ⟨fun x W hb => by
          rw [← HA.out.tick]
          exact ticks_calls g2 H M 5 l2 x W (HS2.out.below hb)⟩
        have RC1 : Aside0 (∀ (x : Int) (W : World), Below w5.heap.size w5 W → Calls Try.prog 45 #[.pointer (some ⟨g1, 0, none⟩), .int .i64 x] W fun e w' => e = .returned (.int .u64 (readz H M 5 l x)) ∧ Below W.heap.size W w') := ⟨fun x W hb => read_calls g1 H M 5 l x W (S1.out.below hb)⟩
        have RC2 : Aside0 (∀ (x : Int) (W : World), Below w5.heap.size w5 W → Calls Try.prog 45 #[.pointer (some ⟨g2, 0, none⟩), .int .i64 x] W fun e w' => e = .returned (.int .u64 (readz H M 5 l x)) ∧ Below W.heap.size W w') := ⟨fun x W hb => by
          have e : readz H M 5 l x = readz H M 5 l2 x := by unfold readz; rw [HA.out.tick]
          rw [e]
          exact read_calls g2 H M 5 l2 x W (HS2.out.below hb)⟩
        have AC1 : Aside0 (∀ (x : Int) (W : World), Below w5.heap.size w5 W → Calls Try.prog 46 #[.pointer (some ⟨g1, 0, none⟩), .int .i64 x] W fun e w' => e = .returned (.int .i64 (rawz H l x)) ∧ Below W.heap.size W w') := ⟨fun x W hb => raw_calls g1 H M 5 l x W (S1.out.below hb)⟩
        have AC2 : Aside0 (∀ (x : Int) (W : World), Below w5.heap.size w5 W → Calls Try.prog 46 #[.pointer (some ⟨g2, 0, none⟩), .int .i64 x] W fun e w' => e = .returned (.int .i64 (rawz H l x)) ∧ Below W.heap.size W w') := ⟨fun x W hb => by
          have e : rawz H l x = rawz H l2 x := by unfold rawz; rw [HA.out.tick]
          rw [e]
          exact raw_calls g2 H M 5 l2 x W (HS2.out.below hb)⟩
        have OC1 : Aside0 (∀ (x : Int), ∃ o : Int, IsOff l (clampT x) o ∧ ∀ (W : World), Below w5.heap.size w5 W → Calls Try.prog 55 #[.pointer (some ⟨g1, 0, none⟩), .int .i64 x] W fun e w' => e = .returned (.int .i64 o) ∧ Below W.heap.size W w') := ⟨fun x => by
          obtain ⟨o, ho⟩ := isOff_ex HV.out (clampT_lo x)
          refine ⟨o, ho, fun W hb => (off_calls g1 H M 5 l x W (S1.out.below hb)).mono ?_⟩
          rintro e w' ⟨o', rfl, ho', hb'⟩
          rw [IsOff.uniq HV.out ho' ho]
          exact ⟨rfl, hb'⟩⟩
        have OC2 : Aside0 (∀ (x o : Int) (W : World), IsOff l (clampT x) o → Below w5.heap.size w5 W → Calls Try.prog 55 #[.pointer (some ⟨g2, 0, none⟩), .int .i64 x] W fun e w' => e = .returned (.int .i64 o) ∧ Below W.heap.size W w') := ⟨fun x o W ho hb => by
          refine (off_calls g2 H M 5 l2 x W (HS2.out.below hb)).mono ?_
          rintro e w' ⟨o', rfl, ho', hb'⟩
          rw [IsOff.uniq HA.out.vld ho' (HA.out.off ho)]
          exact ⟨rfl, hb'⟩⟩
        have WC1 : Aside0 (∀ (W : World), Below w5.heap.size w5 W → Calls Try.prog 57 #[.pointer (some ⟨g1, 0, none⟩)] W fun e w' => e = .returned (.int .i64 (worstF l l.length)) ∧ Below W.heap.size W w') := ⟨fun W hb => worst_calls g1 H M 5 l W (S1.out.below hb)⟩
        have WC2 : Aside0 (∀ (W : World), Below w5.heap.size w5 W → Calls Try.prog 57 #[.pointer (some ⟨g2, 0, none⟩)] W fun e w' => e = .returned (.int .i64 (worstF l l.length)) ∧ Below W.heap.size W w') := ⟨fun W hb => by
          rw [← HA.out.worst]
          exact worst_calls g2 H M 5 l2 W (HS2.out.below hb)⟩
        have PK := Aside0.mk (fun k (hk : k < 4) => pick4 y t (t - 1) 4503599627370496 k hk)
        clear q1 q2 HW4
        go_loopw [150] (fun v150 wr2 => ∃ k : Nat, v150 = .int .i64 (k : Int) ∧ k ≤ 4 ∧ Below w5.heap.size w5 wr2) (fun v150 _ => 4 - (intOf v150).toNat)
        case atStart => exact ⟨0, rfl, by omega, hz⟩
        case round =>
          clear hz
          obtain ⟨k, rfl, hk, hz⟩ := hrel
          by_cases hk4 : k < 4
          · obtain ⟨u, hix⟩ := PK.out k hk4
            have t0 : decide ((k : Int) < 4) = true := by simp; omega
            obtain ⟨o, ho, hoc⟩ := OC1.out u
            have HO := Aside0.mk ho
            have HOC := Aside0.mk hoc
            obtain ⟨X, hX⟩ : ∃ X, tickz H l u = X := ⟨_, rfl⟩
            obtain ⟨Y, hY⟩ : ∃ Y, readz H M 5 l u = Y := ⟨_, rfl⟩
            obtain ⟨Z, hZ⟩ : ∃ Z, rawz H l u = Z := ⟨_, rfl⟩
            clear ho hoc
            go_wp2_with (first | (go_at_call 44; (with_reducible refine (TC1.out _ _ hz).mono ?_); rintro e w' ⟨rfl, hb⟩; replace hz := hz.trans (hb.mono hz.size); clear hb) | (go_at_call 44; (with_reducible refine (TC2.out _ _ hz).mono ?_); rintro e w' ⟨rfl, hb⟩; replace hz := hz.trans (hb.mono hz.size); clear hb) | (go_at_call 45; (with_reducible refine (RC1.out _ _ hz).mono ?_); rintro e w' ⟨rfl, hb⟩; replace hz := hz.trans (hb.mono hz.size); clear hb) | (go_at_call 45; (with_reducible refine (RC2.out _ _ hz).mono ?_); rintro e w' ⟨rfl, hb⟩; replace hz := hz.trans (hb.mono hz.size); clear hb) | (go_at_call 46; (with_reducible refine (AC1.out _ _ hz).mono ?_); rintro e w' ⟨rfl, hb⟩; replace hz := hz.trans (hb.mono hz.size); clear hb) | (go_at_call 46; (with_reducible refine (AC2.out _ _ hz).mono ?_); rintro e w' ⟨rfl, hb⟩; replace hz := hz.trans (hb.mono hz.size); clear hb) | (go_at_call 55; (with_reducible refine (HOC.out _ hz).mono ?_); rintro e w' ⟨rfl, hb⟩; replace hz := hz.trans (hb.mono hz.size); clear hb) | (go_at_call 55; (with_reducible refine (OC2.out _ _ _ HO.out hz).mono ?_); rintro e w' ⟨rfl, hb⟩; replace hz := hz.trans (hb.mono hz.size); clear hb))
            go_roundw
            case rel => exact ⟨k + 1, by go_num, by omega, hz⟩
            case measure => simp [intOf]; omega
          · have t0 : decide ((k : Int) < 4) = false := by simp; omega
            clear hk4
            go_wp2_with (first | (go_at_call 57; (with_reducible refine (WC1.out _ hz).mono ?_); rintro e w' ⟨rfl, hb⟩; replace hz := hz.trans (hb.mono hz.size); clear hb) | (go_at_call 57; (with_reducible refine (WC2.out _ hz).mono ?_); rintro e w' ⟨rfl, hb⟩; replace hz := hz.trans (hb.mono hz.size); clear hb) | (go_at_call 47; (with_reducible refine (LC.out _).mono ?_); rintro e w' ⟨rfl, hb⟩; replace hz := hz.trans (hb.mono hz.size); clear hb))
            go_ret
            exact ⟨rfl, FIN.out.trans (hz.mono FIN.out.size)⟩
end Go.Proofs.Ytdlhmabjgbiagaa.Sky
