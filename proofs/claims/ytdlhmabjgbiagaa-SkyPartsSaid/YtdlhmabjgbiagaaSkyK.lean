/-
  Contract of the law's own made: a sky that may be, whatever is asked for.
-/
import Derived.Test.YtdlhmabjgbiagaaSkyJ
import Derived.Deep.RegionLaw
namespace Go.Proofs.Ytdlhmabjgbiagaa.Sky
open Go.RowKit Go.Proofs.Ytdlhmabjgbiagaa.Blk Go.Proofs.YtdlhmabjgbiagaaW.PrintWords Go.Proofs.YtdlhmabjgbiagaaW.PrintLast Go.Proofs.YtdlhmabjgbiagaaW.PrintMore
open Go.Proofs.Ytdlhmabjgbiagaa.PSkyGoes
set_option linter.unusedVariables false
set_option linter.unusedSimpArgs false

theorem fr_at {l : List S96} {k : Nat} {p : S96} (h : l[k]? = some p) : fr l k = p.f0 := by
  unfold fr rd_T96
  rw [Int.toNat_natCast, List.getD_eq_getElem?_getD, h]; rfl
theorem of_at {l : List S96} {k : Nat} {p : S96} (h : l[k]? = some p) : of l k = p.f1 := by
  unfold of rd_T96
  rw [Int.toNat_natCast, List.getD_eq_getElem?_getD, h]; rfl
theorem at_fr {l : List S96} {k : Nat} (h : k < l.length) : l[k]? = some ⟨fr l k, of l k⟩ := by
  obtain ⟨p, hp⟩ : ∃ p, l[k]? = some p := ⟨_, List.getElem?_eq_getElem h⟩
  rw [hp, fr_at hp, of_at hp]

/-- What the law's loop has made by round i. -/
structure PreV (xs : List S96) (i : Nat) : Prop where
  len : xs.length = i + 1
  val : Vld xs
  top : fr xs i ≤ (i : Int) * 70368744177664
def grow1 (xs : List S96) (i : Nat) (o L : Int) : List S96 := xs.set i ⟨fr xs i, o⟩ ++ [⟨fr xs i + 1 + L, 0⟩]
theorem preV_zero : PreV [⟨0, 0⟩] 0 := by
  refine ⟨rfl, ⟨by decide, rfl, fun i hi => ?_, fun i hi => ?_, fun i hi => ?_⟩, by decide⟩
  · simp at hi
  · obtain rfl : i = 0 := by simpa using hi
    decide
  · obtain rfl : i = 0 := by simpa using hi
    decide
theorem grow1_old {xs : List S96} {i k : Nat} {o L : Int} (hl : xs.length = i + 1) (hk : k < i) : fr (grow1 xs i o L) k = fr xs k ∧ of (grow1 xs i o L) k = of xs k := by
  have h : (grow1 xs i o L)[k]? = some ⟨fr xs k, of xs k⟩ := by
    unfold grow1
    rw [List.getElem?_append_left (by simp; omega), List.getElem?_set_ne (by omega)]
    exact at_fr (by omega)
  exact ⟨fr_at h, of_at h⟩
theorem grow1_mid {xs : List S96} {i : Nat} {o L : Int} (hl : xs.length = i + 1) : fr (grow1 xs i o L) i = fr xs i ∧ of (grow1 xs i o L) i = o := by
  have h : (grow1 xs i o L)[i]? = some ⟨fr xs i, o⟩ := by
    unfold grow1
    rw [List.getElem?_append_left (by simp; omega), List.getElem?_set_self (by omega)]
  exact ⟨fr_at (p := ⟨fr xs i, o⟩) h, of_at (p := ⟨fr xs i, o⟩) h⟩
theorem grow1_new {xs : List S96} {i : Nat} {o L : Int} (hl : xs.length = i + 1) : fr (grow1 xs i o L) (i + 1) = fr xs i + 1 + L ∧ of (grow1 xs i o L) (i + 1) = 0 := by
  have h : (grow1 xs i o L)[i + 1]? = some ⟨fr xs i + 1 + L, 0⟩ := by
    unfold grow1
    rw [List.getElem?_append_right (by simp; omega)]
    simp [hl]
  exact ⟨fr_at h, of_at h⟩
theorem preV_step {xs : List S96} {i : Nat} (h : PreV xs i) (hi : i < 10) {o L : Int} (ho0 : -500000 ≤ o) (ho1 : o ≤ 500000) (hL0 : 0 ≤ L) (hL1 : L < 70368744177664) : PreV (grow1 xs i o L) (i + 1) := by
  obtain ⟨hl, hv, ht⟩ := h
  have hlen : (grow1 xs i o L).length = i + 2 := by simp [grow1, hl]
  obtain ⟨m1, m2⟩ := grow1_mid (o := o) (L := L) hl
  obtain ⟨n1, n2⟩ := grow1_new (o := o) (L := L) hl
  have hn := hv.nonneg i (by omega)
  refine ⟨hlen, ⟨by omega, ?_, fun k hk => ?_, fun k hk => ?_, fun k hk => ?_⟩, ?_⟩
  · rcases Nat.eq_zero_or_pos i with rfl | h0
    · rw [m1]; exact hv.zero
    · rw [(grow1_old hl h0).1]; exact hv.zero
  · rw [hlen] at hk
    rcases (show k + 1 < i ∨ k + 1 = i ∨ k = i by omega) with c | c | c
    · rw [(grow1_old hl (by omega)).1, (grow1_old hl c).1]
      exact hv.asc k (by omega)
    · rw [(grow1_old hl (by omega)).1, c, m1, ← c]
      exact hv.asc k (by omega)
    · subst c
      rw [m1, n1]
      omega
  · rw [hlen] at hk
    rcases (show k < i ∨ k = i ∨ k = i + 1 by omega) with c | c | c
    · rw [(grow1_old hl c).1]
      exact hv.top k (by omega)
    · subst c
      rw [m1]
      exact hv.top k (by omega)
    · subst c
      rw [n1]
      omega
  · rw [hlen] at hk
    rcases (show k < i ∨ k = i ∨ k = i + 1 by omega) with c | c | c
    · rw [(grow1_old hl c).2]
      exact hv.off k (by omega)
    · subst c
      rw [m2]
      exact ⟨ho0, ho1⟩
    · subst c
      rw [n2]
      omega
  · rw [n1]
    omega

def MadeOk (h : Nat) (w : World) (e : Ending) (w' : World) : Prop := ∃ (g : Nat) (l : List S96), e = .returned (.pointer (some ⟨g, 0, none⟩)) ∧ SkyAt w' g h 18446744073709551615 0 l ∧ Below w.heap.size w w'

set_option maxRecDepth 100000 in
set_option maxHeartbeats 4000000 in
theorem made_calls (hz : Nat) (A1 A2 : Option Addr) (c1 c2 : Nat) (lasts offs : List Int) (w : World) (hhz : hz < 4294967296)
    (h1 : Kd.C (Kd.int .u64) w A1 lasts.length lasts) (h2 : Kd.C (Kd.int .i32) w A2 offs.length offs) (w1 : ∀ x ∈ lasts, 0 ≤ x ∧ x < 18446744073709551616) (w2 : ∀ x ∈ offs, -2147483648 ≤ x ∧ x ≤ 2147483647) :
    Calls Try.prog 43 #[.int .u32 hz, .slice A1 lasts.length c1, .slice A2 offs.length c2] w (MadeOk (1000 + hz % 999999001) w) := by
  have hm1 := h1.2.1
  have hm2 := h2.2.1
  have H1 := Aside0.mk h1
  have H2 := Aside0.mk h2
  have W1 := Aside0.mk w1
  have W2 := Aside0.mk w2
  clear h1 h2 w1 w2
  go_enter Try.func43, Try.ntmps43
  go_wp2
  go_loopw [7, 8] (fun v7 v8 wr => ∃ (k : Nat) (xs : List S96), v8 = .int .i64 (k : Int) ∧ k ≤ 10 ∧ Aside0 (PreV xs k) ∧ Kd.R k96 96 wr w.heap.size (fun _ => True) v7 xs ∧ Below w.heap.size w wr) (fun _ v8 _ => 10 - (intOf v8).toNat)
  case atStart => exact ⟨0, [⟨0, 0⟩], rfl, by omega, ⟨preV_zero⟩, R_flat (l := [⟨0, 0⟩]) (Blk.new w (flat [⟨0, 0⟩]) 96) (Nat.le_refl _) (by decide), below_alloc (Below.refl _ _) _⟩
  case round =>
    obtain ⟨k, xs, rfl, hk10, HP, hR, hB⟩ := hrel
    have hlen := HP.out.len
    by_cases hall : k < lasts.length ∧ k < offs.length ∧ k < 10
    · obtain ⟨b1, b2, b3⟩ := hall
      obtain ⟨g, cap, rfl, hg0, hg1, cells, hcells⟩ := Kd.R_form hR (by omega)
      obtain ⟨cc, hcc1, hM, hcc2, hfz⟩ := Kd.R_elem hR z96 (k : Int) (by omega) (by omega)
      obtain rfl := k96_openM hM
      have x0 := hcc2 0 _ rfl
      have x1 := hcc2 1 _ rfl
      have xf := hfz 1
      have hs2 : k96.sz = 2 := rfl
      rw [hs2, Int.toNat_natCast] at x0 x1 xf
      rw [Nat.add_zero] at x0
      change wr.cell? ⟨g, k * 2, none⟩ = some (.int .i64 (fr xs k)) at x0
      obtain ⟨ad1, rfl, y1⟩ := Kd.at_int (Kd.C_below H1.out hB) (k : Int) (by omega) (by omega)
      obtain ⟨ad2, rfl, y2⟩ := Kd.at_int (Kd.C_below H2.out hB) (k : Int) (by omega) (by omega)
      simp only [Int.toNat_natCast] at y1 y2
      rw [hlen] at hR ⊢
      -- what is written, and what is laid behind
      obtain ⟨f, hf⟩ : ∃ f, fr xs k = f := ⟨_, rfl⟩
      obtain ⟨o1, ho1⟩ : ∃ o1, of xs k = o1 := ⟨_, rfl⟩
      have ef : (xs.getD (k : Int).toNat z96) = ⟨f, o1⟩ := by rw [← hf, ← ho1]; rfl
      obtain ⟨o, ho⟩ : ∃ o, wrap64 ((rd offs (k : Int)).tmod 500001) = o := ⟨_, rfl⟩
      obtain ⟨L, hL⟩ : ∃ L, wrap64 (rd lasts (k : Int) % 70368744177664) = L := ⟨_, rfl⟩
      have hob : -500000 ≤ o ∧ o ≤ 500000 := by
        have z1 := Int.lt_tmod_of_pos (rd offs (k : Int)) (show (0 : Int) < 500001 by omega)
        have z2 := Int.tmod_lt_of_pos (rd offs (k : Int)) (show (0 : Int) < 500001 by omega)
        rw [← ho]
        unfold wrap64
        omega
      have hLb : 0 ≤ L ∧ L < 70368744177664 := by
        have z1 := Int.emod_nonneg (rd lasts (k : Int)) (show (70368744177664 : Int) ≠ 0 by omega)
        have z2 := Int.emod_lt_of_pos (rd lasts (k : Int)) (show (0 : Int) < 70368744177664 by omega)
        rw [← hL]
        unfold wrap64
        omega
      have hft := HP.out.top
      have hfn := HP.out.val.nonneg k (by omega)
      rw [hf] at x0 hft hfn
      have hL' : wrap64 ((rd lasts (k : Int)).tmod 70368744177664) = L := by
        rw [← hL]
        have hmem : rd lasts (k : Int) ∈ lasts := by
          unfold rd
          rw [Int.toNat_natCast, List.getD_eq_getElem?_getD, List.getElem?_eq_getElem b1]
          exact List.getElem_mem b1
        rw [Int.tmod_eq_emod_of_nonneg (W1.out _ hmem).1]
      have hL2 : IntKind.i64.wrap ((rd lasts (k : Int)).tmod 70368744177664) = L := by rw [← hL', IntKind.wrap_i64]; unfold wrap64; omega
      have q1 : IntKind.i64.wrap (f + 1) = f + 1 := by rw [IntKind.wrap_i64]; omega
      have q2 : IntKind.i64.wrap (f + 1 + L) = f + 1 + L := by rw [IntKind.wrap_i64]; omega
      have i0 : (0 : Int) ≤ (k : Int) := by omega
      have i1 : (k : Int) < (k : Int) + 1 := by omega
      have i2 : (k : Int) < (lasts.length : Int) := by omega
      have hgrow : grow1 xs k o L = xs.set k ⟨f, o⟩ ++ [⟨f + 1 + L, 0⟩] := by unfold grow1; rw [hf]
      have HP2 := Aside0.mk (preV_step HP.out b3 hob.1 hob.2 hLb.1 hLb.2)
      rw [hgrow] at HP2
      obtain ⟨W1, hW1⟩ : ∃ W1, wr.setCell ⟨g, k * 2 + 1, none⟩ (.int .i64 o) = W1 := ⟨_, rfl⟩
      have hseg := Kd.R_seg (seg := [.int .i64 o]) (j := 1) (okp := fun _ => False) (x' := (⟨f, o⟩ : S96)) hR (k : Int) (by omega) (by omega) hcc1 hcc2 (by rw [hs2]; simp) (by rw [ef]; exact k96_mkM _ _ _ _) (fun _ h => h.elim)
      rw [hs2, Int.toNat_natCast] at hseg
      have HR1 : Aside0 (Kd.R k96 96 W1 w.heap.size (fun _ => True) (.slice (some ⟨g, 0, none⟩) (k + 1) cap) (xs.set k ⟨f, o⟩)) := ⟨by rw [← hW1]; exact hseg.1⟩
      have HB1 : Aside0 (Below w.heap.size w W1) := ⟨by rw [← hW1]; exact hB.setCell hg0 _⟩
      have z0 : W1.cell? ⟨g, k * 2, none⟩ = some (.int .i64 f) := by rw [← hW1, World.cell?_setCell_other _ _ _ _ (by simp)]; exact x0
      have z1 : W1.cell? (ad1.add k) = some (.int .u64 (rd lasts (k : Int))) := by
        rw [← hW1, World.cell?_setCell_other _ _ _ _ ?_]
        · exact y1
        · intro e
          have h3 := World.block_lt_of_cell? _ _ (Kd.at_int H1.out (k : Int) (by omega) (by omega)).choose_spec.2
          have h4 := (Kd.at_int H1.out (k : Int) (by omega) (by omega)).choose_spec.1
          injection h4 with h4
          rw [← h4, Int.toNat_natCast, ← e] at h3
          simp at h3
          omega
      have hln : (xs.set k (⟨f, o⟩ : S96)).length = k + 1 := by simp [HP.out.len]
      have HLN := Aside0.mk hln
      clear hR hlen hM hcc2 hfz hcells hcc1 hseg hf ho1 ef hob hLb hft hfn hgrow hln hs2 HP
      go_wp2
      try rw [hW1]
      clear hW1 x0 x1 xf y1 y2 hB ho
      go_region_law ((refine Kd.R_append_rows_step k96 (Rr := k96.K _) (w0 := w) w.heap.size (by rfl) (.tmp 43) (.tmp 58) 91 96 (.agg #[.int .i64 0, .int .i64 0]) 16 (by rfl) Try.underlying91 info96 zs96 sz96 (by omega) (.slice (some ⟨g, 0, none⟩) (k + 1) cap) (xs.set k ⟨f, o⟩) [⟨f + 1 + L, 0⟩] (some ⟨W1.heap.size, 0, none⟩) 1 1 (fun _ => True) (fun _ => False) (by rfl) (by rfl) (Kd.R_below HR1.out (by repeat (first | exact Below.refl _ _ | apply pw_below_drewN | apply below_drew | apply below_alloc))) (C_flat (l := [⟨f + 1 + L, 0⟩]) (Blk.drew (Blk.new W1 (flat [⟨f + 1 + L, 0⟩]) 96)) (by simp)) (fun x cs h => by rw [k96_open h]; exact k96_mkM _ _ _ x) (fun _ h => h.elim) (fun _ _ => trivial) (HB1.out.trans ((Below.mono (B' := w.heap.size) · HB1.out.size) (by repeat (first | exact Below.refl _ _ | apply pw_below_drewN | apply below_drew | apply below_alloc)))) (by have := HB1.out.size; simp; omega) (by rw [HLN.out]; omega) ?_; intro v1 w1 ho hb hg hat))
      all_goals
        have HO := Aside0.mk ho
        have HBN := Aside0.mk hb
        clear ho hb hg hat z0 z1
        go_wp2
        go_roundw
        case rel => exact ⟨k + 1, _, by go_num, by omega, HP2, HO.out, HBN.out⟩
        case measure => simp [intOf]; omega
    · obtain ⟨g, cap, rfl, hg0, hg1, cells, hcells⟩ := Kd.R_form hR (by omega)
      have hC := (Kd.R_reads' hR).2.2
      have hcap := (Kd.R_reads' hR).2.1
      obtain ⟨H, hH⟩ : ∃ H, 1000 + hz % 999999001 = H := ⟨_, rfl⟩
      have q1 : IntKind.u64.wrap (1000 + (hz : Int) % 999999001) = (H : Int) := by rw [IntKind.wrap_u64]; omega
      have hm64 : maskN 64 = 18446744073709551615 := by decide +kernel
      have NC : Aside0 (Calls Try.prog 49 #[.int .u64 H, .int .i64 64, .int .u64 0, .slice (some ⟨g, 0, none⟩) xs.length cap] wr (NewOk H 18446744073709551615 0 xs wr)) := ⟨by
        have h := new_ok H 64 0 ⟨g, 0, none⟩ cap xs wr (by omega) (by omega) (by omega) (by omega) (Nat.zero_le _) (by omega) hC hcap HP.out.val
        rw [hm64] at h
        exact h⟩
      have HBW := Aside0.mk hB
      have HHH := Aside0.mk hH
      clear hR hC hcap hB hcells hm64 hH hlen
      rcases (show ¬ k < lasts.length ∨ (k < lasts.length ∧ ¬ k < offs.length) ∨ (k < lasts.length ∧ k < offs.length ∧ ¬ k < 10) by omega) with c | ⟨c, d⟩ | ⟨c, d, e⟩
      · have t1 : decide (k < lasts.length) = false := by simp; omega
        clear hall c
        go_wp2_with (go_at_call 49; (with_reducible refine NC.out.mono ?_); rintro e w2 ⟨g2, rfl, hs, hg2, hb2⟩; have HS := Aside0.mk hs; have HB2 := Aside0.mk hb2; clear hs hg2 hb2)
        go_ret
        exact ⟨g2, xs, rfl, by rw [HHH.out]; exact HS.out, HBW.out.trans (HB2.out.mono HBW.out.size)⟩
      · have t1 : decide (k < lasts.length) = true := by simp; omega
        have t2 : decide (k < offs.length) = false := by simp; omega
        clear hall c d
        go_wp2_with (go_at_call 49; (with_reducible refine NC.out.mono ?_); rintro e w2 ⟨g2, rfl, hs, hg2, hb2⟩; have HS := Aside0.mk hs; have HB2 := Aside0.mk hb2; clear hs hg2 hb2)
        go_ret
        exact ⟨g2, xs, rfl, by rw [HHH.out]; exact HS.out, HBW.out.trans (HB2.out.mono HBW.out.size)⟩
      · have t1 : decide (k < lasts.length) = true := by simp; omega
        have t2 : decide (k < offs.length) = true := by simp; omega
        have t3 : decide ((k : Int) < 10) = false := by simp; omega
        clear hall c d e
        go_wp2_with (go_at_call 49; (with_reducible refine NC.out.mono ?_); rintro e w2 ⟨g2, rfl, hs, hg2, hb2⟩; have HS := Aside0.mk hs; have HB2 := Aside0.mk hb2; clear hs hg2 hb2)
        go_ret
        exact ⟨g2, xs, rfl, by rw [HHH.out]; exact HS.out, HBW.out.trans (HB2.out.mono HBW.out.size)⟩
end Go.Proofs.Ytdlhmabjgbiagaa.Sky
