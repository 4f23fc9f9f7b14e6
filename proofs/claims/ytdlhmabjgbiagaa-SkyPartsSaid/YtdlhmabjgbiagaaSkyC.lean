/-
  Contract of Sky.Ticks: the ticks at a true time, for a sky that may be.
-/
import Derived.Test.YtdlhmabjgbiagaaSkyB
import Derived.Deep.RegionHeld3
namespace Go.Proofs.Ytdlhmabjgbiagaa.Sky
open Go.RowKit Go.Proofs.Ytdlhmabjgbiagaa.Blk Go.Proofs.YtdlhmabjgbiagaaW.PrintWords Go.Proofs.YtdlhmabjgbiagaaW.PrintLast Go.Proofs.YtdlhmabjgbiagaaW.PrintMore
open Go.Proofs.Ytdlhmabjgbiagaa.PSkyGoes
set_option linter.unusedVariables false
set_option linter.unusedSimpArgs false

def fr (l : List S96) (k : Nat) : Int := (rd_T96 l k).f0
def of (l : List S96) (k : Nat) : Int := (rd_T96 l k).f1
def Vld (l : List S96) : Prop := Valid (fr l) (of l) l.length

/-- A sky in memory. -/
structure SkyAt (w : World) (g : Nat) (h mask first : Nat) (l : List S96) : Prop where
  blk : ∃ A c, Blk w g [.int .u64 h, .int .u64 mask, .int .u64 first, .slice A l.length c] 133 ∧ l.length ≤ c ∧ Kd.C k96 w A l.length l
  hh : 0 < h ∧ h ≤ 1000000000
  val : Vld l
theorem SkyAt.below {w w' : World} {g h mask first : Nat} {l : List S96} (s : SkyAt w g h mask first l) (hb : Below w.heap.size w w') : SkyAt w' g h mask first l := by
  obtain ⟨A, c, b, hc, hk⟩ := s.blk
  exact ⟨⟨A, c, b.below hb b.lt, hc, Kd.C_below hk hb⟩, s.hh, s.val⟩

def tickz (h : Nat) (l : List S96) (t : Int) : Int := ticksF h (fr l) (of l) l.length t

theorem new_cell2 {W1 w2 : World} {a b : Value} {t n : Nat} (h1 : Blk W1 n [a, b] t) (hb : Below W1.heap.size W1 w2) :
    w2.cell? ⟨n, 0, none⟩ = some a ∧ w2.cell? ⟨n, 1, none⟩ = some b ∧ w2.frozen? ⟨n, 0, none⟩ = false ∧ w2.frozen? ⟨n, 1, none⟩ = false := by
  have h := h1.below hb h1.lt
  exact ⟨h.cell (j := 0) rfl, h.cell (j := 1) rfl, h.frozen 0, h.frozen 1⟩
theorem cell_al {w : World} {a : Addr} {v : Value} (o : Obj) (h : w.cell? a = some v) : (w.alloc o).cell? a = some v :=
  (World.cell?_alloc_lt w o a (World.block_lt_of_cell? w a h)).trans h

theorem ret_u64 {a c : Int} (h : a = c) : Ending.returned (.int .u64 a) = .returned (.int .u64 c) := by rw [h]

set_option maxRecDepth 100000 in
set_option maxHeartbeats 4000000 in
theorem ticks_calls (g h mask first : Nat) (l : List S96) (t : Int) (w : World) (hs : SkyAt w g h mask first l) :
    Calls Try.prog 44 #[.pointer (some ⟨g, 0, none⟩), .int .i64 t] w fun e w' => e = .returned (.int .u64 (tickz h l t)) ∧ Below w.heap.size w w' := by
  obtain ⟨A, c, hb, hc, hk⟩ := hs.blk
  obtain ⟨hh0, hh1⟩ := hs.hh
  have hv := hs.val
  have hlt := hb.lt
  have c0 := hb.cell (j := 0) rfl
  have c3 := hb.cell (j := 3) rfl
  have HB := Aside0.mk hb
  have HK := Aside0.mk hk
  have HV := Aside0.mk hv
  have HT := Aside0.mk (And.intro (clampT_lo t) (clampT_hi t))
  obtain ⟨T, hT⟩ : ∃ T, clampT t = T := ⟨_, rfl⟩
  have HTT := Aside0.mk hT
  have hml : l.length ≤ 9223372036854775807 := hk.2.1
  have TC := Aside0.mk (fun W => time_calls t W)
  rw [hT] at TC HT
  clear hs hb hk hv hT
  go_enter Try.func44, Try.ntmps44
  go_wp2_with (first | (go_at_call 85; refine (none_calls g h _ c0 (by omega)).mono ?_; rintro e w' ⟨rfl, rfl⟩) | (go_at_call 86; refine (TC.out _).mono ?_; rintro e w' ⟨rfl, rfl⟩))
  go_loopw [21] (fun v21 wr => ∃ k n0 n1 : Nat, v21 = .int .i64 k ∧ k ≤ l.length ∧ Blk wr w.heap.size [.int .u64 n0, .int .u64 n1] 131 ∧ Below w.heap.size w wr ∧
      Aside0 (n0 < 18446744073709551616 ∧ n1 < 18446744073709551616 ∧ ((n0 * 18446744073709551616 + n1 : Nat) : Int) = paced (fr l) (of l) l.length T k)) (fun v21 _ => l.length - (intOf v21).toNat)
  case atStart => exact ⟨0, 0, 0, rfl, Nat.zero_le _, Blk.new w [.int .u64 0, .int .u64 0] 131, (Below.refl _ _).alloc (Nat.le_refl _) _, ⟨by omega, by omega, rfl⟩⟩
  case round =>
    obtain ⟨k, n0, n1, rfl, hkl, hP, hB, HN⟩ := hrel
    by_cases hlt2 : k < l.length
    · obtain ⟨ad, rfl, hf0, hf1⟩ := at_T96 (Kd.C_below HK.out hB) (k : Int) (by omega) (by omega)
      simp only [Int.toNat_natCast] at hf0 hf1
      have r3 := (HB.out.below hB hlt).cell (j := 3) rfl
      have r3a := fun o => cell_al o r3
      obtain ⟨E, hE⟩ : ∃ E, upTo (fr l) l.length T (k + 1) = E := ⟨_, rfl⟩
      obtain ⟨a1, a2⟩ := HV.out.off k hlt2
      have a3 := HV.out.nonneg k hlt2
      have a4 := HV.out.top k hlt2
      have a5 := upTo_le (fr l) l.length T (k + 1)
      have a6 := paced_bound HV.out HT.out.1 HT.out.2 (k + 1) hlt2
      rw [hE] at a5
      obtain ⟨f, hf⟩ : ∃ f, (rd_T96 l (k : Int)).f0 = f := ⟨_, rfl⟩
      obtain ⟨o, ho⟩ : ∃ o, (rd_T96 l (k : Int)).f1 = o := ⟨_, rfl⟩
      rw [hf] at hf0
      rw [ho] at hf1
      have hpart : part (fr l) (of l) l.length T k = if f < E then (E - f) * (1000000000 + o) else 0 := by
        unfold part
        rw [hE]
        show (if (rd_T96 l (k : Int)).f0 < E then (E - (rd_T96 l (k : Int)).f0) * (1000000000 + (rd_T96 l (k : Int)).f1) else 0) = _
        rw [hf, ho]
      replace a1 : -500000 ≤ o := by rw [← ho]; exact a1
      replace a2 : o ≤ 500000 := by rw [← ho]; exact a2
      replace a3 : 0 ≤ f := by rw [← hf]; exact a3
      replace a4 : f ≤ 4503599627370496 := by rw [← hf]; exact a4
      have hT1 := HT.out.2
      -- which end
      have hend : (k + 1 < l.length ∧ ∃ f2, (rd_T96 l ((k : Int) + 1)).f0 = f2 ∧ min T f2 = E) ∨ (¬ k + 1 < l.length ∧ T = E) := by
        by_cases hk1 : k + 1 < l.length
        · refine .inl ⟨hk1, _, rfl, ?_⟩
          rw [← hE]
          unfold upTo
          rw [if_pos hk1]
          show min T (rd_T96 l ((k : Int) + 1)).f0 = if T ≤ (rd_T96 l (((k + 1 : Nat)) : Int)).f0 then T else (rd_T96 l (((k + 1 : Nat)) : Int)).f0
          rw [show (((k + 1 : Nat)) : Int) = (k : Int) + 1 by omega]
          split <;> omega
        · refine .inr ⟨hk1, ?_⟩
          rw [← hE]
          unfold upTo
          rw [if_neg hk1]
      have HP := Aside0.mk hP
      by_cases hfE : f < E
      · rw [if_pos hfE] at hpart
        obtain ⟨x, hx⟩ : ∃ x : Nat, (x : Int) = E - f := ⟨(E - f).toNat, by omega⟩
        obtain ⟨y, hy⟩ : ∃ y : Nat, (y : Int) = 1000000000 + o := ⟨(1000000000 + o).toNat, by omega⟩
        have q1 : IntKind.u64.wrap (wrap64 (E - f)) = (x : Int) := by rw [hx, IntKind.wrap_u64]; unfold wrap64; omega
        have q2 : IntKind.u64.wrap (wrap64 (1000000000 + o)) = (y : Int) := by rw [hy, IntKind.wrap_u64]; unfold wrap64; omega
        obtain ⟨N, hN⟩ : ∃ N, n0 * 18446744073709551616 + n1 + x * y = N := ⟨_, rfl⟩
        have hNp : (N : Int) = paced (fr l) (of l) l.length T (k + 1) := by
          simp only [paced]
          rw [hpart, ← HN.out.2.2, ← hx, ← hy, ← hN]
          simp
        have hNb : N ≤ 4505851427184181248000000 := by omega
        obtain ⟨m0, hm0⟩ : ∃ m0, N / 18446744073709551616 = m0 := ⟨_, rfl⟩
        obtain ⟨m1, hm1⟩ : ∃ m1, N % 18446744073709551616 = m1 := ⟨_, rfl⟩
        have PC := fun W => plus_calls n0 n1 x y N W HN.out.1 HN.out.2.1 (by omega) (by omega) hN (by omega)
        rw [hm0, hm1] at PC
        have PC := Aside0.mk PC
        have HM : Aside0 (m0 < 18446744073709551616 ∧ m1 < 18446744073709551616 ∧ ((m0 * 18446744073709551616 + m1 : Nat) : Int) = paced (fr l) (of l) l.length T (k + 1)) := ⟨by omega, by omega, by rw [← hNp]; omega⟩
        have tE : decide (f < E) = true := by simp; omega
        have keep : ∀ (o : Obj) (w2 : World), Below (wr.alloc o).heap.size (wr.alloc o) w2 → w2.cell? ⟨w.heap.size, 0, none⟩ = some (.int .u64 n0) ∧ w2.cell? ⟨w.heap.size, 1, none⟩ = some (.int .u64 n1) ∧ w2.frozen? ⟨w.heap.size, 0, none⟩ = false ∧ w2.frozen? ⟨w.heap.size, 1, none⟩ = false ∧
            Blk ((w2.setCell ⟨w.heap.size, 0, none⟩ (.int .u64 m0)).setCell ⟨w.heap.size, 1, none⟩ (.int .u64 m1)) w.heap.size [.int .u64 m0, .int .u64 m1] 131 ∧ Below w.heap.size w ((w2.setCell ⟨w.heap.size, 0, none⟩ (.int .u64 m0)).setCell ⟨w.heap.size, 1, none⟩ (.int .u64 m1)) := by
          intro o w2 h2
          have h3 := ((hP.alloc o).below h2 (hP.alloc o).lt)
          exact ⟨h3.cell (j := 0) rfl, h3.cell (j := 1) rfl, h3.frozen 0, h3.frozen 1, (h3.set 0 _).set 1 _, (((hB.alloc hB.size o).trans (h2.mono (by have := hB.size; simp; omega))).setCell (by simp) _).setCell (by simp) _⟩
        have KEEP := Aside0.mk keep
        clear keep hpart hx hy hN hNp hNb hm0 hm1 a1 a2 a3 a4 a5 a6 hT1 hE hP hfE
        rcases hend with ⟨hk1, f2, hf2, hE⟩ | ⟨hk1, rfl⟩
        · obtain ⟨ad2, hh2, hg0, hg1⟩ := at_T96 (Kd.C_below HK.out hB) ((k + 1 : Nat) : Int) (by omega) (by omega)
          obtain rfl := Option.some.inj hh2
          simp only [Int.toNat_natCast] at hg0 hg1
          rw [show (((k + 1 : Nat)) : Int) = (k : Int) + 1 by omega, hf2] at hg0
          have g0a := fun o => cell_al o hg0
          have t1 : decide (k + 1 < l.length) = true := by simp; omega
          have p0 := HP.out.cell (j := 0) rfl
          have p1 := HP.out.cell (j := 1) rfl
          have p0a := fun o => cell_al o p0
          have p1a := fun o => cell_al o p1
          go_wp2_with (go_at_call 87; refine (PC.out _).mono ?_; rintro e w2 ⟨rfl, hb2⟩; obtain ⟨d0, d1, d2, d3, D4, D5⟩ := KEEP.out _ _ hb2; have D4 := Aside0.mk D4; have D5 := Aside0.mk D5)
          go_roundw
          case rel => exact ⟨k + 1, m0, m1, by go_num, by omega, D4.out, D5.out, HM⟩
          case measure => simp [intOf]; omega
        · have t1 : decide (k + 1 < l.length) = false := by simp; omega
          have p0 := HP.out.cell (j := 0) rfl
          have p1 := HP.out.cell (j := 1) rfl
          have p0a := fun o => cell_al o p0
          have p1a := fun o => cell_al o p1
          go_wp2_with (go_at_call 87; refine (PC.out _).mono ?_; rintro e w2 ⟨rfl, hb2⟩; obtain ⟨d0, d1, d2, d3, D4, D5⟩ := KEEP.out _ _ hb2; have D4 := Aside0.mk D4; have D5 := Aside0.mk D5)
          go_roundw
          case rel => exact ⟨k + 1, m0, m1, by go_num, by omega, D4.out, D5.out, HM⟩
          case measure => simp [intOf]; omega
      · rw [if_neg hfE] at hpart
        have HM : Aside0 (n0 < 18446744073709551616 ∧ n1 < 18446744073709551616 ∧ ((n0 * 18446744073709551616 + n1 : Nat) : Int) = paced (fr l) (of l) l.length T (k + 1)) := ⟨HN.out.1, HN.out.2.1, by
          simp only [paced]
          rw [hpart, ← HN.out.2.2]
          simp⟩
        have tE : decide (f < E) = false := by simp; omega
        have D4 := Aside0.mk (fun o => hP.alloc o)
        have D5 := Aside0.mk (fun o => hB.alloc hB.size o)
        clear hpart a1 a2 a3 a4 a5 a6 hT1 hE hP hfE
        rcases hend with ⟨hk1, f2, hf2, hE⟩ | ⟨hk1, rfl⟩
        · obtain ⟨ad2, hh2, hg0, hg1⟩ := at_T96 (Kd.C_below HK.out hB) ((k + 1 : Nat) : Int) (by omega) (by omega)
          obtain rfl := Option.some.inj hh2
          simp only [Int.toNat_natCast] at hg0 hg1
          rw [show (((k + 1 : Nat)) : Int) = (k : Int) + 1 by omega, hf2] at hg0
          have g0a := fun o => cell_al o hg0
          have t1 : decide (k + 1 < l.length) = true := by simp; omega
          go_wp2_with fail
          go_roundw
          case rel => exact ⟨k + 1, n0, n1, by go_num, by omega, D4.out _, D5.out _, HM⟩
          case measure => simp [intOf]; omega
        · have t1 : decide (k + 1 < l.length) = false := by simp; omega
          go_wp2_with fail
          go_roundw
          case rel => exact ⟨k + 1, n0, n1, by go_num, by omega, D4.out _, D5.out _, HM⟩
          case measure => simp [intOf]; omega
    · obtain rfl : k = l.length := by omega
      obtain ⟨P, hPP⟩ : ∃ P, n0 * 18446744073709551616 + n1 = P := ⟨_, rfl⟩
      have hb1 := paced_bound HV.out HT.out.1 HT.out.2 l.length (Nat.le_refl _)
      obtain ⟨u1, u2, u3⟩ := HN.out
      rw [hPP] at u3
      have hPb : P ≤ 4505851427184181248000000 := by omega
      have hPh := Nat.mul_le_mul hPb hh1
      have hn0 := Nat.mul_le_mul (show n0 ≤ 244263 by omega) hh1
      obtain ⟨s0, hs0⟩ : ∃ s0, n0 * h = s0 := ⟨_, rfl⟩
      have q1 := wrap_mul n0 h s0 hs0 (by omega)
      have hN : s0 * 18446744073709551616 + 0 + n1 * h = P * h := by
        rw [← hPP, ← hs0, Nat.add_mul, Nat.mul_right_comm]; rfl
      obtain ⟨N, hNN⟩ : ∃ N, P * h = N := ⟨_, rfl⟩
      rw [hNN] at hN hPh
      obtain ⟨m0, hm0⟩ : ∃ m0, N / 18446744073709551616 = m0 := ⟨_, rfl⟩
      obtain ⟨m1, hm1⟩ : ∃ m1, N % 18446744073709551616 = m1 := ⟨_, rfl⟩
      have PC := fun W => plus_calls s0 0 n1 h N W (by omega) (by omega) u2 (by omega) (by simpa using hN) (by omega)
      rw [hm0, hm1] at PC
      have PC := Aside0.mk PC
      have hNm : m0 * 18446744073709551616 + m1 = N := by rw [← hm0, ← hm1, Nat.mul_comm]; exact Nat.div_add_mod _ _
      have DC := fun W => div64 m0 m1 1000000000000000000 W (by omega) (by omega) (by omega)
      rw [hNm] at DC
      have DC := Aside0.mk DC
      have hres : tickz h l t = ((N / 1000000000000000000 : Nat) : Int) := by
        unfold tickz ticksF
        rw [HTT.out, ← u3, ← hNN]
        simp
      obtain ⟨R, hR⟩ : ∃ R, N / 1000000000000000000 = R := ⟨_, rfl⟩
      rw [hR] at hres DC
      have HRES := Aside0.mk hres
      have hgr := HB.out.below hB hlt
      have KZ : Aside0 (∀ W w2 : World, Below wr.heap.size wr W → Below W.heap.size W w2 → (w2.cell? ⟨w.heap.size, 0, none⟩ = some (.int .u64 n0) ∧ w2.cell? ⟨w.heap.size, 1, none⟩ = some (.int .u64 n1) ∧ w2.cell? ⟨g, 0, none⟩ = some (.int .u64 h)) ∧ Below wr.heap.size wr w2) := ⟨by
        intro W w2 h1 h2
        have b1 := (hP.below h1 hP.lt)
        have b2 := b1.below h2 b1.lt
        have b3 := hgr.below h1 hgr.lt
        have b4 := b3.below h2 b3.lt
        exact ⟨⟨b2.cell (j := 0) rfl, b2.cell (j := 1) rfl, b4.cell (j := 0) rfl⟩, h1.trans (h2.mono h1.size)⟩⟩
      have p0 := hP.cell (j := 0) rfl
      have p1 := hP.cell (j := 1) rfl
      have pg := hgr.cell (j := 0) rfl
      have ne1 : wr.heap.size ≠ w.heap.size := Nat.ne_of_gt hP.lt
      have ne2 : wr.heap.size ≠ g := Nat.ne_of_gt hgr.lt
      have HBB := Aside0.mk hB
      clear hP hB hgr hPP hb1 u1 u2 u3 hPb hPh hn0 hs0 hN hNN hm0 hm1 hNm hres hR hlt2
      go_wp2
      go_region_held3 (fun w' => w'.cell? ⟨w.heap.size, 0, none⟩ = some (.int .u64 n0) ∧ w'.cell? ⟨w.heap.size, 1, none⟩ = some (.int .u64 n1) ∧ w'.cell? ⟨g, 0, none⟩ = some (.int .u64 h)) (go_keep) (first | (go_at_call 87; refine (PC.out _).mono ?_; rintro e w2 ⟨rfl, hb⟩; have dd := new_cell2 (n := wr.heap.size) (Blk.drew (Blk.new wr _ _)) hb; obtain ⟨d0, d1, d2, d3⟩ := dd; have c2 := KZ.out _ w2 (by repeat (first | exact Below.refl _ _ | apply pw_below_drewN | apply below_drew | apply below_alloc)) hb; obtain ⟨⟨c2, c3, c4⟩, hbz⟩ := c2) | (go_at_call 87; refine (PC.out _).mono ?_; rintro e w2 ⟨rfl, hb⟩; have c2 := KZ.out _ w2 (by repeat (first | exact Below.refl _ _ | apply pw_below_drewN | apply below_drew | apply below_alloc)) hb; obtain ⟨⟨c2, c3, c4⟩, hbz⟩ := c2))
      all_goals
        go_wp2_with (go_at_call 88; refine (DC.out _).mono ?_; rintro e w' ⟨rfl, ⟨nd, rfl⟩⟩)
        go_ret
        have hw := HBB.out.size
        have hbw := HBB.out.trans (hbz.mono hw)
        refine ⟨ret_u64 HRES.out.symm, ?_⟩
        repeat (first | exact hbw | apply pw_below_drewN | apply below_drew | (apply Below.setCell (hp := by simpa using hw)) | (apply Below.alloc (hB := hbw.size)))
end Go.Proofs.Ytdlhmabjgbiagaa.Sky
