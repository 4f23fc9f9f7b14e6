/-
  Contract of octet.Take: for every row of at most 10^9 sizes and all bytes within the reach.
-/
import Derived.Test.YtdlhmabjgbiagaaOct8
import Derived.Deep.RegionLaw
namespace Go.Proofs.Ytdlhmabjgbiagaa.Oct
open Go.RowKit Go.Shelf Go.Proofs.Ytdlhmabjgbiagaa.Blk Go.Proofs.YtdlhmabjgbiagaaW.PrintWords Go.Proofs.YtdlhmabjgbiagaaW.PrintLast Go.Proofs.YtdlhmabjgbiagaaW.PrintMore Go.Proofs.Ytdlhmabjgbiagaa.POctetRows
set_option linter.unusedVariables false
set_option linter.unusedSimpArgs false

/-- A part of what reads as a list reads as that part. -/
theorem C_sub {k : IntKind} {w : World} {a : Addr} {n : Nat} {l : List Int} (h : Kd.C (Kd.int k) w (some a) n l) (off z : Nat) (hz : off + z ≤ n) : Kd.C (Kd.int k) w (some (a.add off)) z ((l.drop off).take z) := by
  obtain ⟨hl, hm, hc⟩ := h
  refine ⟨by simp; omega, by omega, fun hp => ⟨_, rfl, fun j p hj => ?_⟩⟩
  obtain ⟨ad, e, hc⟩ := hc (by omega)
  cases e
  have hjz : j < z := by
    have := (List.getElem?_eq_some_iff.1 hj).1
    simp at this
    omega
  rw [List.getElem?_take_of_lt hjz, List.getElem?_drop] at hj
  obtain ⟨c, h1, h2, h3⟩ := hc (off + j) p hj
  refine ⟨c, h1, h2, fun i u hu => ?_⟩
  rw [addr_add]
  have := h3 i u hu
  have e2 : (off + j) * (Kd.int k).sz + i = off + (j * (Kd.int k).sz + i) := by
    have : (Kd.int k).sz = 1 := rfl
    rw [this]
    omega
  rw [e2] at this
  exact this
theorem own_C {k : IntKind} {w : World} {base e n : Nat} {v : Value} {xs : List Int} (h : w.ownsRow base e 1 v n (nums k xs)) : Kd.R (Kd.int k) e w base (fun _ => True) v xs := by
  have hl : xs.length = n := by have := h.1; simp [nums] at this; exact this
  subst hl
  exact Kd.R_of_own h (fun _ _ => trivial)

/-- The bytes of part k. -/
def partOf (sizes lb : List Int) (k : Nat) : List Int := (lb.drop (offs sizes k)).take (rd sizes k).toNat
/-- What the first k parts say. -/
def takeL (sizes lb : List Int) (k : Nat) : List Int := (List.range k).map fun j => valO (partOf sizes lb j)
theorem takeL_snoc (sizes lb : List Int) (k : Nat) : takeL sizes lb (k + 1) = takeL sizes lb k ++ [valO (partOf sizes lb k)] := by simp [takeL, List.range_succ]

set_option maxRecDepth 100000 in
set_option maxHeartbeats 1000000 in
theorem cut64_nil (As : Option Addr) (cs : Nat) (v : Value) (c0 : Value) (w : World) :
    Calls Try.prog 59 #[.slice As 0 cs, v, .func (.func 64) #[] #[c0]] w fun e w' => e = .returned (.tuple #[]) ∧ w = w' := by
  go_enter Try.func59, Try.ntmps59
  go_wp2
  refine wp_loop_rounds 1 ?_
  rw [rounds_succ]
  go_wp2
  go_end0
  exact ⟨rfl, rfl⟩

set_option maxRecDepth 100000 in
set_option maxHeartbeats 1000000 in
theorem take_bad (As : Option Addr) (cs : Nat) (sizes : List Int) (v : Value) (w : World)
    (hs : Kd.C (Kd.int .i64) w As sizes.length sizes) (hcs : sizes.length ≤ cs) (hb : sizes.any badB = true) :
    Calls Try.prog 15 #[.slice As sizes.length cs, v] w fun e w' => e = .returned (.tuple #[.slice none 0 0, .slice none 0 0, .int .i64 1]) ∧ Below w.heap.size w w' := by
  go_enter Try.func15, Try.ntmps15
  go_wp2_with (go_at_call 17; refine (width_bad As cs sizes _ hs hcs hb).mono ?_; rintro e w' ⟨rfl, ⟨nd, rfl⟩⟩)
  go_ret3
  exact ⟨rfl, pw_below_drewN (Below.refl _ _) _⟩

set_option maxRecDepth 100000 in
set_option maxHeartbeats 1000000 in
theorem take_short (As : Option Addr) (cs : Nat) (sizes : List Int) (A : Option Addr) (m c : Nat) (w : World)
    (hs : Kd.C (Kd.int .i64) w As sizes.length sizes) (hcs : sizes.length ≤ cs) (hb : sizes.any badB = false) (hlen : sizes.length ≤ 1000000000) (hm : m < offs sizes sizes.length) :
    Calls Try.prog 15 #[.slice As sizes.length cs, .slice A m c] w fun e w' => e = .returned (.tuple #[.slice none 0 0, .slice none 0 0, .int .i64 4]) ∧ Below w.heap.size w w' := by
  obtain ⟨hsum, hsb⟩ := sumW_offs sizes (good_of sizes hb) (by omega) sizes.length (Nat.le_refl _)
  have HU := Aside0.mk hsum
  have HS := Aside0.mk hs
  have HC := Aside0.mk hcs
  have HB := Aside0.mk hb
  clear hsum hs hcs hb
  have hd : decide ((m : Int) < (offs sizes sizes.length : Int)) = true := by simp; omega
  go_enter Try.func15, Try.ntmps15
  go_wp2_with (go_at_call 17; refine (width_ok As cs sizes _ HS.out HC.out HB.out).mono ?_; rw [HU.out]; rintro e w' ⟨rfl, ⟨nd, rfl⟩⟩)
  go_ret3
  exact ⟨rfl, pw_below_drewN (Below.refl _ _) _⟩

theorem partOf_length (sizes lb : List Int) (k : Nat) (hk : k < sizes.length) (hok : ∀ s ∈ sizes, 1 ≤ s ∧ s ≤ 8) (hm : offs sizes sizes.length ≤ lb.length) : (partOf sizes lb k).length = (rd sizes k).toNat ∧ offs sizes k + (rd sizes k).toNat ≤ lb.length := by
  have hz := hok _ (rd_mem sizes k hk)
  have ho1 := offs_succ sizes k hk (by omega)
  have ho2 := offs_mono sizes (k + 1) sizes.length (by omega) (fun s hs => (hok s hs).1)
  constructor
  · unfold partOf
    simp
    omega
  · omega

theorem mem_part {sizes lb : List Int} {k : Nat} {x : Int} (h : x ∈ partOf sizes lb k) : x ∈ lb := List.mem_of_mem_drop (List.mem_of_mem_take h)

theorem cut_take (As : Option Addr) (cs : Nat) (sizes : List Int) (A : Option Addr) (c : Nat) (lb : List Int) (Bl : Nat) (w W0 : World)
    (hs : Kd.C (Kd.int .i64) w As sizes.length sizes) (hcs : sizes.length ≤ cs) (hok : ∀ s ∈ sizes, 1 ≤ s ∧ s ≤ 8) (hlen : sizes.length ≤ 1000000000) (hm : offs sizes sizes.length ≤ lb.length)
    (hr : Kd.C (Kd.int .u8) w A lb.length lb) (hc : lb.length ≤ c) (hcm : c ≤ 9223372036854775807 ∧ lb.length ≤ 140737488355328) (hwf : ∀ x ∈ lb, 0 ≤ x ∧ x ≤ 255) (hl : Blk W0 Bl [.slice none 0 0] 23) (hB : Below w.heap.size w W0) (hBl : w.heap.size ≤ Bl) :
    Calls Try.prog 59 #[.slice As sizes.length cs, .slice A lb.length c, .func (.func 64) #[] #[.pointer (some ⟨Bl, 0, none⟩)]] W0 fun e W => e = .returned (.tuple #[]) ∧
      ∃ v, Blk W Bl [v] 23 ∧ W.ownsRow w.heap.size 40 1 v (takeL sizes lb sizes.length).length (nums .u64 (takeL sizes lb sizes.length)) ∧ Below w.heap.size w W := by
  rcases Nat.eq_zero_or_pos sizes.length with h0 | h0
  · obtain rfl := List.eq_nil_of_length_eq_zero h0
    refine (cut64_nil As cs _ _ W0).mono ?_
    rintro e W ⟨rfl, rfl⟩
    exact ⟨rfl, _, hl, World.ownsRow_nil _ _ _ _, hB⟩
  · have hz0 := hok _ (rd_mem sizes 0 h0)
    have ho1 := offs_succ sizes 0 h0 (by omega)
    have ho2 := offs_mono sizes 1 sizes.length (by omega) (fun s hs => (hok s hs).1)
    simp [offs_zero] at ho1
    have hz0' := hz0.1
    simp at hz0'
    obtain ⟨a0, e, _⟩ := Kd.at_int hr 0 (by omega) (by omega)
    subst e
    refine (cut64 As cs a0 lb.length c _ sizes W0 hcs hc (by omega) hok hm
      (fun k W => ∃ v, Blk W Bl [v] 23 ∧ W.ownsRow w.heap.size 40 1 v (takeL sizes lb k).length (nums .u64 (takeL sizes lb k)) ∧ Below w.heap.size w W) (fun _ _ => False) (fun k W h => by obtain ⟨_, _, _, h⟩ := h; exact Kd.C_below hs h) ?_ ⟨_, hl, World.ownsRow_nil _ _ _ _, hB⟩).mono ?_
    · rintro k W hk ⟨v, h1, h2, h3⟩
      obtain ⟨hp1, hp2⟩ := partOf_length sizes lb k hk hok hm
      have hz := hok _ (rd_mem sizes k hk)
      have hp : Kd.C (Kd.int .u8) W (some (a0.add (offs sizes k))) (partOf sizes lb k).length (partOf sizes lb k) := by
        rw [hp1]
        exact C_sub (Kd.C_below hr h3) _ _ hp2
      have := take1_calls (k : Int) (some (a0.add (offs sizes k))) (rd sizes k).toNat (partOf sizes lb k) Bl w.heap.size v (takeL sizes lb k) W (by omega) hp (fun x hx => hwf x (mem_part hx)) h1 h2 hBl (by simp [takeL]; omega)
      rw [hp1] at this
      refine this.mono ?_
      rintro e W' ⟨rfl, v1, g1, g2, g3⟩
      refine .inl ⟨rfl, v1, g1, ?_, h3.trans g3⟩
      rw [takeL_snoc]
      exact g2
    · rintro e W ⟨rfl, h | ⟨k, _, h⟩⟩
      · exact ⟨rfl, h⟩
      · exact h.elim

theorem C_zero {k : IntKind} (w : World) (A : Option Addr) : Kd.C (Kd.int k) w A 0 [] := ⟨rfl, by omega, fun h => absurd h (by omega)⟩
theorem C_tail {k : IntKind} {w : World} {a : Addr} {l : List Int} (h : Kd.C (Kd.int k) w (some a) l.length l) (n c : Nat) (hn : n ≤ l.length) (hc : l.length ≤ c) :
    Kd.C (Kd.int k) w (if c = n then some a else some (a.add n)) (l.drop n).length (l.drop n) := by
  by_cases e : c = n
  · have : l.drop n = [] := List.drop_eq_nil_of_le (by omega)
    rw [this]
    exact C_zero _ _
  · rw [if_neg e]
    have := C_sub h n (l.length - n) (by omega)
    rwa [List.take_of_length_le (by simp), show l.length - n = (l.drop n).length by simp] at this
theorem run_tail (a : Addr) (m c n : Nat) (hn : n ≤ m) (hc : m ≤ c) (hm : c ≤ 9223372036854775807) (w : World) :
    (Instr.slice 24 (.slice (some a) m c) (some (.int .i64 (n : Int))) none none).run Try.prog w = .ok (.slice (if c = n then some a else some (a.add n)) (m - n) (c - n)) w := by
  have h1 : (n : Int) ≤ (m : Int) := by omega
  have h2 : (m : Int) ≤ (c : Int) := by omega
  have h3 : (c : Int) ≤ 9223372036854775807 := by omega
  go_simp
theorem tail_any (A : Option Addr) (c n : Nat) (lb : List Int) (w : World) (hr : Kd.C (Kd.int .u8) w A lb.length lb) (hn : n ≤ lb.length) (hc : lb.length ≤ c) (hcm : c ≤ 9223372036854775807 ∧ lb.length ≤ 140737488355328) :
    ∃ A', (∀ W, (Instr.slice 24 (.slice A lb.length c) (some (.int .i64 (n : Int))) none none).run Try.prog W = .ok (.slice A' (lb.length - n) (c - n)) W) ∧ Kd.C (Kd.int .u8) w A' (lb.drop n).length (lb.drop n) := by
  cases A with
  | none =>
    obtain rfl := C_none hr
    obtain rfl : n = 0 := by simpa using hn
    refine ⟨none, fun W => ?_, hr⟩
    have h3 : (c : Int) ≤ 9223372036854775807 := by omega
    go_simp
  | some a => exact ⟨_, fun W => run_tail a _ c n hn hc hcm.1 W, C_tail hr n c hn hc⟩

set_option maxRecDepth 100000 in
set_option maxHeartbeats 2000000 in
theorem take_ok (As : Option Addr) (cs : Nat) (sizes : List Int) (A : Option Addr) (c : Nat) (lb : List Int) (w : World)
    (hs : Kd.C (Kd.int .i64) w As sizes.length sizes) (hcs : sizes.length ≤ cs) (hb : sizes.any badB = false) (hlen : sizes.length ≤ 1000000000) (hm : offs sizes sizes.length ≤ lb.length)
    (hr : Kd.C (Kd.int .u8) w A lb.length lb) (hc : lb.length ≤ c) (hcm : c ≤ 9223372036854775807 ∧ lb.length ≤ 140737488355328) (hwf : ∀ x ∈ lb, 0 ≤ x ∧ x ≤ 255) :
    Calls Try.prog 15 #[.slice As sizes.length cs, .slice A lb.length c] w fun e w' => ∃ v0 v1, e = .returned (.tuple #[v0, v1, .int .i64 0]) ∧
      Kd.R (Kd.int .u64) 40 w' w.heap.size (fun _ => True) v0 (takeL sizes lb sizes.length) ∧ Kd.R (Kd.int .u8) 5 w' w.heap.size (fun _ => True) v1 (lb.drop (offs sizes sizes.length)) ∧ Below w.heap.size w w' := by
  have hok := good_of sizes hb
  obtain ⟨hsum, hsb⟩ := sumW_offs sizes hok (by omega) sizes.length (Nat.le_refl _)
  have HU := Aside0.mk hsum
  have HS := Aside0.mk hs
  have HC := Aside0.mk hcs
  have HB := Aside0.mk hb
  have HO := Aside0.mk hok
  have HR := Aside0.mk hr
  have HW := Aside0.mk hwf
  have HM := Aside0.mk hm
  clear hsum hs hcs hb hok hr hwf
  obtain ⟨n, hno⟩ : ∃ n, offs sizes sizes.length = n := ⟨_, rfl⟩
  rw [hno] at hm hsb ⊢
  have HNO := Aside0.mk hno
  clear hno
  have hd : decide ((lb.length : Int) < (n : Int)) = false := by simp; omega
  have hnc : (n : Int) ≤ (lb.length : Int) := by omega
  have hnc' : n ≤ lb.length := hm
  go_enter Try.func15, Try.ntmps15
  go_wp2_with (go_at_call 17; refine (width_ok As cs sizes _ HS.out HC.out HB.out).mono ?_; rw [HU.out, HNO.out]; rintro e w' ⟨rfl, ⟨nd, rfl⟩⟩)
  refine (cut_take As cs sizes A c lb w.heap.size w _ HS.out HC.out HO.out hlen HM.out HR.out hc hcm HW.out (Blk.new (w.drewN nd) _ _) (below_alloc (pw_below_drewN (Below.refl _ _) _) _) (Nat.le_refl _)).mono ?_
  rintro e W ⟨rfl, v, hl, ho, hB⟩
  obtain ⟨A', hrun, hC⟩ := tail_any A c n lb w HR.out hnc' hc hcm
  have hcall : ∀ W, Below w.heap.size w W → Calls Try.prog 66 #[.slice A' (lb.length - n) (c - n)] W fun e w' => ∃ v, e = .returned v ∧ Kd.R (Kd.int .u8) 5 w' W.heap.size (fun _ => True) v (lb.drop n) ∧ Below W.heap.size W w' := by
    intro W hW
    have := clone66 A' (c - n) (lb.drop n) W (Kd.C_below hC hW) (by simp; omega)
    rwa [show (lb.drop n).length = lb.length - n by simp] at this
  have HCL := Aside0.mk hcall
  clear hcall hC
  have c1 := hl.cell (j := 0) rfl
  have k1 : ∀ w2 : World, Below W.heap.size W w2 → w2.cell? ⟨w.heap.size, 0, none⟩ = some v := fun w2 h => (hl.below h hl.lt).cell (j := 0) rfl
  have K1 := Aside0.mk k1
  clear k1
  have HOW := Aside0.mk ho
  have HBW := Aside0.mk hB
  have HLW := Aside0.mk hl
  clear ho hB hl
  go_wp2
  go_region_law (refine step_call (by rfl) Try.func66 (by kernel_rfl) rfl #[.slice A' (lb.length - n) (c - n)] (by rfl) (by simp only [List.map_toArray, List.map_cons, List.map_nil]; rfl) ?_; refine (HCL.out _ (below_drew HBW.out)).mono ?_; rintro e w2 ⟨v2, rfl, hR2, hB2⟩; refine ⟨_, rfl, ?_⟩; have c2 := K1.out w2 ⟨hB2.os, hB2.tape, hB2.output, hB2.size, hB2.block⟩; have HR2 := Aside0.mk hR2; have HB2 := Aside0.mk hB2; clear hR2 hB2)
  all_goals
    have hW3 : Below W.heap.size W w2 := ⟨HB2.out.os, HB2.out.tape, HB2.out.output, HB2.out.size, HB2.out.block⟩
    have HF := Aside0.mk (own_C (pw_own_below HOW.out hW3))
    have HG := Aside0.mk (HBW.out.trans (hW3.mono HBW.out.size))
    have hsz : w.heap.size ≤ W.heap.size := HBW.out.size
    clear c1 c2 hW3 hrun
    go_wp2
    go_ret3
    exact ⟨_, _, rfl, HF.out, Kd.R_lower HR2.out hsz, HG.out⟩
end Go.Proofs.Ytdlhmabjgbiagaa.Oct
