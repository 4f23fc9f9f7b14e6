/-
  Contract of sky.New where what is asked for may be.
-/
import Derived.Test.YtdlhmabjgbiagaaSkyG
namespace Go.Proofs.Ytdlhmabjgbiagaa.Sky
open Go.RowKit Go.Proofs.Ytdlhmabjgbiagaa.Blk Go.Proofs.YtdlhmabjgbiagaaW.PrintWords Go.Proofs.YtdlhmabjgbiagaaW.PrintLast Go.Proofs.YtdlhmabjgbiagaaW.PrintMore
open Go.Proofs.Ytdlhmabjgbiagaa.PSkyGoes
set_option linter.unusedVariables false
set_option linter.unusedSimpArgs false

theorem anyB_false {l : List S96} : ∀ n, (anyB l n = false ↔ ∀ k, k < n → badAt l k = false)
  | 0 => by simp [anyB]
  | n + 1 => by
    simp only [anyB, Bool.or_eq_false_iff, anyB_false n]
    constructor
    · rintro ⟨h1, h2⟩ k hk
      rcases Nat.lt_or_ge k n with h | h
      · exact h1 k h
      · obtain rfl : k = n := by omega
        exact h2
    · intro h
      exact ⟨fun k hk => h k (by omega), h n (by omega)⟩
theorem abs_small (o : Int) (h0 : -9223372036854775808 ≤ o) (h1 : o ≤ 9223372036854775807) : absI o ≤ 500000 ↔ -500000 ≤ o ∧ o ≤ 500000 := by
  unfold absI
  split
  · constructor <;> intro h <;> omega
  · split <;> constructor <;> intro h <;> omega
theorem badP_false (b f o : Int) (h0 : -9223372036854775808 ≤ o) (h1 : o ≤ 9223372036854775807) : badP b f o = false ↔ b < f ∧ (b < 0 → f = 0) ∧ f ≤ 4503599627370496 ∧ -500000 ≤ o ∧ o ≤ 500000 := by
  rw [← abs_small o h0 h1]
  unfold badP
  simp only [Bool.or_eq_false_iff, decide_eq_false_iff_not, Bool.and_eq_false_iff, Bool.not_eq_false', beq_iff_eq]
  constructor
  · rintro ⟨⟨⟨h2, h3⟩, h4⟩, h5⟩
    exact ⟨by omega, fun h => by rcases h3 with h3 | h3 <;> omega, by omega, by omega⟩
  · rintro ⟨h2, h3, h4, h5⟩
    refine ⟨⟨⟨by omega, ?_⟩, by omega⟩, by omega⟩
    rcases Int.lt_or_le b 0 with h | h
    · exact .inr (h3 h)
    · exact .inl (by omega)
theorem vld_iff {l : List S96} (hi : InI64 l) (h0 : 0 < l.length) : anyB l l.length = false ↔ Vld l := by
  rw [anyB_false]
  constructor
  · intro h
    have key : ∀ k, k < l.length → (if k = 0 then -1 else fr l (k - 1)) < fr l k ∧ ((if k = 0 then -1 else fr l (k - 1)) < 0 → fr l k = 0) ∧ fr l k ≤ 4503599627370496 ∧ -500000 ≤ of l k ∧ of l k ≤ 500000 :=
      fun k hk => (badP_false _ _ _ (hi k hk).1 (hi k hk).2).1 (h k hk)
    refine ⟨h0, ?_, fun i hi2 => ?_, fun i hi2 => (key i hi2).2.2.1, fun i hi2 => (key i hi2).2.2.2⟩
    · exact (key 0 h0).2.1 (by simp)
    · have := (key (i + 1) hi2).1
      rw [if_neg (by omega), Nat.add_sub_cancel] at this
      exact this
  · intro v k hk
    refine (badP_false _ _ _ (hi k hk).1 (hi k hk).2).2 ⟨?_, ?_, v.top k hk, v.off k hk⟩
    · by_cases c : k = 0
      · subst c
        rw [if_pos rfl, v.zero]; omega
      · rw [if_neg c]
        have := v.asc (k - 1) (by omega)
        rw [Nat.sub_add_cancel (by omega)] at this
        exact this
    · by_cases c : k = 0
      · subst c
        intro _
        exact v.zero
      · rw [if_neg c]
        intro hlt
        have := v.nonneg (k - 1) (by omega)
        omega
theorem Vld.inI64 {l : List S96} (v : Vld l) : InI64 l := fun k hk => by have := v.off k hk; omega

def maskN (b : Nat) : Nat := 18446744073709551615 / 2 ^ (64 - b)
def NewOk (h mask first : Nat) (l : List S96) (w : World) (e : Ending) (w' : World) : Prop := ∃ g, e = .returned (.tuple #[.pointer (some ⟨g, 0, none⟩), .int .i64 0]) ∧ SkyAt w' g h mask first l ∧ w.heap.size ≤ g ∧ Below w.heap.size w w'

set_option maxRecDepth 100000 in
set_option maxHeartbeats 4000000 in
theorem new_ok (h b first : Nat) (ad : Addr) (c : Nat) (l : List S96) (w : World) (hh0 : 0 < h) (hh1 : h ≤ 1000000000) (hb0 : 8 ≤ b) (hb1 : b ≤ 64) (hf : first ≤ maskN b)
    (hl : l.length ≤ 64) (hr : Kd.C k96 w (some ad) l.length l) (hc : l.length ≤ c) (hv : Vld l) :
    Calls Try.prog 49 #[.int .u64 h, .int .i64 b, .int .u64 first, .slice (some ad) l.length c] w (NewOk h (maskN b) first l w) := by
  have hl0 := hv.pos
  have t1 : decide ((h : Int) < 1) = false := by simp; omega
  have t2 : decide (1000000000 < (h : Int)) = false := by simp; omega
  have t3 : decide ((b : Int) < 8) = false := by simp; omega
  have t4 : decide (64 < (b : Int)) = false := by simp; omega
  have t5 : decide ((l.length : Int) < 1) = false := by simp; omega
  have t6 : decide (64 < (l.length : Int)) = false := by simp; omega
  obtain ⟨M, hM⟩ : ∃ M, maskN b = M := ⟨_, rfl⟩
  have q1 : (18446744073709551615 : Int) / 2 ^ (64 - b) = (M : Int) := by rw [← hM]; unfold maskN; simp
  rw [hM] at hf ⊢
  have t7 : decide (M < first) = false := by simp; omega
  have CC : Aside0 (∀ W, Blk W w.heap.size [.int .i64 (-1)] 2 → Below w.heap.size w W → Calls Try.prog 95 #[.slice (some ad) l.length c, .func (.func 93) #[] #[.pointer (some ⟨w.heap.size, 0, none⟩)]] W fun e w' => e = .returned (.bool false) ∧ Below w.heap.size w w') := ⟨fun W h1 h2 => by
    have k := contains_calls (some ad) c l w.heap.size w W hr hc hv.inI64 h1 h2 (Nat.le_refl _)
    rw [(vld_iff hv.inI64 hl0).2 hv] at k
    exact k⟩
  have LC : Aside0 (∀ W, Below w.heap.size w W → Calls Try.prog 96 #[.slice (some ad) l.length c] W fun e w' => ∃ A2 c2, e = .returned (.slice A2 l.length c2) ∧ l.length ≤ c2 ∧ Kd.C k96 w' A2 l.length l ∧ Below w.heap.size w w') := ⟨fun W h2 => by
    refine (clone96 ad c l W (Kd.C_below hr h2) (by omega)).mono ?_
    rintro e w' ⟨v, rfl, hR, hb⟩
    obtain ⟨A2, c2, rfl, h3, h4⟩ := Kd.R_reads hR
    exact ⟨A2, c2, rfl, h3, h4, h2.trans (hb.mono h2.size)⟩⟩
  have HV := Aside0.mk hv
  have HH := Aside0.mk (And.intro hh0 hh1)
  have hml := hr.2.1
  clear hh0 hh1 hf hr hc hv hl0 hM
  go_enter Try.func49, Try.ntmps49
  go_wp2_with (first | (go_at_call 95; refine (CC.out _ (Blk.new w [.int .i64 (-1)] 2) (below_alloc (Below.refl _ _) _)).mono ?_; rintro e w2 ⟨rfl, hb2⟩) | (go_at_call 96; refine (LC.out _ hb2).mono ?_; rintro e w3 ⟨A2, c2, rfl, h3, h4, hb3⟩; have H3 := Aside0.mk h3; have H4 := Aside0.mk h4; have HB3 := Aside0.mk hb3; clear h3 h4 hb3))
  go_ret2
  exact ⟨w3.heap.size, rfl, ⟨⟨A2, c2, Blk.new w3 _ 133, H3.out, Kd.C_alloc H4.out _⟩, HH.out, HV.out⟩, HB3.out.size, HB3.out.alloc HB3.out.size _⟩
end Go.Proofs.Ytdlhmabjgbiagaa.Sky
