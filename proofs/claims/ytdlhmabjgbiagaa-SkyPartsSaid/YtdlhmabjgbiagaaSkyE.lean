/-
  Contracts of sort.Search at a closure that makes memory, and of Sky.When.
-/
import Derived.Test.YtdlhmabjgbiagaaSkyD
namespace Go.Proofs.Ytdlhmabjgbiagaa.Sky
open Go.RowKit Go.Proofs.Ytdlhmabjgbiagaa.Blk Go.Proofs.YtdlhmabjgbiagaaW.PrintWords Go.Proofs.YtdlhmabjgbiagaaW.PrintLast Go.Proofs.YtdlhmabjgbiagaaW.PrintMore
open Go.Proofs.Ytdlhmabjgbiagaa.PSkyGoes
set_option linter.unusedVariables false
set_option linter.unusedSimpArgs false

/-- Where the search ends: behind it the predicate holds, ahead of it not. -/
def Ends (n : Nat) (p : Nat → Bool) (r : Nat) : Prop := r ≤ n ∧ (0 < r → p (r - 1) = false) ∧ (r < n → p r = true)
def SPost (n : Nat) (p : Nat → Bool) (w : World) (e : Ending) (w' : World) : Prop := ∃ r : Nat, e = .returned (.int .i64 r) ∧ Ends n p r ∧ Below w.heap.size w w'

set_option maxHeartbeats 4000000 in
set_option maxRecDepth 100000 in
theorem search_calls (f : Nat) (cb : Array Value) (n : Nat) (p : Nat → Bool) (w : World) (eg : ∀ args w, (callFunc f args).run Try.prog w = .ok (.enter f args) w) (hsz : n < 4611686018427387904)
    (hf : ∀ (W : World) (i : Nat), Below w.heap.size w W → i < n → Calls Try.prog f (#[.int .i64 i] ++ cb) W fun e w' => e = .returned (.bool (p i)) ∧ Below W.heap.size W w') :
    Calls Try.prog 91 #[.int .i64 n, .func (.func f) #[] cb] w (SPost n p w) := by
  have HF := Aside0.mk hf
  clear hf
  go_enter Try.func91, Try.ntmps91
  go_wp2
  go_loopw [5, 6] (fun v5 v6 wr => ∃ lo hi : Nat, v5 = .int .i64 lo ∧ v6 = .int .i64 hi ∧ lo ≤ hi ∧ hi ≤ n ∧ Below w.heap.size w wr ∧ Aside0 ((0 < lo → p (lo - 1) = false) ∧ (hi < n → p hi = true))) (fun v5 v6 _ => (intOf v6).toNat - (intOf v5).toNat)
  case atStart => exact ⟨0, n, rfl, rfl, Nat.zero_le _, Nat.le_refl _, Below.refl _ _, ⟨fun h => absurd h (by omega), fun h => absurd h (by omega)⟩⟩
  case round =>
    obtain ⟨lo, hi, rfl, rfl, hlh, hin, hB, I⟩ := hrel
    by_cases hlt : lo < hi
    · obtain ⟨m, hm⟩ : ∃ m, (lo + hi) / 2 = m := ⟨_, rfl⟩
      have hme : ((lo : Int) + (hi : Int)) / 2 = (m : Int) := by omega
      have hm1 : lo ≤ m := by omega
      have hm2 : m < hi := by omega
      have hc := HF.out wr m hB (by omega)
      cases hp : p m <;> rw [hp] at hc
      · have HP := Aside0.mk hp
        have HC := Aside0.mk hc
        clear hp hc hm
        go_wp2_with (go_at_fn f; refine HC.out.mono ?_; rintro e w2 ⟨rfl, hb⟩)
        go_roundw
        case rel => exact ⟨m + 1, hi, by go_num, rfl, by omega, hin, hB.trans (hb.mono hB.size), ⟨fun _ => HP.out, I.out.2⟩⟩
        case measure => simp [intOf]; omega
      · have HP := Aside0.mk hp
        have HC := Aside0.mk hc
        clear hp hc hm
        go_wp2_with (go_at_fn f; refine HC.out.mono ?_; rintro e w2 ⟨rfl, hb⟩)
        go_roundw
        case rel => exact ⟨lo, m, rfl, rfl, by omega, by omega, hB.trans (hb.mono hB.size), ⟨I.out.1, fun _ => HP.out⟩⟩
        case measure => simp [intOf]; omega
    · obtain rfl : hi = lo := by omega
      go_wp2
      go_ret
      exact ⟨hi, rfl, ⟨hin, I.out⟩, hB⟩

set_option maxHeartbeats 4000000 in
set_option maxRecDepth 100000 in
theorem when1_calls (g h mask first B2 B3 : Nat) (n : Nat) (l : List S96) (i : Nat) (W : World) (hs : SkyAt W g h mask first l) (h2 : W.cell? ⟨B2, 0, none⟩ = some (.pointer (some ⟨g, 0, none⟩))) (h3 : W.cell? ⟨B3, 0, none⟩ = some (.int .u64 n)) :
    Calls Try.prog 92 #[.int .i64 i, .pointer (some ⟨B2, 0, none⟩), .pointer (some ⟨B3, 0, none⟩)] W fun e w' => e = .returned (.bool (decide ((n : Int) ≤ tickz h l i))) ∧ Below W.heap.size W w' := by
  have TC : Aside0 (∀ W2, Below W.heap.size W W2 → Calls Try.prog 44 #[.pointer (some ⟨g, 0, none⟩), .int .i64 i] W2 fun e w' => e = .returned (.int .u64 (tickz h l i)) ∧ Below W2.heap.size W2 w') := ⟨fun W2 hW => ticks_calls g h mask first l i W2 (hs.below hW)⟩
  have KZ : Aside0 (∀ W2 w2 : World, Below W.heap.size W W2 → Below W2.heap.size W2 w2 → (w2.cell? ⟨B2, 0, none⟩ = some (.pointer (some ⟨g, 0, none⟩)) ∧ w2.cell? ⟨B3, 0, none⟩ = some (.int .u64 n)) ∧ Below W.heap.size W w2) := ⟨by
    intro W2 w2 b1 b2
    exact ⟨⟨pw_cell_below b2 (pw_cell_below b1 h2), pw_cell_below b2 (pw_cell_below b1 h3)⟩, b1.trans (b2.mono b1.size)⟩⟩
  clear hs
  go_enter Try.func92, Try.ntmps92
  go_wp2
  go_region_held3 (fun w' => w'.cell? ⟨B2, 0, none⟩ = some (.pointer (some ⟨g, 0, none⟩)) ∧ w'.cell? ⟨B3, 0, none⟩ = some (.int .u64 n)) (go_keep) (first | (go_at_call 44; refine (TC.out _ (by repeat (first | exact Below.refl _ _ | apply pw_below_drewN | apply below_drew | apply below_alloc))).mono ?_; rintro e w2 ⟨rfl, hb⟩; have c2 := KZ.out _ w2 (by repeat (first | exact Below.refl _ _ | apply pw_below_drewN | apply below_drew | apply below_alloc)) hb; obtain ⟨⟨c2, c3⟩, hbz⟩ := c2))
  all_goals
    go_wp2
    go_ret
    refine ⟨rfl, ?_⟩
    repeat (first | exact hbz | apply pw_below_drewN | apply below_drew)
end Go.Proofs.Ytdlhmabjgbiagaa.Sky
