/-
  Contracts of Sky.When: when there are so many ticks, and when there are never.
-/
import Derived.Test.YtdlhmabjgbiagaaSkyE
namespace Go.Proofs.Ytdlhmabjgbiagaa.Sky
open Go.RowKit Go.Proofs.Ytdlhmabjgbiagaa.Blk Go.Proofs.YtdlhmabjgbiagaaW.PrintWords Go.Proofs.YtdlhmabjgbiagaaW.PrintLast Go.Proofs.YtdlhmabjgbiagaaW.PrintMore
open Go.Proofs.Ytdlhmabjgbiagaa.PSkyGoes
set_option linter.unusedVariables false
set_option linter.unusedSimpArgs false

/-- When there are n ticks. -/
def IsWhen (h : Nat) (l : List S96) (n : Nat) (r : Nat) : Prop := r ≤ 4503599627370496 ∧ (0 < r → tickz h l ((r : Int) - 1) < n) ∧ (n : Int) ≤ tickz h l r
def WhenYes (h : Nat) (l : List S96) (n : Nat) (w : World) (e : Ending) (w' : World) : Prop := ∃ r : Nat, e = .returned (.tuple #[.int .i64 r, .bool true]) ∧ IsWhen h l n r ∧ Below w.heap.size w w'

def WhenS (h : Nat) (l : List S96) (n : Nat) (w : World) (e : Ending) (w' : World) : Prop := ∃ r : Nat, e = .returned (.int .i64 r) ∧ IsWhen h l n r ∧ Below w.heap.size w w'
theorem isWhen_of {h n : Nat} {l : List S96} {r : Nat} (hr : Ends 4503599627370496 (fun i => decide ((n : Int) ≤ tickz h l (i : Int))) r) (hn : (n : Int) ≤ tickz h l 4503599627370496) : IsWhen h l n r := by
  obtain ⟨h1, h2, h3⟩ := hr
  refine ⟨h1, fun h0 => ?_, ?_⟩
  · have this : decide ((n : Int) ≤ tickz h l ((r - 1 : Nat) : Int)) = false := h2 h0
    rw [show ((r - 1 : Nat) : Int) = (r : Int) - 1 by omega] at this
    simp at this
    omega
  · rcases Nat.lt_or_ge r 4503599627370496 with hr | hr
    · have this : decide ((n : Int) ≤ tickz h l (r : Int)) = true := h3 hr
      simpa using this
    · have hr : (r : Int) = 4503599627370496 := by omega
      rw [hr]
      exact hn
theorem whenS_of {h n : Nat} {l : List S96} {w : World} {e : Ending} {w' : World} (hn : (n : Int) ≤ tickz h l 4503599627370496) (hh : SPost 4503599627370496 (fun i => decide ((n : Int) ≤ tickz h l (i : Int))) w e w') : WhenS h l n w e w' := by
  obtain ⟨r, he, hr, hb⟩ := hh
  exact ⟨r, he, isWhen_of hr hn, hb⟩
theorem enter92 (args : Array Value) (w : World) : (callFunc 92 args).run Try.prog w = .ok (.enter 92 args) w := enters_of Try.func92 (by kernel_rfl) rfl args w

def boxed (w : World) (g n : Nat) : World := (w.alloc (.cells #[.pointer (some ⟨g, 0, none⟩)] 83)).alloc (.cells #[.int .u64 (n : Int)] 40)
theorem boxed_below (w : World) (g n : Nat) : Below w.heap.size w (boxed w g n) := ((Below.refl _ _).alloc (Nat.le_refl _) _).alloc (by simp) _
theorem boxed_size (w : World) (g n : Nat) : (boxed w g n).heap.size = w.heap.size + 2 := by simp [boxed]
theorem boxed_0 (w : World) (g n : Nat) : (boxed w g n).cell? ⟨w.heap.size, 0, none⟩ = some (.pointer (some ⟨g, 0, none⟩)) := ((Blk.new w [.pointer (some ⟨g, 0, none⟩)] 83).alloc _).cell (j := 0) rfl
theorem boxed_1 (w : World) (g n : Nat) : (boxed w g n).cell? ⟨w.heap.size + 1, 0, none⟩ = some (.int .u64 (n : Int)) := (Blk.new' (w.alloc (.cells #[.pointer (some ⟨g, 0, none⟩)] 83)) [.int .u64 (n : Int)] 40 (w.heap.size + 1) (by simp)).cell (j := 0) rfl

theorem when_T {g h mask first n : Nat} {l : List S96} {w : World} (hs : SkyAt w g h mask first l) : ∀ W2, Below (boxed w g n).heap.size (boxed w g n) W2 → Calls Try.prog 44 #[.pointer (some ⟨g, 0, none⟩), .int .i64 4503599627370496] W2 fun e w' => e = .returned (.int .u64 (tickz h l 4503599627370496)) ∧ Below W2.heap.size W2 w' :=
  fun W2 hW => ticks_calls g h mask first l _ W2 (hs.below ((boxed_below w g n).trans (hW.mono (by rw [boxed_size]; omega))))
theorem when_N {g h mask first n : Nat} {l : List S96} {w : World} (hs : SkyAt w g h mask first l) : ∀ W2, Below (boxed w g n).heap.size (boxed w g n) W2 → Calls Try.prog 85 #[.pointer (some ⟨g, 0, none⟩)] W2 fun e w' => e = .returned (.bool false) ∧ W2 = w' := fun W2 hW => by
  obtain ⟨A, c, hb, hc, hk⟩ := (hs.below ((boxed_below w g n).trans (hW.mono (by rw [boxed_size]; omega)))).blk
  have := hs.hh.1
  exact none_calls g h W2 (hb.cell (j := 0) rfl) (by omega)
theorem when_K (w : World) (g n : Nat) : ∀ W2 w2 : World, Below (boxed w g n).heap.size (boxed w g n) W2 → Below W2.heap.size W2 w2 → (w2.cell? ⟨w.heap.size, 0, none⟩ = some (.pointer (some ⟨g, 0, none⟩)) ∧ w2.cell? ⟨w.heap.size + 1, 0, none⟩ = some (.int .u64 n)) ∧ Below (boxed w g n).heap.size (boxed w g n) w2 := by
  intro W2 w2 b1 b2
  exact ⟨⟨pw_cell_below b2 (pw_cell_below b1 (boxed_0 w g n)), pw_cell_below b2 (pw_cell_below b1 (boxed_1 w g n))⟩, b1.trans (b2.mono b1.size)⟩
theorem boxed_then {w w2 : World} {g n : Nat} (h : Below (boxed w g n).heap.size (boxed w g n) w2) : Below w.heap.size w w2 := (boxed_below w g n).trans (h.mono (by rw [boxed_size]; omega))

set_option maxHeartbeats 4000000 in
set_option maxRecDepth 100000 in
theorem when_no (g h mask first : Nat) (n : Nat) (l : List S96) (w : World) (hs : SkyAt w g h mask first l) (hn : tickz h l 4503599627370496 < n) :
    Calls Try.prog 48 #[.pointer (some ⟨g, 0, none⟩), .int .u64 n] w fun e w' => e = .returned (.tuple #[.int .i64 0, .bool false]) ∧ Below w.heap.size w w' := by
  have TC := Aside0.mk (when_T (n := n) hs)
  have NC := Aside0.mk (when_N (n := n) hs)
  have KZ := Aside0.mk (when_K w g n)
  obtain ⟨x, hx⟩ : ∃ x, tickz h l 4503599627370496 = x := ⟨_, rfl⟩
  rw [hx] at TC hn
  clear hs hx
  go_enter Try.func48, Try.ntmps48
  go_wp2
  go_region_held3 (fun w' => w'.cell? ⟨w.heap.size, 0, none⟩ = some (.pointer (some ⟨g, 0, none⟩)) ∧ w'.cell? ⟨w.heap.size + 1, 0, none⟩ = some (.int .u64 n)) (go_keep) (first | (go_at_call 85; refine (NC.out _ (by repeat (first | exact Below.refl _ _ | apply pw_below_drewN | apply below_drew))).mono ?_; rintro e w' ⟨rfl, rfl⟩) | (go_at_call 44; refine (TC.out _ (by repeat (first | exact Below.refl _ _ | apply pw_below_drewN | apply below_drew))).mono ?_; rintro e w2 ⟨rfl, hb⟩; have c2 := KZ.out _ w2 (by repeat (first | exact Below.refl _ _ | apply pw_below_drewN | apply below_drew)) hb; obtain ⟨⟨c2, c3⟩, hbz⟩ := c2))
  all_goals
    have t1 : decide (x < (n : Int)) = true := by simp; omega
    go_wp2
    go_ret2
    refine ⟨rfl, boxed_then (g := g) (n := n) ?_⟩
    repeat (first | exact hbz | apply pw_below_drewN | apply below_drew)

set_option maxHeartbeats 4000000 in
set_option maxRecDepth 100000 in
theorem when_yes (g h mask first : Nat) (n : Nat) (l : List S96) (w : World) (hs : SkyAt w g h mask first l) (hn : (n : Int) ≤ tickz h l 4503599627370496) :
    Calls Try.prog 48 #[.pointer (some ⟨g, 0, none⟩), .int .u64 n] w (WhenYes h l n w) := by
  have TC := Aside0.mk (when_T (n := n) hs)
  have NC := Aside0.mk (when_N (n := n) hs)
  have KZ := Aside0.mk (when_K w g n)
  have SC : Aside0 (∀ W2, Below (boxed w g n).heap.size (boxed w g n) W2 → Calls Try.prog 91 #[.int .i64 4503599627370496, .func (.func 92) #[] #[.pointer (some ⟨w.heap.size, 0, none⟩), .pointer (some ⟨w.heap.size + 1, 0, none⟩)]] W2 (WhenS h l n W2)) := ⟨fun W2 hW => by
    have k := search_calls 92 #[.pointer (some ⟨w.heap.size, 0, none⟩), .pointer (some ⟨w.heap.size + 1, 0, none⟩)] 4503599627370496 (fun i => decide ((n : Int) ≤ tickz h l (i : Int))) W2 enter92 (by omega) (fun W i h1 h2 => when1_calls g h mask first w.heap.size (w.heap.size + 1) n l i W ((hs.below (boxed_then hW)).below h1) (pw_cell_below h1 (pw_cell_below hW (boxed_0 w g n))) (pw_cell_below h1 (pw_cell_below hW (boxed_1 w g n))))
    rw [show ((4503599627370496 : Nat) : Int) = 4503599627370496 by omega] at k
    exact k.mono fun e w3 hh => whenS_of hn hh⟩
  obtain ⟨x, hx⟩ : ∃ x, tickz h l 4503599627370496 = x := ⟨_, rfl⟩
  rw [hx] at TC hn
  clear hs hx
  go_enter Try.func48, Try.ntmps48
  go_wp2
  go_region_held3 (fun w' => w'.cell? ⟨w.heap.size, 0, none⟩ = some (.pointer (some ⟨g, 0, none⟩)) ∧ w'.cell? ⟨w.heap.size + 1, 0, none⟩ = some (.int .u64 n)) (go_keep) (first | (go_at_call 85; refine (NC.out _ (by repeat (first | exact Below.refl _ _ | apply pw_below_drewN | apply below_drew))).mono ?_; rintro e w' ⟨rfl, rfl⟩) | (go_at_call 44; refine (TC.out _ (by repeat (first | exact Below.refl _ _ | apply pw_below_drewN | apply below_drew))).mono ?_; rintro e w2 ⟨rfl, hb⟩; have c2 := KZ.out _ w2 (by repeat (first | exact Below.refl _ _ | apply pw_below_drewN | apply below_drew)) hb; obtain ⟨⟨c2, c3⟩, hbz⟩ := c2))
  all_goals
    have t1 : decide (x < (n : Int)) = false := by simp; omega
    go_wp2_with (go_at_call 91; refine (SC.out _ (by repeat (first | exact hbz | apply pw_below_drewN | apply below_drew))).mono ?_; rintro e w3 ⟨r, rfl, hr, hb3⟩; have HR := Aside0.mk hr; clear hr)
    go_ret2
    exact ⟨r, rfl, HR.out, boxed_then (g := g) (n := n) ((Below.trans (by repeat (first | exact hbz | apply pw_below_drewN | apply below_drew)) (hb3.mono (by exact hbz.size))))⟩

end Go.Proofs.Ytdlhmabjgbiagaa.Sky
