/-
  Contract of Sky.Off: how much faster the counter is at a true time.
-/
import Derived.Test.YtdlhmabjgbiagaaSkyK
namespace Go.Proofs.Ytdlhmabjgbiagaa.Sky
open Go.RowKit Go.Proofs.Ytdlhmabjgbiagaa.Blk Go.Proofs.YtdlhmabjgbiagaaW.PrintWords Go.Proofs.YtdlhmabjgbiagaaW.PrintLast Go.Proofs.YtdlhmabjgbiagaaW.PrintMore
open Go.Proofs.Ytdlhmabjgbiagaa.PSkyGoes
set_option linter.unusedVariables false
set_option linter.unusedSimpArgs false

/-- The piece that a true time lies in is o faster. -/
def IsOff (l : List S96) (T o : Int) : Prop := ∃ k, k < l.length ∧ fr l k ≤ T ∧ (k + 1 < l.length → T < fr l (k + 1)) ∧ o = of l k
theorem asc_le {l : List S96} (v : Vld l) : ∀ (j i : Nat), i ≤ j → j < l.length → fr l i ≤ fr l j
  | 0, i, h, _ => by obtain rfl : i = 0 := by omega
                     exact Int.le_refl _
  | j + 1, i, h, hj => by
    rcases (show i = j + 1 ∨ i ≤ j by omega) with rfl | h2
    · exact Int.le_refl _
    · have := asc_le v j i h2 (by omega)
      have := v.asc j hj
      omega
theorem IsOff.uniq {l : List S96} (v : Vld l) {T o o' : Int} (h : IsOff l T o) (h' : IsOff l T o') : o = o' := by
  obtain ⟨k, k1, k2, k3, rfl⟩ := h
  obtain ⟨k', k1', k2', k3', rfl⟩ := h'
  have : k = k' := by
    rcases (show k = k' ∨ k < k' ∨ k' < k by omega) with c | c | c
    · exact c
    · have := k3 (by omega)
      have := asc_le v k' (k + 1) c k1'
      omega
    · have := k3' (by omega)
      have := asc_le v k (k' + 1) c k1
      omega
  rw [this]

theorem vld_ge {l : List S96} (v : Vld l) : ∀ i, i < l.length → (i : Int) ≤ fr l i
  | 0, h => by rw [v.zero]; omega
  | i + 1, h => by
    have := vld_ge v i (by omega)
    have := v.asc i h
    omega
theorem vld_len {l : List S96} (v : Vld l) : l.length ≤ 4503599627370497 := by
  have h := v.pos
  have := vld_ge v (l.length - 1) (by omega)
  have := v.top (l.length - 1) (by omega)
  omega
theorem off_ends {l : List S96} (v : Vld l) {T : Int} (hT : 0 ≤ T) {r : Nat} (hr : Ends l.length (fun i => decide (T < fr l i)) r) : 0 < r ∧ r ≤ l.length ∧ fr l (r - 1) ≤ T ∧ (r - 1 + 1 < l.length → T < fr l (r - 1 + 1)) := by
  obtain ⟨h1, h2, h3⟩ := hr
  have h0 : 0 < r := by
    rcases Nat.eq_zero_or_pos r with rfl | h
    · have h4 : decide (T < fr l 0) = true := h3 v.pos
      have := v.zero
      simp only [decide_eq_true_eq] at h4
      have e : fr l 0 = 0 := this
      omega
    · exact h
  have h5 : decide (T < fr l (r - 1)) = false := h2 h0
  simp only [decide_eq_false_iff_not] at h5
  refine ⟨h0, h1, by omega, fun h => ?_⟩
  rw [Nat.sub_add_cancel h0] at h ⊢
  have h6 : decide (T < fr l r) = true := h3 h
  simpa using h6

def OffPost (l : List S96) (t : Int) (w : World) (e : Ending) (w' : World) : Prop := ∃ o : Int, e = .returned (.int .i64 o) ∧ IsOff l (clampT t) o ∧ Below w.heap.size w w'

theorem enter104 (args : Array Value) (w : World) : (callFunc 104 args).run Try.prog w = .ok (.enter 104 args) w := enters_of Try.func104 (by kernel_rfl) rfl args w

set_option maxRecDepth 100000 in
set_option maxHeartbeats 4000000 in
theorem off1_calls (g h mask first B2 B3 : Nat) (l : List S96) (T : Int) (i : Nat) (W : World) (hi : i < l.length) (hs : SkyAt W g h mask first l) (h2 : W.cell? ⟨B2, 0, none⟩ = some (.pointer (some ⟨g, 0, none⟩))) (h3 : W.cell? ⟨B3, 0, none⟩ = some (.int .i64 T)) :
    Calls Try.prog 104 #[.int .i64 i, .pointer (some ⟨B2, 0, none⟩), .pointer (some ⟨B3, 0, none⟩)] W fun e w' => e = .returned (.bool (decide (T < fr l i))) ∧ Below W.heap.size W w' := by
  obtain ⟨A, c, hb, hc, hk⟩ := hs.blk
  obtain ⟨ad, rfl, hf0, hf1⟩ := at_T96 hk (i : Int) (by omega) (by omega)
  simp only [Int.toNat_natCast] at hf0 hf1
  change W.cell? (ad.add (i * 2)) = some (.int .i64 (fr l i)) at hf0
  have c3 := hb.cell (j := 3) rfl
  have i0 : (0 : Int) ≤ (i : Int) := by omega
  have i1 : (i : Int) < (l.length : Int) := by omega
  obtain ⟨f, hf⟩ : ∃ f, fr l i = f := ⟨_, rfl⟩
  rw [hf] at hf0 ⊢
  clear hs hb hk hf
  go_enter Try.func104, Try.ntmps104
  go_wp2
  go_quiet (fail)
  go_wp2
  go_ret
  refine ⟨rfl, ?_⟩
  repeat (first | exact Below.refl _ _ | apply pw_below_drewN | apply below_drew)

def boxedT (w : World) (g : Nat) (T : Int) : World := (w.alloc (.cells #[.pointer (some ⟨g, 0, none⟩)] 83)).alloc (.cells #[.int .i64 T] 2)
theorem boxedT_below (w : World) (g : Nat) (T : Int) : Below w.heap.size w (boxedT w g T) := ((Below.refl _ _).alloc (Nat.le_refl _) _).alloc (by simp) _
theorem boxedT_size (w : World) (g : Nat) (T : Int) : (boxedT w g T).heap.size = w.heap.size + 2 := by simp [boxedT]
theorem boxedT_0 (w : World) (g : Nat) (T : Int) : (boxedT w g T).cell? ⟨w.heap.size, 0, none⟩ = some (.pointer (some ⟨g, 0, none⟩)) := ((Blk.new w [.pointer (some ⟨g, 0, none⟩)] 83).alloc _).cell (j := 0) rfl
theorem boxedT_1 (w : World) (g : Nat) (T : Int) : (boxedT w g T).cell? ⟨w.heap.size + 1, 0, none⟩ = some (.int .i64 T) := (Blk.new' (w.alloc (.cells #[.pointer (some ⟨g, 0, none⟩)] 83)) [.int .i64 T] 2 (w.heap.size + 1) (by simp)).cell (j := 0) rfl

set_option maxRecDepth 100000 in
set_option maxHeartbeats 4000000 in
theorem off_calls (g h mask first : Nat) (l : List S96) (t : Int) (w : World) (hs : SkyAt w g h mask first l) :
    Calls Try.prog 55 #[.pointer (some ⟨g, 0, none⟩), .int .i64 t] w (OffPost l t w) := by
  have hv := hs.val
  obtain ⟨hh0, hh1⟩ := hs.hh
  have NC : Aside0 (∀ W2, Below w.heap.size w W2 → Calls Try.prog 85 #[.pointer (some ⟨g, 0, none⟩)] W2 fun e w' => e = .returned (.bool false) ∧ W2 = w') := ⟨fun W2 hW => by
    obtain ⟨A, c, hb, hc, hk⟩ := (hs.below hW).blk
    exact none_calls g h W2 (hb.cell (j := 0) rfl) (by omega)⟩
  obtain ⟨T, hT⟩ : ∃ T, clampT t = T := ⟨_, rfl⟩
  have TC := Aside0.mk (fun W => time_calls t W)
  rw [hT] at TC
  have hT0 : 0 ≤ T := by rw [← hT]; exact clampT_lo t
  obtain ⟨A, c, hb, hc, hk⟩ := hs.blk
  have hml := hk.2.1
  have SC : Aside0 (Calls Try.prog 91 #[.int .i64 l.length, .func (.func 104) #[] #[.pointer (some ⟨w.heap.size, 0, none⟩), .pointer (some ⟨w.heap.size + 1, 0, none⟩)]] (boxedT w g T) (SPost l.length (fun i => decide (T < fr l i)) (boxedT w g T))) := ⟨by
    refine search_calls 104 #[.pointer (some ⟨w.heap.size, 0, none⟩), .pointer (some ⟨w.heap.size + 1, 0, none⟩)] l.length (fun i => decide (T < fr l i)) (boxedT w g T) enter104 ?_ (fun W i h1 h2 => off1_calls g h mask first w.heap.size (w.heap.size + 1) l T i W h2 ((hs.below (boxedT_below w g T)).below h1) (pw_cell_below h1 (boxedT_0 w g T)) (pw_cell_below h1 (boxedT_1 w g T)))
    have := vld_len hv
    omega⟩
  have hBT := boxedT_below w g T
  have HS2 : Aside0 (∀ w3, Below (boxedT w g T).heap.size (boxedT w g T) w3 → (w3.cell? ⟨w.heap.size, 0, none⟩ = some (.pointer (some ⟨g, 0, none⟩)) ∧ w3.cell? ⟨g, 3, none⟩ = some (.slice A l.length c)) ∧ Below w.heap.size w w3 ∧ Kd.C k96 w3 A l.length l) := ⟨fun w3 h3 => by
    have b := hBT.trans (h3.mono (by rw [boxedT_size]; omega))
    exact ⟨⟨pw_cell_below h3 (boxedT_0 w g T), (hb.below b hb.lt).cell (j := 3) rfl⟩, b, Kd.C_below hk b⟩⟩
  have e0 : (boxedT w g T).cell? ⟨g, 3, none⟩ = some (.slice A l.length c) := (hb.below hBT hb.lt).cell (j := 3) rfl
  have HV := Aside0.mk hv
  have HT := Aside0.mk hT
  have ebox : boxedT w g T = (w.alloc (.cells #[.pointer (some ⟨g, 0, none⟩)] 83)).alloc (.cells #[.int .i64 T] 2) := rfl
  rw [ebox] at e0
  clear hs hb hk hv hT hBT ebox
  go_enter Try.func55, Try.ntmps55
  go_wp2_with (first | (go_at_call 85; refine (NC.out _ (by repeat (first | exact Below.refl _ _ | apply below_alloc))).mono ?_; rintro e w' ⟨rfl, rfl⟩) | (go_at_call 86; refine (TC.out _).mono ?_; rintro e w' ⟨rfl, rfl⟩) | (go_at_call 91; refine SC.out.mono ?_; rintro e w3 ⟨r, rfl, hr, hb3⟩; obtain ⟨⟨d0, d1⟩, hbw, hC⟩ := HS2.out w3 hb3; obtain ⟨r0, r1, r2, r3⟩ := off_ends HV.out hT0 hr; obtain ⟨ad, rfl, hf0, hf1⟩ := at_T96 hC ((r : Int) - 1) (by omega) (by omega); have i1 : (r : Int) - 1 < (l.length : Int) := (by omega); have i0 : 0 ≤ (r : Int) - 1 := (by omega); rw [show ((r : Int) - 1).toNat = r - 1 by omega] at hf0 hf1; have HR := Aside0.mk (And.intro r2 r3); clear hr r2 r3 hC hb3))
  go_ret
  rw [← HT.out] at HR
  refine ⟨_, rfl, ⟨r - 1, by omega, HR.out.1, HR.out.2, ?_⟩, hbw⟩
  show (rd_T96 l ((r : Int) - 1)).f1 = (rd_T96 l ((r - 1 : Nat) : Int)).f1
  rw [show ((r - 1 : Nat) : Int) = (r : Int) - 1 by omega]
end Go.Proofs.Ytdlhmabjgbiagaa.Sky
