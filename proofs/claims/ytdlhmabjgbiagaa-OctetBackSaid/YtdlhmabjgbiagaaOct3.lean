/-
  Contract of octet.value: what at most 8 bytes say.
-/
import Derived.Test.YtdlhmabjgbiagaaOct2
namespace Go.Proofs.Ytdlhmabjgbiagaa.Oct
open Go.RowKit Go.Shelf Go.Proofs.Ytdlhmabjgbiagaa.Blk Go.Proofs.YtdlhmabjgbiagaaW.PrintWords Go.Proofs.YtdlhmabjgbiagaaW.PrintLast Go.Proofs.YtdlhmabjgbiagaaW.PrintMore Go.Proofs.Ytdlhmabjgbiagaa.POctetRows
attribute [local go_sem] Oper.semAt_some
set_option linter.unusedVariables false
set_option linter.unusedSimpArgs false

/-- What a digit adds. -/
def orDig (l : List Int) (n : Int) (x : Nat) : Int := Go.bits .or .u64 n (IntKind.u64.wrap (rd l x * 2 ^ (8 * (l.length - 1 - x))))
def valF (l : List Int) (ps : List (Fin l.length)) : Int := ps.foldl (fun n x => orDig l n x.1) 0
theorem valF_snoc (l : List Int) (ps : List (Fin l.length)) (x : Fin l.length) : valF l (ps ++ [x]) = orDig l (valF l ps) x.1 := by simp [valF]

theorem orDig_wrap (l : List Int) (n : Int) (x : Nat) (h : x < l.length) (hwf : ∀ y ∈ l, 0 ≤ y ∧ y ≤ 255) :
    Go.bits .or .u64 n (IntKind.u64.wrap (IntKind.u64.wrap (rd l x) * 2 ^ (8 * ((l.length : Int) - 1 - (x : Int))).toNat)) = orDig l n x := by
  have e : (8 * ((l.length : Int) - 1 - (x : Int))).toNat = 8 * (l.length - 1 - x) := by omega
  have hm : rd l x ∈ l := by
    unfold rd
    simp [List.getD_eq_getElem?_getD, List.getElem?_eq_getElem h]
  have hb := hwf _ hm
  rw [e, IntKind.wrap_u64 (rd l x), Int.emod_eq_of_lt hb.1 (by omega)]
  rfl

set_option maxRecDepth 100000 in
set_option maxHeartbeats 2000000 in
theorem value_calls (A : Option Addr) (cap : Nat) (l : List Int) (w : World) (hlen : l.length ≤ 8) (hr : Kd.C (Kd.int .u8) w A l.length l) (hwf : ∀ x ∈ l, 0 ≤ x ∧ x ≤ 255) :
    Calls Try.prog 65 #[.slice A l.length cap] w fun e w' => e = .returned (.int .u64 (valF l (List.finRange l.length))) ∧ Below w.heap.size w w' := by
  refine (callsIn_wide (n := 3)).1 ?_
  refine callsIn_of_wp_marks Try.func65 rfl trivial ?_ rfl
  simp only [Try.ntmps65, List.size_toArray, List.length_cons, List.length_nil, Nat.reduceAdd, Nat.reduceSub, Array.replicate_succ, Array.replicate_zero, List.push_toArray, List.append_toArray, List.nil_append, List.cons_append]
  gi_wp2_with (refine ⟨trivial, ?_⟩; gi_at_call 106; refine (callsIn_wide.2 (digits_calls (l.length : Int) _)).mono ?_; rintro e w' ⟨rfl, rfl⟩)
  have b1 := Blk.new w [.slice A l.length cap] 24
  have b2 := Blk.new (w.alloc (.cells #[.slice A l.length cap] 24)) [.int .u64 0] 40
  have b3 := Blk.new ((w.alloc (.cells #[.slice A l.length cap] 24)).alloc (.cells #[.int .u64 0] 40)) [.int .i64 (l.length : Int)] 3
  simp only [World.size_alloc] at b2 b3
  refine wpIn_rangeFunc_ownF rfl (by omega) (gf := 124) (lb := #[.pointer (some ⟨w.heap.size + 1 + 1, 0, none⟩)]) rfl trivial (enters_of Try.func124 (by kernel_rfl) rfl)
    (digits1_stops 2 (by omega) (w.heap.size + 1 + 1) l.length hlen _ (by simp) (b3.cell (j := 0) rfl)) kpCell_t kpCell_b (Below.refl _ _) (fun _ => rfl)
    (fun ps W => Blk W w.heap.size [.slice A l.length cap] 24 ∧ Blk W (w.heap.size + 1) [.int .u64 (valF l ps)] 40 ∧ Below w.heap.size w W)
    (fun _ _ _ => False)
    ((Own.from (own_blk _ _ _) _).and ((Own.from (own_blk _ _ _) _).and (ownFrom_below (Nat.le_refl _) (by simp; omega))))
    (fun _ _ _ _ _ hs _ _ => hs)
    ⟨(b1.alloc _).alloc _, b2.alloc _, (((Below.refl _ _).alloc (Nat.le_refl _) _).alloc (by simp) _).alloc (by simp; omega) _⟩
    (fun x => { tmps := #[.slice A l.length cap, .pointer (some ⟨w.heap.size, 0, none⟩), .pointer (some ⟨w.heap.size + 1, 0, none⟩), .int .i64 (x.1 : Int), .int .i64 (8 * ((l.length : Int) - 1 - (x.1 : Int))),
        .slice A l.length cap, .int .i64 (l.length : Int), .func (.func 124) #[] #[.pointer (some ⟨w.heap.size + 1 + 1, 0, none⟩)], .int .i64 (x.1 : Int), .int .i64 (8 * ((l.length : Int) - 1 - (x.1 : Int))), undef, undef, undef, undef, undef, undef, undef, undef, undef, undef], defers := [] }) ?assign ?body ?done ?stop
  case assign =>
    intro l x W K hK
    dsimp only [encD]
    gi_wp2
    exact hK
  case body =>
    rintro lo ps x W ⟨d1, d2, hB⟩ hps
    have c1 := d1.cell (j := 0) rfl
    have c2 := d2.cell (j := 0) rfl
    have f2 := d2.frozen 0
    have hx := x.2
    obtain ⟨ad, rfl, hcell⟩ := Kd.at_int (Kd.C_below hr hB) (x.1 : Int) (by omega) (by omega)
    simp only [Int.toNat_natCast] at hcell
    have hmo := follows_mixed
    have hO := Aside0.mk (orDig_wrap l (valF l ps) x.1 hx hwf)
    gi_wp2
    gi_region_o
    all_goals
      simp only [Exit.inBlock]
      rw [hO.out]
      refine ⟨(KeepsOthers.setCell _ _ _).trans (KeepsOthers.drew _), ?_, (d1.far (a := ⟨w.heap.size + 1, 0, none⟩) (by simp) _).drew, ?_, ((hB.setCell (p := ⟨w.heap.size + 1, 0, none⟩) (by simp) _)).drew⟩
      · intro v hv
        exact (World.cell?_setCell_far (w := W) _ _ _ (by simp)).trans hv
      · rw [valF_snoc]
        exact (d2.set 0 _).drew
  case done =>
    rintro D ps W hD rfl ⟨b1, b2, hB⟩ hK
    have c2 := b2.cell (j := 0) rfl
    have f2 := b2.frozen 0
    gi_wp2
    have b2' := b2.set 0 (.int .u64 (valF l (List.finRange l.length)))
    have hK' := (KeepsOthers.setCell W ⟨w.heap.size + 1, 0, none⟩ (.int .u64 (valF l (List.finRange l.length)))).same D _ hK rfl
    refine ⟨by simp, .inl ⟨_, _, rfl, run_takeDeferred hK', ?_⟩⟩
    have hc5 := (b2'.putObj (o' := .deferred none) hK' rfl).cell (j := 0) rfl
    refine ⟨.int .u64 (valF l (List.finRange l.length)), ?_, rfl, (hB.setCell (p := ⟨w.heap.size + 1, 0, none⟩) (by simp) _).trans (belowK_b (w := w) (Nat.le_refl _) _ D _ _ (by simp at hD; omega) hK' rfl rfl)⟩
    simp [results, Try.f65, go_sem, hc5]
  case stop =>
    rintro D c pre W _ _ h _
    exact h.elim
end Go.Proofs.Ytdlhmabjgbiagaa.Oct
