/-
  Contract of octet.write: it lays the digits of a number over at most 8 cells of a block that is known whole.
-/
import Derived.Test.YtdlhmabjgbiagaaOct1
import Derived.Test.YtdlhmabjgbiagaaBlk
import Derived.Lib.Hide
import Derived.Outline
namespace Go.Proofs.Ytdlhmabjgbiagaa.Oct
open Go.RowKit Go.Shelf Go.Proofs.Ytdlhmabjgbiagaa.Blk Go.Proofs.YtdlhmabjgbiagaaW.PrintWords Go.Proofs.YtdlhmabjgbiagaaW.PrintLast Go.Proofs.YtdlhmabjgbiagaaW.PrintMore Go.Proofs.Ytdlhmabjgbiagaa.POctetRows
attribute [local go_sem] Oper.semAt_some
set_option linter.unusedVariables false
set_option linter.unusedSimpArgs false

/-- The digit at a place. -/
def dig (n : Int) (len x : Nat) : Int := n / 2 ^ (8 * (len - 1 - x)) % 256
/-- The cells behind some rounds. -/
def mixd (cs : List Value) (o len : Nat) (n : Int) (ps : List (Fin len)) : List Value := ps.foldl (fun c x => c.set (o + x.1) (.int .u8 (dig n len x.1))) cs
theorem mixd_snoc (cs : List Value) (o len : Nat) (n : Int) (ps : List (Fin len)) (x : Fin len) : mixd cs o len n (ps ++ [x]) = (mixd cs o len n ps).set (o + x.1) (.int .u8 (dig n len x.1)) := by simp [mixd]
theorem mixd_length (cs : List Value) (o len : Nat) (n : Int) (ps : List (Fin len)) : (mixd cs o len n ps).length = cs.length := by
  induction ps generalizing cs with
  | nil => rfl
  | cons x ps ih => simp only [mixd, List.foldl_cons] at *; rw [ih]; simp

theorem dig_wrap (n : Int) (len x : Nat) (h : x < len) : IntKind.u8.wrap (n / 2 ^ (8 * ((len : Int) - 1 - (x : Int))).toNat) = dig n len x := by
  have e : (8 * ((len : Int) - 1 - (x : Int))).toNat = 8 * (len - 1 - x) := by omega
  rw [e]
  simp [dig, IntKind.wrap, IntKind.bits, IntKind.signed]
theorem follows_mixed : Try.prog.follows Departure.mixedOrders = true := by kernel_rfl

set_option maxRecDepth 100000 in
set_option maxHeartbeats 2000000 in
theorem write_calls (B o len cap : Nat) (n : Int) (cs : List Value) (t : Nat) (w : World) (h0 : 0 ≤ n) (hlen : len ≤ 8) (hcs : o + len ≤ cs.length) (hB : Blk w B cs t) :
    Calls Try.prog 62 #[.slice (some ⟨B, o, none⟩) len cap, .int .u64 n] w fun e w' => e = .returned (.tuple #[]) ∧ Blk w' B (mixd cs o len n (List.finRange len)) t ∧ w.grownBy w' (some B) := by
  refine (callsIn_wide (n := 3)).1 ?_
  refine callsIn_of_wp_marks Try.func62 rfl trivial ?_ rfl
  simp only [Try.ntmps62, List.size_toArray, List.length_cons, List.length_nil, Nat.reduceAdd, Nat.reduceSub, Array.replicate_succ, Array.replicate_zero, List.push_toArray, List.append_toArray, List.nil_append, List.cons_append]
  gi_wp2_with (refine ⟨trivial, ?_⟩; gi_at_call 106; refine (callsIn_wide.2 (digits_calls (len : Int) _)).mono ?_; rintro e w' ⟨rfl, rfl⟩)
  have hBl := hB.lt
  have b1 := Blk.new w [.slice (some ⟨B, o, none⟩) len cap] 24
  have b2 := Blk.new (w.alloc (.cells #[.slice (some ⟨B, o, none⟩) len cap] 24)) [.int .u64 n] 40
  have b3 := Blk.new ((w.alloc (.cells #[.slice (some ⟨B, o, none⟩) len cap] 24)).alloc (.cells #[.int .u64 n] 40)) [.int .i64 (len : Int)] 3
  simp only [World.size_alloc] at b2 b3
  refine wpIn_rangeFunc_ownF rfl (by omega) (gf := 124) (lb := #[.pointer (some ⟨w.heap.size + 1 + 1, 0, none⟩)]) rfl trivial (enters_of Try.func124 (by kernel_rfl) rfl)
    (digits1_stops 2 (by omega) (w.heap.size + 1 + 1) len hlen _ (by simp) (b3.cell (j := 0) rfl)) kpCell_t kpCell_b (Below.refl _ _) (fun _ => rfl)
    (fun ps W => Blk W w.heap.size [.slice (some ⟨B, o, none⟩) len cap] 24 ∧ Blk W (w.heap.size + 1) [.int .u64 n] 40 ∧ Blk W B (mixd cs o len n ps) t ∧ w.grownBy W (some B))
    (fun _ _ _ => False)
    ((Own.from (own_blk _ _ _) _).and ((Own.from (own_blk _ _ _) _).and ((Own.from (own_blk _ _ _) _).and (ownFrom_grown _ (by simp; omega)))))
    (fun _ _ _ _ _ hs _ _ => hs)
    ⟨(b1.alloc _).alloc _, b2.alloc _, ((hB.alloc _).alloc _).alloc _, grown_alloc (grown_alloc (grown_alloc (World.grownBy.refl _ _) _) _) _⟩
    (fun x => { tmps := #[.slice (some ⟨B, o, none⟩) len cap, .int .u64 n, .pointer (some ⟨w.heap.size, 0, none⟩), .pointer (some ⟨w.heap.size + 1, 0, none⟩), .int .i64 (x.1 : Int), .int .i64 (8 * ((len : Int) - 1 - (x.1 : Int))),
        .slice (some ⟨B, o, none⟩) len cap, .int .i64 (len : Int), .func (.func 124) #[] #[.pointer (some ⟨w.heap.size + 1 + 1, 0, none⟩)], .int .i64 (x.1 : Int), .int .i64 (8 * ((len : Int) - 1 - (x.1 : Int))), undef, undef, undef, undef, undef, undef, undef], defers := [] }) ?assign ?body ?done ?stop
  case assign =>
    intro l x W K hK
    dsimp only [encD]
    gi_wp2
    exact hK
  case body =>
    rintro l ps x W ⟨b1, b2, hB, hg⟩ hps
    have c1 := b1.cell (j := 0) rfl
    have c2 := b2.cell (j := 0) rfl
    have hx := x.2
    have cx := hB.cell (j := o + x.1) (List.getElem?_eq_getElem (by rw [mixd_length]; omega))
    have fx := hB.frozen (o + x.1)
    have hD := Aside0.mk (dig_wrap n len x.1 hx)
    have hbl := b1.lt
    have hmo := follows_mixed
    gi_wp2
    gi_region_o
    all_goals
      simp only [Exit.inBlock]
      rw [hD.out]
      refine ⟨(KeepsOthers.setCell _ _ _).trans (KeepsOthers.drew _), ?_, (b1.far (a := ⟨B, o + x.1, none⟩) (by simp; omega) _).drew, (b2.far (a := ⟨B, o + x.1, none⟩) (by simp; omega) _).drew, ?_, grown_drew (grown_set hg (.inr rfl) _)⟩
      · intro v hv
        exact (World.cell?_setCell_far (w := W) _ _ _ (by simp; omega)).trans hv
      · rw [mixd_snoc]
        exact (hB.set _ _).drew
  case done =>
    rintro D ps W hD rfl ⟨b1, b2, hB, hg⟩ hK
    refine ⟨by simp, .inl ⟨_, _, rfl, run_takeDeferred hK, ?_⟩⟩
    refine ⟨_, results_none rfl _ _ _, rfl, hB.putObj hK rfl, hg.andThen (grownBy_putObj' W D _) (fun j e => .inl ?_)⟩
    cases e
    simp at hD
    omega
  case stop =>
    rintro D c pre W _ _ h _
    exact h.elim
end Go.Proofs.Ytdlhmabjgbiagaa.Oct
