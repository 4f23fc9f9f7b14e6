/-
  Contracts of octet.digits and of the iterator that it hands back: for at most 8 digits.
-/
import Derived.Test.YtdlhmabjgbiagaaOct0
import Derived.RangeFuncNested
import Derived.RangeFuncBound
import Derived.RangeFuncCalls
import Derived.RangeFuncLeaves
import Derived.RangeFuncFrom
import Derived.Shelf.Abstract
import Derived.Shelf.RegionOpen
import Derived.OwnWalkIn
import Derived.TacticsInMore
import Derived.LoopNIn
import Derived.LoopIn
namespace Go.Proofs.Ytdlhmabjgbiagaa.Oct
open Go.RowKit Go.Shelf Go.Proofs.YtdlhmabjgbiagaaW.PrintWords Go.Proofs.YtdlhmabjgbiagaaW.PrintLast Go.Proofs.YtdlhmabjgbiagaaW.PrintMore Go.Proofs.Ytdlhmabjgbiagaa.POctetRows
attribute [local go_sem] Oper.semAt_some
set_option linter.unusedVariables false
set_option linter.unusedSimpArgs false

/-- What a round of the loop over digits keeps: the cell in which the number of digits lies. -/
def KpCell (Bs : Nat) (W W' : World) : Prop := ∀ v, W.cell? ⟨Bs, 0, none⟩ = some v → W'.cell? ⟨Bs, 0, none⟩ = some v
theorem kpCell_t {Bs : Nat} {A B C : World} (h : KpCell Bs A B) (k : KpCell Bs B C) : KpCell Bs A C := fun v hv => k v (h v hv)
theorem kpCell_b {Bs : Nat} {w : World} (W : World) (l : Nat) (o o' : Obj) (_ : w.heap.size ≤ l) (h : W.heap[l]? = some o) (hn : o.isCells = false) (_ : o.isWalk = false) : KpCell Bs W (W.putObj l o') :=
  fun v hv => cell_kept hv (grownBy_putObj' W l o') (fun r e => by cases e; exact ⟨o, h, hn⟩)
/-- A place and how many bits stand behind it. -/
def encD (size : Nat) (x : Fin size) : Array Value := #[.int .i64 (x.1 : Int), .int .i64 (8 * ((size : Int) - 1 - (x.1 : Int)))]

theorem digits_calls (n : Int) (w : World) : Calls Try.prog 106 #[.int .i64 n] w fun e w' => e = .returned (.func (.func 124) #[] #[.pointer (some ⟨w.heap.size, 0, none⟩)]) ∧ w.alloc (.cells #[.int .i64 n] 3) = w' := by
  go_enter Try.func106, Try.ntmps106
  go_wp2
  go_ret
  exact ⟨rfl, rfl⟩

theorem digits1_in (n : Nat) (hn : 1 ≤ n) (l Bs : Nat) (size : Nat) (hs : size ≤ 8) (J Jx : List (Fin size) → World → Prop)
    (hY : ∀ pre x W, J pre W → pre.length < size → YieldAt Fence.wide (n - 1) Try.prog l (encD size x) W fun e W' =>
      (e = .returned (.bool true) ∧ J (pre ++ [x]) W' ∧ KpCell Bs W W') ∨ (e = .returned (.bool false) ∧ Jx (pre ++ [x]) W'))
    (W : World) (hc : W.cell? ⟨Bs, 0, none⟩ = some (.int .i64 (size : Int))) (h0 : J [] W) :
    CallsIn Fence.wide n Try.prog 124 #[.func (.yield l) #[] #[], .pointer (some ⟨Bs, 0, none⟩)] W fun e W' => (∃ v, e = .returned v) ∧
      ((∃ xs, xs = List.finRange size ∧ J xs W') ∨ (∃ pre, True ∧ Jx pre W')) := by
  refine callsIn_of_wp Try.func124 rfl trivial ?_ rfl
  simp only [Try.ntmps124, List.size_toArray, List.length_cons, List.length_nil, Nat.reduceAdd, Nat.reduceSub, Array.replicate_succ, Array.replicate_zero, List.push_toArray, List.append_toArray, List.nil_append, List.cons_append]
  gi_wp2
  gi_loopw [3] (fun p wr => ∃ k : Nat, p = .int .i64 (k : Int) ∧ k ≤ size ∧ wr.cell? ⟨Bs, 0, none⟩ = some (.int .i64 (size : Int)) ∧ Aside0 (J ((List.finRange size).take k) wr))
    (fun p wr => size - (intOf p).toNat)
  case atStart => exact ⟨0, rfl, Nat.zero_le _, hc, ⟨h0⟩⟩
  case round =>
    obtain ⟨k, rfl, hk, hcell, hJ⟩ := hrel
    by_cases hlt : k < size
    · have hlen : ((List.finRange size).take k).length = k := by simp; omega
      have htk : (List.finRange size).take (k + 1) = (List.finRange size).take k ++ [⟨k, hlt⟩] := by
        rw [List.take_succ_eq_append_getElem (by simp; omega)]
        simp
      have HT := Aside0.mk htk
      clear htk
      obtain ⟨fn, tmps, assign, body, hy, hR⟩ := hY _ ⟨k, hlt⟩ wr hJ.out (by rw [hlen]; exact hlt)
      dsimp only [encD] at hy
      clear hlen
      gi_wp2
      refine hR.mono ?_
      rintro e W3 (⟨rfl, hJ3, hk3⟩ | ⟨rfl, hJx3⟩)
      · have hcell3 := hk3 _ hcell
        have HJ3 := Aside0.mk hJ3
        clear hk3 hJ3 hcell hJ
        gi_wp2
        go_roundw
        case rel => exact ⟨k + 1, by go_num, hlt, hcell3, ⟨by rw [HT.out]; exact HJ3.out⟩⟩
        case measure => simp [intOf]; omega
      · have HJx := Aside0.mk hJx3
        clear hJx3
        gi_wp2
        refine bodyPost_end (results_none rfl _ _ _) rfl ?_
        exact ⟨⟨_, rfl⟩, .inr ⟨_, trivial, HJx.out⟩⟩
    · obtain rfl : k = size := by omega
      gi_wp2
      refine ⟨(fun f h => nomatch h), ?_⟩
      gi_wp2
      refine bodyPost_end (results_none rfl _ _ _) rfl ?_
      refine ⟨⟨_, rfl⟩, .inl ⟨_, rfl, ?_⟩⟩
      have h := hJ.out
      rwa [List.take_of_length_le (by simp)] at h

theorem digits1_stops (n : Nat) (hn : 1 ≤ n) (Bs : Nat) (size : Nat) (hs : size ≤ 8) (w : World) (hBs : Bs < w.heap.size) (hc : w.cell? ⟨Bs, 0, none⟩ = some (.int .i64 (size : Int))) :
    SeqStopsK Fence.wide n Try.prog 124 #[.pointer (some ⟨Bs, 0, none⟩)] (encD size) (KpCell Bs) (fun xs => xs = List.finRange size) (fun _ => True) size w :=
  fun l J Jx W hW _ _ hY h0 => digits1_in n hn l Bs size hs J Jx hY W ((hW.cell (p := ⟨Bs, 0, none⟩) hBs).trans hc) h0
end Go.Proofs.Ytdlhmabjgbiagaa.Oct
