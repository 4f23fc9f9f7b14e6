/-
  Contract of the closure in octet.Take: one number taken.
-/
import Derived.Test.YtdlhmabjgbiagaaOct6
import Derived.Deep.RegionLaw
namespace Go.Proofs.Ytdlhmabjgbiagaa.Oct
open Go.RowKit Go.Shelf Go.Proofs.Ytdlhmabjgbiagaa.Blk Go.Proofs.YtdlhmabjgbiagaaW.PrintWords Go.Proofs.YtdlhmabjgbiagaaW.PrintLast Go.Proofs.YtdlhmabjgbiagaaW.PrintMore Go.Proofs.Ytdlhmabjgbiagaa.POctetRows
set_option linter.unusedVariables false
set_option linter.unusedSimpArgs false

/-- A call of a Go function at a step of a region that draws its order. -/
theorem step_call {P : Program} {ops : Array Oper} {o : Oper} {a : Act} {w : World} {K : Act → World → Prop} {Q : Exit → Act → World → Prop} {E : Prop} (hg : o.guard = none) {f : FuncId} {fn : Func} {ars : Array Operand} {ts : Array TypeId}
    (hf : P.funcs[f]? = some fn) (hname : (fn.name == "runtime.NumGoroutine") = false) (hb : fn.body.isSome = true) (args : Array Value)
    (hop : o.op = .call { callee := .value (.func f), args := ars, argTypes := ts }) (hargs : ars.map a.eval = args)
    (h : Calls P f args w fun e w' => ∃ v, e = .returned v ∧ K (a.put o.dst v) w') : if Region.wanted o (yielded ops a.tmps) = true then Oper.wp P o a w K Q else E := by
  have hw : Region.wanted o (yielded ops a.tmps) = true := by simp [Region.wanted, hg]
  rw [if_pos hw]
  have he := enters_ hf hname hb args w
  have hrun : (execOp a.eval o).run P w = .ok (.enter f args) w := by
    unfold execOp
    simp [hop, resolve, Deferred.ofValue, invoke, Act.eval, hargs, he]
  unfold Oper.wp
  rw [hrun, Oper.upon_enter]
  refine h.mono fun e w'' hh => ?_
  obtain ⟨v, rfl, hk⟩ := hh
  exact hk

/-- What a part says. -/
def valO (l : List Int) : Int := valF l (List.finRange l.length)

set_option maxRecDepth 100000 in
set_option maxHeartbeats 2000000 in
theorem take1_calls (k : Int) (A : Option Addr) (cap : Nat) (part : List Int) (Bl base : Nat) (v : Value) (xs : List Int) (w : World) (hlen : part.length ≤ 8) (hr : Kd.C (Kd.int .u8) w A part.length part) (hwf : ∀ x ∈ part, 0 ≤ x ∧ x ≤ 255)
    (hl : Blk w Bl [v] 23) (ho : w.ownsRow base 40 1 v xs.length (nums .u64 xs)) (hb : base ≤ Bl) (hn : xs.length ≤ 1000000000) :
    Calls Try.prog 64 #[.int .i64 k, .slice A part.length cap, .pointer (some ⟨Bl, 0, none⟩)] w fun e w' => e = .returned (.bool true) ∧ ∃ v1, Blk w' Bl [v1] 23 ∧ w'.ownsRow base 40 1 v1 (xs ++ [valO part]).length (nums .u64 (xs ++ [valO part])) ∧ Below base w w' := by
  obtain ⟨i0, hi, hz0, hz1, hz2⟩ := info_parts info40
  have hBl := hl.lt
  have c1 := hl.cell (j := 0) rfl
  have f1 := hl.frozen 0
  have hne : v.ownBlock ≠ some Bl := by
    rcases ho.2 with ⟨rfl, _⟩ | ⟨g, cap, cur, rfl, _, hh, _⟩
    · simp [Value.ownBlock]
    · intro e
      have : g = Bl := by simpa [Value.ownBlock] using e
      subst this
      unfold Blk at hl
      rw [hh] at hl
      simp at hl
  have HO := Aside0.mk ho
  have HR := Aside0.mk hr
  have HW := Aside0.mk hwf
  have HL := Aside0.mk hl
  have HN := Aside0.mk hne
  have k1 : ∀ w2 : World, Below w.heap.size w w2 → w2.cell? ⟨Bl, 0, none⟩ = some v ∧ w2.frozen? ⟨Bl, 0, none⟩ = false := fun w2 h => ⟨(hl.below h hBl).cell (j := 0) rfl, (hl.below h hBl).frozen 0⟩
  have k2 : ∀ w2 : World, Below w.heap.size w w2 → ∀ o : Obj, (w2.alloc o).cell? ⟨Bl, 0, none⟩ = some v ∧ (w2.alloc o).frozen? ⟨Bl, 0, none⟩ = false := fun w2 h o => ⟨((hl.below h hBl).alloc o).cell (j := 0) rfl, ((hl.below h hBl).alloc o).frozen 0⟩
  have k3 : ∀ w2 : World, Below w.heap.size w w2 → ∀ (o : Obj) (w3 : World), (w2.alloc o).grownBy w3 v.ownBlock → w3.cell? ⟨Bl, 0, none⟩ = some v ∧ w3.frozen? ⟨Bl, 0, none⟩ = false := fun w2 h o w3 hg => ⟨(((hl.below h hBl).alloc o).grown hg (Ne.symm hne)).cell (j := 0) rfl, (((hl.below h hBl).alloc o).grown hg (Ne.symm hne)).frozen 0⟩
  have K1 := Aside0.mk k1
  have K2 := Aside0.mk k2
  have K3 := Aside0.mk k3
  clear ho hr hwf hl hne k1 k2 k3
  go_enter Try.func64, Try.ntmps64
  go_wp2_with fail
  go_region_law (first
      | (refine step_call (by rfl) Try.func65 (by kernel_rfl) rfl #[.slice A part.length cap] (by rfl) (by simp only [List.map_toArray, List.map_cons, List.map_nil]; rfl) ?_; refine (value_calls A cap part _ hlen (Kd.C_below HR.out (below_drew (Below.refl _ _))) HW.out).mono ?_; rintro e w2 ⟨rfl, hb2⟩; have hb3 : Below w.heap.size w w2 := ⟨hb2.os, hb2.tape, hb2.output, hb2.size, hb2.block⟩; clear hb2; refine ⟨_, rfl, ?_⟩; have c2 := (K1.out w2 hb3).1; have c3 := fun o => (K2.out w2 hb3 o).1)
      | (refine step_append_lies _ (by rfl) _ _ _ (by rfl) base 40 i0 _ 1 8 Try.underlying23 hi hz0 hz1 hz2 rfl (by omega) v xs.length (nums .u64 xs) (by rfl) ((pw_own_below HO.out hb3).alloc _) ⟨w2.heap.size, 0, none⟩ 1 1 [.int .u64 (valF part (List.finRange part.length))] (by rfl) (by rfl) (World.news_of_block (cs := #[.int .u64 (valF part (List.finRange part.length))]) (t := 40) (fr := (0, 0)) (heap_alloc_new w2 _)) (by simp [Value.oneCell']) (by omega) (by unfold maxLen; omega) (by omega) (by have := hb3.size; simp; omega) (w2.heap.size + 1) (by simp) ?_; intro gg cap2 w3 hown3 hgrow hat hlt; have c4 := (K3.out w2 hb3 _ w3 hgrow).1; have f4 := (K3.out w2 hb3 _ w3 hgrow).2))
  all_goals
    have hgB : gg ≠ Bl := by
      rcases hat with hat | hat
      · exact fun e => HN.out (by rw [hat, e])
      · have := hb3.size
        omega
    have H1 := Aside0.mk ((((HL.out.below hb3 hBl).alloc (.cells #[.int .u64 (valF part (List.finRange part.length))] 40)).grown hgrow (Ne.symm HN.out)).set 0 (.slice (some ⟨gg, 0, none⟩) (xs.length + 1) cap2))
    have H2 := Aside0.mk (ownsRow_setCell_other (a := ⟨Bl, 0, none⟩) hown3 (by simp [Value.ownBlock]; exact hgB) (.slice (some ⟨gg, 0, none⟩) (xs.length + 1) cap2))
    have H3 := Aside0.mk ((((hb3.mono (B' := base) (by omega)).alloc (by have := hb3.size; omega) (.cells #[.int .u64 (valF part (List.finRange part.length))] 40)).grown hgrow (by have := hb3.size; simp; omega) (own_base HO.out)).setCell (p := ⟨Bl, 0, none⟩) hb (.slice (some ⟨gg, 0, none⟩) (xs.length + 1) cap2))
    clear hgrow hown3 hat hlt c2 c3 c4 f4 hb3 c1 f1
    go_wp2
    go_ret
    refine ⟨rfl, _, H1.out, ?_, H3.out⟩
    have h := H2.out
    simpa [nums, valO] using h
end Go.Proofs.Ytdlhmabjgbiagaa.Oct
