/-
  Lemmas on a block of plain cells that is known whole; they speak of no program.
-/
import Derived.Below
import Derived.OneCell
import Derived.OwnWalk
import Derived.RangeFuncFrom
import Derived.Maps.Range
import Derived.Deep.Draws
import Derived.Maps.AppendAt
namespace Go.Proofs.Ytdlhmabjgbiagaa.Blk
open Go.RowKit
set_option linter.unusedVariables false

/-- A block of plain cells, known whole. -/
def Blk (w : World) (B : Nat) (cs : List Value) (t : Nat) : Prop := w.heap[B]? = some (.cells cs.toArray t (0, 0))
section
variable {w w' : World} {B : Nat} {cs : List Value} {t : Nat}
theorem Blk.lt (h : Blk w B cs t) : B < w.heap.size := lt_of_block h
theorem Blk.cell (h : Blk w B cs t) {j : Nat} {v : Value} (hv : cs[j]? = some v) : w.cell? ⟨B, j, none⟩ = some v := by
  unfold Blk at h
  simp [World.cell?, h, hv]
theorem Blk.frozen (h : Blk w B cs t) (j : Nat) : w.frozen? ⟨B, j, none⟩ = false := by
  unfold Blk at h
  simp [World.frozen?, h]
theorem Blk.set (h : Blk w B cs t) (j : Nat) (v : Value) : Blk (w.setCell ⟨B, j, none⟩ v) B (cs.set j v) t := by
  have hlt := h.lt
  unfold Blk at h ⊢
  have h' : w.heap[B] = .cells cs.toArray t (0, 0) := by simpa [Array.getElem?_eq_getElem hlt] using h
  show (w.heap.modify B _)[B]? = _
  rw [Array.getElem?_eq_getElem (by simpa using hlt), Array.getElem_modify_self, h']
  simp
theorem Blk.far (h : Blk w B cs t) {a : Addr} (hne : B ≠ a.block) (v : Value) : Blk (w.setCell a v) B cs t := by
  unfold Blk at h ⊢
  rw [Below.heap_setCell _ _ _ _ hne]
  exact h
theorem Blk.grown (h : Blk w B cs t) {row : Option Nat} (hg : w.grownBy w' row) (hne : some B ≠ row) : Blk w' B cs t := (hg.block B h.lt hne).trans h
theorem Blk.below (h : Blk w B cs t) {n : Nat} (hb : Below n w w') (hlt : B < n) : Blk w' B cs t := (hb.block B hlt).trans h
theorem Blk.alloc (h : Blk w B cs t) (o : Obj) : Blk (w.alloc o) B cs t := (Below.heap_alloc w o B h.lt).trans h
theorem Blk.drew (h : Blk w B cs t) : Blk w.drew B cs t := h
theorem Blk.drewN (h : Blk w B cs t) (n : Nat) : Blk (w.drewN n) B cs t := h
theorem Blk.new (w : World) (cs : List Value) (t : Nat) : Blk (w.alloc (.cells cs.toArray t (0, 0))) w.heap.size cs t := heap_alloc_new w _
theorem Blk.new' (w : World) (cs : List Value) (t n : Nat) (hn : w.heap.size = n) : Blk (w.alloc (.cells cs.toArray t (0, 0))) n cs t := by subst hn; exact Blk.new w cs t
theorem Blk.putObj (h : Blk w B cs t) {l : Nat} {o o' : Obj} (hl : w.heap[l]? = some o) (ho : o.isCells = false) : Blk (w.putObj l o') B cs t := by
  refine (World.putObj_heap_other ?_).trans h
  intro e
  subst e
  unfold Blk at h
  rw [h] at hl
  cases hl
  cases ho
theorem Blk.ne (h : Blk w B cs t) {r : Nat} {o : Obj} (hl : w.heap[r]? = some o) (ho : o.isCells = false) : B ≠ r := by
  intro e
  subst e
  unfold Blk at h
  rw [h] at hl
  cases hl
  cases ho
theorem own_blk {β : Type} (B : Nat) (f : β → List Value) (t : Nat) : Own (fun (s : β) W => Blk W B (f s) t) := fun s W W' row hs hg hr => hs.grown hg (fun e => by
  obtain ⟨o, ho, hc⟩ := hr B e.symm
  exact hs.ne ho hc rfl)
end

/-- What is written next to a known block lies at or beyond the heap's first size. -/
theorem ownFrom_grown {β : Type} {w : World} {n : Nat} (row : Option Nat) (hn : w.heap.size ≤ n) : OwnFrom n (fun (_ : β) W => w.grownBy W row) := fun s W W' row' hs hg hr =>
  hs.andThen hg (fun j e => .inl (Nat.le_trans hn (hr j e).1))
theorem grown_alloc {w W : World} {row : Option Nat} (h : w.grownBy W row) (o : Obj) : w.grownBy (W.alloc o) row := h.trans (World.grownBy_alloc W o row)
theorem grown_set {w W : World} {row : Option Nat} (h : w.grownBy W row) {a : Addr} (ha : w.heap.size ≤ a.block ∨ row = some a.block) (v : Value) : w.grownBy (W.setCell a v) row :=
  h.andThen (row' := some a.block) ⟨rfl, rfl, rfl, by simp [World.setCell], fun k hk hne => Below.heap_setCell W a v k (fun e => hne (by rw [e]))⟩ (fun j e => by cases e; exact ha)
theorem grown_drew {w W : World} {row : Option Nat} (h : w.grownBy W row) : w.grownBy W.drew row := ⟨h.os, h.tape, h.output, h.size, h.block⟩
theorem grown_drewN {w W : World} {row : Option Nat} (h : w.grownBy W row) (n : Nat) : w.grownBy (W.drewN n) row := ⟨h.os, h.tape, h.output, h.size, h.block⟩
theorem size_drewN (w : World) (n : Nat) : (w.drewN n).heap.size = w.heap.size := rfl
end Go.Proofs.Ytdlhmabjgbiagaa.Blk
