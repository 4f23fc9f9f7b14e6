/-
  Contract of bytes.Compare: the lexicographic order of two slices of bytes; the world stays.
-/
import Derived.Test.YtdlhmabjgbiagaaOctH
import Derived.Laws.Externs
namespace Go.Proofs.Ytdlhmabjgbiagaa.Oct
open Go.RowKit Go.Shelf Go.Proofs.Ytdlhmabjgbiagaa.Blk Go.Proofs.YtdlhmabjgbiagaaW.PrintWords Go.Proofs.YtdlhmabjgbiagaaW.PrintLast Go.Proofs.YtdlhmabjgbiagaaW.PrintMore Go.Proofs.Ytdlhmabjgbiagaa.POctetRows
set_option linter.unusedVariables false
set_option linter.unusedSimpArgs false

theorem bytesOf_C {P : Program} (A : Option Addr) (c : Nat) (l : List Int) (w : World) (h : Kd.C (Kd.int .u8) w A l.length l) :
    (Extern.Bytes.bytesOf (.slice A l.length c)).run P w = .ok ⟨(Lib.bytesOf l).toArray⟩ w := by
  cases A with
  | none =>
    obtain rfl := C_none h
    rfl
  | some a =>
    have h2 := Lib.run_loadBytesX (P := P) w l a .empty (fun j x hj => by
      have hjl := (List.getElem?_eq_some_iff.1 hj).1
      obtain ⟨ad, e, hc⟩ := Kd.at_int h (j : Int) (by omega) (by omega)
      obtain rfl := Option.some.inj e
      rw [Int.toNat_natCast] at hc
      rw [hc]
      unfold rd
      rw [Int.toNat_natCast, List.getD_eq_getElem?_getD, hj]
      rfl)
    show (Extern.Bytes.loadBytes a l.length .empty).run P w = _
    rw [h2]
    simp
theorem run_compare {P : Program} (A : Option Addr) (c : Nat) (l : List Int) (A' : Option Addr) (c' : Nat) (l' : List Int) (w : World) (h : Kd.C (Kd.int .u8) w A l.length l) (h' : Kd.C (Kd.int .u8) w A' l'.length l') :
    (Extern.BytealgCompare.compare #[.slice A l.length c, .slice A' l'.length c']).run P w = .ok (.int .i64 (cmpI l l')) w := by
  change Sem.run P (do pure (goInt (Extern.BytealgCompare.cmp (← Extern.Bytes.bytesOf (.slice A l.length c)) (← Extern.Bytes.bytesOf (.slice A' l'.length c'))))) w = _
  simp only [Sem.run_bind, bytesOf_C A c l w h, bytesOf_C A' c' l' w h', Result.andThen, Sem.run_pure]
  rw [Lib.cmp_eq]
  rfl
theorem row_get2 {k : IntKind} {cs : List Value} {ys : List Int} (h : cs.take ys.length = ys.map (Value.int k)) (i : Nat) (hi : i < ys.length) : cs[i]? = some (.int k (rd ys i)) := by
  have := congrArg (fun l => l[i]?) h
  simp only [List.getElem?_take_of_lt hi, List.getElem?_map] at this
  rw [this]
  unfold rd
  simp [List.getD_eq_getElem?_getD, List.getElem?_eq_getElem hi]
theorem row_set2 {k : IntKind} {cs : List Value} {ys : List Int} (h : cs.take ys.length = ys.map (Value.int k)) (i : Nat) (x : Int) : (cs.set i (.int k x)).take ys.length = (ys.set i x).map (Value.int k) := by
  rw [List.take_set, h, List.map_set]
set_option maxRecDepth 100000 in
set_option maxHeartbeats 1000000 in
theorem compare_calls (A : Option Addr) (c : Nat) (l : List Int) (A' : Option Addr) (c' : Nat) (l' : List Int) (w : World) (h : Kd.C (Kd.int .u8) w A l.length l) (h' : Kd.C (Kd.int .u8) w A' l'.length l') :
    Calls Try.prog 32 #[.slice A l.length c, .slice A' l'.length c'] w fun e w' => e = .returned (.int .i64 (cmpI l l')) ∧ w' = w := by
  have HR := Aside0.mk (run_compare (P := Try.prog) A c l A' c' l' w h h')
  clear h h'
  go_enter Try.func32, Try.ntmps32
  go_wp2
  rw [run_callFunc_extern Try.func73 (by kernel_rfl) (by kernel_rfl) (by kernel_rfl) (e := Extern.BytealgCompare.compare) (by kernel_rfl), HR.out]
  simp only [Result.andThen]
  rw [Oper.upon_value]
  go_wp2
  go_ret
  exact ⟨rfl, rfl⟩
end Go.Proofs.Ytdlhmabjgbiagaa.Oct
