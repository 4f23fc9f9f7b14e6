/-
  Contract of octet.cut at its two closures: for every row of sizes from 1 to 8 that fits the bytes.
-/
import Derived.Test.YtdlhmabjgbiagaaOct3
namespace Go.Proofs.Ytdlhmabjgbiagaa.Oct
open Go.RowKit Go.Shelf Go.Proofs.Ytdlhmabjgbiagaa.Blk Go.Proofs.YtdlhmabjgbiagaaW.PrintWords Go.Proofs.YtdlhmabjgbiagaaW.PrintLast Go.Proofs.YtdlhmabjgbiagaaW.PrintMore Go.Proofs.Ytdlhmabjgbiagaa.POctetRows
set_option linter.unusedVariables false
set_option linter.unusedSimpArgs false

/-- Where the k-th part begins. -/
def offs (sizes : List Int) (k : Nat) : Nat := ((sizes.take k).map Int.toNat).sum
theorem offs_zero (sizes : List Int) : offs sizes 0 = 0 := by simp [offs]
theorem rd_mem (l : List Int) (k : Nat) (h : k < l.length) : rd l k ∈ l := by
  unfold rd
  simp [List.getD_eq_getElem?_getD, List.getElem?_eq_getElem h]
theorem offs_succ (sizes : List Int) (k : Nat) (h : k < sizes.length) (h0 : 0 ≤ rd sizes k) : (offs sizes (k + 1) : Int) = offs sizes k + rd sizes k := by
  unfold offs
  rw [List.take_succ_eq_append_getElem h, List.map_append, List.sum_append]
  have e : rd sizes k = sizes[k] := by
    unfold rd
    simp [List.getD_eq_getElem?_getD, List.getElem?_eq_getElem h]
  rw [e] at h0 ⊢
  simp
  omega
theorem offs_mono (sizes : List Int) (j : Nat) : ∀ k, j ≤ k → (∀ s ∈ sizes, 1 ≤ s) → offs sizes j ≤ offs sizes k := by
  intro k hjk hs
  induction k with
  | zero => obtain rfl : j = 0 := by omega
            exact Nat.le_refl _
  | succ k ih =>
    by_cases e : j = k + 1
    · rw [e]; exact Nat.le_refl _
    · have h1 := ih (by omega)
      by_cases hk : k < sizes.length
      · have h2 := offs_succ sizes k hk (by have := hs _ (rd_mem sizes k hk); omega)
        have h3 := hs _ (rd_mem sizes k hk)
        omega
      · have h2 : offs sizes (k + 1) = offs sizes k := by
          unfold offs
          rw [List.take_of_length_le (by omega), List.take_of_length_le (by omega)]
        omega
theorem addr_add (a : Addr) (i j : Nat) : (a.add i).add j = a.add (i + j) := by
  unfold Addr.add
  by_cases hi : i = 0
  · subst hi; simp
  · by_cases hj : j = 0
    · subst hj; simp
    · rw [if_neg hi, if_neg hj, if_neg (by omega)]
      simp [Nat.add_assoc]

set_option maxRecDepth 100000 in
set_option maxHeartbeats 2000000 in
/-- Cutting bytes into parts, whatever the closure 60 does with each of them. -/
theorem cut60 (As : Option Addr) (cs : Nat) (a0 : Addr) (n cap : Nat) (c0 c1 : Value) (sizes : List Int) (w : World)
    (hcs : sizes.length ≤ cs) (hn : n ≤ cap) (hm : cap ≤ 9223372036854775807) (hok : ∀ s ∈ sizes, 1 ≤ s ∧ s ≤ 8) (hsum : offs sizes sizes.length ≤ n)
    (I X : Nat → World → Prop) (hI : ∀ k W, I k W → Kd.C (Kd.int .i64) W As sizes.length sizes)
    (hdo : ∀ k W, k < sizes.length → I k W → Calls Try.prog 60 #[.int .i64 (k : Int), .slice (some (a0.add (offs sizes k))) (rd sizes k).toNat (rd sizes k).toNat, c0, c1] W fun e W' =>
      (e = .returned (.bool true) ∧ I (k + 1) W') ∨ (e = .returned (.bool false) ∧ X k W'))
    (h0 : I 0 w) :
    Calls Try.prog 59 #[.slice As sizes.length cs, .slice (some a0) n cap, .func (.func 60) #[] #[c0, c1]] w fun e w' => e = .returned (.tuple #[]) ∧ (I sizes.length w' ∨ ∃ k, k < sizes.length ∧ X k w') := by
  have hl : sizes.length ≤ 9223372036854775807 := (hI 0 w h0).2.1
  have HI := Aside0.mk hI
  have HD := Aside0.mk hdo
  have H0 := Aside0.mk h0
  have HS := Aside0.mk hsum
  clear hI hdo h0 hsum
  go_enter Try.func59, Try.ntmps59
  go_wp2
  go_loopw [1, 10] (fun v1 v10 wr => ∃ (k : Nat) (a : Addr), v10 = .int .i64 (k : Int) ∧ k ≤ sizes.length ∧ v1 = .slice (some a) (n - offs sizes k) (cap - offs sizes k) ∧ Aside0 (offs sizes k < cap → a = a0.add (offs sizes k)) ∧ Aside0 (I k wr)) (fun _ v10 _ => sizes.length - (intOf v10).toNat)
  case atStart => exact ⟨0, a0, rfl, Nat.zero_le _, by simp [offs_zero], ⟨fun _ => by simp [offs_zero, Addr.add]⟩, H0⟩
  case round =>
    obtain ⟨k, a, rfl, hk, rfl, hA, hi⟩ := hrel
    by_cases hlt : k < sizes.length
    · have hmem := rd_mem sizes k hlt
      have hb := hok _ hmem
      obtain ⟨z, hz⟩ : ∃ z : Nat, (z : Int) = rd sizes k := ⟨(rd sizes k).toNat, by omega⟩
      have ho1 := offs_succ sizes k hlt (by omega)
      have ho2 := offs_mono sizes (k + 1) sizes.length (by omega) (fun s hs => (hok s hs).1)
      have hsum := HS.out
      have hfit : offs sizes k + z ≤ n := by omega
      have hAk := Aside0.mk (hA.out (by omega))
      obtain ⟨ad, e, hcell⟩ := Kd.at_int (HI.out k _ hi.out) (k : Int) (by omega) (by omega)
      simp only [Int.toNat_natCast] at hcell
      subst e
      have HDk := Aside0.mk (HD.out k _ hlt hi.out)
      have hsz : (rd sizes k).toNat = z := by omega
      rw [hsz] at HDk
      have hz1 : 1 ≤ z := by omega
      have hz8 : z ≤ 8 := by omega
      have ho3 : offs sizes (k + 1) = offs sizes k + z := by omega
      rw [← hz] at hcell
      have HO := Aside0.mk ho3
      clear hz hmem hb ho1 ho2 hsum hsz ho3 HI hA
      obtain ⟨r, hr⟩ : ∃ r, n - offs sizes k = z + r := ⟨n - offs sizes k - z, by omega⟩
      obtain ⟨q, hq⟩ : ∃ q, cap - offs sizes k = z + q := ⟨cap - offs sizes k - z, by omega⟩
      have hrq : r ≤ q := by omega
      have hqm : z + q ≤ 9223372036854775807 := by omega
      have HR := Aside0.mk hr
      have HQ := Aside0.mk hq
      have HF := Aside0.mk hfit
      rw [hr, hq]
      clear hr hq hfit
      go_wp2_with fail
      have h := HDk.out
      rw [← hAk.out] at h
      refine h.mono ?_
      clear h HDk
      rintro e w' (⟨rfl, hI1⟩ | ⟨rfl, hX⟩)
      · have HI1 := Aside0.mk hI1
        clear hI1 hi
        go_wp2
        go_roundw
        case rel =>
          have h1 := HR.out
          have h2 := HQ.out
          have h3 := HO.out
          refine ⟨k + 1, if q = 0 then a else a.add z, by go_num, hlt, ?_, ⟨fun hlt2 => ?_⟩, HI1⟩
          · rw [show n - offs sizes (k + 1) = r from by omega, show cap - offs sizes (k + 1) = q from by omega]
            split <;> rfl
          · rw [if_neg (by omega), hAk.out, h3, ← addr_add]
        case measure => simp [intOf]; omega
      · have HX := Aside0.mk hX
        clear hX hi
        go_wp2
        refine bodyPost_ret (results_none rfl _ _ _) rfl ?_
        exact ⟨rfl, .inr ⟨k, hlt, HX.out⟩⟩
    · obtain rfl : k = sizes.length := by omega
      go_wp2
      go_end0
      exact ⟨rfl, .inl hi.out⟩

set_option maxRecDepth 100000 in
set_option maxHeartbeats 2000000 in
/-- Cutting bytes into parts, whatever the closure 64 does with each of them. -/
theorem cut64 (As : Option Addr) (cs : Nat) (a0 : Addr) (n cap : Nat) (c0 : Value) (sizes : List Int) (w : World)
    (hcs : sizes.length ≤ cs) (hn : n ≤ cap) (hm : cap ≤ 9223372036854775807) (hok : ∀ s ∈ sizes, 1 ≤ s ∧ s ≤ 8) (hsum : offs sizes sizes.length ≤ n)
    (I X : Nat → World → Prop) (hI : ∀ k W, I k W → Kd.C (Kd.int .i64) W As sizes.length sizes)
    (hdo : ∀ k W, k < sizes.length → I k W → Calls Try.prog 64 #[.int .i64 (k : Int), .slice (some (a0.add (offs sizes k))) (rd sizes k).toNat (rd sizes k).toNat, c0] W fun e W' =>
      (e = .returned (.bool true) ∧ I (k + 1) W') ∨ (e = .returned (.bool false) ∧ X k W'))
    (h0 : I 0 w) :
    Calls Try.prog 59 #[.slice As sizes.length cs, .slice (some a0) n cap, .func (.func 64) #[] #[c0]] w fun e w' => e = .returned (.tuple #[]) ∧ (I sizes.length w' ∨ ∃ k, k < sizes.length ∧ X k w') := by
  have hl : sizes.length ≤ 9223372036854775807 := (hI 0 w h0).2.1
  have HI := Aside0.mk hI
  have HD := Aside0.mk hdo
  have H0 := Aside0.mk h0
  have HS := Aside0.mk hsum
  clear hI hdo h0 hsum
  go_enter Try.func59, Try.ntmps59
  go_wp2
  go_loopw [1, 10] (fun v1 v10 wr => ∃ (k : Nat) (a : Addr), v10 = .int .i64 (k : Int) ∧ k ≤ sizes.length ∧ v1 = .slice (some a) (n - offs sizes k) (cap - offs sizes k) ∧ Aside0 (offs sizes k < cap → a = a0.add (offs sizes k)) ∧ Aside0 (I k wr)) (fun _ v10 _ => sizes.length - (intOf v10).toNat)
  case atStart => exact ⟨0, a0, rfl, Nat.zero_le _, by simp [offs_zero], ⟨fun _ => by simp [offs_zero, Addr.add]⟩, H0⟩
  case round =>
    obtain ⟨k, a, rfl, hk, rfl, hA, hi⟩ := hrel
    by_cases hlt : k < sizes.length
    · have hmem := rd_mem sizes k hlt
      have hb := hok _ hmem
      obtain ⟨z, hz⟩ : ∃ z : Nat, (z : Int) = rd sizes k := ⟨(rd sizes k).toNat, by omega⟩
      have ho1 := offs_succ sizes k hlt (by omega)
      have ho2 := offs_mono sizes (k + 1) sizes.length (by omega) (fun s hs => (hok s hs).1)
      have hsum := HS.out
      have hfit : offs sizes k + z ≤ n := by omega
      have hAk := Aside0.mk (hA.out (by omega))
      obtain ⟨ad, e, hcell⟩ := Kd.at_int (HI.out k _ hi.out) (k : Int) (by omega) (by omega)
      simp only [Int.toNat_natCast] at hcell
      subst e
      have HDk := Aside0.mk (HD.out k _ hlt hi.out)
      have hsz : (rd sizes k).toNat = z := by omega
      rw [hsz] at HDk
      have hz1 : 1 ≤ z := by omega
      have hz8 : z ≤ 8 := by omega
      have ho3 : offs sizes (k + 1) = offs sizes k + z := by omega
      rw [← hz] at hcell
      have HO := Aside0.mk ho3
      clear hz hmem hb ho1 ho2 hsum hsz ho3 HI hA
      obtain ⟨r, hr⟩ : ∃ r, n - offs sizes k = z + r := ⟨n - offs sizes k - z, by omega⟩
      obtain ⟨q, hq⟩ : ∃ q, cap - offs sizes k = z + q := ⟨cap - offs sizes k - z, by omega⟩
      have hrq : r ≤ q := by omega
      have hqm : z + q ≤ 9223372036854775807 := by omega
      have HR := Aside0.mk hr
      have HQ := Aside0.mk hq
      have HF := Aside0.mk hfit
      rw [hr, hq]
      clear hr hq hfit
      go_wp2_with fail
      have h := HDk.out
      rw [← hAk.out] at h
      refine h.mono ?_
      clear h HDk
      rintro e w' (⟨rfl, hI1⟩ | ⟨rfl, hX⟩)
      · have HI1 := Aside0.mk hI1
        clear hI1 hi
        go_wp2
        go_roundw
        case rel =>
          have h1 := HR.out
          have h2 := HQ.out
          have h3 := HO.out
          refine ⟨k + 1, if q = 0 then a else a.add z, by go_num, hlt, ?_, ⟨fun hlt2 => ?_⟩, HI1⟩
          · rw [show n - offs sizes (k + 1) = r from by omega, show cap - offs sizes (k + 1) = q from by omega]
            split <;> rfl
          · rw [if_neg (by omega), hAk.out, h3, ← addr_add]
        case measure => simp [intOf]; omega
      · have HX := Aside0.mk hX
        clear hX hi
        go_wp2
        refine bodyPost_ret (results_none rfl _ _ _) rfl ?_
        exact ⟨rfl, .inr ⟨k, hlt, HX.out⟩⟩
    · obtain rfl : k = sizes.length := by omega
      go_wp2
      go_end0
      exact ⟨rfl, .inl hi.out⟩
end Go.Proofs.Ytdlhmabjgbiagaa.Oct
