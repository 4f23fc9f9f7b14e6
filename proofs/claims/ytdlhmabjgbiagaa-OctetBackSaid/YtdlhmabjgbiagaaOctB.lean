/-
  Contracts of octet.At and octet.Put: for all bytes within the reach, every place, size and number.
-/
import Derived.Test.YtdlhmabjgbiagaaOctA
namespace Go.Proofs.Ytdlhmabjgbiagaa.Oct
open Go.RowKit Go.Shelf Go.Proofs.Ytdlhmabjgbiagaa.Blk Go.Proofs.YtdlhmabjgbiagaaW.PrintWords Go.Proofs.YtdlhmabjgbiagaaW.PrintLast Go.Proofs.YtdlhmabjgbiagaaW.PrintMore Go.Proofs.Ytdlhmabjgbiagaa.POctetRows
set_option linter.unusedVariables false
set_option linter.unusedSimpArgs false

/-- A place is all within so many bytes. -/
def insB (m : Nat) (at_ size : Int) : Bool := decide (0 ≤ at_) && decide (at_ ≤ m) && decide (size ≤ (m : Int) - at_)
theorem within_f (l : List Int) (at_ size : Int) (hm : l.length ≤ 140737488355328) (h8 : size ≤ 8) : octet_within.f l at_ size = some (insB l.length at_ size) := by
  unfold octet_within.f insB
  by_cases h1 : 0 ≤ at_
  · by_cases h2 : at_ ≤ (l.length : Int)
    · have hw : wrap64 ((l.length : Int) - at_) = (l.length : Int) - at_ := by unfold wrap64; omega
      simp [h1, h2, hw]
    · simp [h1, h2]
  · simp [h1]
theorem sizedB_range (size : Int) (h : sizedB size = true) : 1 ≤ size ∧ size ≤ 8 := by
  simp [sizedB] at h
  omega

theorem value_num (A : Option Addr) (cap : Nat) (l : List Int) (w : World) (hlen : l.length ≤ 8) (hr : Kd.C (Kd.int .u8) w A l.length l) (hwf : ∀ x ∈ l, 0 ≤ x ∧ x ≤ 255) :
    Calls Try.prog 65 #[.slice A l.length cap] w fun e w' => e = .returned (.int .u64 (numL l)) ∧ Below w.heap.size w w' :=
  (value_calls A cap l w hlen hr hwf).mono (fun e w' h => ⟨by rw [← valO_numL l hlen hwf]; exact h.1, h.2⟩)
/-- What At tells. -/
def atL (l : List Int) (at_ size : Int) : Int × Bool := if sizedB size && insB l.length at_ size then (numL ((l.drop at_.toNat).take size.toNat), true) else (0, false)

set_option maxRecDepth 100000 in
set_option maxHeartbeats 2000000 in
theorem at_calls (A : Option Addr) (c : Nat) (l : List Int) (at_ size : Int) (w : World) (hr : Kd.C (Kd.int .u8) w A l.length l) (hc : l.length ≤ c) (hcm : c ≤ 9223372036854775807 ∧ l.length ≤ 140737488355328) (hwf : ∀ x ∈ l, 0 ≤ x ∧ x ≤ 255) :
    Calls Try.prog 22 #[.slice A l.length c, .int .i64 at_, .int .i64 size] w fun e w' => e = .returned (.tuple #[.int .u64 (atL l at_ size).1, .bool (atL l at_ size).2]) ∧ Below w.heap.size w w' := by
  have HR := Aside0.mk hr
  have HC := Aside0.mk hc
  have HW := Aside0.mk hwf
  clear hr hwf
  cases hs : sizedB size with
  | false =>
    have HE := Aside0.mk (show atL l at_ size = (0, false) by simp [atL, hs])
    have HS := Aside0.mk (sized_f size)
    have HV := Aside0.mk hs
    clear hs
    go_enter Try.func22, Try.ntmps22
    go_wp2_with (go_at_call 70; refine (octet_sized.calls size (sizedB size) _ HS.out).mono ?_; rw [HV.out]; rintro e w' ⟨rfl, ⟨nd, rfl⟩⟩)
    go_ret2
    rw [HE.out]
    exact ⟨rfl, pw_below_drewN (Below.refl _ _) _⟩
  | true =>
    obtain ⟨hz1, hz8⟩ := sizedB_range size hs
    have HI := Aside0.mk (within_f l at_ size (by omega) hz8)
    have HS := Aside0.mk (sized_f size)
    cases hi : insB l.length at_ size with
    | false =>
      have HE := Aside0.mk (show atL l at_ size = (0, false) by simp [atL, hi])
      have HV := Aside0.mk hs
      have HV2 := Aside0.mk hi
      clear hs hi
      go_enter Try.func22, Try.ntmps22
      go_wp2_with (first | (go_at_call 70; refine (octet_sized.calls size (sizedB size) _ HS.out).mono ?_; rw [HV.out]; rintro e w' ⟨rfl, ⟨nd, rfl⟩⟩) | (go_at_call 72; refine (octet_within.calls A c l at_ size _ _ (Kd.C_below HR.out (pw_below_drewN (Below.refl _ _) _)) HC.out HI.out).mono ?_; rw [HV2.out]; rintro e w' ⟨rfl, ⟨nd2, rfl⟩⟩))
      go_ret2
      rw [HE.out]
      exact ⟨rfl, by repeat (first | exact Below.refl _ _ | apply pw_below_drewN)⟩
    | true =>
      have HE := Aside0.mk (show atL l at_ size = (numL ((l.drop at_.toNat).take size.toNat), true) by simp [atL, hi, hs])
      have HV := Aside0.mk hs
      have HV2 := Aside0.mk hi
      have hb : 0 ≤ at_ ∧ at_ ≤ l.length ∧ size ≤ (l.length : Int) - at_ := by simpa [insB, and_assoc] using hi
      obtain ⟨x, rfl⟩ := Int.eq_ofNat_of_zero_le hb.1
      obtain ⟨z, rfl⟩ := Int.eq_ofNat_of_zero_le (show 0 ≤ size by omega)
      obtain ⟨a0, e, _⟩ := Kd.at_int HR.out (x : Int) (by omega) (by omega)
      subst e
      have hsub := C_sub HR.out x z (by omega)
      have hpl : ((l.drop x).take z).length = z := by simp; omega
      have hcall : ∀ W c', Below w.heap.size w W → Calls Try.prog 65 #[.slice (some (a0.add x)) z c'] W fun e w' => e = .returned (.int .u64 (numL ((l.drop x).take z))) ∧ Below W.heap.size W w' := by
        intro W c' hW
        have h := value_num (some (a0.add x)) c' ((l.drop x).take z) W (by omega) (by rw [hpl]; exact Kd.C_below hsub hW) (fun y hy => HW.out y (List.mem_of_mem_drop (List.mem_of_mem_take hy)))
        rwa [hpl] at h
      have HCL := Aside0.mk hcall
      have hxc : ¬ (c = x) := by omega
      have h1 : (x : Int) + (z : Int) ≤ (l.length : Int) := by omega
      have h2 : (x : Int) + (z : Int) ≤ (c : Int) := by omega
      clear hs hi hcall hsub hpl hb
      go_enter Try.func22, Try.ntmps22
      go_wp2_with (first | (go_at_call 70; refine (octet_sized.calls z (sizedB z) _ HS.out).mono ?_; rw [HV.out]; rintro e w' ⟨rfl, ⟨nd, rfl⟩⟩) | (go_at_call 72; refine (octet_within.calls (some a0) c l x z _ _ (Kd.C_below HR.out (pw_below_drewN (Below.refl _ _) _)) HC.out HI.out).mono ?_; rw [HV2.out]; rintro e w' ⟨rfl, ⟨nd2, rfl⟩⟩))
      refine (HCL.out _ _ (pw_below_drewN (Below.refl _ _) _)).mono ?_
      rintro e W ⟨rfl, hB⟩
      have HB := Aside0.mk hB
      clear hB
      go_wp2
      go_ret2
      rw [HE.out]
      exact ⟨by simp, ⟨HB.out.os, HB.out.tape, HB.out.output, HB.out.size, HB.out.block⟩⟩

/-- A row of the call's own, its block known whole. -/
theorem R_blk {k : IntKind} {w : World} {base e : Nat} {ok : Nat → Prop} {v : Value} {xs : List Int} (h : (Kd.int k).R e w base ok v xs) (h0 : 0 < xs.length) :
    ∃ g cap cs, v = .slice (some ⟨g, 0, none⟩) xs.length cap ∧ base ≤ g ∧ Blk w g cs e ∧ xs.length ≤ cap ∧ cap ≤ maxLen ∧ cs.length = cap ∧ cs.take xs.length = xs.map (Value.int k) := by
  have ho := Kd.own_of_R h
  rcases ho.2 with ⟨_, h1⟩ | ⟨g, cap, cur, rfl, hb, hh, h1, h2, h3, h4⟩
  · omega
  · refine ⟨g, cap, cur.toList, rfl, hb, by simpa [Blk] using hh, h1, h2, by simpa using h3, ?_⟩
    simpa [encs] using h4
theorem R_of_blk2 (w : World) (g base : Nat) (k : IntKind) (e : Nat) (xs : List Int) (cs : List Value) (cap : Nat) (h : Blk w g cs e) (hb : base ≤ g) (h1 : xs.length ≤ cap) (hm : cap ≤ maxLen) (hl : cs.length = cap) (ht : cs.take xs.length = xs.map (Value.int k)) :
    (Kd.int k).R e w base (fun _ => True) (.slice (some ⟨g, 0, none⟩) xs.length cap) xs := by
  have ht' : cs.toArray.toList.take (xs.length * 1) = encs (Value.int k) xs := by
    simp only [encs, Nat.mul_one]
    exact ht
  exact Kd.R_of_own ⟨by simp [encs], .inr ⟨g, cap, _, rfl, hb, h, h1, hm, by simpa using hl, ht'⟩⟩ (fun _ _ => trivial)

/-- Bytes, a number put at a place. -/
def putB (l : List Int) (x z : Nat) (n : Int) : List Int := l.take x ++ digL n z ++ l.drop (x + z)
theorem putB_length (l : List Int) (x z : Nat) (n : Int) (h : x + z ≤ l.length) : (putB l x z n).length = l.length := by
  simp [putB, digL_length]
  omega
theorem mixd_put (cs : List Value) (l : List Int) (x z : Nat) (n : Int) (h : x + z ≤ l.length) (hl : l.length ≤ cs.length) (ht : cs.take l.length = l.map (Value.int .u8)) :
    (mixd cs x z n (List.finRange z)).take l.length = (putB l x z n).map (Value.int .u8) := by
  obtain ⟨r, hr⟩ : ∃ r, cs = l.map (Value.int .u8) ++ r := ⟨cs.drop l.length, by rw [← ht, List.take_append_drop]⟩
  subst hr
  have e1 : (l.map (Value.int .u8) ++ r).take x = (l.map (Value.int .u8)).take x := List.take_append_of_le_length (by simp; omega)
  have e2 : (l.map (Value.int .u8) ++ r).drop (x + z) = (l.map (Value.int .u8)).drop (x + z) ++ r := List.drop_append_of_le_length (by simp; omega)
  rw [mixd_full _ _ _ _ (by simp; omega), e1, e2, ← List.append_assoc]
  rw [List.take_append_of_le_length (by simp [digL_length]; omega), List.take_of_length_le (by simp [digL_length]; omega)]
  simp [putB]

/-- What Put tells: bytes, and an error. -/
def putL (l : List Int) (at_ size n : Int) : List Int × Int :=
  if sizedB size = false ∨ at_ < 0 then ([], 1) else if fitsB n size.toNat = false then ([], 20) else if insB l.length at_ size = false then ([], 4) else (putB l at_.toNat size.toNat n, 0)

set_option maxRecDepth 100000 in
set_option maxHeartbeats 2000000 in
theorem put_arg (A : Option Addr) (c : Nat) (m : Nat) (at_ size n : Int) (w : World) (h : sizedB size = false ∨ at_ < 0) :
    Calls Try.prog 24 #[.slice A m c, .int .i64 at_, .int .i64 size, .int .u64 n] w fun e w' => e = .returned (.tuple #[.slice none 0 0, .int .i64 1]) ∧ Below w.heap.size w w' := by
  have HS := Aside0.mk (sized_f size)
  cases hs : sizedB size with
  | false =>
    have HV := Aside0.mk hs
    clear hs h
    go_enter Try.func24, Try.ntmps24
    go_wp2_with (go_at_call 70; refine (octet_sized.calls size (sizedB size) _ HS.out).mono ?_; rw [HV.out]; rintro e w' ⟨rfl, ⟨nd, rfl⟩⟩)
    go_ret2
    exact ⟨rfl, pw_below_drewN (Below.refl _ _) _⟩
  | true =>
    have hn : decide (at_ < 0) = true := by
      rcases h with h | h
      · rw [hs] at h; cases h
      · simpa using h
    have HV := Aside0.mk hs
    clear hs h
    go_enter Try.func24, Try.ntmps24
    go_wp2_with (go_at_call 70; refine (octet_sized.calls size (sizedB size) _ HS.out).mono ?_; rw [HV.out]; rintro e w' ⟨rfl, ⟨nd, rfl⟩⟩)
    go_ret2
    exact ⟨rfl, pw_below_drewN (Below.refl _ _) _⟩

set_option maxRecDepth 100000 in
set_option maxHeartbeats 2000000 in
theorem put_range (A : Option Addr) (c : Nat) (m : Nat) (at_ : Int) (z : Nat) (n : Int) (w : World) (hs : sizedB z = true) (ha : 0 ≤ at_) (h0 : 0 ≤ n) (h1 : n < 18446744073709551616) (hf : fitsB n z = false) :
    Calls Try.prog 24 #[.slice A m c, .int .i64 at_, .int .i64 (z : Int), .int .u64 n] w fun e w' => e = .returned (.tuple #[.slice none 0 0, .int .i64 20]) ∧ Below w.heap.size w w' := by
  have hz := sizedB_range _ hs
  have HS := Aside0.mk (sized_f z)
  have HF := Aside0.mk (fits_f n z h0 h1 (by omega))
  have hn : decide (at_ < 0) = false := by simpa using ha
  have HV := Aside0.mk hs
  have HV2 := Aside0.mk hf
  clear hs hf
  go_enter Try.func24, Try.ntmps24
  go_wp2_with (first | (go_at_call 70; refine (octet_sized.calls (z : Int) (sizedB z) _ HS.out).mono ?_; rw [HV.out]; rintro e w' ⟨rfl, ⟨nd, rfl⟩⟩) | (go_at_call 61; refine (octet_fits.calls n (z : Int) _ _ HF.out).mono ?_; rw [HV2.out]; rintro e w' ⟨rfl, ⟨nd2, rfl⟩⟩))
  go_ret2
  exact ⟨rfl, by repeat (first | exact Below.refl _ _ | apply pw_below_drewN)⟩

set_option maxRecDepth 100000 in
set_option maxHeartbeats 2000000 in
theorem put_short (A : Option Addr) (c : Nat) (l : List Int) (at_ : Int) (z : Nat) (n : Int) (w : World) (hs : sizedB z = true) (ha : 0 ≤ at_) (h0 : 0 ≤ n) (h1 : n < 18446744073709551616) (hf : fitsB n z = true)
    (hr : Kd.C (Kd.int .u8) w A l.length l) (hc : l.length ≤ c) (hcm : c ≤ 9223372036854775807 ∧ l.length ≤ 140737488355328) (hi : insB l.length at_ z = false) :
    Calls Try.prog 24 #[.slice A l.length c, .int .i64 at_, .int .i64 (z : Int), .int .u64 n] w fun e w' => e = .returned (.tuple #[.slice none 0 0, .int .i64 4]) ∧ Below w.heap.size w w' := by
  have hz := sizedB_range _ hs
  have HS := Aside0.mk (sized_f z)
  have HF := Aside0.mk (fits_f n z h0 h1 (by omega))
  have HI := Aside0.mk (within_f l at_ z (by omega) (by omega))
  have hn : decide (at_ < 0) = false := by simpa using ha
  have HV := Aside0.mk hs
  have HV2 := Aside0.mk hf
  have HV3 := Aside0.mk hi
  have HR := Aside0.mk hr
  have HC := Aside0.mk hc
  clear hs hf hi hr
  go_enter Try.func24, Try.ntmps24
  go_wp2_with (first | (go_at_call 70; refine (octet_sized.calls (z : Int) (sizedB z) _ HS.out).mono ?_; rw [HV.out]; rintro e w' ⟨rfl, ⟨nd, rfl⟩⟩) | (go_at_call 61; refine (octet_fits.calls n (z : Int) _ _ HF.out).mono ?_; rw [HV2.out]; rintro e w' ⟨rfl, ⟨nd2, rfl⟩⟩) | (go_at_call 72; refine (octet_within.calls A c l at_ z _ _ (Kd.C_below HR.out (by repeat (first | exact Below.refl _ _ | apply pw_below_drewN))) HC.out HI.out).mono ?_; rw [HV3.out]; rintro e w' ⟨rfl, ⟨nd3, rfl⟩⟩))
  go_ret2
  exact ⟨rfl, by repeat (first | exact Below.refl _ _ | apply pw_below_drewN)⟩

set_option maxRecDepth 100000 in
set_option maxHeartbeats 2000000 in
theorem put_ok (A : Option Addr) (c : Nat) (l : List Int) (x z : Nat) (n : Int) (w : World) (hs : sizedB z = true) (h0 : 0 ≤ n) (h1 : n < 18446744073709551616) (hf : fitsB n z = true)
    (hr : Kd.C (Kd.int .u8) w A l.length l) (hc : l.length ≤ c) (hcm : c ≤ 9223372036854775807 ∧ l.length ≤ 140737488355328) (hi : x + z ≤ l.length) :
    Calls Try.prog 24 #[.slice A l.length c, .int .i64 (x : Int), .int .i64 (z : Int), .int .u64 n] w fun e w' => ∃ v, e = .returned (.tuple #[v, .int .i64 0]) ∧ Kd.R (Kd.int .u8) 5 w' w.heap.size (fun _ => True) v (putB l x z n) ∧ Below w.heap.size w w' := by
  have hz := sizedB_range _ hs
  have hin : insB l.length x z = true := by simp [insB]; omega
  have HS := Aside0.mk (sized_f z)
  have HF := Aside0.mk (fits_f n z h0 h1 (by omega))
  have HI := Aside0.mk (within_f l x z (by omega) (by omega))
  have HV := Aside0.mk hs
  have HV2 := Aside0.mk hf
  have HV3 := Aside0.mk hin
  have HR := Aside0.mk hr
  have HC := Aside0.mk hc
  clear hs hf hin hr
  go_enter Try.func24, Try.ntmps24
  go_wp2_with (first | (go_at_call 70; refine (octet_sized.calls (z : Int) (sizedB z) _ HS.out).mono ?_; rw [HV.out]; rintro e w' ⟨rfl, ⟨nd, rfl⟩⟩) | (go_at_call 61; refine (octet_fits.calls n (z : Int) _ _ HF.out).mono ?_; rw [HV2.out]; rintro e w' ⟨rfl, ⟨nd2, rfl⟩⟩) | (go_at_call 72; refine (octet_within.calls A c l x z _ _ (Kd.C_below HR.out (by repeat (first | exact Below.refl _ _ | apply pw_below_drewN))) HC.out HI.out).mono ?_; rw [HV3.out]; rintro e w' ⟨rfl, ⟨nd3, rfl⟩⟩))
  refine (clone66 A c l _ (Kd.C_below HR.out (by repeat (first | exact Below.refl _ _ | apply pw_below_drewN))) (by omega)).mono ?_
  rintro e W ⟨v, rfl, hv, hB⟩
  obtain ⟨g, cap, cs, rfl, hg, hb, hlc, hcm2, hcl, ht⟩ := R_blk hv (by omega)
  have HB := Aside0.mk hB
  have HBK := Aside0.mk hb
  have HT := Aside0.mk ht
  have HCL := Aside0.mk hcl
  have hgw : w.heap.size ≤ g := hg
  have hxc : ¬ (cap = x) := by omega
  have hx1 : (x : Int) + (z : Int) ≤ (cap : Int) := by omega
  have hx2 : (x : Int) + (z : Int) ≤ (l.length : Int) := by omega
  have hcm3 : cap ≤ 9223372036854775807 := by unfold maxLen at hcm2; omega
  clear hv hB hb ht hcl hg
  go_wp2_with fail
  refine (write_calls g x z (cap - x) n cs 5 W h0 (by omega) (by rw [HCL.out]; omega) HBK.out).mono ?_
  rintro e W2 ⟨rfl, hb2, hg2⟩
  have HR2 := Aside0.mk (R_of_blk2 W2 g w.heap.size .u8 5 (putB l x z n) _ cap hb2 hgw (by rw [putB_length _ _ _ _ hi]; exact hlc) hcm2 (by rw [mixd_length]; exact HCL.out) (by rw [putB_length _ _ _ _ hi]; exact mixd_put cs l x z n hi (by rw [HCL.out]; exact hlc) HT.out))
  have HB0 : Below w.heap.size w W := ⟨HB.out.os, HB.out.tape, HB.out.output, HB.out.size, HB.out.block⟩
  have HB2 := Aside0.mk (HB0.grown hg2 HB0.size (fun j e => by cases e; exact hgw))
  rw [putB_length _ _ _ _ hi] at HR2
  clear hb2 hg2 HB0
  go_wp2
  go_ret2
  exact ⟨_, rfl, HR2.out, HB2.out⟩
end Go.Proofs.Ytdlhmabjgbiagaa.Oct
