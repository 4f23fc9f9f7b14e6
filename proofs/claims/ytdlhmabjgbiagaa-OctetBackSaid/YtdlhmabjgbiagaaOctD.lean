/-
  Contract of ephemerislaw03.awake: it returns true, in every world.
-/
import Derived.Test.YtdlhmabjgbiagaaOctC
import Derived.Lib.Bytes
namespace Go.Proofs.Ytdlhmabjgbiagaa.Oct
open Go.RowKit Go.Shelf Go.Proofs.Ytdlhmabjgbiagaa.Blk Go.Proofs.YtdlhmabjgbiagaaW.PrintWords Go.Proofs.YtdlhmabjgbiagaaW.PrintLast Go.Proofs.YtdlhmabjgbiagaaW.PrintMore Go.Proofs.Ytdlhmabjgbiagaa.POctetRows
set_option linter.unusedVariables false
set_option linter.unusedSimpArgs false

theorem ex1 : layP [1, 2] [5, 4660] = ([5, 18, 52], 0) := by decide
theorem ex2 : layP [1] [256] = ([], 20) := by decide
theorem ex3 : takeP [1, 2] [5, 18, 52, 153] = ([5, 4660], [153], 0) := by decide
theorem ex4 : octet_Signed.f 250 1 = some (-6, 0) := by decide +kernel
theorem ex5 : octet_Unsigned.f (-6) 1 = some (250, 0) := by decide +kernel
theorem ex6 : octet_Unsigned.f 128 1 = some (0, 20) := by decide +kernel
theorem ex7 : putL [0, 0] 1 1 7 = ([0, 7], 0) := by decide
theorem ex8 : atL [0, 7] 0 2 = (7, true) := by decide
theorem u8_inj {a b : Int} (ha : 0 ≤ a ∧ a ≤ 255) (hb : 0 ≤ b ∧ b ≤ 255) (h : UInt8.ofNat a.toNat = UInt8.ofNat b.toNat) : a = b := by
  have h2 := congrArg UInt8.toNat h
  rw [UInt8.toNat_ofNat', UInt8.toNat_ofNat', Nat.mod_eq_of_lt (by omega), Nat.mod_eq_of_lt (by omega)] at h2
  omega
theorem bytes_eq (a b : List Int) (ha : ∀ x ∈ a, 0 ≤ x ∧ x ≤ 255) (hb : ∀ x ∈ b, 0 ≤ x ∧ x ≤ 255) : bytes_Equal.f a b = some (decide (a = b)) := by
  unfold bytes_Equal.f
  rw [Lib.strOfNums_toList, Lib.strOfNums_toList]
  congr 1
  rw [Bool.eq_iff_iff, beq_iff_eq, decide_eq_true_eq]
  constructor
  · intro h
    unfold Lib.bytesOf at h
    apply List.ext_getElem?
    intro i
    have hi := congrArg (fun l => l[i]?) h
    simp only [List.getElem?_map] at hi
    cases h1 : a[i]? with
    | none => rw [h1] at hi; cases h2 : b[i]? with
      | none => rfl
      | some y => rw [h2] at hi; cases hi
    | some x =>
      rw [h1] at hi
      cases h2 : b[i]? with
      | none => rw [h2] at hi; cases hi
      | some y =>
        rw [h2] at hi
        simp only [Option.map_some, Option.some.injEq] at hi
        rw [u8_inj (ha x (List.mem_of_getElem? h1)) (hb y (List.mem_of_getElem? h2)) hi]
  · rintro rfl; rfl
theorem u64s_loop (a b : List Int) (hab : a.length = b.length) (hl : a.length ≤ 1000000000000) (d : Nat) : ∀ (k i : Nat), i ≤ a.length → a.length - i = d → d < k →
    slices_Equal_uint64_uint64.l0 k a b (a.length : Int) (i : Int) = some (decide (a.drop i = b.drop i)) := by
  induction d with
  | zero =>
    intro k i h1 h2 h3
    obtain ⟨k, rfl⟩ : ∃ m, k = m + 1 := ⟨k - 1, by omega⟩
    simp only [slices_Equal_uint64_uint64.l0]
    rw [if_neg (by omega), List.drop_eq_nil_of_le (by omega), List.drop_eq_nil_of_le (by omega)]
    rfl
  | succ d ih =>
    intro k i h1 h2 h3
    obtain ⟨k, rfl⟩ : ∃ m, k = m + 1 := ⟨k - 1, by omega⟩
    simp only [slices_Equal_uint64_uint64.l0]
    rw [if_pos (by omega), if_pos (by omega), if_pos (by omega), if_pos (by omega)]
    have e1 : a.drop i = rd a i :: a.drop (i + 1) := by
      rw [List.drop_eq_getElem_cons (by omega)]
      congr 1
      unfold rd
      simp [List.getD_eq_getElem?_getD, List.getElem?_eq_getElem (show i < a.length by omega)]
    have e2 : b.drop i = rd b i :: b.drop (i + 1) := by
      rw [List.drop_eq_getElem_cons (by omega)]
      congr 1
      unfold rd
      simp [List.getD_eq_getElem?_getD, List.getElem?_eq_getElem (show i < b.length by omega)]
    have hw : wrap64 ((i : Int) + 1) = ((i + 1 : Nat) : Int) := by unfold wrap64; omega
    by_cases he : rd a i = rd b i
    · rw [if_pos he, hw, ih k (i + 1) (by omega) (by omega) (by omega), e1, e2, he]
      congr 1
      rw [Bool.eq_iff_iff, decide_eq_true_eq, decide_eq_true_eq, List.cons.injEq]
      exact ⟨fun h => ⟨rfl, h⟩, fun h => h.2⟩
    · rw [if_neg he, e1, e2]
      congr 1
      symm
      rw [decide_eq_false_iff_not, List.cons.injEq]
      exact fun h => he h.1
theorem u64s_eq (a b : List Int) (hl : a.length ≤ 1000000000000) : slices_Equal_uint64_uint64.f (a.length + 1) a b = some (decide (a = b)) := by
  unfold slices_Equal_uint64_uint64.f
  by_cases h : a.length = b.length
  · rw [if_pos (by omega)]
    have := u64s_loop a b h hl a.length (a.length + 1) 0 (by omega) (by omega) (by omega)
    simpa using this
  · rw [if_neg (by omega)]
    congr 1
    symm
    rw [decide_eq_false_iff_not]
    exact fun e => h (by rw [e])
theorem below_chain {w W W' : World} (h : Below w.heap.size w W) (k : Below W.heap.size W W') : Below w.heap.size w W' := h.trans (k.mono h.size)

/-- What a row of the call's own says to whoever reads it. -/
theorem R_use {k : IntKind} {w : World} {base e : Nat} {ok : Nat → Prop} {v : Value} {xs : List Int} (h : (Kd.int k).R e w base ok v xs) :
    ∃ A c, v = .slice A xs.length c ∧ xs.length ≤ c ∧ c ≤ 9223372036854775807 ∧ Kd.C (Kd.int k) w A xs.length xs := by
  obtain ⟨A, c, rfl, h1, h2⟩ := Kd.R_reads h
  refine ⟨A, c, rfl, h1, ?_, h2⟩
  have ho := Kd.own_of_R h
  rcases ho.2 with ⟨e, _⟩ | ⟨g, cap, cur, e, _, _, _, h4, _⟩
  · have := (Value.slice.inj e).2.2; omega
  · have := (Value.slice.inj e).2.2; unfold maxLen at h4; omega

set_option maxRecDepth 100000 in
set_option maxHeartbeats 4000000 in
theorem awake_calls (w : World) : Calls Try.prog 21 #[] w fun e w' => e = .returned (.bool true) ∧ Below w.heap.size w w' := by
  have S4 := Aside0.mk ex4
  have S5 := Aside0.mk ex5
  have S6 := Aside0.mk ex6
  go_enter Try.func21, Try.ntmps21
  go_wp2_with fail
  have h1 := lay_calls (some ⟨w.heap.size, 0, none⟩) 2 [1, 2] (some ⟨w.heap.size + 1, 0, none⟩) 2 [5, 4660] _ (C_of_blk [1, 2] ((Blk.new w [.int .i64 1, .int .i64 2] 3).alloc (.cells #[.int .u64 5, .int .u64 4660] 40)) (by decide)) (by decide) (by decide) (C_of_blk [5, 4660] (Blk.new' (w.alloc (.cells #[.int .i64 1, .int .i64 2] 3)) [.int .u64 5, .int .u64 4660] 40 _ (by simp)) (by decide)) (by decide) (by decide)
  rw [ex1] at h1
  dsimp only at h1
  refine h1.mono ?_
  clear h1
  rintro e W1 ⟨v1, rfl, hR1, hB1⟩
  obtain ⟨A1, c1, rfl, hc1, _, hC1⟩ := R_use hR1
  have HC1 := Aside0.mk hC1
  have HB1 := Aside0.mk (below_chain (w := w) (by repeat (first | exact Below.refl _ _ | apply below_alloc)) hB1)
  clear hR1 hB1 hC1
  go_wp2_with fail
  have h1 := lay_calls (some ⟨W1.heap.size, 0, none⟩) 1 [1] (some ⟨W1.heap.size + 1, 0, none⟩) 1 [256] _ (C_of_blk [1] ((Blk.new W1 [.int .i64 1] 3).alloc (.cells #[.int .u64 256] 40)) (by decide)) (by decide) (by decide) (C_of_blk [256] (Blk.new' (W1.alloc (.cells #[.int .i64 1] 3)) [.int .u64 256] 40 _ (by simp)) (by decide)) (by decide) (by decide)
  rw [ex2] at h1
  dsimp only at h1
  refine h1.mono ?_
  clear h1
  rintro e W2 ⟨v2, rfl, hR2, hB2⟩
  have HB2 := Aside0.mk (below_chain (w := W1) (by repeat (first | exact Below.refl _ _ | apply below_alloc)) hB2)
  clear hR2 hB2
  go_wp2_with fail
  have h1 := take_calls (some ⟨W2.heap.size, 0, none⟩) 2 [1, 2] (some ⟨W2.heap.size + 1, 0, none⟩) 4 [5, 18, 52, 153] _ (C_of_blk [1, 2] ((Blk.new W2 [.int .i64 1, .int .i64 2] 3).alloc (.cells #[.int .u8 5, .int .u8 18, .int .u8 52, .int .u8 153] 5)) (by decide)) (by decide) (by decide) (C_of_blk [5, 18, 52, 153] (Blk.new' (W2.alloc (.cells #[.int .i64 1, .int .i64 2] 3)) [.int .u8 5, .int .u8 18, .int .u8 52, .int .u8 153] 5 _ (by simp)) (by decide)) (by decide) (by decide) (by decide)
  rw [ex3] at h1
  dsimp only at h1
  refine h1.mono ?_
  clear h1
  rintro e W3 ⟨v3, v4, rfl, hR3, hR4, hB3⟩
  obtain ⟨A3, c3, rfl, hc3, _, hC3⟩ := R_use hR3
  obtain ⟨A4, c4, rfl, hc4, _, hC4⟩ := R_use hR4
  have HC3 := Aside0.mk hC3
  have HC4 := Aside0.mk hC4
  have HB3 := Aside0.mk (below_chain (w := W2) (by repeat (first | exact Below.refl _ _ | apply below_alloc)) hB3)
  clear hR3 hR4 hB3 hC3 hC4
  go_wp2_with fail
  refine (octet_Signed.calls 250 1 _ _ _ S4.out).mono ?_
  rintro e w' ⟨rfl, ⟨n1, rfl⟩⟩
  go_wp2_with fail
  refine (octet_Unsigned.calls (-6) 1 _ _ _ S5.out).mono ?_
  rintro e w' ⟨rfl, ⟨n2, rfl⟩⟩
  go_wp2_with fail
  refine (octet_Unsigned.calls 128 1 _ _ _ S6.out).mono ?_
  rintro e w' ⟨rfl, ⟨n3, rfl⟩⟩
  go_wp2_with fail
  have h1 := put_calls (some ⟨W3.heap.size, 0, none⟩) 2 [0, 0] 1 1 7 _ (by decide) (by decide) (C_of_blk [0, 0] (Blk.new (W3.drewN (n1 + n2 + n3)) [.int .u8 0, .int .u8 0] 5) (by decide)) (by decide) (by decide)
  rw [ex7] at h1
  dsimp only at h1
  refine h1.mono ?_
  clear h1
  rintro e W4 ⟨v5, rfl, hR5, hB4⟩
  obtain ⟨A5, c5, rfl, hc5, hm5, hC5⟩ := R_use hR5
  have HC5 := Aside0.mk hC5
  have HB4 := Aside0.mk (below_chain (w := W3) (by repeat (first | exact Below.refl _ _ | apply below_alloc | apply pw_below_drewN)) hB4)
  clear hR5 hB4 hC5
  go_wp2_with fail
  have h1 := at_calls A5 c5 [0, 7] 0 2 W4 HC5.out hc5 ⟨hm5, by decide⟩ (by decide)
  rw [ex8] at h1
  dsimp only at h1
  refine h1.mono ?_
  clear h1
  rintro e W5 ⟨rfl, hB5⟩
  have HB5 := Aside0.mk hB5
  clear hB5
  go_wp2_with fail
  have hD1 := Kd.C_below HC1.out (below_chain (below_chain (below_chain HB2.out HB3.out) HB4.out) HB5.out)
  have h1 := bytes_Equal.calls A1 c1 [5, 18, 52] (some ⟨W5.heap.size, 0, none⟩) 3 [5, 18, 52] true _ (Kd.C_alloc hD1 _) hc1 (C_of_blk [5, 18, 52] (Blk.new W5 [.int .u8 5, .int .u8 18, .int .u8 52] 5) (by decide)) (by decide) (bytes_eq _ _ (by decide) (by decide))
  refine h1.mono ?_
  clear h1 hD1
  rintro e w' ⟨rfl, ⟨m1, rfl⟩⟩
  go_wp2_with fail
  have hD3 := Kd.C_below HC3.out (below_chain HB4.out HB5.out)
  have h1 := slices_Equal_uint64_uint64.calls 3 A3 c3 [5, 4660] (some ⟨W5.heap.size + 1, 0, none⟩) 2 [5, 4660] true _ (Kd.C_alloc (Kd.C_below hD3 (by repeat (first | exact Below.refl _ _ | apply below_alloc | apply pw_below_drewN))) _) hc3 (C_of_blk [5, 4660] (Blk.new' ((W5.alloc (.cells #[.int .u8 5, .int .u8 18, .int .u8 52] 5)).drewN m1) [.int .u64 5, .int .u64 4660] 40 _ (by simp [size_drewN])) (by decide)) (by decide) (u64s_eq _ _ (by decide))
  refine h1.mono ?_
  clear h1 hD3
  rintro e w' ⟨rfl, ⟨m2, rfl⟩⟩
  go_wp2_with fail
  have hD4 := Kd.C_below HC4.out (below_chain HB4.out HB5.out)
  have h1 := bytes_Equal.calls A4 c4 [153] (some ⟨W5.heap.size + 1 + 1, 0, none⟩) 1 [153] true _ (Kd.C_alloc (Kd.C_below hD4 (by repeat (first | exact Below.refl _ _ | apply below_alloc | apply pw_below_drewN))) _) hc4 (C_of_blk [153] (Blk.new' ((((W5.alloc (.cells #[.int .u8 5, .int .u8 18, .int .u8 52] 5)).drewN m1).alloc (.cells #[.int .u64 5, .int .u64 4660] 40)).drewN m2) [.int .u8 153] 5 _ (by simp [size_drewN])) (by decide)) (by decide) (bytes_eq _ _ (by decide) (by decide))
  refine h1.mono ?_
  clear h1 hD4
  rintro e w' ⟨rfl, ⟨m3, rfl⟩⟩
  have HF := Aside0.mk (below_chain (below_chain (below_chain (below_chain HB1.out HB2.out) HB3.out) HB4.out) HB5.out)
  go_wp2
  go_ret
  exact ⟨rfl, below_chain HF.out (by repeat (first | exact Below.refl _ _ | apply below_alloc | apply pw_below_drewN))⟩
end Go.Proofs.Ytdlhmabjgbiagaa.Oct
