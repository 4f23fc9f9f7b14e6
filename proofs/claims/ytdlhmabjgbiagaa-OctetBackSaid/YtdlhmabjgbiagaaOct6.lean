/-
  Contract of octet.Lay: for every row of at most 10^9 sizes and every row of numbers.
-/
import Derived.Test.YtdlhmabjgbiagaaOct5
namespace Go.Proofs.Ytdlhmabjgbiagaa.Oct
open Go.RowKit Go.Shelf Go.Proofs.Ytdlhmabjgbiagaa.Blk Go.Proofs.YtdlhmabjgbiagaaW.PrintWords Go.Proofs.YtdlhmabjgbiagaaW.PrintLast Go.Proofs.YtdlhmabjgbiagaaW.PrintMore Go.Proofs.Ytdlhmabjgbiagaa.POctetRows
set_option linter.unusedVariables false
set_option linter.unusedSimpArgs false

/-- So many bytes 0. -/
def zer (n : Nat) : List Value := (List.replicate n (0 : Int)).map (Value.int .u8)
theorem make_bytes (n : Nat) (hn : n ≤ 281474976710656) (w : World) :
    (Instr.makeSlice 24 (.int .i64 (n : Int)) (.int .i64 (n : Int))).run Try.prog w = .ok (.slice (some ⟨w.heap.size, 0, none⟩) n n) (w.alloc (.cells (zer n).toArray 5)) := by
  obtain ⟨i0, hi, hzz⟩ := Option.map_eq_some_iff.1 info5
  simp only [Prod.mk.injEq] at hzz
  obtain ⟨hz0, hz1, hz2⟩ := hzz
  have h := run_make (P := Try.prog) w 24 5 i0 (.int .u8 0) Try.underlying24 hi hz0 .i64 .i64 (n : Int) (n : Int) (by omega) (Int.le_refl _) (by rw [hz2]; omega) (by omega)
  rw [h]
  have e : madeCells (Value.int .u8 0).cells ((n : Int).toNat * i0.size) = (zer n).toArray := by
    rw [hz1]
    apply Array.ext
    · simp [madeCells, zer]
    · intro i h1 h2
      simp [madeCells, zer, Value.cells, Nat.mod_one]
  rw [e, Int.toNat_natCast]

/-- The cells behind k parts. -/
def laidC (sizes l : List Int) (cs : List Value) : Nat → List Value
  | 0 => cs
  | k + 1 => mixd (laidC sizes l cs k) (offs sizes k) (rd sizes k).toNat (rd l k) (List.finRange (rd sizes k).toNat)
theorem laidC_length (sizes l : List Int) (cs : List Value) (k : Nat) : (laidC sizes l cs k).length = cs.length := by
  induction k with
  | zero => rfl
  | succ k ih => rw [laidC, mixd_length, ih]

theorem good_of (sizes : List Int) (h : sizes.any badB = false) : ∀ s ∈ sizes, 1 ≤ s ∧ s ≤ 8 := by
  intro s hs
  have := List.any_eq_false.1 h s hs
  simp only [badB, sizedB, Bool.not_eq_true', Bool.not_eq_true, Bool.not_eq_false', Bool.and_eq_true, decide_eq_true_eq] at this
  simp at this
  omega
theorem sumW_offs (sizes : List Int) (hok : ∀ s ∈ sizes, 1 ≤ s ∧ s ≤ 8) (hl : sizes.length ≤ 1000000000000) (k : Nat) (hk : k ≤ sizes.length) : sumW sizes k = offs sizes k ∧ offs sizes k ≤ 8 * k := by
  induction k with
  | zero => simp [sumW, offs]
  | succ k ih =>
    obtain ⟨h1, h2⟩ := ih (by omega)
    have hm := hok _ (rd_mem sizes k (by omega))
    have h3 := offs_succ sizes k (by omega) (by omega)
    rw [sumW_snoc _ _ (by omega), h1]
    constructor
    · unfold wrap64; omega
    · omega

theorem R_of_blk (w : World) (g base : Nat) (k : IntKind) (e : Nat) (xs : List Int) (h : Blk w g (xs.map (Value.int k)) e) (hb : base ≤ g) (hm : xs.length ≤ maxLen) :
    (Kd.int k).R e w base (fun _ => True) (.slice (some ⟨g, 0, none⟩) xs.length xs.length) xs := by
  have ht : (xs.map (Value.int k)).toArray.toList.take (xs.length * 1) = encs (Value.int k) xs := by
    simp only [encs, Nat.mul_one]
    exact List.take_of_length_le (by simp)
  exact Kd.R_of_own ⟨by simp [encs], .inr ⟨g, xs.length, _, rfl, hb, h, Nat.le_refl _, hm, by simp, ht⟩⟩ (fun _ _ => trivial)

set_option maxRecDepth 100000 in
set_option maxHeartbeats 1000000 in
theorem lay_bad (As : Option Addr) (cs : Nat) (sizes : List Int) (A : Option Addr) (cl : Nat) (l : List Int) (w : World)
    (hs : Kd.C (Kd.int .i64) w As sizes.length sizes) (hcs : sizes.length ≤ cs) (hb : sizes.any badB = true) :
    Calls Try.prog 13 #[.slice As sizes.length cs, .slice A l.length cl] w fun e w' => e = .returned (.tuple #[.slice none 0 0, .int .i64 1]) ∧ Below w.heap.size w w' := by
  have HS := Aside0.mk hs
  have HC := Aside0.mk hcs
  have HB := Aside0.mk hb
  clear hs hcs hb
  go_enter Try.func13, Try.ntmps13
  go_wp2_with (go_at_call 17; refine (width_bad As cs sizes _ (Kd.C_alloc HS.out _) HC.out HB.out).mono ?_; rintro e w' ⟨rfl, ⟨nd, rfl⟩⟩)
  go_ret2
  refine ⟨rfl, ?_⟩
  repeat (first | exact Below.refl _ _ | apply below_alloc | apply pw_below_drewN)

set_option maxRecDepth 100000 in
set_option maxHeartbeats 1000000 in
theorem lay_len (As : Option Addr) (cs : Nat) (sizes : List Int) (A : Option Addr) (cl : Nat) (l : List Int) (w : World)
    (hs : Kd.C (Kd.int .i64) w As sizes.length sizes) (hcs : sizes.length ≤ cs) (hb : sizes.any badB = false) (hne : sizes.length ≠ l.length) :
    Calls Try.prog 13 #[.slice As sizes.length cs, .slice A l.length cl] w fun e w' => e = .returned (.tuple #[.slice none 0 0, .int .i64 1]) ∧ Below w.heap.size w w' := by
  have HS := Aside0.mk hs
  have HC := Aside0.mk hcs
  have HB := Aside0.mk hb
  have hn : ((sizes.length : Int) != (l.length : Int)) = true := bne_iff_ne.2 (by omega)
  clear hs hcs hb hne
  go_enter Try.func13, Try.ntmps13
  go_wp2_with (go_at_call 17; refine (width_ok As cs sizes _ (Kd.C_alloc HS.out _) HC.out HB.out).mono ?_; rintro e w' ⟨rfl, ⟨nd, rfl⟩⟩)
  go_ret2
  refine ⟨rfl, ?_⟩
  repeat (first | exact Below.refl _ _ | apply below_alloc | apply pw_below_drewN)

/-- All of the first k fit. -/
def allFit (sizes l : List Int) (k : Nat) : Bool := (List.range k).all fun j => fitsB (rd l j) (rd sizes j).toNat
theorem allFit_snoc (sizes l : List Int) (k : Nat) : allFit sizes l (k + 1) = (allFit sizes l k && fitsB (rd l k) (rd sizes k).toNat) := by
  simp [allFit, List.range_succ]

set_option maxRecDepth 100000 in
set_option maxHeartbeats 2000000 in
theorem lay_ok (As : Option Addr) (cs : Nat) (sizes : List Int) (A : Option Addr) (cl : Nat) (l : List Int) (w : World)
    (hs : Kd.C (Kd.int .i64) w As sizes.length sizes) (hcs : sizes.length ≤ cs) (hb : sizes.any badB = false) (hne : sizes.length = l.length) (hlen : sizes.length ≤ 1000000000)
    (hl : Kd.C (Kd.int .u64) w A l.length l) (hcl : l.length ≤ cl) (hwf : ∀ x ∈ l, 0 ≤ x ∧ x < 18446744073709551616) :
    Calls Try.prog 13 #[.slice As sizes.length cs, .slice A l.length cl] w fun e w' => Below w.heap.size w w' ∧
      ((allFit sizes l sizes.length = true ∧ ∃ g, w.heap.size ≤ g ∧ e = .returned (.tuple #[.slice (some ⟨g, 0, none⟩) (offs sizes sizes.length) (offs sizes sizes.length), .int .i64 0]) ∧ Blk w' g (laidC sizes l (zer (offs sizes sizes.length)) sizes.length) 5) ∨
       (allFit sizes l sizes.length = false ∧ e = .returned (.tuple #[.slice none 0 0, .int .i64 20]))) := by
  have hok := good_of sizes hb
  obtain ⟨hsum, hsb⟩ := sumW_offs sizes hok (by omega) sizes.length (Nat.le_refl _)
  have HS := Aside0.mk hs
  have HC := Aside0.mk hcs
  have HB := Aside0.mk hb
  have HL := Aside0.mk hl
  have hn : ((sizes.length : Int) != (l.length : Int)) = false := by simp [hne]
  have HN := Aside0.mk hne
  have HW := Aside0.mk hwf
  have HO := Aside0.mk hok
  have HU := Aside0.mk hsum
  clear hs hcs hb hne hl hwf hok hsum
  obtain ⟨n, hno⟩ : ∃ n, offs sizes sizes.length = n := ⟨_, rfl⟩
  have hnb : n ≤ 8000000000 := by omega
  have hmk := make_bytes n (by omega)
  rw [hno]
  have HNO := Aside0.mk hno
  clear hno
  go_enter Try.func13, Try.ntmps13
  go_wp2_with (go_at_call 17; refine (width_ok As cs sizes _ (Kd.C_alloc HS.out _) HC.out HB.out).mono ?_; rw [HU.out, HNO.out]; rintro e w' ⟨rfl, ⟨nd, rfl⟩⟩)
  have b0 := Blk.new w [.slice A l.length cl] 23
  refine (cut60 As cs ⟨w.heap.size + 1 + 1, 0, none⟩ n n _ _ sizes _ HC.out (Nat.le_refl _) (by omega) HO.out (by rw [HNO.out]; exact Nat.le_refl _)
    (fun k W => Blk W w.heap.size [.slice A l.length cl] 23 ∧ Blk W (w.heap.size + 1) [.int .i64 0] 26 ∧ Blk W (w.heap.size + 1 + 1) (laidC sizes l (zer n) k) 5 ∧ allFit sizes l k = true ∧ Below w.heap.size w W)
    (fun k W => Blk W (w.heap.size + 1) [.int .i64 20] 26 ∧ allFit sizes l (k + 1) = false ∧ Below w.heap.size w W)
    (fun k W h => Kd.C_below HS.out h.2.2.2.2) ?hdo ?h0).mono ?_
  case h0 =>
    have b1 := Blk.new ((w.alloc (.cells #[.slice A l.length cl] 23)).drewN nd) [.int .i64 0] 26
    have b2 := Blk.new (((w.alloc (.cells #[.slice A l.length cl] 23)).drewN nd).alloc (.cells #[.int .i64 0] 26)) (zer n) 5
    simp only [World.size_alloc, size_drewN] at b1 b2
    exact ⟨((b0.drewN nd).alloc _).alloc _, b1.alloc _, b2, rfl, by repeat (first | exact Below.refl _ _ | apply below_alloc | apply pw_below_drewN)⟩
  case hdo =>
    rintro k W hk ⟨h1, h2, h3, h4, h5⟩
    have hN := HN.out
    have hw := HW.out _ (rd_mem l k (by omega))
    have hz := HO.out _ (rd_mem sizes k hk)
    have ho1 := offs_succ sizes k hk (by omega)
    have ho2 := offs_mono sizes (k + 1) sizes.length (by omega) (fun s hs => (HO.out s hs).1)
    have hno := HNO.out
    have ha : (⟨w.heap.size + 1 + 1, 0, none⟩ : Addr).add (offs sizes k) = ⟨w.heap.size + 1 + 1, offs sizes k, none⟩ := by rw [add_plain]
    rw [ha]
    cases hf : fitsB (rd l k) (rd sizes k).toNat with
    | true =>
      refine (lay1_yes A cl l k (rd sizes k).toNat (offs sizes k) w.heap.size (w.heap.size + 1) (w.heap.size + 1 + 1) _ W (by omega) (by omega) h1 (Kd.C_below HL.out h5) hcl hw.1 hw.2 hf h3 (by rw [laidC_length]; simp [zer]; omega)).mono ?_
      rintro e W' ⟨rfl, h3', hg⟩
      exact .inl ⟨rfl, h1.grown hg (by simp; omega), h2.grown hg (by simp), h3', by rw [allFit_snoc, h4, hf]; rfl, h5.grown hg h5.size (fun j e => by cases e; omega)⟩
    | false =>
      refine (lay1_no A cl l k (rd sizes k).toNat w.heap.size (w.heap.size + 1) _ W (by omega) (by omega) h1 h2 (Kd.C_below HL.out h5) hcl hw.1 hw.2 hf).mono ?_
      rintro e W' ⟨rfl, h2', hg⟩
      exact .inr ⟨rfl, h2', by rw [allFit_snoc, h4, hf]; rfl, h5.grown hg h5.size (fun j e => by cases e; omega)⟩
  clear b0
  rintro e W ⟨rfl, ⟨h1, h2, h3, h4, h5⟩ | ⟨k, hk, h2, h4, h5⟩⟩
  · have c2 := h2.cell (j := 0) rfl
    have H3 := Aside0.mk h3
    have H4 := Aside0.mk h4
    have H5 := Aside0.mk h5
    clear h1 h2 h3 h4 h5
    go_wp2
    go_ret2
    exact ⟨H5.out, .inl ⟨H4.out, w.heap.size + 1 + 1, by omega, rfl, H3.out⟩⟩
  · have c2 := h2.cell (j := 0) rfl
    have H5 := Aside0.mk h5
    have hall : allFit sizes l sizes.length = false := by
      cases ha : allFit sizes l sizes.length with
      | false => rfl
      | true =>
        have hc : allFit sizes l (k + 1) = true := by
          unfold allFit at ha ⊢
          rw [List.all_eq_true] at ha ⊢
          intro j hj
          exact ha j (List.mem_range.2 (by have := List.mem_range.1 hj; omega))
        rw [h4] at hc
        cases hc
    have HA := Aside0.mk hall
    clear h2 h4 h5 hall
    go_wp2
    go_quiet (fail)
    go_wp2
    go_ret2
    exact ⟨pw_below_drewN H5.out _, .inr ⟨HA.out, rfl⟩⟩
end Go.Proofs.Ytdlhmabjgbiagaa.Oct
