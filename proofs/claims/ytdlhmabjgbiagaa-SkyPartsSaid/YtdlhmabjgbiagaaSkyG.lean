/-
  Contracts of fix.Abs, of the closure in sky.New that tells a bad piece, of slices.IndexFunc and ContainsFunc at it, and of slices.Clone at pieces.
-/
import Derived.Test.YtdlhmabjgbiagaaSkyF
import Derived.WalkSpells
namespace Go.Proofs.Ytdlhmabjgbiagaa.Sky
open Go.RowKit Go.Proofs.Ytdlhmabjgbiagaa.Blk Go.Proofs.YtdlhmabjgbiagaaW.PrintWords Go.Proofs.YtdlhmabjgbiagaaW.PrintLast Go.Proofs.YtdlhmabjgbiagaaW.PrintMore
open Go.Proofs.Ytdlhmabjgbiagaa.PSkyGoes
set_option linter.unusedVariables false
set_option linter.unusedSimpArgs false

theorem ret_bool {a c : Bool} (h : a = c) : Ending.returned (.bool a) = .returned (.bool c) := by rw [h]
theorem R_empty (w : World) : Kd.R k96 96 (w.alloc (.cells #[] 96)) w.heap.size (fun _ => True) (.slice (some ⟨w.heap.size, 0, none⟩) 0 0) [] :=
  ⟨fun _ _ => trivial, [], ⟨rfl, .inr ⟨w.heap.size, 0, #[], rfl, Nat.le_refl _, Blk.new w [] 96, Nat.le_refl _, by unfold maxLen; omega, rfl, rfl⟩⟩, Reps.none _ _⟩
def absI (o : Int) : Int := if o = -9223372036854775808 then 9223372036854775807 else if o < 0 then -o else o
theorem abs_calls (o : Int) (w : World) (h0 : -9223372036854775808 ≤ o) (h1 : o ≤ 9223372036854775807) : Calls Try.prog 94 #[.int .i64 o] w fun e w' => e = .returned (.int .i64 (absI o)) ∧ w = w' := by
  unfold absI
  by_cases c1 : o = -9223372036854775808
  · rw [if_pos c1]
    have t1 : (o == -9223372036854775808) = true := by simpa using c1
    clear c1
    go_enter Try.func94, Try.ntmps94
    go_wp2
    go_ret
    exact ⟨rfl, rfl⟩
  · rw [if_neg c1]
    have t1 : (o == -9223372036854775808) = false := by simpa using c1
    by_cases c2 : o < 0
    · rw [if_pos c2]
      have t2 : decide (o < 0) = true := by simpa using c2
      have t3 : wrap64 (-o) = -o := by unfold wrap64; omega
      clear c1 c2
      go_enter Try.func94, Try.ntmps94
      go_wp2
      go_ret
      exact ⟨by first | rfl | exact ret_i64 t3, rfl⟩
    · rw [if_neg c2]
      have t2 : decide (o < 0) = false := by simpa using c2
      clear c1 c2
      go_enter Try.func94, Try.ntmps94
      go_wp2
      go_ret
      exact ⟨rfl, rfl⟩

/-- A piece that may not be, behind one that begins at b. -/
def badP (b f o : Int) : Bool := decide (f ≤ b) || (decide (b < 0) && !(f == 0)) || decide (4503599627370496 < f) || decide (500000 < absI o)

def BadPost (b f o : Int) (B : Nat) (w : World) (e : Ending) (w' : World) : Prop := e = .returned (.bool (badP b f o)) ∧ Blk w' B [.int .i64 f] 2 ∧ ∀ base, base ≤ B → base ≤ w.heap.size → Below base w w'

set_option maxRecDepth 100000 in
set_option maxHeartbeats 4000000 in
theorem bad_calls (b f o : Int) (B : Nat) (w : World) (h0 : -9223372036854775808 ≤ o) (h1 : o ≤ 9223372036854775807) (hB : Blk w B [.int .i64 b] 2) :
    Calls Try.prog 93 #[.agg #[.int .i64 f, .int .i64 o], .pointer (some ⟨B, 0, none⟩)] w (BadPost b f o B w) := by
  have AC := Aside0.mk (fun W => abs_calls o W h0 h1)
  obtain ⟨x, hx⟩ : ∃ x, absI o = x := ⟨_, rfl⟩
  have hbad : badP b f o = (decide (f ≤ b) || (decide (b < 0) && !(f == 0)) || decide (4503599627370496 < f) || decide (500000 < x)) := by rw [← hx]; rfl
  rw [hx] at AC
  have c0 := hB.cell (j := 0) rfl
  have ca := fun o => cell_al o c0
  have cf := fun o => (hB.alloc o).frozen 0
  have hne : w.heap.size ≠ B := Nat.ne_of_gt hB.lt
  have END : Aside0 (∀ o : Obj, Blk ((w.alloc o).setCell ⟨B, 0, none⟩ (.int .i64 f)) B [.int .i64 f] 2 ∧ ∀ base, base ≤ B → base ≤ w.heap.size → Below base w ((w.alloc o).setCell ⟨B, 0, none⟩ (.int .i64 f))) :=
    ⟨fun o => ⟨(hB.alloc o).set 0 _, fun base h2 h3 => ((Below.refl _ _).alloc h3 _).setCell h2 _⟩⟩
  clear h0 h1 hx hB
  have HB := Aside0.mk hbad
  clear hbad
  by_cases c1 : f ≤ b
  · have t1 : decide (f ≤ b) = true := by simpa using c1
    clear c1
    go_enter Try.func93, Try.ntmps93
    go_wp2
    go_ret
    exact ⟨ret_bool (by rw [HB.out, t1]; simp), END.out _⟩
  · have t1 : decide (f ≤ b) = false := by simpa using c1
    by_cases c2 : b < 0
    · have t2 : decide (b < 0) = true := by simpa using c2
      by_cases c3 : f = 0
      · have t3 : (f == 0) = true := by simpa using c3
        have t4 : (f != 0) = false := by simpa using c3
        have t5 : decide (4503599627370496 < f) = false := by simp; omega
        clear c1 c2 c3
        go_enter Try.func93, Try.ntmps93
        go_wp2_with (go_at_call 94; refine (AC.out _).mono ?_; rintro e w2 ⟨rfl, rfl⟩)
        go_ret
        exact ⟨ret_bool (by rw [HB.out, t1, t2, t3, t5]; simp), END.out _⟩
      · have t3 : (f == 0) = false := by simpa using c3
        have t4 : (f != 0) = true := by simpa using c3
        clear c1 c2 c3
        go_enter Try.func93, Try.ntmps93
        go_wp2
        go_ret
        exact ⟨ret_bool (by rw [HB.out, t1, t2, t3]; simp), END.out _⟩
    · have t2 : decide (b < 0) = false := by simpa using c2
      by_cases c3 : 4503599627370496 < f
      · have t5 : decide (4503599627370496 < f) = true := by simpa using c3
        clear c1 c2 c3
        go_enter Try.func93, Try.ntmps93
        go_wp2
        go_ret
        exact ⟨ret_bool (by rw [HB.out, t1, t2, t5]; simp), END.out _⟩
      · have t5 : decide (4503599627370496 < f) = false := by simpa using c3
        clear c1 c2 c3
        go_enter Try.func93, Try.ntmps93
        go_wp2_with (go_at_call 94; refine (AC.out _).mono ?_; rintro e w2 ⟨rfl, rfl⟩)
        go_ret
        exact ⟨ret_bool (by rw [HB.out, t1, t2, t5]; simp), END.out _⟩

/-- Piece k is one that may not be. -/
def badAt (l : List S96) (k : Nat) : Bool := badP (if k = 0 then -1 else fr l (k - 1)) (fr l k) (of l k)
def anyB (l : List S96) : Nat → Bool
  | 0 => false
  | k + 1 => anyB l k || badAt l k
theorem anyB_of {l : List S96} {k : Nat} (hb : badAt l k = true) : ∀ n, k < n → anyB l n = true
  | 0, h => absurd h (by omega)
  | n + 1, h => by
    simp only [anyB]
    rcases Nat.lt_or_ge k n with h1 | h1
    · rw [anyB_of hb n h1]; rfl
    · obtain rfl : k = n := by omega
      rw [hb]; simp
def InI64 (l : List S96) : Prop := ∀ k, k < l.length → -9223372036854775808 ≤ of l k ∧ of l k ≤ 9223372036854775807
theorem enter93 (args : Array Value) (w : World) : (callFunc 93 args).run Try.prog w = .ok (.enter 93 args) w := enters_of Try.func93 (by kernel_rfl) rfl args w

def IdxPost (l : List S96) (w0 : World) (e : Ending) (w' : World) : Prop := ∃ r : Int, e = .returned (.int .i64 r) ∧ decide (0 ≤ r) = anyB l l.length ∧ Below w0.heap.size w0 w'

set_option maxRecDepth 100000 in
set_option maxHeartbeats 4000000 in
theorem index_calls (A : Option Addr) (c : Nat) (l : List S96) (B : Nat) (w0 w : World) (hr : Kd.C k96 w0 A l.length l) (hc : l.length ≤ c) (hi : InI64 l) (hB : Blk w B [.int .i64 (-1)] 2) (hb : Below w0.heap.size w0 w) (hle : w0.heap.size ≤ B) :
    Calls Try.prog 117 #[.slice A l.length c, .func (.func 93) #[] #[.pointer (some ⟨B, 0, none⟩)]] w (IdxPost l w0) := by
  have hm : l.length ≤ 9223372036854775807 := hr.2.1
  have HR := Aside0.mk hr
  have HI := Aside0.mk hi
  clear hr hi
  go_enter Try.func117, Try.ntmps117
  go_wp2
  go_loopw [8] (fun v8 wr => ∃ k : Nat, v8 = .int .i64 (k : Int) ∧ k ≤ l.length ∧ Aside0 (anyB l k = false) ∧ Blk wr B [.int .i64 (if k = 0 then -1 else fr l (k - 1))] 2 ∧ Below w0.heap.size w0 wr) (fun v8 _ => l.length - (intOf v8).toNat)
  case atStart => exact ⟨0, rfl, Nat.zero_le _, ⟨rfl⟩, hB, hb⟩
  case round =>
    clear hB hb
    obtain ⟨k, rfl, hk, hbad, hB, hb⟩ := hrel
    by_cases hlt : k < l.length
    · obtain ⟨ad, rfl, hf0, hf1⟩ := at_T96 (Kd.C_below HR.out hb) (k : Int) (by omega) (by omega)
      simp only [Int.toNat_natCast] at hf0 hf1
      obtain ⟨i0, i1⟩ := HI.out k hlt
      have hbc := bad_calls _ (fr l k) (of l k) B wr i0 i1 hB
      have e1 : badP (if k = 0 then -1 else fr l (k - 1)) (fr l k) (of l k) = badAt l k := rfl
      have HS : Aside0 (anyB l (k + 1) = badAt l k) := ⟨by simp only [anyB]; rw [hbad.out]; rfl⟩
      obtain ⟨f, hf⟩ : ∃ f, (rd_T96 l (k : Int)).f0 = f := ⟨_, rfl⟩
      obtain ⟨o, ho⟩ : ∃ o, (rd_T96 l (k : Int)).f1 = o := ⟨_, rfl⟩
      have hf' : fr l k = f := hf
      have ho' : of l k = o := ho
      rw [hf'] at hbc
      rw [ho'] at hbc
      rw [hf] at hf0
      rw [ho] at hf1
      have hbc2 : Calls Try.prog 93 #[.agg #[.int .i64 f, .int .i64 o], .pointer (some ⟨B, 0, none⟩)] wr fun e w' => e = .returned (.bool (badAt l k)) ∧ Blk w' B [.int .i64 f] 2 ∧ Below w0.heap.size w0 w' := hbc.mono fun e w' hh => ⟨by rw [hh.1, ← e1, hf', ho'], hh.2.1, hb.trans (hh.2.2 _ hle hb.size)⟩
      have HBC := Aside0.mk hbc2
      have HF := Aside0.mk hf'
      clear hbc hbc2 e1 hB hb hf ho hf' ho' i0 i1
      cases hbk : badAt l k with
      | true =>
        rw [hbk] at HBC
        have HK := Aside0.mk (anyB_of hbk _ hlt)
        clear hbk
        go_wp2_with (go_at_call 93; refine HBC.out.mono ?_; rintro e w' ⟨rfl, hB2, hb2⟩; have HB2 := Aside0.mk hb2; clear hb2)
        go_ret
        exact ⟨k, rfl, by rw [HK.out]; simp, HB2.out⟩
      | false =>
        rw [hbk] at HBC HS
        clear hbk
        go_wp2_with (go_at_call 93; refine HBC.out.mono ?_; rintro e w' ⟨rfl, hB2, hb2⟩; have HB1 := Aside0.mk hB2; have HB2 := Aside0.mk hb2; clear hB2 hb2)
        go_roundw
        case rel => exact ⟨k + 1, by go_num, by omega, HS, by rw [if_neg (by omega), Nat.add_sub_cancel, HF.out]; exact HB1.out, HB2.out⟩
        case measure => simp [intOf]; omega
    · obtain rfl : k = l.length := by omega
      go_wp2
      go_ret
      exact ⟨-1, rfl, by rw [hbad.out]; rfl, hb⟩

theorem contains_calls (A : Option Addr) (c : Nat) (l : List S96) (B : Nat) (w0 w : World) (hr : Kd.C k96 w0 A l.length l) (hc : l.length ≤ c) (hi : InI64 l) (hB : Blk w B [.int .i64 (-1)] 2) (hb : Below w0.heap.size w0 w) (hle : w0.heap.size ≤ B) :
    Calls Try.prog 95 #[.slice A l.length c, .func (.func 93) #[] #[.pointer (some ⟨B, 0, none⟩)]] w fun e w' => e = .returned (.bool (anyB l l.length)) ∧ Below w0.heap.size w0 w' := by
  have IC := Aside0.mk (index_calls A c l B w0 w hr hc hi hB hb hle)
  clear hr hc hi hB hb hle
  go_enter Try.func95, Try.ntmps95
  go_wp2_with (go_at_call 117; refine IC.out.mono ?_; rintro e w' ⟨r, rfl, hr, hb2⟩; have HR := Aside0.mk hr; clear hr)
  go_ret
  exact ⟨by rw [← HR.out]; rfl, hb2⟩

theorem sz96 : 0 < k96.sz := by show 0 < 2; omega
theorem zs96 : (Value.agg #[.int .i64 0, .int .i64 0]).cells.size = k96.sz := rfl
theorem info96 : (Try.prog.info? 96).map (fun i => (i.zero, i.size, i.bytes)) = some (some (.agg #[.int .i64 0, .int .i64 0]), k96.sz, 16) := by kernel_rfl

set_option maxRecDepth 100000 in
set_option maxHeartbeats 1000000 in
theorem clone96 (ad : Addr) (c : Nat) (l : List S96) (w : World) (hr : Kd.C k96 w (some ad) l.length l) (hn : l.length * 16 ≤ 140737488355328) :
    Calls Try.prog 96 #[.slice (some ad) l.length c] w fun e w' => ∃ v, e = .returned v ∧ Kd.R k96 96 w' w.heap.size (fun _ => True) v l ∧ Below w.heap.size w w' := by
  have heq := fun (w : World) (a : Option Addr) (n c : Nat) => Lib.run_eql_slice_nil (P := Try.prog) w 91 96 a n c 0 0 Try.underlying91
  have HR := Aside0.mk hr
  have HN := Aside0.mk hn
  clear hr hn
  go_enter Try.func96, Try.ntmps96
  go_wp2_with (at_builtin; refine Kd.R_append_rows k96 (Rr := k96.K (w.alloc (.cells #[] 96))) (w0 := w) w.heap.size rfl (.tmp 5) (.tmp 6) 91 96 (.agg #[.int .i64 0, .int .i64 0]) 16 rfl Try.underlying91 info96 zs96 sz96 (by omega) (.slice (some ⟨w.heap.size, 0, none⟩) 0 0) ([] : List S96) l _ _ _ (fun _ => True) (fun _ => False) rfl rfl ?aO ?aR ?aK (fun _ h => h.elim) (fun _ _ => trivial) ?aB ?aS ?aL ?_; (case aO => exact R_empty w); (case aR => exact Kd.C_alloc HR.out _); (case aK => exact fun x cs h => by rw [k96_open h]; exact k96_mkM _ _ _ x); (case aB => exact below_alloc (Below.refl _ _) _); (case aS => simp); (case aL => have := HN.out; simp; omega); intro v1 w1 ho hb hg hat; have HO := Aside0.mk ho; have HB := Aside0.mk hb; clear ho hb hg hat)
  go_ret
  exact ⟨_, rfl, by simpa using HO.out, HB.out⟩
end Go.Proofs.Ytdlhmabjgbiagaa.Sky
