/-
  Plain numbers: how many parts of ticks have gone by at a true time, piece by piece; bounds, and that it never goes back.
-/
import Derived.Test.YtdlhmabjgbiagaaSkyM
namespace Go.Proofs.Ytdlhmabjgbiagaa.Sky
set_option linter.unusedVariables false

/-- A true time within its bounds. -/
def clampT (t : Int) : Int := if t < 0 then 0 else if t > 4503599627370496 then 4503599627370496 else t
theorem clampT_lo (t : Int) : 0 ≤ clampT t := by unfold clampT; split <;> (try split) <;> omega
theorem clampT_hi (t : Int) : clampT t ≤ 4503599627370496 := by unfold clampT; split <;> (try split) <;> omega
theorem clampT_id (t : Int) (h0 : 0 ≤ t) (h1 : t ≤ 4503599627370496) : clampT t = t := by unfold clampT; split <;> (try split) <;> omega
theorem clampT_mono {a b : Int} (h : a ≤ b) : clampT a ≤ clampT b := by unfold clampT; (repeat' split) <;> omega

/-- Where piece k begins, or t if that is earlier (or there is no piece k). -/
def upTo (F : Nat → Int) (n : Nat) (t : Int) (k : Nat) : Int := if k < n then (if t ≤ F k then t else F k) else t
def part (F O : Nat → Int) (n : Nat) (t : Int) (k : Nat) : Int := if F k < upTo F n t (k + 1) then (upTo F n t (k + 1) - F k) * (1000000000 + O k) else 0
def paced (F O : Nat → Int) (n : Nat) (t : Int) : Nat → Int
  | 0 => 0
  | k + 1 => paced F O n t k + part F O n t k

structure Valid (F O : Nat → Int) (n : Nat) : Prop where
  pos : 0 < n
  zero : F 0 = 0
  asc : ∀ i, i + 1 < n → F i < F (i + 1)
  top : ∀ i, i < n → F i ≤ 4503599627370496
  off : ∀ i, i < n → -500000 ≤ O i ∧ O i ≤ 500000

theorem Valid.nonneg {F O : Nat → Int} {n : Nat} (v : Valid F O n) : ∀ i, i < n → 0 ≤ F i
  | 0, _ => by rw [v.zero]; omega
  | i + 1, h => by
    have := v.nonneg i (by omega)
    have := v.asc i h
    omega

theorem mul_le_of {x p q : Int} (hx : 0 ≤ x) (h : p ≤ q) : x * p ≤ x * q := Int.mul_le_mul_of_nonneg_left h hx

/-- How a piece's part goes on from one true time to a later one: between 0 and the greatest pace. -/
theorem part_step {F O : Nat → Int} {n : Nat} (v : Valid F O n) {a b : Int} (h : a ≤ b) {k : Nat} (hk : k < n) :
    0 ≤ part F O n b k - part F O n a k ∧ part F O n b k - part F O n a k ≤ 1000500000 * ((upTo F n b (k + 1) - upTo F n b k) - (upTo F n a (k + 1) - upTo F n a k)) := by
  obtain ⟨o1, o2⟩ := v.off k hk
  have hF : k + 1 < n → F k < F (k + 1) := v.asc k
  -- what is within the piece
  have e : ∀ t, ∃ x, 0 ≤ x ∧ part F O n t k = x * (1000000000 + O k) ∧ x = upTo F n t (k + 1) - upTo F n t k := by
    intro t
    unfold part
    by_cases c : F k < upTo F n t (k + 1)
    · rw [if_pos c]
      refine ⟨_, by omega, rfl, ?_⟩
      have : F k < t := by
        unfold upTo at c
        split at c <;> (try split at c) <;> omega
      have e2 : upTo F n t k = F k := by unfold upTo; rw [if_pos hk, if_neg (by omega)]
      rw [e2]
    · rw [if_neg c]
      refine ⟨0, by omega, by simp, ?_⟩
      have : t ≤ F k := by
        unfold upTo at c
        split at c
        · have := hF (by assumption)
          split at c <;> omega
        · omega
      have e2 : upTo F n t k = t := by unfold upTo; rw [if_pos hk, if_pos this]
      have e3 : upTo F n t (k + 1) = t := by
        unfold upTo
        split
        · have := hF (by assumption)
          rw [if_pos (by omega)]
        · rfl
      omega
  obtain ⟨x, hx, ex, dx⟩ := e a
  obtain ⟨y, hy, ey, dy⟩ := e b
  have hxy : x ≤ y := by
    rw [dx, dy]
    unfold upTo
    by_cases c : k + 1 < n
    · have := hF c
      rw [if_pos c, if_pos c, if_pos hk, if_pos hk]
      split <;> split <;> split <;> split <;> omega
    · rw [if_neg c, if_neg c, if_pos hk, if_pos hk]
      split <;> split <;> omega
  rw [ex, ey, ← dx, ← dy, ← Int.sub_mul]
  have h1 := mul_le_of (x := y - x) (p := 0) (q := 1000000000 + O k) (by omega) (by omega)
  have h2 := mul_le_of (x := y - x) (p := 1000000000 + O k) (q := 1000500000) (by omega) (by omega)
  rw [Int.mul_comm] at h2
  constructor
  · omega
  · rw [Int.mul_comm] at h2
    omega

theorem paced_step {F O : Nat → Int} {n : Nat} (v : Valid F O n) {a b : Int} (h : a ≤ b) : ∀ k, k ≤ n →
    0 ≤ paced F O n b k - paced F O n a k ∧ paced F O n b k - paced F O n a k ≤ 1000500000 * ((upTo F n b k - upTo F n b 0) - (upTo F n a k - upTo F n a 0))
  | 0, _ => by simp [paced]
  | k + 1, hk => by
    obtain ⟨a1, a2⟩ := paced_step v h k (by omega)
    obtain ⟨b1, b2⟩ := part_step v h (k := k) (by omega)
    simp only [paced]
    constructor <;> omega

theorem upTo_zero {F O : Nat → Int} {n : Nat} (v : Valid F O n) {t : Int} (h : 0 ≤ t) : upTo F n t 0 = 0 := by
  unfold upTo
  rw [if_pos v.pos, v.zero]
  split <;> omega
theorem paced_zero {F O : Nat → Int} {n : Nat} (v : Valid F O n) : ∀ k, k ≤ n → paced F O n 0 k = 0
  | 0, _ => rfl
  | k + 1, hk => by
    simp only [paced]
    rw [paced_zero v k (by omega)]
    unfold part
    have : ¬ F k < upTo F n 0 (k + 1) := by
      have := v.nonneg k (by omega)
      unfold upTo
      split
      · split <;> omega
      · omega
    rw [if_neg this]; rfl
/-- From one true time to a later one: never back, and by the greatest pace at most. -/
theorem paced_goes {F O : Nat → Int} {n : Nat} (v : Valid F O n) {a b : Int} (h0 : 0 ≤ a) (h : a ≤ b) (k : Nat) (hk : k ≤ n) :
    paced F O n a k ≤ paced F O n b k ∧ paced F O n b k - paced F O n a k ≤ 1000500000 * (upTo F n b k - upTo F n a k) := by
  obtain ⟨a1, a2⟩ := paced_step v h k hk
  rw [upTo_zero v h0, upTo_zero v (by omega : 0 ≤ b)] at a2
  constructor <;> omega
theorem upTo_le (F : Nat → Int) (n : Nat) (t : Int) (k : Nat) : upTo F n t k ≤ t := by
  unfold upTo
  split
  · split <;> omega
  · omega
theorem upTo_zero_t {F O : Nat → Int} {n : Nat} (v : Valid F O n) (k : Nat) : 0 ≤ upTo F n 0 k := by
  unfold upTo
  split
  · have := v.nonneg k (by assumption)
    split <;> omega
  · omega
theorem paced_bound {F O : Nat → Int} {n : Nat} (v : Valid F O n) {t : Int} (h0 : 0 ≤ t) (h1 : t ≤ 4503599627370496) (k : Nat) (hk : k ≤ n) :
    0 ≤ paced F O n t k ∧ paced F O n t k ≤ 4505851427184181248000000 := by
  obtain ⟨a1, a2⟩ := paced_goes v (Int.le_refl 0) h0 k hk
  rw [paced_zero v k hk] at a1 a2
  have := upTo_le F n t k
  have := upTo_zero_t v k
  constructor <;> omega

/-- The ticks at a true time. -/
def ticksF (h : Nat) (F O : Nat → Int) (n : Nat) (t : Int) : Int := paced F O n (clampT t) n * h / 1000000000000000000
end Go.Proofs.Ytdlhmabjgbiagaa.Sky
