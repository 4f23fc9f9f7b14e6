/-
  Plain numbers: a piece that is parted, both parts as fast as it was, changes nothing.
-/
import Derived.Test.YtdlhmabjgbiagaaSkyO
namespace Go.Proofs.Ytdlhmabjgbiagaa.Sky
open Go.Proofs.Ytdlhmabjgbiagaa.PSkyGoes
set_option linter.unusedVariables false
set_option linter.unusedSimpArgs false

/-- l' is l, its piece j parted at a. -/
structure Parted (l l' : List S96) (j : Nat) (a : Int) : Prop where
  len : l'.length = l.length + 1
  hj : j < l.length
  lo : fr l j < a
  hi : j + 1 < l.length → a < fr l (j + 1)
  top : a ≤ 4503599627370496
  old : ∀ k, k ≤ j → fr l' k = fr l k ∧ of l' k = of l k
  mid : fr l' (j + 1) = a ∧ of l' (j + 1) = of l j
  new : ∀ k, j < k → k < l.length → fr l' (k + 1) = fr l k ∧ of l' (k + 1) = of l k

section
variable {l l' : List S96} {j : Nat} {a : Int}
theorem Parted.vld (p : Parted l l' j a) (v : Vld l) : Vld l' := by
  have hl := p.len
  have hj := p.hj
  refine ⟨by omega, ?_, fun i hi => ?_, fun i hi => ?_, fun i hi => ?_⟩
  · rw [(p.old 0 (by omega)).1]; exact v.zero
  · rw [hl] at hi
    rcases (show i + 1 ≤ j ∨ i = j ∨ i = j + 1 ∨ j + 1 < i by omega) with c | c | c | c
    · rw [(p.old i (by omega)).1, (p.old (i + 1) c).1]
      exact v.asc i (by omega)
    · subst c
      rw [(p.old i (by omega)).1, p.mid.1]
      exact p.lo
    · subst c
      rw [p.mid.1, (p.new (j + 1) (by omega) (by omega)).1]
      exact p.hi (by omega)
    · obtain ⟨m, rfl⟩ : ∃ m, i = m + 1 := ⟨i - 1, by omega⟩
      rw [(p.new m (by omega) (by omega)).1, (p.new (m + 1) (by omega) (by omega)).1]
      exact v.asc m (by omega)
  · rw [hl] at hi
    rcases (show i ≤ j ∨ i = j + 1 ∨ j + 1 < i by omega) with c | c | c
    · rw [(p.old i c).1]
      exact v.top i (by omega)
    · subst c
      rw [p.mid.1]
      exact p.top
    · obtain ⟨m, rfl⟩ : ∃ m, i = m + 1 := ⟨i - 1, by omega⟩
      rw [(p.new m (by omega) (by omega)).1]
      exact v.top m (by omega)
  · rw [hl] at hi
    rcases (show i ≤ j ∨ i = j + 1 ∨ j + 1 < i by omega) with c | c | c
    · rw [(p.old i c).2]
      exact v.off i (by omega)
    · subst c
      rw [p.mid.2]
      exact v.off j hj
    · obtain ⟨m, rfl⟩ : ∃ m, i = m + 1 := ⟨i - 1, by omega⟩
      rw [(p.new m (by omega) (by omega)).2]
      exact v.off m (by omega)

theorem Parted.part_old (p : Parted l l' j a) (t : Int) {k : Nat} (hk : k < j) : part (fr l') (of l') l'.length t k = part (fr l) (of l) l.length t k := by
  have hl := p.len
  have hj := p.hj
  unfold part upTo
  rw [if_pos (show k + 1 < l'.length by omega), if_pos (show k + 1 < l.length by omega), (p.old k (by omega)).1, (p.old k (by omega)).2, (p.old (k + 1) (by omega)).1]
theorem Parted.part_new (p : Parted l l' j a) (t : Int) {k : Nat} (hk : j < k) (hkl : k < l.length) : part (fr l') (of l') l'.length t (k + 1) = part (fr l) (of l) l.length t k := by
  have hl := p.len
  unfold part upTo
  rw [(p.new k hk hkl).1, (p.new k hk hkl).2]
  by_cases c : k + 1 < l.length
  · rw [if_pos (show k + 1 + 1 < l'.length by omega), if_pos c, (p.new (k + 1) (by omega) c).1]
  · rw [if_neg (show ¬ k + 1 + 1 < l'.length by omega), if_neg c]
theorem Parted.part_mid (p : Parted l l' j a) (t : Int) : part (fr l') (of l') l'.length t j + part (fr l') (of l') l'.length t (j + 1) = part (fr l) (of l) l.length t j := by
  have hl := p.len
  have hj := p.hj
  have hlo := p.lo
  have e1 : upTo (fr l') l'.length t (j + 1) = if t ≤ a then t else a := by
    unfold upTo
    rw [if_pos (by omega), p.mid.1]
  have e2 : upTo (fr l') l'.length t (j + 1 + 1) = upTo (fr l) l.length t (j + 1) := by
    unfold upTo
    by_cases c : j + 1 < l.length
    · rw [if_pos (by omega), if_pos c, (p.new (j + 1) (by omega) c).1]
    · rw [if_neg (by omega), if_neg c]
  have e3 : ∀ E, upTo (fr l) l.length t (j + 1) = E → (a < t → a < E) ∧ (t ≤ a → E = t) := by
    intro E hE
    rw [← hE]
    unfold upTo
    by_cases c : j + 1 < l.length
    · have := p.hi c
      rw [if_pos c]
      split <;> constructor <;> intro h <;> omega
    · rw [if_neg c]
      exact ⟨id, fun _ => rfl⟩
  unfold part
  rw [e1, e2, (p.old j (Nat.le_refl _)).1, (p.old j (Nat.le_refl _)).2, p.mid.1, p.mid.2]
  obtain ⟨E, hE⟩ : ∃ E, upTo (fr l) l.length t (j + 1) = E := ⟨_, rfl⟩
  obtain ⟨f1, f2⟩ := e3 E hE
  rw [hE]
  generalize 1000000000 + of l j = r
  generalize fr l j = f at *
  by_cases c : t ≤ a
  · rw [if_pos c, f2 c, if_neg (show ¬ a < t by omega)]
    omega
  · have := f1 (by omega)
    rw [if_neg c, if_pos hlo, if_pos this, if_pos (show f < E by omega), ← Int.add_mul]
    congr 1
    omega
theorem Parted.paced_lo (p : Parted l l' j a) (t : Int) : ∀ k, k ≤ j → paced (fr l') (of l') l'.length t k = paced (fr l) (of l) l.length t k
  | 0, _ => rfl
  | k + 1, h => by
    simp only [paced]
    rw [p.paced_lo t k (by omega), p.part_old t (by omega)]
theorem Parted.paced_hi (p : Parted l l' j a) (t : Int) : ∀ k, j + 1 ≤ k → k ≤ l.length → paced (fr l') (of l') l'.length t (k + 1) = paced (fr l) (of l) l.length t k
  | 0, h, _ => absurd h (by omega)
  | k + 1, h, hk => by
    rcases (show k = j ∨ j + 1 ≤ k by omega) with rfl | c
    · have := p.part_mid t
      have := p.paced_lo t k (Nat.le_refl _)
      simp only [paced]
      omega
    · have h1 := p.paced_hi t k c (by omega)
      have h2 := p.part_new t (k := k) (by omega) (by omega)
      simp only [paced] at h1 ⊢
      omega
theorem Parted.tickz (p : Parted l l' j a) (h : Nat) (t : Int) : tickz h l' t = tickz h l t := by
  unfold Sky.tickz ticksF
  have hj := p.hj
  have e := p.paced_hi (clampT t) l.length (by omega) (Nat.le_refl _)
  rw [← p.len] at e
  rw [e]
theorem Parted.isOff (p : Parted l l' j a) {T o : Int} (h : IsOff l T o) : IsOff l' T o := by
  obtain ⟨k, k1, k2, k3, rfl⟩ := h
  have hl := p.len
  have hj := p.hj
  rcases (show k < j ∨ k = j ∨ j < k by omega) with c | c | c
  · refine ⟨k, by omega, by rw [(p.old k (by omega)).1]; exact k2, fun h => ?_, (p.old k (by omega)).2.symm⟩
    rw [(p.old (k + 1) (by omega)).1]
    exact k3 (by omega)
  · subst c
    by_cases d : T < a
    · refine ⟨k, by omega, by rw [(p.old k (by omega)).1]; exact k2, fun h => ?_, (p.old k (by omega)).2.symm⟩
      rw [p.mid.1]
      exact d
    · refine ⟨k + 1, by omega, by rw [p.mid.1]; omega, fun h => ?_, p.mid.2.symm⟩
      rw [(p.new (k + 1) (by omega) (by omega)).1]
      exact k3 (by omega)
  · refine ⟨k + 1, by omega, by rw [(p.new k c k1).1]; exact k2, fun h => ?_, (p.new k c k1).2.symm⟩
    rw [(p.new (k + 1) (by omega) (by omega)).1]
    exact k3 (by omega)
theorem worst_ge (l : List S96) : ∀ n k, k < n → absI (of l k) ≤ worstF l n
  | 0, k, h => absurd h (by omega)
  | n + 1, k, h => by
    simp only [worstF]
    rcases (show k = n ∨ k < n by omega) with rfl | c
    · omega
    · have := worst_ge l n k c
      omega
theorem Parted.worst_lo (p : Parted l l' j a) : ∀ k, k ≤ j + 1 → worstF l' k = worstF l k
  | 0, _ => rfl
  | k + 1, h => by
    simp only [worstF]
    rw [p.worst_lo k (by omega), (p.old k (by omega)).2]
theorem Parted.worst_hi (p : Parted l l' j a) : ∀ k, j + 1 ≤ k → k ≤ l.length → worstF l' (k + 1) = worstF l k
  | 0, h, _ => absurd h (by omega)
  | k + 1, h, hk => by
    rcases (show k = j ∨ j + 1 ≤ k by omega) with rfl | c
    · have h1 := p.worst_lo (k + 1) (Nat.le_refl _)
      have h2 := worst_ge l (k + 1) k (by omega)
      have e : worstF l' (k + 1 + 1) = max (worstF l' (k + 1)) (absI (of l' (k + 1))) := rfl
      rw [e, h1, p.mid.2]
      omega
    · have h1 := p.worst_hi k c (by omega)
      have e : worstF l' (k + 1 + 1) = max (worstF l' (k + 1)) (absI (of l' (k + 1))) := rfl
      rw [e, h1, (p.new k (by omega) (by omega)).2]
      rfl
theorem Parted.worst (p : Parted l l' j a) : worstF l' l'.length = worstF l l.length := by
  have hj := p.hj
  rw [p.len]
  exact p.worst_hi l.length (by omega) (Nat.le_refl _)
end

/-- The law's second loop: what has been told of l's first k pieces. -/
def cutAt (l : List S96) (a : Int) (k : Nat) : Bool := decide (fr l k < a) && (decide (k + 1 = l.length) || decide (a < fr l (k + 1)))
def told (l : List S96) (a : Int) : Nat → List S96
  | 0 => []
  | k + 1 => told l a k ++ [rd_T96 l (k : Int)] ++ (if cutAt l a k = true then [⟨a, of l k⟩] else [])

theorem told_len (l : List S96) (a : Int) : ∀ k, (told l a k).length ≤ 2 * k
  | 0 => by simp [told]
  | k + 1 => by
    have := told_len l a k
    simp only [told, List.length_append, List.length_singleton]
    split <;> simp <;> omega
theorem rd_at {l : List S96} {k : Nat} (h : k < l.length) : l[k]? = some (rd_T96 l (k : Int)) := by
  unfold rd_T96
  rw [Int.toNat_natCast, List.getD_eq_getElem?_getD, List.getElem?_eq_getElem h]; rfl
theorem told_no {l : List S96} {a : Int} : ∀ m, m ≤ l.length → (∀ k, k < m → cutAt l a k = false) → told l a m = l.take m
  | 0, _, _ => by simp [told]
  | m + 1, hm, h => by
    simp only [told]
    rw [told_no m (by omega) (fun k hk => h k (by omega)), h m (by omega)]
    have e := rd_at (l := l) (k := m) (by omega)
    rw [List.take_add_one, e]
    simp
theorem cut_uniq {l : List S96} {a : Int} (v : Vld l) {j k : Nat} (hj : j < l.length) (hk : k < l.length) (h1 : cutAt l a j = true) (h2 : cutAt l a k = true) : j = k := by
  simp only [cutAt, Bool.and_eq_true, Bool.or_eq_true, decide_eq_true_eq] at h1 h2
  rcases (show j = k ∨ j < k ∨ k < j by omega) with c | c | c
  · exact c
  · have := asc_le v k (j + 1) c hk
    rcases h1.2 with h | h <;> omega
  · have := asc_le v j (k + 1) c hj
    rcases h2.2 with h | h <;> omega
theorem told_cut {l : List S96} {a : Int} {j : Nat} (hj : j < l.length) (hc : cutAt l a j = true) (hno : ∀ k, k < l.length → k ≠ j → cutAt l a k = false) : ∀ m, j + 1 ≤ m → m ≤ l.length →
    (told l a m).length = m + 1 ∧ (∀ k, k ≤ j → (told l a m)[k]? = l[k]?) ∧ (told l a m)[j + 1]? = some ⟨a, of l j⟩ ∧ ∀ k, j < k → k < m → (told l a m)[k + 1]? = l[k]?
  | 0, h, _ => absurd h (by omega)
  | m + 1, h, hm => by
    rcases (show m = j ∨ j + 1 ≤ m by omega) with rfl | c
    · have e := told_no (l := l) (a := a) m (by omega) (fun k hk => hno k (by omega) (by omega))
      have er := rd_at hj
      have e2 : told l a (m + 1) = l.take (m + 1) ++ [⟨a, of l m⟩] := by
        simp only [told]
        rw [e, hc, if_pos rfl, List.take_add_one, er]
        simp
      rw [e2]
      have hlen : (l.take (m + 1)).length = m + 1 := by simp; omega
      refine ⟨by simp; omega, fun k hk => ?_, ?_, fun k h1 h2 => absurd h2 (by omega)⟩
      · rw [List.getElem?_append_left (by omega), List.getElem?_take_of_lt (by omega)]
      · rw [List.getElem?_append_right (by omega), hlen]
        simp
    · obtain ⟨h1, h2, h3, h4⟩ := told_cut hj hc hno m c (by omega)
      have e2 : told l a (m + 1) = told l a m ++ [rd_T96 l (m : Int)] := by
        simp only [told]
        rw [hno m (by omega) (by omega)]
        simp
      rw [e2]
      refine ⟨by simp [h1], fun k hk => ?_, ?_, fun k hk1 hk2 => ?_⟩
      · rw [List.getElem?_append_left (by omega)]
        exact h2 k hk
      · rw [List.getElem?_append_left (by omega)]
        exact h3
      · rcases (show k < m ∨ k = m by omega) with d | d
        · rw [List.getElem?_append_left (by omega)]
          exact h4 k hk1 d
        · subst d
          rw [rd_at (l := l) (k := k) (by omega), List.getElem?_append_right (by omega), h1]
          simp
/-- What the law parts: nothing, or one piece. -/
theorem told_all {l : List S96} {a : Int} (v : Vld l) (ha : a ≤ 4503599627370496) : told l a l.length = l ∨ ∃ j, Parted l (told l a l.length) j a := by
  by_cases hx : ∃ j, j < l.length ∧ cutAt l a j = true
  · obtain ⟨j, hj, hc⟩ := hx
    right
    obtain ⟨h1, h2, h3, h4⟩ := told_cut hj hc (fun k hk hne => by
      cases hb : cutAt l a k with
      | false => rfl
      | true => exact absurd (cut_uniq v hj hk hc hb).symm hne) l.length hj (Nat.le_refl _)
    have hc' := hc
    simp only [cutAt, Bool.and_eq_true, Bool.or_eq_true, decide_eq_true_eq] at hc'
    refine ⟨j, ⟨h1, hj, hc'.1, fun h => by rcases hc'.2 with d | d <;> omega, ha, fun k hk => ?_, ⟨fr_at (p := ⟨a, of l j⟩) h3, of_at (p := ⟨a, of l j⟩) h3⟩, fun k hk1 hk2 => ?_⟩⟩
    · have e := (h2 k hk).trans (at_fr (by omega))
      exact ⟨fr_at e, of_at e⟩
    · have e := (h4 k hk1 hk2).trans (at_fr hk2)
      exact ⟨fr_at e, of_at e⟩
  · left
    rw [told_no l.length (Nat.le_refl _) (fun k hk => by
      cases hb : cutAt l a k with
      | false => rfl
      | true => exact absurd ⟨k, hk, hb⟩ hx), List.take_length]
/-- A list of pieces that says the same as another one. -/
structure Alike (l l' : List S96) : Prop where
  vld : Vld l'
  len : l'.length ≤ l.length + 1
  tick : ∀ h t, tickz h l' t = tickz h l t
  off : ∀ {T o}, IsOff l T o → IsOff l' T o
  worst : worstF l' l'.length = worstF l l.length
theorem told_alike {l : List S96} {a : Int} (v : Vld l) (ha : a ≤ 4503599627370496) : Alike l (told l a l.length) := by
  rcases told_all v ha with h | ⟨j, p⟩
  · rw [h]
    exact ⟨v, by omega, fun _ _ => rfl, id, rfl⟩
  · exact ⟨p.vld v, by rw [p.len]; omega, p.tickz, p.isOff, p.worst⟩
end Go.Proofs.Ytdlhmabjgbiagaa.Sky
