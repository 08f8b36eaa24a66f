import Derived.Test.YtcamakleahpinaaBitsPure
/-
  The law BitsRuns: the pure facts on runs, and its walk.
-/
namespace Go.Proofs.Ytcamakleahpinaa
open Go.RowKit

/-- the sum of the first k -/
def preS (l : List Int) : Nat → Int
  | 0 => 0
  | k + 1 => preS l k + l.getD k 0
/-- the sum of those at odd places among the first k -/
def oddS (l : List Int) : Nat → Int
  | 0 => 0
  | k + 1 => oddS l k + if k % 2 = 1 then l.getD k 0 else 0
theorem getD_app (l m : List Int) (k : Nat) (h : k < l.length) : (l ++ m).getD k 0 = l.getD k 0 := by
  rw [List.getD_eq_getElem?_getD, List.getD_eq_getElem?_getD, List.getElem?_append_left h]
theorem getD_last (l : List Int) (x : Int) : (l ++ [x]).getD l.length 0 = x := by simp [List.getD_eq_getElem?_getD]
theorem preS_app (l m : List Int) : ∀ k, k ≤ l.length → preS (l ++ m) k = preS l k
  | 0, _ => rfl
  | k + 1, h => by simp only [preS]; rw [preS_app l m k (by omega), getD_app l m k (by omega)]
theorem oddS_app (l m : List Int) : ∀ k, k ≤ l.length → oddS (l ++ m) k = oddS l k
  | 0, _ => rfl
  | k + 1, h => by simp only [oddS]; rw [oddS_app l m k (by omega), getD_app l m k (by omega)]
theorem preS_snoc (l : List Int) (x : Int) : preS (l ++ [x]) (l.length + 1) = preS l l.length + x := by
  simp only [preS]; rw [preS_app l [x] _ (Nat.le_refl _), getD_last]
theorem oddS_snoc (l : List Int) (x : Int) : oddS (l ++ [x]) (l.length + 1) = oddS l l.length + if l.length % 2 = 1 then x else 0 := by
  simp only [oddS]; rw [oddS_app l [x] _ (Nat.le_refl _), getD_last]

/-- what the state of the runs keeps -/
structure RunOk (l : List Nat) (k : Nat) (s : RunSt) : Prop where
  sum : preS s.done s.done.length + s.cur = k
  odd : oddS s.done s.done.length + (if s.last then s.cur else 0) = cntN l k
  side : s.last = decide (s.done.length % 2 = 1)
  pos : ∀ j, 0 < j → j < s.done.length → 1 ≤ s.done.getD j 0
  nat : ∀ j, j < s.done.length → 0 ≤ s.done.getD j 0
  cur0 : 0 ≤ s.cur
  cur1 : 0 < s.done.length → 1 ≤ s.cur
theorem bitN_B (l : List Nat) (k : Nat) : bitN l k = if bitB l k then 1 else 0 := by
  unfold bitB
  rcases bitN_01 l k with h | h <;> rw [h] <;> rfl
theorem runSt_ok (l : List Nat) : ∀ k, RunOk l k (runSt l k)
  | 0 => ⟨rfl, rfl, rfl, fun j _ h => absurd h (by simp [runSt]), fun j h => absurd h (by simp [runSt]), by simp [runSt], fun h => absurd h (by simp [runSt])⟩
  | k + 1 => by
    have ih := runSt_ok l k
    have hb := bitN_B l k
    have hc : (cntN l (k + 1) : Int) = cntN l k + bitN l k := by simp only [cntN]; omega
    obtain ⟨h1, h2, h3, h4, h5, h6, h7⟩ := ih
    simp only [runSt]
    generalize runSt l k = s at h1 h2 h3 h4 h5 h6 h7 ⊢
    obtain ⟨D, C, L⟩ := s
    simp only at h1 h2 h3 h4 h5 h6 h7 ⊢
    by_cases he : bitB l k = L
    · rw [if_pos he]
      rw [he] at hb
      refine ⟨?_, ?_, h3, h4, h5, ?_, ?_⟩
      · show preS D D.length + (C + 1) = _; omega
      · show oddS D D.length + (if L then C + 1 else 0) = _
        rw [hc, hb]
        cases L <;> simp at h2 ⊢ <;> omega
      · show 0 ≤ C + 1; omega
      · intro h; show 1 ≤ C + 1; omega
    · rw [if_neg he]
      refine ⟨?_, ?_, ?_, ?_, ?_, ?_, ?_⟩
      · show preS (D ++ [C]) (D ++ [C]).length + 1 = _
        rw [List.length_append, List.length_singleton, preS_snoc]; omega
      · show oddS (D ++ [C]) (D ++ [C]).length + (if bitB l k then 1 else 0) = _
        rw [List.length_append, List.length_singleton, oddS_snoc, hc, hb]
        have e : (if D.length % 2 = 1 then C else 0) = (if L = true then C else 0) := by rw [h3]; simp
        rw [e]
        generalize (if L = true then C else 0) = Z at h2 ⊢
        cases bitB l k <;> simp <;> omega
      · show bitB l k = decide ((D ++ [C]).length % 2 = 1)
        have e : bitB l k = !L := by cases hx : bitB l k <;> cases L <;> simp_all
        rw [e, h3, List.length_append, List.length_singleton]
        by_cases hd : D.length % 2 = 1
        · rw [decide_eq_true hd, decide_eq_false (by omega)]; rfl
        · rw [decide_eq_false hd, decide_eq_true (by omega)]; rfl
      · intro j j0 j1
        show 1 ≤ (D ++ [C]).getD j 0
        have j1' : j < D.length + 1 := by simpa using j1
        rcases Nat.lt_or_ge j D.length with h | h
        · rw [getD_app D [C] j h]; exact h4 j j0 h
        · obtain rfl : j = D.length := by omega
          rw [getD_last]; exact h7 j0
      · intro j j1
        show 0 ≤ (D ++ [C]).getD j 0
        have j1' : j < D.length + 1 := by simpa using j1
        rcases Nat.lt_or_ge j D.length with h | h
        · rw [getD_app D [C] j h]; exact h5 j h
        · obtain rfl : j = D.length := by omega
          rw [getD_last]; exact h6
      · show (0 : Int) ≤ 1; omega
      · intro _; show (1 : Int) ≤ 1; omega

theorem preS_nonneg (l : List Int) (h : ∀ j, j < l.length → 0 ≤ l.getD j 0) : ∀ k, k ≤ l.length → 0 ≤ oddS l k ∧ oddS l k ≤ preS l k
  | 0, _ => ⟨Int.le_refl _, Int.le_refl _⟩
  | k + 1, hk => by
    have ih := preS_nonneg l h k (by omega)
    have := h k (by omega)
    simp only [preS, oddS]
    split <;> omega
theorem preS_mono (l : List Int) (h : ∀ j, j < l.length → 0 ≤ l.getD j 0) (k : Nat) : ∀ d, k + d ≤ l.length → preS l k ≤ preS l (k + d)
  | 0, _ => Int.le_refl _
  | d + 1, hk => by
    have ih := preS_mono l h k d (by omega)
    have := h (k + d) (by omega)
    show _ ≤ preS l (k + d) + l.getD (k + d) 0
    omega

/-- what the law says of the runs -/
theorem runsN_ok (l : List Nat) (W : Nat) : preS (runsN l W) (runsN l W).length = W ∧ oddS (runsN l W) (runsN l W).length = cntN l W ∧ (∀ j, 0 < j → j < (runsN l W).length → 1 ≤ (runsN l W).getD j 0) ∧ (∀ j, j < (runsN l W).length → 0 ≤ (runsN l W).getD j 0) ∧ (runsN l W).length ≤ W + 1 := by
  unfold runsN
  by_cases h : W = 0
  · rw [if_pos h]; subst h
    exact ⟨rfl, rfl, fun j _ h => absurd h (by simp), fun j h => absurd h (by simp), Nat.zero_le _⟩
  · rw [if_neg h]
    have hl := (runSt_sum l W).2.2.2
    obtain ⟨h1, h2, h3, h4, h5, h6, h7⟩ := runSt_ok l W
    generalize runSt l W = s at h1 h2 h3 h4 h5 h6 h7 hl ⊢
    obtain ⟨D, C, L⟩ := s
    simp only at h1 h2 h3 h4 h5 h6 h7 hl ⊢
    rw [List.length_append, List.length_singleton]
    refine ⟨?_, ?_, ?_, ?_, ?_⟩
    · rw [preS_snoc]; exact h1
    · rw [oddS_snoc, ← h2, h3]; simp
    · intro j j0 j1
      rcases Nat.lt_or_ge j D.length with h | h
      · rw [getD_app D [C] j h]; exact h4 j j0 h
      · obtain rfl : j = D.length := by omega
        rw [getD_last]; exact h7 j0
    · intro j j1
      rcases Nat.lt_or_ge j D.length with h | h
      · rw [getD_app D [C] j h]; exact h5 j h
      · obtain rfl : j = D.length := by omega
        rw [getD_last]; exact h6
    · omega
end Go.Proofs.Ytcamakleahpinaa
