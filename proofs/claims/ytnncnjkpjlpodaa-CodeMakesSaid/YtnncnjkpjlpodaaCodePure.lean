import Derived.Test.YtnncnjkpjlpodaaFlowRefPure2
/-
  Codes by their lengths, as numbers and lists: how many of each length, the first of each length, each symbol's word; and that a word is read back.
-/
namespace Go.Proofs.Ytnncnjkpjlpodaa

/-- the symbols (from i on) whose length is n -/
def syms : List Nat → Nat → Nat → List Nat
  | [], _, _ => []
  | x :: r, n, i => if x = n then i :: syms r n (i + 1) else syms r n (i + 1)
def cnt (L : List Nat) (n : Nat) : Nat := if n = 0 then 0 else (syms L n 0).length
def ordN (L : List Nat) : Nat → List Nat
  | 0 => []
  | n + 1 => ordN L n ++ syms L (n + 1) 0
def frm (L : List Nat) (n : Nat) : Nat := (ordN L (n - 1)).length
/-- the first code of length n -/
def fc (L : List Nat) : Nat → Nat
  | 0 => 0
  | n + 1 => 2 * (fc L n + cnt L n)
def rnk (L : List Nat) (s n : Nat) : Nat := (syms (L.take s) n 0).length
/-- what is used up of the room -/
def kr : List Nat → Nat
  | [] => 0
  | x :: r => (if 1 ≤ x ∧ x ≤ 15 then 2 ^ (15 - x) else 0) + kr r
theorem syms_app (l m : List Nat) (n : Nat) : ∀ i, syms (l ++ m) n i = syms l n i ++ syms m n (i + l.length) := by
  induction l with
  | nil => intro i; simp [syms]
  | cons x r ih =>
    intro i
    simp only [List.cons_append, syms, ih, List.length_cons]
    rw [show i + 1 + r.length = i + (r.length + 1) by omega]
    split <;> simp
theorem syms_len (l : List Nat) (n : Nat) : ∀ i j, (syms l n i).length = (syms l n j).length := by
  induction l with
  | nil => intro i j; rfl
  | cons x r ih =>
    intro i j
    simp only [syms]
    split
    · rw [List.length_cons, List.length_cons, ih (i + 1) (j + 1)]
    · exact ih _ _
theorem syms_take (L : List Nat) (n j : Nat) (h : j < L.length) : syms (L.take (j + 1)) n 0 = syms (L.take j) n 0 ++ (if L.getD j 0 = n then [j] else []) := by
  rw [List.take_succ_eq_append_getElem h, syms_app, List.length_take, Nat.min_eq_left (by omega), Nat.zero_add, List.getD_eq_getElem?_getD, List.getElem?_eq_getElem h]
  congr 1
theorem syms_mem (L : List Nat) (n : Nat) : ∀ i s, s ∈ syms L n i → i ≤ s ∧ s < i + L.length ∧ L.getD (s - i) 0 = n := by
  induction L with
  | nil => intro i s h; cases h
  | cons x r ih =>
    intro i s h
    simp only [syms] at h
    have key : s ∈ syms r n (i + 1) → i ≤ s ∧ s < i + (x :: r).length ∧ (x :: r).getD (s - i) 0 = n := by
      intro h
      obtain ⟨h1, h2, h3⟩ := ih (i + 1) s h
      refine ⟨by omega, by rw [List.length_cons]; omega, ?_⟩
      rw [show s - i = (s - (i + 1)) + 1 by omega]
      simpa [List.getD_eq_getElem?_getD] using h3
    split at h
    · next hx =>
      rcases List.mem_cons.1 h with rfl | h
      · exact ⟨Nat.le_refl _, by simp, by simpa using hx⟩
      · exact key h
    · exact key h
/-- the symbol s of length n stands at its rank -/
theorem syms_rnk (L : List Nat) (s n : Nat) (h : s < L.length) (hn : L.getD s 0 = n) : (syms L n 0)[rnk L s n]? = some s ∧ rnk L s n < (syms L n 0).length := by
  have e : syms L n 0 = syms (L.take s) n 0 ++ (s :: syms (L.drop (s + 1)) n (s + 1)) := by
    conv => lhs; rw [← List.take_append_drop s L, syms_app, List.length_take, Nat.min_eq_left (by omega), Nat.zero_add, List.drop_eq_getElem_cons h]
    congr 1
    simp only [syms]
    rw [if_pos (by rw [← hn, List.getD_eq_getElem?_getD, List.getElem?_eq_getElem h]; rfl)]
  unfold rnk
  rw [e, List.getElem?_append_right (Nat.le_refl _), Nat.sub_self]
  exact ⟨rfl, by rw [List.length_append, List.length_cons]; omega⟩
/-- each place of the symbols of length n is the rank of one -/
theorem syms_at (L : List Nat) (n : Nat) : ∀ j, j < (syms L n 0).length → ∃ s, s < L.length ∧ L.getD s 0 = n ∧ rnk L s n = j ∧ (syms L n 0)[j]? = some s := by
  have key : ∀ k, k ≤ L.length → ∀ j, j < (syms (L.take k) n 0).length → ∃ s, s < k ∧ L.getD s 0 = n ∧ rnk L s n = j := by
    intro k
    induction k with
    | zero => intro _ j h; simp [syms] at h
    | succ k ih =>
      intro hk j h
      rw [syms_take L n k (by omega), List.length_append] at h
      rcases Nat.lt_or_ge j (syms (L.take k) n 0).length with h1 | h1
      · obtain ⟨s, a, b, c⟩ := ih (by omega) j h1
        exact ⟨s, by omega, b, c⟩
      · split at h
        · next hx => exact ⟨k, by omega, hx, by simp at h; unfold rnk; omega⟩
        · simp at h; omega
  intro j h
  obtain ⟨s, a, b, c⟩ := key L.length (Nat.le_refl _) j (by rw [List.take_length]; exact h)
  exact ⟨s, a, b, c, by rw [← c]; exact (syms_rnk L s n a b).1⟩
theorem rnk_inj (L : List Nat) (s t n : Nat) (hs : s < L.length) (ht : t < L.length) (h1 : L.getD s 0 = n) (h2 : L.getD t 0 = n) (h : rnk L s n = rnk L t n) : s = t := by
  have a := (syms_rnk L s n hs h1).1
  have b := (syms_rnk L t n ht h2).1
  rw [h, b] at a
  exact (Option.some.inj a).symm
theorem frm_zero (L : List Nat) : frm L 1 = 0 := rfl
theorem frm_succ (L : List Nat) (n : Nat) (h : 1 ≤ n) : frm L (n + 1) = frm L n + cnt L n := by
  obtain ⟨m, rfl⟩ : ∃ m, n = m + 1 := ⟨n - 1, by omega⟩
  unfold frm cnt
  rw [if_neg (by omega)]
  simp only [Nat.add_sub_cancel, ordN, List.length_append]
theorem ord_len (L : List Nat) : ∀ m n, n ≤ m → (ordN L n).length ≤ (ordN L m).length := by
  intro m
  induction m with
  | zero => intro n h; obtain rfl : n = 0 := by omega
            exact Nat.le_refl _
  | succ m ih =>
    intro n h
    rcases Nat.lt_or_ge n (m + 1) with h1 | h1
    · exact Nat.le_trans (ih n (by omega)) (by simp [ordN])
    · obtain rfl : n = m + 1 := by omega
      exact Nat.le_refl _
theorem ord_get (L : List Nat) (n : Nat) (hn : 1 ≤ n) : ∀ m, n ≤ m → ∀ j, j < (syms L n 0).length → (ordN L m)[frm L n + j]? = (syms L n 0)[j]? := by
  obtain ⟨k, rfl⟩ : ∃ k, n = k + 1 := ⟨n - 1, by omega⟩
  intro m
  induction m with
  | zero => intro h; omega
  | succ m ih =>
    intro h j hj
    have hfr : frm L (k + 1) = (ordN L k).length := rfl
    rcases Nat.lt_or_ge k m with h1 | h1
    · have := ord_len L m (k + 1) (by omega)
      simp only [ordN, List.length_append] at this
      simp only [ordN]
      rw [List.getElem?_append_left (by rw [hfr]; omega)]
      exact ih (by omega) j hj
    · obtain rfl : k = m := by omega
      simp only [ordN]
      rw [List.getElem?_append_right (by rw [hfr]; omega), hfr, Nat.add_sub_cancel_left]
theorem ord_mem (L : List Nat) : ∀ m s, s ∈ ordN L m → s < L.length ∧ 1 ≤ L.getD s 0 ∧ L.getD s 0 ≤ m := by
  intro m
  induction m with
  | zero => intro s h; cases h
  | succ m ih =>
    intro s h
    rcases List.mem_append.1 h with h | h
    · obtain ⟨a, b, c⟩ := ih s h
      exact ⟨a, b, by omega⟩
    · obtain ⟨-, b, c⟩ := syms_mem L (m + 1) 0 s h
      rw [Nat.sub_zero] at c
      exact ⟨by omega, by omega, by omega⟩
theorem cnt_nil (n : Nat) : cnt [] n = 0 := by unfold cnt; split <;> rfl
theorem cnt_cons (x : Nat) (r : List Nat) (n : Nat) : cnt (x :: r) n = cnt r n + (if n ≠ 0 ∧ x = n then 1 else 0) := by
  unfold cnt
  by_cases h : n = 0
  · simp [h]
  · rw [if_neg h, if_neg h]
    simp only [syms]
    by_cases hx : x = n
    · rw [if_pos hx, if_pos ⟨h, hx⟩, List.length_cons, syms_len r n (0 + 1) 0]
    · rw [if_neg hx, if_neg (by simp [hx]), syms_len r n (0 + 1) 0]; rfl
theorem fc_nil : ∀ n, fc [] n = 0
  | 0 => rfl
  | n + 1 => by simp only [fc]; rw [fc_nil n, cnt_nil]
theorem fc_cons (x : Nat) (r : List Nat) : ∀ n, fc (x :: r) n = fc r n + (if 1 ≤ x ∧ x < n then 2 ^ (n - x) else 0)
  | 0 => by simp [fc]
  | n + 1 => by
    simp only [fc]
    rw [fc_cons x r n, cnt_cons]
    by_cases h1 : 1 ≤ x ∧ x < n
    · rw [if_pos h1, if_neg (by omega), if_pos (by omega), show n + 1 - x = (n - x) + 1 by omega, Nat.pow_succ]; omega
    · rw [if_neg h1]
      by_cases h2 : n ≠ 0 ∧ x = n
      · obtain ⟨h3, rfl⟩ := h2
        rw [if_pos ⟨h3, rfl⟩, if_pos (by omega), show x + 1 - x = 1 by omega]; omega
      · rw [if_neg h2, if_neg (by omega)]; omega
theorem kr_fc : ∀ L, fc L 16 = 2 * kr L
  | [] => by rw [fc_nil]; rfl
  | x :: r => by
    rw [fc_cons, kr_fc r]
    simp only [kr]
    by_cases h : 1 ≤ x ∧ x < 16
    · rw [if_pos h, if_pos (by omega), show 16 - x = (15 - x) + 1 by omega, Nat.pow_succ]; omega
    · rw [if_neg h, if_neg (by omega)]; omega
theorem fc_up (L : List Nat) (n : Nat) : ∀ k, 2 ^ (k + 1) * (fc L n + cnt L n) ≤ fc L (n + k + 1)
  | 0 => by simp [fc]
  | k + 1 => by
    have := fc_up L n k
    show _ ≤ 2 * (fc L (n + k + 1) + cnt L (n + k + 1))
    rw [Nat.pow_succ]
    have e : 2 ^ (k + 1) * 2 * (fc L n + cnt L n) = 2 * (2 ^ (k + 1) * (fc L n + cnt L n)) := by rw [Nat.mul_comm (2 ^ (k + 1)) 2, Nat.mul_assoc]
    omega
theorem fc_fit (L : List Nat) (h : kr L ≤ 32768) (n : Nat) (hn : n ≤ 15) : fc L n + cnt L n ≤ 2 ^ n := by
  have h1 := fc_up L n (15 - n)
  rw [show n + (15 - n) + 1 = 16 by omega, kr_fc] at h1
  have h2 : (2 : Nat) ^ (15 - n + 1) * 2 ^ n = 65536 := by rw [← Nat.pow_add, show 15 - n + 1 + n = 16 by omega]
  have h3 : 2 ^ (15 - n + 1) * (fc L n + cnt L n) ≤ 2 ^ (15 - n + 1) * 2 ^ n := by omega
  exact Nat.le_of_mul_le_mul_left h3 (Nat.pow_pos (by decide))
theorem fc_flat (L : List Nat) (n : Nat) : ∀ k, (∀ m, n < m → m ≤ n + k → cnt L m = 0) → fc L (n + k + 1) = 2 ^ (k + 1) * (fc L n + cnt L n)
  | 0, _ => by simp [fc]
  | k + 1, h => by
    have := fc_flat L n k (fun m h1 h2 => h m h1 (by omega))
    show 2 * (fc L (n + k + 1) + cnt L (n + k + 1)) = _
    rw [this, h (n + k + 1) (by omega) (by omega), Nat.pow_succ (n := 2) (m := k + 1), Nat.mul_comm (2 ^ (k + 1)) 2, Nat.mul_assoc]
    omega
/-- the word of a symbol -/
def wrd (L : List Nat) (s : Nat) : Nat := fc L (L.getD s 0) + rnk L s (L.getD s 0)
theorem rnk_lt (L : List Nat) (s n : Nat) (hs : s < L.length) (hn : L.getD s 0 = n) (h0 : n ≠ 0) : rnk L s n < cnt L n := by
  unfold cnt; rw [if_neg h0]; exact (syms_rnk L s n hs hn).2
theorem wrd_lt (L : List Nat) (s : Nat) (hs : s < L.length) (h0 : L.getD s 0 ≠ 0) : fc L (L.getD s 0) ≤ wrd L s ∧ wrd L s < fc L (L.getD s 0) + cnt L (L.getD s 0) := by
  have := rnk_lt L s _ hs rfl h0
  unfold wrd; omega
theorem wrd_fit (L : List Nat) (h : kr L ≤ 32768) (s : Nat) (hs : s < L.length) (h0 : L.getD s 0 ≠ 0) (h15 : L.getD s 0 ≤ 15) : wrd L s < 2 ^ L.getD s 0 := by
  have := (wrd_lt L s hs h0).2
  have := fc_fit L h _ h15
  omega
/-- the first bits of a word are beyond all shorter codes -/
theorem wrd_over (L : List Nat) (s n : Nat) (hs : s < L.length) (h0 : L.getD s 0 ≠ 0) (hn : n < L.getD s 0) : fc L n + cnt L n ≤ wrd L s / 2 ^ (L.getD s 0 - n) := by
  have h1 := (wrd_lt L s hs h0).1
  have h2 := fc_up L n (L.getD s 0 - n - 1)
  rw [show L.getD s 0 - n - 1 + 1 = L.getD s 0 - n by omega, show n + (L.getD s 0 - n - 1) + 1 = L.getD s 0 by omega] at h2
  rw [Nat.le_div_iff_mul_le (Nat.pow_pos (by decide)), Nat.mul_comm]
  omega
/-- no code is another one's beginning -/
theorem wrd_apart (L : List Nat) (s t : Nat) (hs : s < L.length) (ht : t < L.length) (h0 : L.getD s 0 ≠ 0) (h1 : L.getD t 0 ≠ 0) (hle : L.getD s 0 ≤ L.getD t 0) (hne : s ≠ t) : wrd L s ≠ wrd L t / 2 ^ (L.getD t 0 - L.getD s 0) := by
  intro he
  rcases Nat.lt_or_ge (L.getD s 0) (L.getD t 0) with h | h
  · have a := wrd_over L t _ ht h1 h
    have b := (wrd_lt L s hs h0).2
    omega
  · have e : L.getD t 0 = L.getD s 0 := by omega
    rw [e, Nat.sub_self, Nat.pow_zero, Nat.div_one] at he
    unfold wrd at he
    rw [e] at he
    exact hne (rnk_inj L s t _ hs ht rfl e (by omega))
end Go.Proofs.Ytnncnjkpjlpodaa
