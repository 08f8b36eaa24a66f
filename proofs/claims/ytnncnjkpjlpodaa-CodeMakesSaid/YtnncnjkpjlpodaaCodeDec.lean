import Derived.Test.YtnncnjkpjlpodaaCode3
import Derived.Test.YtnncnjkpjlpodaaFlowBackPure
/-
  Reading by a code, as a function; that a word is read back; that a full code reads whatever comes.
-/
namespace Go.Proofs.Ytnncnjkpjlpodaa
open Go.RowKit

/-- reads a symbol: (symbol, error, where it stands); k: how many lengths are left, n: the next one, got: what was read -/
def rdS (L l : List Nat) : Nat → Nat → Nat → Nat → Nat × Nat × Nat
  | 0, _, _, a => (0, 110, a)
  | k + 1, n, got, a =>
    if a + 1 ≤ 8 * l.length then
      if 2 * got + pkN l a 1 < fc L n + cnt L n then ((ordN L 15).getD (frm L n + (2 * got + pkN l a 1 - fc L n)) 0, 0, a + 1)
      else rdS L l k (n + 1) (2 * got + pkN l a 1) (a + 1)
    else (0, 7, a)
def rdC (L l : List Nat) (a : Nat) : Nat × Nat × Nat := rdS L l (mostC L) 1 0 a
theorem rdS_at (L l : List Nat) : ∀ k n got a, a ≤ 8 * l.length → a ≤ (rdS L l k n got a).2.2 ∧ (rdS L l k n got a).2.2 ≤ 8 * l.length ∧ (rdS L l k n got a).2.2 ≤ a + k
  | 0, n, got, a, h => ⟨Nat.le_refl _, h, Nat.le_refl _⟩
  | k + 1, n, got, a, h => by
    simp only [rdS]
    split
    · next h1 =>
      split
      · exact ⟨by simp only; omega, by simp only; omega, by simp only; omega⟩
      · have := rdS_at L l k (n + 1) (2 * got + pkN l a 1) (a + 1) h1
        omega
    · exact ⟨Nat.le_refl _, h, by simp only; omega⟩
/-- a symbol's word is read -/
theorem rdS_word (L l : List Nat) (s : Nat) (hs : s < L.length) (h0 : L.getD s 0 ≠ 0) (h15 : L.getD s 0 ≤ 15) (a : Nat) (ha : a + L.getD s 0 ≤ 8 * l.length)
    (hb : ∀ i, i < L.getD s 0 → pkN l (a + i) 1 = wrd L s / 2 ^ (L.getD s 0 - (i + 1)) % 2) :
    ∀ k i, i < L.getD s 0 → L.getD s 0 ≤ i + k → rdS L l k (i + 1) (wrd L s / 2 ^ (L.getD s 0 - i)) (a + i) = (s, 0, a + L.getD s 0)
  | 0, i, hi, hk => by omega
  | k + 1, i, hi, hk => by
    simp only [rdS]
    rw [if_pos (by omega), hb i hi, half_step (wrd L s) (L.getD s 0) i hi]
    by_cases hl : i + 1 = L.getD s 0
    · have h1 := wrd_lt L s hs h0
      rw [hl, Nat.sub_self, Nat.pow_zero, Nat.div_one, if_pos h1.2]
      have h2 := syms_rnk L s _ hs rfl
      have h3 := ord_get L (L.getD s 0) (by omega) 15 h15 (rnk L s (L.getD s 0)) h2.2
      have e : wrd L s - fc L (L.getD s 0) = rnk L s (L.getD s 0) := by unfold wrd; omega
      rw [e, List.getD_eq_getElem?_getD, h3, h2.1, ← hl]
      rfl
    · have h2 := wrd_over L s (i + 1) hs h0 (by omega)
      rw [if_neg (by omega)]
      exact rdS_word L l s hs h0 h15 a ha hb k (i + 1) (by omega) (by omega)
theorem mostC_ge (L : List Nat) (n : Nat) (h : n ≤ 15) (h0 : 0 < cnt L n) : n ≤ mostC L := by
  rcases Nat.lt_or_ge (mostC L) n with h1 | h1
  · have := mst_top (cnt L) 15 n h1 h
    omega
  · exact h1
theorem rdC_word (L l : List Nat) (s : Nat) (hk : kr L ≤ 32768) (hs : s < L.length) (h0 : L.getD s 0 ≠ 0) (h15 : L.getD s 0 ≤ 15) (a : Nat) (ha : a + L.getD s 0 ≤ 8 * l.length)
    (hb : ∀ i, i < L.getD s 0 → pkN l (a + i) 1 = wrd L s / 2 ^ (L.getD s 0 - (i + 1)) % 2) : rdC L l a = (s, 0, a + L.getD s 0) := by
  have h1 := wrd_lt L s hs h0
  have h2 := mostC_ge L _ h15 (by omega)
  have h3 := wrd_fit L hk s hs h0 h15
  have := rdS_word L l s hs h0 h15 a ha hb (mostC L) 0 (by omega) (by omega)
  rwa [Nat.sub_zero, Nat.div_eq_of_lt h3] at this
/-- a full code reads whatever comes -/
theorem rdS_full (L l : List Nat) (h : ∃ n, 1 ≤ n ∧ n ≤ mostC L ∧ fc L n + cnt L n = 2 ^ n) : ∀ k n got a, n + k = mostC L + 1 → 1 ≤ n → got < 2 ^ (n - 1) → (∀ m, m < n → 1 ≤ m → ¬ fc L m + cnt L m = 2 ^ m) → a + k ≤ 8 * l.length → (rdS L l k n got a).2.1 = 0
  | 0, n, got, a, h1, _, _, hm, _ => by
    obtain ⟨m, a1, a2, a3⟩ := h
    exact absurd a3 (hm m (by omega) a1)
  | k + 1, n, got, a, h1, hn, hg, hm, ha => by
    simp only [rdS]
    rw [if_pos (by omega)]
    have hp := pkN_lt l a 1
    have e : 2 ^ n = 2 * 2 ^ (n - 1) := by
      obtain ⟨m, rfl⟩ : ∃ m, n = m + 1 := ⟨n - 1, by omega⟩
      rw [Nat.add_sub_cancel, Nat.pow_succ, Nat.mul_comm]
    have hg2 : 2 * got + pkN l a 1 < 2 ^ n := by omega
    by_cases hf : 2 * got + pkN l a 1 < fc L n + cnt L n
    · rw [if_pos hf]
    · rw [if_neg hf]
      refine rdS_full L l h k (n + 1) _ (a + 1) (by omega) (by omega) (by rw [Nat.add_sub_cancel]; exact hg2) (fun m h2 h3 => ?_) (by omega)
      rcases Nat.lt_or_ge m n with h4 | h4
      · exact hm m h4 h3
      · obtain rfl : m = n := by omega
        omega
theorem full_at (L : List Nat) (h : kr L = 32768) : ∃ n, 1 ≤ n ∧ n ≤ mostC L ∧ fc L n + cnt L n = 2 ^ n := by
  have hp : 1 ≤ mostC L := mst_pos _ _
  have hle : mostC L ≤ 15 := mst_le _ _ (by omega)
  refine ⟨mostC L, hp, Nat.le_refl _, ?_⟩
  have h1 := fc_flat L (mostC L) (15 - mostC L) (fun m h1 h2 => mst_top (cnt L) 15 m h1 (by omega))
  rw [show mostC L + (15 - mostC L) + 1 = 16 by omega, kr_fc, h] at h1
  have h2 : (2 : Nat) ^ (15 - mostC L + 1) * 2 ^ mostC L = 65536 := by rw [← Nat.pow_add, show 15 - mostC L + 1 + mostC L = 16 by omega]
  have h3 : 2 ^ (15 - mostC L + 1) * (fc L (mostC L) + cnt L (mostC L)) = 2 ^ (15 - mostC L + 1) * 2 ^ mostC L := by omega
  exact Nat.eq_of_mul_eq_mul_left (Nat.pow_pos (by decide)) h3
theorem rdC_full (L l : List Nat) (h : kr L = 32768) (a : Nat) (ha : a + 15 ≤ 8 * l.length) : (rdC L l a).2.1 = 0 := by
  have hle : mostC L ≤ 15 := mst_le _ _ (by omega)
  exact rdS_full L l (full_at L h) (mostC L) 1 0 a (by omega) (by omega) (by decide) (fun m h1 h2 => by omega) (by omega)
end Go.Proofs.Ytnncnjkpjlpodaa
