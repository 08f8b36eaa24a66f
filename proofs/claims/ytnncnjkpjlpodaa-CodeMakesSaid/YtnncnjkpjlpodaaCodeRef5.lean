import Derived.Test.YtnncnjkpjlpodaaCodeRef4
/-
  A code's words, held against the bits that were read.
-/
namespace Go.Proofs.Ytnncnjkpjlpodaa
open Go.RowKit

theorem lowL_cons (x : Nat) : ∀ n, lowL x (n + 1) = (x % 2) :: lowL (x / 2) n
  | 0 => by simp [lowL]
  | n + 1 => by
    rw [lowL, lowL_cons x n]
    show _ = (x % 2) :: (lowL (x / 2) n ++ [x / 2 / 2 ^ n % 2])
    rw [Nat.div_div_eq_div_mul, ← Nat.pow_succ']
    rfl
theorem hiL_snoc (G b n : Nat) (hb : b ≤ 1) : hiL (2 * G + b) (n + 1) = hiL G n ++ [b] := by
  unfold hiL
  rw [lowL_cons, List.reverse_cons, show (2 * G + b) / 2 = G by omega, show (2 * G + b) % 2 = b by omega]
theorem hiL_inj {x y n m : Nat} (h : hiL x n = hiL y m) (hx : x < 2 ^ n) (hy : y < 2 ^ m) : n = m ∧ x = y := by
  have h1 : n = m := by have := congrArg List.length h; rwa [hiL_length, hiL_length] at this
  subst h1
  refine ⟨rfl, ?_⟩
  unfold hiL at h
  have h2 := List.reverse_inj.1 h
  have h3 := bN_low x n
  rw [h2, bN_low, Nat.mod_eq_of_lt hx, Nat.mod_eq_of_lt hy] at h3
  exact h3.symm
theorem zl_inj {l m : List Nat} (h : zl l = zl m) : l = m := (List.map_inj_right (fun a b h => by omega)).1 h
/-- a word that is found -/
theorem found_word (L : List Nat) (i G n : Nat) (hi : i < L.length) (hn : 1 ≤ n) (hG : G < 2 ^ n) (hk : kr L ≤ 32768) (h15 : ∀ i, L.getD i 0 ≤ 15) (h : wordF L i = hiL G n) :
    G < fc L n + cnt L n ∧ (ordN L 15).getD (frm L n + (G - fc L n)) 0 = i := by
  unfold wordF at h
  split at h
  · next h0 =>
    obtain ⟨h1, h2⟩ := hiL_inj h (wrd_fit L hk i hi h0 (h15 i)) hG
    have h3 := wrd_lt L i hi h0
    rw [h1, h2] at h3
    refine ⟨h3.2, ?_⟩
    have h4 := syms_rnk L i n hi h1
    have h5 := ord_get L n hn 15 (by rw [← h1]; exact h15 i) (rnk L i n) h4.2
    have e : G - fc L n = rnk L i n := by rw [← h2]; unfold wrd; rw [h1]; omega
    rw [e, List.getD_eq_getElem?_getD, h5, h4.1]; rfl
  · have := congrArg List.length h
    rw [hiL_length] at this
    simp at this
    omega
theorem no_word (L : List Nat) (G n : Nat) (hn : 1 ≤ n) (h : ∀ i, i < L.length → wordF L i ≠ hiL G n) (hf : fc L n ≤ G) : ¬ G < fc L n + cnt L n := by
  intro hlt
  have hc : cnt L n = (syms L n 0).length := by unfold cnt; rw [if_neg (by omega)]
  obtain ⟨s, h1, h2, h3, -⟩ := syms_at L n (G - fc L n) (by omega)
  apply h s h1
  unfold wordF
  rw [if_pos (by omega)]
  have e : wrd L s = G := by unfold wrd; rw [h2, h3]; omega
  rw [e, h2]
theorem wordF_length (L : List Nat) (i : Nat) : (wordF L i).length = L.getD i 0 := by
  unfold wordF
  split
  · rw [hiL_length]
  · next h => simp only [ne_eq, Decidable.not_not] at h; rw [h]; rfl
theorem mst_cnt (f : Nat → Nat) : ∀ n, mst f n = 1 ∨ 0 < f (mst f n)
  | 0 => .inl rfl
  | n + 1 => by
    rw [mst]
    split
    · next h => exact .inr h.2
    · exact mst_cnt f n
theorem lng_ge (f : Nat → List Nat) : ∀ n i, i < n → (f i).length ≤ lng f n
  | 0, i, h => by omega
  | n + 1, i, h => by
    simp only [lng]
    rcases Nat.lt_or_ge i n with h1 | h1
    · have := lng_ge f n i h1; omega
    · obtain rfl : i = n := by omega
      omega
theorem lng_le (f : Nat → List Nat) (M : Nat) : ∀ n, (∀ i, i < n → (f i).length ≤ M) → lng f n ≤ M
  | 0, _ => Nat.zero_le _
  | n + 1, h => by
    have := lng_le f M n (fun i hi => h i (by omega))
    have := h n (by omega)
    simp only [lng]; omega
theorem lng_most (L : List Nat) (h15 : ∀ i, L.getD i 0 ≤ 15) : max 1 (lng (wordF L) L.length) = mostC L := by
  have h1 : lng (wordF L) L.length ≤ mostC L := by
    refine lng_le _ _ _ fun i hi => ?_
    rw [wordF_length]
    rcases Nat.eq_zero_or_pos (L.getD i 0) with h0 | h0
    · omega
    · have := rnk_lt L i _ hi rfl (by omega)
      exact mostC_ge L _ (h15 i) (by omega)
  have h2 : 1 ≤ mostC L := mst_pos _ _
  have h3 : mostC L ≤ max 1 (lng (wordF L) L.length) := by
    rcases mst_cnt (cnt L) 15 with h | h
    · show mst (cnt L) 15 ≤ _; omega
    · have h4 : cnt L (mostC L) = (syms L (mostC L) 0).length := by unfold cnt; rw [if_neg (by omega)]
      have h5 : 0 < cnt L (mostC L) := h
      obtain ⟨s, a, b, -⟩ := syms_at L (mostC L) 0 (by omega)
      have := lng_ge (wordF L) L.length s a
      rw [wordF_length, b] at this
      omega
  omega
end Go.Proofs.Ytnncnjkpjlpodaa
