import Derived.Test.YtnncnjkpjlpodaaFlowRef1
/-
  The bits of a number, the highest first.
-/
namespace Go.Proofs.Ytnncnjkpjlpodaa
open Go.RowKit

theorem lowL_get (n : Nat) : ∀ (k j : Nat), j < k → (lowL n k)[j]? = some (n / 2 ^ j % 2)
  | 0, j, h => by omega
  | k + 1, j, h => by
    rw [lowL]
    rcases Nat.lt_or_ge j k with h1 | h1
    · rw [List.getElem?_append_left (by rw [lowL_length]; exact h1)]; exact lowL_get n k j h1
    · obtain rfl : j = k := by omega
      rw [List.getElem?_append_right (by rw [lowL_length]; exact Nat.le_refl _), lowL_length, Nat.sub_self]; rfl
/-- the bits of n at the places G -/
def placeL (n : Nat) (G : Nat → Int) : Nat → List Nat
  | 0 => []
  | i + 1 => placeL n G i ++ [n / 2 ^ (G i).toNat % 2]
theorem placeL_length (n : Nat) (G : Nat → Int) : ∀ k, (placeL n G k).length = k
  | 0 => rfl
  | k + 1 => by simp [placeL, placeL_length n G k]
theorem placeL_get (n : Nat) (G : Nat → Int) : ∀ (k j : Nat), j < k → (placeL n G k)[j]? = some (n / 2 ^ (G j).toNat % 2)
  | 0, j, h => by omega
  | k + 1, j, h => by
    rw [placeL]
    rcases Nat.lt_or_ge j k with h1 | h1
    · rw [List.getElem?_append_left (by rw [placeL_length]; exact h1)]; exact placeL_get n G k j h1
    · obtain rfl : j = k := by omega
      rw [List.getElem?_append_right (by rw [placeL_length]; exact Nat.le_refl _), placeL_length, Nat.sub_self]; rfl
theorem bN_place (n : Nat) (G : Nat → Int) : ∀ k, bN (placeL n G k) = eachV n G k
  | 0 => rfl
  | k + 1 => by rw [placeL, bN_snoc, bN_place n G k, placeL_length]; simp only [eachV]; rw [Nat.mul_comm]
theorem revN_eq (n k : Nat) : revN n k = bN (lowL n k).reverse := by
  unfold revN
  rw [← bN_place]
  congr 1
  apply List.ext_getElem?
  intro j
  rcases Nat.lt_or_ge j k with h | h
  · rw [placeL_get n _ k j h, List.getElem?_reverse (by rw [lowL_length]; exact h), lowL_length, lowL_get n k _ (by omega)]
    have e : ((k : Int) - 1 + (j : Int) * (-1)).toNat = k - 1 - j := by omega
    rw [e]
  · rw [List.getElem?_eq_none (by rw [placeL_length]; exact h), List.getElem?_eq_none (by rw [List.length_reverse, lowL_length]; exact h)]
end Go.Proofs.Ytnncnjkpjlpodaa
