import Derived.Test.YtnncnjkpjlpodaaCodeDec
/-
  Symbols that are written, one behind the other, as a number.
-/
namespace Go.Proofs.Ytnncnjkpjlpodaa
open Go.RowKit

def sN (L : List Nat) : List Nat → Nat
  | [] => 0
  | s :: r => revN (wrd L s) (L.getD s 0) + 2 ^ L.getD s 0 * sN L r
def sA (L : List Nat) : List Nat → Nat
  | [] => 0
  | s :: r => L.getD s 0 + sA L r
theorem sA_app (L l m : List Nat) : sA L (l ++ m) = sA L l + sA L m := by
  induction l with
  | nil => simp [sA]
  | cons x r ih => simp only [List.cons_append, sA, ih]; omega
theorem sN_app (L l m : List Nat) : sN L (l ++ m) = sN L l + 2 ^ sA L l * sN L m := by
  induction l with
  | nil => simp [sN, sA]
  | cons x r ih =>
    simp only [List.cons_append, sN, sA, ih]
    rw [Nat.mul_add, ← Nat.mul_assoc, ← Nat.pow_add, Nat.add_assoc]
theorem sN_snoc (L l : List Nat) (s : Nat) : sN L (l ++ [s]) = sN L l + 2 ^ sA L l * revN (wrd L s) (L.getD s 0) := by rw [sN_app]; simp [sN]
theorem sA_snoc (L l : List Nat) (s : Nat) : sA L (l ++ [s]) = sA L l + L.getD s 0 := by rw [sA_app]; simp [sA]
theorem sN_lt (L l : List Nat) : sN L l < 2 ^ sA L l := by
  induction l with
  | nil => simp [sN, sA]
  | cons s r ih =>
    have h1 : revN (wrd L s) (L.getD s 0) < 2 ^ L.getD s 0 := eachV_lt _ _ _
    simp only [sN, sA]
    rw [Nat.pow_add]
    have : 2 ^ L.getD s 0 * (sN L r + 1) ≤ 2 ^ L.getD s 0 * 2 ^ sA L r := Nat.mul_le_mul_left _ ih
    rw [Nat.mul_add, Nat.mul_one] at this
    omega
theorem sN_at (L l : List Nat) (j s : Nat) (hx : l[j]? = some s) : sN L l / 2 ^ sA L (l.take j) % 2 ^ L.getD s 0 = revN (wrd L s) (L.getD s 0) := by
  have hj : j < l.length := (List.getElem?_eq_some_iff.1 hx).1
  have e : l = l.take j ++ (s :: l.drop (j + 1)) := by
    have h2 := List.getElem?_eq_getElem hj
    rw [hx] at h2
    rw [Option.some.inj h2, ← List.drop_eq_getElem_cons hj, List.take_append_drop]
  have h1 := sN_lt L (l.take j)
  have hv : revN (wrd L s) (L.getD s 0) < 2 ^ L.getD s 0 := eachV_lt _ _ _
  conv => lhs; rw [e]
  rw [List.take_left' (by rw [List.length_take]; omega), sN_app]
  rw [Nat.add_mul_div_left _ _ (Nat.pow_pos (by decide)), Nat.div_eq_of_lt h1, Nat.zero_add]
  simp only [sN]
  rw [Nat.add_mul_mod_self_left, Nat.mod_eq_of_lt hv]
theorem sA_take (L l : List Nat) (j s : Nat) (hx : l[j]? = some s) : sA L (l.take (j + 1)) = sA L (l.take j) + L.getD s 0 := by
  have hj : j < l.length := (List.getElem?_eq_some_iff.1 hx).1
  have h2 := List.getElem?_eq_getElem hj
  rw [hx] at h2
  rw [List.take_succ_eq_append_getElem hj, ← Option.some.inj h2, sA_snoc]
theorem sA_le (L l : List Nat) (j : Nat) : sA L (l.take j) ≤ sA L l := by
  conv => rhs; rw [← List.take_append_drop j l, sA_app]
  omega
/-- what was written is read -/
theorem rdC_back (L b l : List Nat) (hk : kr L ≤ 32768) (hb : lsum b = sN L l) (hlen : sA L l ≤ 8 * b.length) (j s : Nat) (hx : l[j]? = some s) (hs : s < L.length) (h0 : L.getD s 0 ≠ 0) (h15 : L.getD s 0 ≤ 15) :
    rdC L b (sA L (l.take j)) = (s, 0, sA L (l.take (j + 1))) := by
  have h1 := sA_take L l j s hx
  have h2 := sA_le L l (j + 1)
  rw [h1]
  refine rdC_word L b s hk hs h0 h15 _ (by omega) fun i hi => ?_
  have h3 := sN_at L l j s hx
  rw [← hb] at h3
  rw [pkN_bit b _ (L.getD s 0) i _ h3 hi, revN_bit _ _ i hi]
end Go.Proofs.Ytnncnjkpjlpodaa
