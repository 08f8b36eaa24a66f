import Derived.Test.YtoekecopfmohiaaDoorRefAll
/-
  The checksum by half bytes is the reference's.
-/
namespace Go.Proofs.YtoekecopfmohiaaDoor
open Go.RowKit
theorem xor_div2 (a b : Nat) : (a ^^^ b) / 2 = (a / 2) ^^^ (b / 2) := by
  have := Nat.xor_div_two_pow (a := a) (b := b) (n := 1)
  simpa using this
theorem halfStep_xor (a b : Nat) : halfStep (a ^^^ b) = halfStep a ^^^ halfStep b := by
  unfold halfStep
  have h := Nat.xor_mod_two_eq_one (a := a) (b := b)
  have hd := xor_div2 a b
  by_cases ha : a % 2 = 1 <;> by_cases hb : b % 2 = 1
  · rw [if_neg (by rw [h]; simp [ha, hb]), if_pos ha, if_pos hb, hd]
    rw [show (a / 2 ^^^ 3988292384) ^^^ (b / 2 ^^^ 3988292384) = (a / 2 ^^^ b / 2) ^^^ (3988292384 ^^^ 3988292384) by ac_rfl]
    simp
  · rw [if_pos (by rw [h]; simp [ha, hb]), if_pos ha, if_neg hb, hd]; ac_rfl
  · rw [if_pos (by rw [h]; simp [ha, hb]), if_neg ha, if_pos hb, hd]; ac_rfl
  · rw [if_neg (by rw [h]; simp [ha, hb]), if_neg ha, if_neg hb, hd]
theorem iterStep_xor (n a b : Nat) : iterStep n (a ^^^ b) = iterStep n a ^^^ iterStep n b := by
  induction n with
  | zero => rfl
  | succ n ih => simp only [iterStep, ih, halfStep_xor]
theorem halfStep_even (q : Nat) : halfStep (2 * q) = q := by unfold halfStep; rw [if_neg (by omega)]; omega
theorem iter4_even (q : Nat) : iterStep 4 (16 * q) = q := by
  show halfStep (halfStep (halfStep (halfStep (16 * q)))) = q
  rw [show 16 * q = 2 * (2 * (2 * (2 * q))) by omega, halfStep_even, halfStep_even, halfStep_even, halfStep_even]
theorem iter4_low : ∀ r, r < 16 → iterStep 4 r = tab.getD r 0 := by decide
theorem split16 (c : Nat) : c = (16 * (c / 16)) ^^^ (c % 16) := by
  have h := nat_join 4 (16 * (c / 16)) (c % 16) (by omega) (Nat.mod_lt _ (by omega))
  have hx : (16 * (c / 16)) ^^^ (c % 16) = (16 * (c / 16)) ||| (c % 16) := by
    apply Nat.eq_of_testBit_eq
    intro i
    rw [Nat.testBit_xor, Nat.testBit_or]
    by_cases hi : i < 4
    · have : (16 * (c / 16)).testBit i = false := by
        rw [show 16 * (c / 16) = 2 ^ 4 * (c / 16) by omega, Nat.testBit_two_pow_mul]
        simp; omega
      rw [this]; simp
    · have : (c % 16).testBit i = false := by
        have h4 : 2 ^ 4 ≤ 2 ^ i := Nat.pow_le_pow_right (by decide) (by omega)
        have h5 : c % 16 < 16 := Nat.mod_lt _ (by decide)
        exact Nat.testBit_lt_two_pow (Nat.lt_of_lt_of_le h5 h4)
      rw [this]; simp
  rw [hx, h]; omega
theorem turn_iter (c : Nat) : turnN c = iterStep 4 c := by
  have h := split16 c
  conv => rhs; rw [h]
  rw [iterStep_xor, iter4_even, iter4_low _ (Nat.mod_lt _ (by omega))]
  rfl
theorem byte_step (c x : Nat) : byteN c x = stepN c x := by
  unfold byteN stepN
  rw [turn_iter, turn_iter]
  rfl
theorem more_rmore (c : Nat) (l : List Nat) : moreN c l = rmoreN c l := by
  unfold moreN rmoreN
  congr 1
  funext c x
  exact byte_step c x
theorem moreS_rmoreS (s : Nat) (l : List Nat) : moreS s l = rmoreS s l := by unfold moreS rmoreS; rw [more_rmore]
end Go.Proofs.YtoekecopfmohiaaDoor
