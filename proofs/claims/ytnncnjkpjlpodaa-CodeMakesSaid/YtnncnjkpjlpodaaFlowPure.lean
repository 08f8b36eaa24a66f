import Derived.Test.YtnncnjkpjlpodaaBaseFn
/-
  Bytes as one number, the lowest first; bits of it.
-/
namespace Go.Proofs.Ytnncnjkpjlpodaa
open Go.RowKit

theorem i64_and7 (n : Int) : bits .and .i64 n 7 = n % 8 := by
  have h7 : (BitVec.ofInt 64 7).toNat = 2 ^ 3 - 1 := by decide
  have key : (BitVec.ofInt 64 n &&& BitVec.ofInt 64 7).toNat = (n % ((2 ^ 64 : Nat) : Int)).toNat % 2 ^ 3 := by
    rw [BitVec.toNat_and, BitVec.toNat_ofInt, h7, Nat.and_two_pow_sub_one_eq_mod]
  show IntKind.i64.wrap ((BitVec.ofInt 64 n &&& BitVec.ofInt 64 7).toNat : Nat) = n % 8
  rw [key, IntKind.wrap_i64]
  omega

def lsum : List Nat → Nat
  | [] => 0
  | x :: r => x + 256 * lsum r
theorem lsum_lt : ∀ (l : List Nat), (∀ x ∈ l, x < 256) → lsum l < 256 ^ l.length
  | [], _ => by simp [lsum]
  | x :: r, h => by
    have h1 := h x (by simp)
    have h2 := lsum_lt r (fun y hy => h y (by simp [hy]))
    simp only [lsum, List.length_cons, Nat.pow_succ]
    omega
theorem lsum_drop : ∀ (k : Nat) (l : List Nat), (∀ x ∈ l, x < 256) → lsum l / 256 ^ k = lsum (l.drop k)
  | 0, l, _ => by simp
  | k + 1, [], _ => by simp [lsum]
  | k + 1, x :: r, h => by
    have h1 := h x (by simp)
    have h2 := lsum_drop k r (fun y hy => h y (by simp [hy]))
    rw [List.drop_succ_cons, ← h2, Nat.pow_succ, Nat.mul_comm, ← Nat.div_div_eq_div_mul]
    congr 1
    simp only [lsum]; omega
theorem lsum_get (l : List Nat) (k : Nat) (h : ∀ x ∈ l, x < 256) : lsum l / 256 ^ k % 256 = l.getD k 0 := by
  rw [lsum_drop k l h]
  cases hd : l.drop k with
  | nil =>
    have : l.length ≤ k := by simpa using hd
    rw [List.getD_eq_getElem?_getD, List.getElem?_eq_none this]; rfl
  | cons y r =>
    have hk : k < l.length := by
      rcases Nat.lt_or_ge k l.length with h1 | h1
      · exact h1
      · rw [List.drop_eq_nil_of_le h1] at hd; cases hd
    have e : l.getD k 0 = y := by
      have := List.getElem?_drop (xs := l) (i := k) (j := 0)
      rw [hd] at this
      rw [List.getD_eq_getElem?_getD]
      simp at this
      simp [← this]
    have hy : y < 256 := by
      rw [← e, List.getD_eq_getElem?_getD, List.getElem?_eq_getElem hk]
      exact h _ (List.getElem_mem hk)
    rw [e]; simp only [lsum]; omega
/-- the number of n bits from bit a on; noughts behind the end -/
def pkN (l : List Nat) (a n : Nat) : Nat := lsum l / 2 ^ a % 2 ^ n
theorem pkN_lt (l : List Nat) (a n : Nat) : pkN l a n < 2 ^ n := Nat.mod_lt _ (Nat.pow_pos (by decide))
/-- what stands in so many bytes from byte k on -/
def wideN (l : List Nat) (k i : Nat) : Nat := lsum l / 256 ^ k % 256 ^ i
theorem wideN_lt (l : List Nat) (k i : Nat) : wideN l k i < 256 ^ i := Nat.mod_lt _ (Nat.pow_pos (by decide))
theorem wideN_succ (l : List Nat) (k i : Nat) (h : ∀ x ∈ l, x < 256) : wideN l k (i + 1) = wideN l k i + 256 ^ i * l.getD (k + i) 0 := by
  unfold wideN
  rw [Nat.pow_succ, Nat.mod_mul, Nat.div_div_eq_div_mul, ← Nat.pow_add, lsum_get l (k + i) h]
theorem wideN_end (l : List Nat) (k i j : Nat) (h : ∀ x ∈ l, x < 256) (h1 : l.length ≤ k + i) (h2 : i ≤ j) : wideN l k j = wideN l k i := by
  unfold wideN
  have hd : lsum l / 256 ^ k < 256 ^ i := by
    rw [lsum_drop k l h]
    have := lsum_lt (l.drop k) (fun y hy => h y (List.mem_of_mem_drop hy))
    rw [List.length_drop] at this
    exact Nat.lt_of_lt_of_le this (Nat.pow_le_pow_right (by decide) (by omega))
  rw [Nat.mod_eq_of_lt hd, Nat.mod_eq_of_lt (Nat.lt_of_lt_of_le hd (Nat.pow_le_pow_right (by decide) h2))]
theorem pkN_wide (l : List Nat) (a n : Nat) (hn : n ≤ 24) : pkN l a n = wideN l (a / 8) 5 / 2 ^ (a % 8) % 2 ^ n := by
  unfold pkN wideN
  have e1 : (256 : Nat) ^ 5 = 2 ^ (a % 8) * 2 ^ (40 - a % 8) := by
    rw [← Nat.pow_add, show a % 8 + (40 - a % 8) = 40 by omega]
  have e2 : (2 : Nat) ^ a = 256 ^ (a / 8) * 2 ^ (a % 8) := by
    rw [show (256 : Nat) = 2 ^ 8 from rfl, ← Nat.pow_mul, ← Nat.pow_add, show 8 * (a / 8) + a % 8 = a by omega]
  have e3 : (2 : Nat) ^ (40 - a % 8) = 2 ^ n * 2 ^ (40 - a % 8 - n) := by rw [← Nat.pow_add, show n + (40 - a % 8 - n) = 40 - a % 8 by omega]
  rw [e2, ← Nat.div_div_eq_div_mul, e1, Nat.mod_mul_right_div_self, e3, Nat.mod_mul_right_mod]
theorem peek_val (C R n : Nat) (hC : C < 1099511627776) (hn : n ≤ 24) :
    wrap64 (bits BinOp.and IntKind.u64 ((C : Int) / 2 ^ R) (IntKind.u64.wrap (IntKind.u64.wrap (2 ^ n) - 1))) = ((C / 2 ^ R % 2 ^ n : Nat) : Int) := by
  have h2 : 2 ^ n ≤ 16777216 := Nat.le_trans (Nat.pow_le_pow_right (by decide) hn) (by decide)
  have h0 : 0 < 2 ^ n := Nat.pow_pos (by decide)
  have e0 : (2 : Int) ^ n = ((2 ^ n : Nat) : Int) := by rw [Int.natCast_pow]; rfl
  have e1 : (C : Int) / 2 ^ R = ((C / 2 ^ R : Nat) : Int) := by rw [show (2 : Int) ^ R = ((2 ^ R : Nat) : Int) by rw [Int.natCast_pow]; rfl]; rfl
  have hD : C / 2 ^ R ≤ C := Nat.div_le_self _ _
  have hm : C / 2 ^ R % 2 ^ n < 2 ^ n := Nat.mod_lt _ h0
  have ha := Nat.and_two_pow_sub_one_eq_mod (C / 2 ^ R) n
  rw [e0, e1]
  generalize C / 2 ^ R = D at *
  generalize 2 ^ n = M at *
  have e2 : IntKind.u64.wrap (M : Int) = (M : Int) := by rw [IntKind.wrap_u64]; omega
  have e3 : IntKind.u64.wrap ((M : Int) - 1) = ((M - 1 : Nat) : Int) := by rw [IntKind.wrap_u64]; omega
  rw [e2, e3, u64_and_nat D (M - 1) (by omega) (by omega), ha]
  unfold wrap64
  omega
end Go.Proofs.Ytnncnjkpjlpodaa
