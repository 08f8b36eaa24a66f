import Derived.Test.YtnncnjkpjlpodaaFlowWorks
/-
  Lists of bits as numbers, the lowest first.
-/
namespace Go.Proofs.Ytnncnjkpjlpodaa
open Go.RowKit

def bN : List Nat → Nat
  | [] => 0
  | x :: r => x + 2 * bN r
def Bit (l : List Nat) : Prop := ∀ x ∈ l, x ≤ 1
theorem Bit.nil : Bit [] := fun _ h => by cases h
theorem Bit.app {l m : List Nat} (h : Bit l) (h' : Bit m) : Bit (l ++ m) := fun x hx => (List.mem_append.1 hx).elim (h x) (h' x)
theorem bN_lt : ∀ (l : List Nat), Bit l → bN l < 2 ^ l.length
  | [], _ => by simp [bN]
  | x :: r, h => by
    have h1 := h x (by simp)
    have h2 := bN_lt r (fun y hy => h y (by simp [hy]))
    simp only [bN, List.length_cons, Nat.pow_succ]; omega
theorem bN_app (l m : List Nat) : bN (l ++ m) = bN l + 2 ^ l.length * bN m := by
  induction l with
  | nil => simp [bN]
  | cons x r ih => simp only [List.cons_append, bN, ih, List.length_cons, Nat.pow_succ, Nat.mul_add]; rw [← Nat.mul_assoc, Nat.mul_comm 2 (2 ^ r.length)]; omega
theorem bN_snoc (l : List Nat) (x : Nat) : bN (l ++ [x]) = bN l + 2 ^ l.length * x := by rw [bN_app]; simp [bN]
/-- the lowest k bits of n, the lowest first -/
def lowL (n : Nat) : Nat → List Nat
  | 0 => []
  | k + 1 => lowL n k ++ [n / 2 ^ k % 2]
theorem lowL_length (n : Nat) : ∀ k, (lowL n k).length = k
  | 0 => rfl
  | k + 1 => by simp [lowL, lowL_length n k]
theorem lowL_bit (n : Nat) : ∀ k, Bit (lowL n k)
  | 0 => Bit.nil
  | k + 1 => (lowL_bit n k).app (fun x hx => by simp at hx; omega)
theorem bN_low (n : Nat) : ∀ k, bN (lowL n k) = n % 2 ^ k
  | 0 => by simp [lowL, bN, Nat.mod_one]
  | k + 1 => by rw [lowL, bN_snoc, bN_low n k, lowL_length, Nat.pow_succ, Nat.mod_mul]
/-- what is filled with noughts -/
theorem bN_zeros (k : Nat) : bN (List.replicate k 0) = 0 := by
  induction k with
  | zero => rfl
  | succ k ih => simp [List.replicate_succ, bN, ih]
theorem bN_drop : ∀ (k : Nat) (l : List Nat), Bit l → bN l / 2 ^ k = bN (l.drop k)
  | 0, l, _ => by simp
  | k + 1, [], _ => by simp [bN]
  | k + 1, x :: r, h => by
    have h1 := h x (by simp)
    have h2 := bN_drop k r (fun y hy => h y (by simp [hy]))
    rw [List.drop_succ_cons, ← h2, Nat.pow_succ, Nat.mul_comm, ← Nat.div_div_eq_div_mul]
    congr 1
    simp only [bN]; omega
theorem bN_take : ∀ (k : Nat) (l : List Nat), Bit l → bN l % 2 ^ k = bN (l.take k)
  | 0, l, _ => by simp [bN, Nat.mod_one]
  | k + 1, [], _ => by simp [bN]
  | k + 1, x :: r, h => by
    have h1 := h x (by simp)
    have h2 := bN_take k r (fun y hy => h y (by simp [hy]))
    rw [List.take_succ_cons]
    simp only [bN]
    rw [← h2, Nat.pow_succ, Nat.mul_comm (2 ^ k) 2, Nat.mod_mul]
    have e : (x + 2 * bN r) % 2 = x := by omega
    have e2 : (x + 2 * bN r) / 2 = bN r := by omega
    rw [e, e2]
/-- the numbers of bits are those of bytes -/
theorem pk_bits (l b : List Nat) (hb : Bit b) (h : bN b = lsum l) (a n : Nat) : pkN l a n = bN ((b.drop a).take n) := by
  unfold pkN
  rw [← h, bN_drop a b hb, bN_take n _ (fun x hx => hb x (List.mem_of_mem_drop hx))]
end Go.Proofs.Ytnncnjkpjlpodaa
