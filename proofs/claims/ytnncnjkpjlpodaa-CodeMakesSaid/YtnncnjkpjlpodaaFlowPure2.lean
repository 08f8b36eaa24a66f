import Derived.Test.YtnncnjkpjlpodaaFlowPure
/-
  Bytes that are written bit by bit.
-/
namespace Go.Proofs.Ytnncnjkpjlpodaa
open Go.RowKit

theorem lsum_append (l m : List Nat) : lsum (l ++ m) = lsum l + 256 ^ l.length * lsum m := by
  induction l with
  | nil => simp [lsum]
  | cons x r ih => simp only [List.cons_append, lsum, ih, List.length_cons, Nat.pow_succ, Nat.mul_add]; rw [← Nat.mul_assoc, Nat.mul_comm 256 (256 ^ r.length)]; omega
theorem lsum_set : ∀ (l : List Nat) (i d : Nat), i < l.length → lsum (l.set i (l.getD i 0 + d)) = lsum l + 256 ^ i * d
  | [], i, d, h => by simp at h
  | x :: r, 0, d, _ => by simp [lsum]; omega
  | x :: r, i + 1, d, h => by
    have ih := lsum_set r i d (by simpa using h)
    have e : (x :: r).getD (i + 1) 0 = r.getD i 0 := by simp [List.getD_eq_getElem?_getD]
    rw [e, List.set_cons_succ]
    simp only [lsum]
    rw [ih, Nat.pow_succ, Nat.mul_add, ← Nat.mul_assoc, Nat.mul_comm 256 (256 ^ i)]
    omega
/-- bytes of length (at + 7) / 8 whose number is N, below 2 ^ at -/
structure Bts (l : List Nat) (N a : Nat) : Prop where
  byte : ∀ x ∈ l, x < 256
  len : l.length = (a + 7) / 8
  sum : lsum l = N
  small : N < 2 ^ a
theorem pow_at (a : Nat) : 2 ^ a = 256 ^ (a / 8) * 2 ^ (a % 8) := by
  rw [show (256 : Nat) = 2 ^ 8 from rfl, ← Nat.pow_mul, ← Nat.pow_add, show 8 * (a / 8) + a % 8 = a by omega]
theorem Bts.nil : Bts [] 0 0 := ⟨by simp, rfl, rfl, by decide⟩
theorem Bts.grow {l : List Nat} {N a : Nat} (h : Bts l N a) (h8 : a % 8 = 0) (on : Nat) (ho : on ≤ 1) : Bts (l ++ [on]) (N + on * 2 ^ a) (a + 1) := by
  have hl : l.length = a / 8 := by have := h.len; omega
  refine ⟨?_, ?_, ?_, ?_⟩
  · intro x hx
    rcases List.mem_append.1 hx with h1 | h1
    · exact h.byte x h1
    · have : x = on := by simpa using h1
      omega
  · rw [List.length_append, List.length_singleton]; omega
  · rw [lsum_append, h.sum, pow_at a, h8, hl]
    simp [lsum, Nat.mul_comm]
  · have := h.small
    have : on * 2 ^ a ≤ 1 * 2 ^ a := Nat.mul_le_mul_right _ ho
    rw [Nat.pow_succ]; omega
theorem Bts.last {l : List Nat} {N a : Nat} (h : Bts l N a) (h8 : a % 8 ≠ 0) : a / 8 < l.length ∧ l.getD (a / 8) 0 < 2 ^ (a % 8) := by
  have hl := h.len
  refine ⟨by omega, ?_⟩
  rw [← lsum_get l _ h.byte, h.sum]
  have h1 : N / 256 ^ (a / 8) < 2 ^ (a % 8) := by
    rw [Nat.div_lt_iff_lt_mul (Nat.pow_pos (by decide)), Nat.mul_comm, ← pow_at]
    exact h.small
  exact Nat.lt_of_le_of_lt (Nat.mod_le _ _) h1
theorem Bts.put {l : List Nat} {N a : Nat} (h : Bts l N a) (h8 : a % 8 ≠ 0) (on : Nat) (ho : on ≤ 1) : Bts (l.set (a / 8) (l.getD (a / 8) 0 + on * 2 ^ (a % 8))) (N + on * 2 ^ a) (a + 1) := by
  have hl := h.len
  obtain ⟨h1, h2⟩ := h.last h8
  have hp : 2 ^ (a % 8) ≤ 128 := Nat.le_trans (Nat.pow_le_pow_right (by decide) (show a % 8 ≤ 7 by omega)) (by decide)
  have hq : on * 2 ^ (a % 8) ≤ 1 * 2 ^ (a % 8) := Nat.mul_le_mul_right _ ho
  refine ⟨?_, ?_, ?_, ?_⟩
  · intro x hx
    rcases List.mem_or_eq_of_mem_set hx with h3 | h3
    · exact h.byte x h3
    · omega
  · rw [List.length_set]; omega
  · rw [lsum_set l _ _ h1, h.sum, pow_at a]
    rw [← Nat.mul_assoc, ← Nat.mul_assoc, Nat.mul_comm on]
  · have := h.small
    have : on * 2 ^ a ≤ 1 * 2 ^ a := Nat.mul_le_mul_right _ ho
    rw [Nat.pow_succ]; omega
end Go.Proofs.Ytnncnjkpjlpodaa
