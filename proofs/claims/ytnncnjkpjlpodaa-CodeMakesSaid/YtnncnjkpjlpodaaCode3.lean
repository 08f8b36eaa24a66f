import Derived.Test.YtnncnjkpjlpodaaCode2
/-
  Codes: refused lengths, most, Symbols, Read.
-/
namespace Go.Proofs.Ytnncnjkpjlpodaa
open Go.RowKit

theorem CNew_bad (A : Option Addr) (l : List Int) (c : Nat) (w : World) (hl : IR w A l) (hn : l.length * 8 ≤ 140737488351232) (hb : 288 < l.length ∨ l.any oddB = true) :
    Calls Try.prog 42 #[.slice A l.length c] w fun e w' => e = .returned (.tuple #[.pointer none, .int .i64 100]) ∧ w = w' := by
  have CT := Bx.mk (Contains_calls A l c w hl (by omega))
  by_cases h : 288 < l.length
  · clear hb hl
    go_enter Try.func42, Try.ntmps42
    go_wp2
    go_ret2
    exact ⟨rfl, rfl⟩
  · have hc : l.any oddB = true := hb.resolve_left h
    rw [hc] at CT
    clear hb hl hc
    go_enter Try.func42, Try.ntmps42
    go_wp2_with fail
    refine CT.out.mono ?_
    rintro e w1 ⟨rfl, rfl⟩
    go_wp2
    go_ret2
    exact ⟨rfl, rfl⟩
/-- the longest code's length; one, if there is none -/
def mst (f : Nat → Nat) : Nat → Nat
  | 0 => 1
  | n + 1 => if 1 < n + 1 ∧ 0 < f (n + 1) then n + 1 else mst f n
def mostC (L : List Nat) : Nat := mst (cnt L) 15
theorem mst_le (f : Nat → Nat) : ∀ n, 1 ≤ n → mst f n ≤ n
  | 0, h => by omega
  | 1, _ => by simp [mst]
  | n + 2, _ => by
    have := mst_le f (n + 1) (by omega)
    rw [mst]
    split <;> omega
theorem mst_pos (f : Nat → Nat) : ∀ n, 1 ≤ mst f n
  | 0 => by simp [mst]
  | n + 1 => by
    rw [mst]
    split
    · omega
    · exact mst_pos f n
/-- no code is longer -/
theorem mst_top (f : Nat → Nat) : ∀ n m, mst f n < m → m ≤ n → f m = 0
  | 0, m, h1, h2 => by omega
  | n + 1, m, h1, h2 => by
    rw [mst] at h1
    split at h1
    · omega
    · next hx =>
      rcases Nat.lt_or_ge n m with h | h
      · obtain rfl : m = n + 1 := by omega
        have := mst_pos f n
        rcases Nat.eq_zero_or_pos (f (n + 1)) with h3 | h3
        · exact h3
        · exact absurd ⟨by omega, h3⟩ hx
      · exact mst_top f n m h1 h
theorem most_calls (g : Nat) (f : Nat → Nat) (O Ln : Value) (m : Bool) (w : World) (h : Blk w g 78 (cdC f O Ln m)) :
    Calls Try.prog 69 #[.pointer (some ⟨g, 0, none⟩)] w fun e w' => e = .returned (.int .i64 ((mst f 15 : Nat) : Int)) ∧ w = w' := by
  have HC : Bx (∀ n, n ≤ 15 → w.cell? ⟨g, n, none⟩ = some (.int .i64 (f n : Int))) := ⟨fun n hn => (h.cell n).trans (cdC_get f O Ln m n hn)⟩
  obtain ⟨M, hM⟩ : ∃ M, M = mst f 15 := ⟨_, rfl⟩
  rw [← hM]
  have HM := Bx.mk hM
  clear h hM
  go_enter Try.func69, Try.ntmps69
  go_wp2
  go_loop [3] (fun i => ∃ n : Nat, 1 ≤ n ∧ n ≤ 15 ∧ i = .int .i64 (n : Nat) ∧ Bx (M = mst f n)) (fun i => (intOf i).toNat)
  case atStart => exact ⟨15, by omega, by omega, rfl, HM⟩
  case round =>
    obtain ⟨n, hn1, hn2, rfl, HN⟩ := hrel
    by_cases h1 : 1 < n
    · have hc := HC.out n hn2
      obtain ⟨k, rfl⟩ : ∃ k, n = k + 1 := ⟨n - 1, by omega⟩
      have hst : mst f (k + 1) = if 1 < k + 1 ∧ 0 < f (k + 1) then k + 1 else mst f k := rfl
      by_cases h0 : 0 < f (k + 1)
      · have HV : Bx (M = k + 1) := ⟨by rw [HN.out, hst, if_pos ⟨h1, h0⟩]⟩
        clear hst
        have hk16 : ((k : Int) + 1) < 16 := by omega
        generalize f (k + 1) = X at hc h0
        generalize hz : k + 1 = z at *
        have HZ := Bx.mk hz
        clear hz hk16
        have hz16 : (z : Int) < 16 := by omega
        go_wp2
        go_ret
        exact ⟨ret_int (by rw [HV.out]), rfl⟩
      · have HV : Bx (M = mst f k) := ⟨by rw [HN.out, hst, if_neg (by omega)]⟩
        have h00 : f (k + 1) = 0 := by omega
        rw [h00] at hc
        clear hst h0 h00
        generalize hz : k + 1 = z at *
        have HZ := Bx.mk hz
        clear hz
        have hz16 : (z : Int) < 16 := by omega
        go_wp2
        go_round
        case rel => exact ⟨k, by have := HZ.out; omega, by have := HZ.out; omega, by have := HZ.out; congr 1; omega, HV⟩
        case measure => have := HZ.out; simp [intOf]; omega
    · obtain rfl : n = 1 := by omega
      have HV : Bx (M = 1) := ⟨by rw [HN.out]; simp [mst]⟩
      clear h1
      go_wp2
      go_ret
      exact ⟨ret_int (by rw [HV.out]; rfl), rfl⟩
theorem Symbols_calls (g : Nat) (f : Nat → Nat) (A : Option Addr) (n c : Nat) (Ln : Value) (w : World) (h : Blk w g 78 (cdC f (.slice A n c) Ln true)) :
    Calls Try.prog 50 #[.pointer (some ⟨g, 0, none⟩)] w fun e w' => e = .returned (.int .i64 (n : Int)) ∧ w = w' := by
  have hc : w.cell? ⟨g, 16, none⟩ = some (.slice A n c) := h.cell 16
  have H := Bx.mk (cIs_calls g f _ _ true w h)
  clear h
  go_enter Try.func50, Try.ntmps50
  go_wp2_with fail
  refine H.out.mono ?_
  rintro e w1 ⟨rfl, rfl⟩
  go_wp2
  go_ret
  exact ⟨rfl, rfl⟩
end Go.Proofs.Ytnncnjkpjlpodaa
