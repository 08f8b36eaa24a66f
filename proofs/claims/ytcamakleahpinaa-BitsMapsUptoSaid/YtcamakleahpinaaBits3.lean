import Derived.Test.YtcamakleahpinaaBits2
/-
  The program's bits.mask, Has, Set, within, First.
-/
namespace Go.Proofs.Ytcamakleahpinaa
open Go.RowKit

theorem i64_and7 (n : Int) : bits .and .i64 n 7 = n % 8 := by
  have h7 : (BitVec.ofInt 64 7).toNat = 2 ^ 3 - 1 := by decide
  have key : (BitVec.ofInt 64 n &&& BitVec.ofInt 64 7).toNat = (n % ((2 ^ 64 : Nat) : Int)).toNat % 2 ^ 3 := by
    rw [BitVec.toNat_and, BitVec.toNat_ofInt, h7, Nat.and_two_pow_sub_one_eq_mod]
  show IntKind.i64.wrap ((BitVec.ofInt 64 n &&& BitVec.ofInt 64 7).toNat : Nat) = n % 8
  rw [key, IntKind.wrap_i64]
  omega
theorem ret3 {a a' b b' : Int} {c c' : Bool} (h1 : a = a') (h2 : b = b') (h3 : c = c') : Ending.returned (.tuple #[.int .i64 a, .int .u8 b, .bool c]) = .returned (.tuple #[.int .i64 a', .int .u8 b', .bool c']) := by rw [h1, h2, h3]
theorem pow8 (R : Nat) (h : R < 8) : (2 ^ R : Int) % 256 = ((2 ^ R : Nat) : Int) := by
  obtain rfl | rfl | rfl | rfl | rfl | rfl | rfl | rfl : R = 0 ∨ R = 1 ∨ R = 2 ∨ R = 3 ∨ R = 4 ∨ R = 5 ∨ R = 6 ∨ R = 7 := by omega
  all_goals decide
/-- is there such a bit? -/
def okB (n : Nat) (i : Int) : Bool := decide (0 ≤ i) && decide (i / 8 < n)
set_option maxHeartbeats 1000000 in
theorem mask_calls (A : Option Addr) (n c : Nat) (i : Int) (w : World) (h1 : -9223372036854775808 ≤ i) (h2 : i ≤ 9223372036854775807) :
    Calls Try.prog 32 #[.slice A n c, .int .i64 i] w fun e w' => e = .returned (.tuple #[.int .i64 (i / 8), .int .u8 ((2 ^ (i % 8).toNat : Nat) : Int), .bool (okB n i)]) ∧ ∃ k, w' = w.drewN k := by
  have hand := i64_and7 i
  obtain ⟨R, hR⟩ := Int.eq_ofNat_of_zero_le (show 0 ≤ i % 8 by omega)
  have hr : R < 8 := by omega
  rw [hR] at hand
  have eR : (i % 8).toNat = R := by rw [hR]; rfl
  rw [eR]
  have hp := Bx.mk (pow8 R hr)
  clear hR eR
  unfold okB
  by_cases h0 : 0 ≤ i
  · have hd : decide ((0 : Int) ≤ i) = true := decide_eq_true h0
    go_enter Try.func32, Try.ntmps32
    go_wp2
    go_quiet (fail)
    go_wp2
    go_ret3
    exact ⟨ret3 rfl hp.out (by simp [h0]), _, rfl⟩
  · have hd : decide ((0 : Int) ≤ i) = false := decide_eq_false h0
    go_enter Try.func32, Try.ntmps32
    go_wp2
    go_quiet (fail)
    go_wp2
    go_ret3
    exact ⟨ret3 rfl hp.out (by simp; omega), _, rfl⟩

/-- a bit -/
def bitN (l : List Nat) (i : Nat) : Nat := l.getD (i / 8) 0 / 2 ^ (i % 8) % 2
def bitB (l : List Nat) (i : Nat) : Bool := decide (bitN l i = 1)
theorem bitN_01 (l : List Nat) (i : Nat) : bitN l i = 0 ∨ bitN l i = 1 := by unfold bitN; omega
set_option maxHeartbeats 1000000 in
theorem Has_no (A : Option Addr) (l : List Nat) (c : Nat) (i : Int) (w : World) (h1 : -9223372036854775808 ≤ i) (h2 : i ≤ 9223372036854775807) (h : okB l.length i = false) :
    Calls Try.prog 17 #[.slice A l.length c, .int .i64 i] w fun e w' => e = .returned (.tuple #[.bool false, .int .i64 2]) ∧ ∃ k, w' = w.drewN k := by
  have hm := mask_calls A l.length c i w h1 h2
  rw [h] at hm
  have HM := Bx.mk hm
  clear hm h
  go_enter Try.func17, Try.ntmps17
  go_wp2_with fail
  refine HM.out.mono ?_
  rintro e w1 ⟨rfl, k, rfl⟩
  go_wp2
  go_ret2
  exact ⟨rfl, _, rfl⟩
set_option maxHeartbeats 1000000 in
theorem Has_yes (A : Option Addr) (l : List Nat) (c : Nat) (i : Nat) (w : World) (hl : RB w A l) (hi : i / 8 < l.length) :
    Calls Try.prog 17 #[.slice A l.length c, .int .i64 i] w fun e w' => e = .returned (.tuple #[.bool (bitB l i), .int .i64 0]) ∧ ∃ k, w' = w.drewN k := by
  obtain ⟨hb, hlen, hcell⟩ := hl
  obtain ⟨ad, rfl, hc⟩ := hcell (by omega)
  have hck := hc (i / 8) hi
  have hX := mem_getD hi hb
  have hm := mask_calls (some ad) l.length c i w (by omega) (by omega)
  have ho : okB l.length i = true := by unfold okB; simp; omega
  have eR : ((i : Int) % 8).toNat = i % 8 := by omega
  have e8 : (i : Int) / 8 = ((i / 8 : Nat) : Int) := by omega
  rw [ho, eR, e8] at hm
  have hr : i % 8 < 8 := Nat.mod_lt _ (by decide)
  have hp : 2 ^ (i % 8) < 256 := Nat.lt_of_le_of_lt (Nat.pow_le_pow_right (by decide) (show i % 8 ≤ 7 by omega)) (by decide)
  have hB : bitB l i = decide (l.getD (i / 8) 0 / 2 ^ (i % 8) % 2 = 1) := rfl
  rw [hB]
  have hnb := nat_bit (i % 8) (l.getD (i / 8) 0)
  generalize l.getD (i / 8) 0 = X at hck hX hnb ⊢
  have hbits := u8_and_nat X (2 ^ (i % 8)) hX hp
  rw [hnb] at hbits
  have hpos : 0 < 2 ^ (i % 8) := Nat.pow_pos (by decide)
  generalize 2 ^ (i % 8) = M at hm hp hbits hpos ⊢
  have hi' := hi
  generalize i / 8 = K at hm hck hi'
  have HM := Bx.mk hm
  clear hm hc hcell hb hnb hB ho e8 eR
  obtain ⟨b, hbd⟩ : ∃ b, b = X / M % 2 := ⟨_, rfl⟩
  rw [← hbd] at hbits ⊢
  have hb2 : b = 0 ∨ b = 1 := by omega
  clear hbd
  rcases hb2 with rfl | rfl
  · have hz : bits .and .u8 (X : Int) (M : Int) = 0 := by rw [hbits]; simp
    clear hbits
    go_enter Try.func17, Try.ntmps17
    go_wp2_with fail
    refine HM.out.mono ?_
    rintro e w1 ⟨rfl, k, rfl⟩
    go_wp2
    go_ret2
    exact ⟨rfl, _, rfl⟩
  · have hz : bits .and .u8 (X : Int) (M : Int) = (M : Int) := by rw [hbits]; simp
    have h3 : ((M : Int) != 0) = true := by rw [bne_iff_ne]; omega
    have h4 : ((M : Int) == 0) = false := beq_false_of_ne (by omega)
    clear hbits
    go_enter Try.func17, Try.ntmps17
    go_wp2_with fail
    refine HM.out.mono ?_
    rintro e w1 ⟨rfl, k, rfl⟩
    go_wp2
    go_ret2
    exact ⟨rfl, _, rfl⟩
end Go.Proofs.Ytcamakleahpinaa
