import Derived.Test.YtnncnjkpjlpodaaFlow3
/-
  The writer of bits: look, each, Put, Code, Len, All, Align, Bytes.
-/
namespace Go.Proofs.Ytnncnjkpjlpodaa
open Go.RowKit

theorem i64_and1 (n : Int) : bits .and .i64 n 1 = n % 2 := by
  have h7 : (BitVec.ofInt 64 1).toNat = 2 ^ 1 - 1 := by decide
  have key : (BitVec.ofInt 64 n &&& BitVec.ofInt 64 1).toNat = (n % ((2 ^ 64 : Nat) : Int)).toNat % 2 ^ 1 := by
    rw [BitVec.toNat_and, BitVec.toNat_ofInt, h7, Nat.and_two_pow_sub_one_eq_mod]
  show IntKind.i64.wrap ((BitVec.ofInt 64 n &&& BitVec.ofInt 64 1).toNat : Nat) = n % 2
  rw [key, IntKind.wrap_i64]
  omega
theorem div_pow_cast (n k : Nat) : (n : Int) / 2 ^ k = ((n / 2 ^ k : Nat) : Int) := by
  rw [show (2 : Int) ^ k = ((2 ^ k : Nat) : Int) by rw [Int.natCast_pow]; rfl]; rfl

/-- does a number go into so many bits? -/
def Goes (n b : Int) : Prop := 0 ≤ b ∧ b ≤ 24 ∧ 0 ≤ n ∧ n < 2 ^ b.toNat
theorem look_no (g : Nat) (v u : Value) (n b : Int) (w : World) (h : Blk w g 61 #[v, u, .bool true]) (hn : ¬ Goes n b) (hi : n ≤ 9223372036854775807) :
    Calls Try.prog 57 #[.pointer (some ⟨g, 0, none⟩), .int .i64 n, .int .i64 b] w fun e w' => e = .returned (.int .i64 2) ∧ w = w' := by
  have H := Bx.mk (wIs_calls g _ _ true w h)
  have HN := Bx.mk hn
  clear h hn
  by_cases h1 : b < 0
  · go_enter Try.func57, Try.ntmps57
    go_wp2_with fail
    refine H.out.mono ?_
    rintro e w1 ⟨rfl, rfl⟩
    go_wp2
    go_ret
    exact ⟨rfl, rfl⟩
  · by_cases h2 : 24 < b
    · go_enter Try.func57, Try.ntmps57
      go_wp2_with fail
      refine H.out.mono ?_
      rintro e w1 ⟨rfl, rfl⟩
      go_wp2
      go_ret
      exact ⟨rfl, rfl⟩
    · by_cases h3 : n < 0
      · go_enter Try.func57, Try.ntmps57
        go_wp2_with fail
        refine H.out.mono ?_
        rintro e w1 ⟨rfl, rfl⟩
        go_wp2
        go_ret
        exact ⟨rfl, rfl⟩
      · obtain ⟨k, rfl⟩ := Int.eq_ofNat_of_zero_le (show 0 ≤ b by omega)
        obtain ⟨m, rfl⟩ := Int.eq_ofNat_of_zero_le (show 0 ≤ n by omega)
        have hk : k ≤ 24 := by omega
        have hbig : 2 ^ k ≤ m := by
          rcases Nat.lt_or_ge m (2 ^ k) with h | h
          · exfalso
            refine HN.out ⟨by omega, by omega, by omega, ?_⟩
            rw [show ((k : Int)).toNat = k by omega, show (2 : Int) ^ k = ((2 ^ k : Nat) : Int) by rw [Int.natCast_pow]; rfl]
            omega
          · exact h
        have hd := div_pow_cast m k
        have hq : 0 < m / 2 ^ k := Nat.div_pos hbig (Nat.pow_pos (by decide))
        generalize m / 2 ^ k = Q at hd hq
        have hne : ((Q : Int) != 0) = true := by rw [bne_iff_ne]; omega
        clear h1 h2 h3 hbig HN
        go_enter Try.func57, Try.ntmps57
        go_wp2_with fail
        refine H.out.mono ?_
        rintro e w1 ⟨rfl, rfl⟩
        go_wp2
        go_ret
        exact ⟨rfl, rfl⟩
theorem look_yes (g : Nat) (v u : Value) (n b : Nat) (w : World) (h : Blk w g 61 #[v, u, .bool true]) (hb : b ≤ 24) (hn : n < 2 ^ b) :
    Calls Try.prog 57 #[.pointer (some ⟨g, 0, none⟩), .int .i64 (n : Int), .int .i64 (b : Int)] w fun e w' => e = .returned (.int .i64 0) ∧ w = w' := by
  have H := Bx.mk (wIs_calls g _ _ true w h)
  have hd := div_pow_cast n b
  rw [Nat.div_eq_of_lt hn] at hd
  have hn2 : n ≤ 16777216 := Nat.le_trans (Nat.le_of_lt hn) (Nat.le_trans (Nat.pow_le_pow_right (by decide) hb) (by decide))
  clear h hn
  go_enter Try.func57, Try.ntmps57
  go_wp2_with fail
  refine H.out.mono ?_
  rintro e w1 ⟨rfl, rfl⟩
  go_wp2
  go_ret
  exact ⟨rfl, rfl⟩

/-- what the bits of n, taken at the places G, make -/
def eachV (n : Nat) (G : Nat → Int) : Nat → Nat
  | 0 => 0
  | i + 1 => eachV n G i + n / 2 ^ (G i).toNat % 2 * 2 ^ i
theorem each_calls (g : Nat) (v : Value) (N a n : Nat) (G : Nat → Int) (by_ : Int) (k : Nat) (w : World) (h : Wr w g v N a) (_hn : n ≤ 16777216) (hk : k ≤ 24) (ha : a + k ≤ 1125899906809856)
    (hby : by_ = 1 ∨ by_ = -1) (hG : ∀ i, G (i + 1) = G i + by_) (hG2 : ∀ i, i < k → 0 ≤ G i ∧ G i ≤ 24) :
    Calls Try.prog 58 #[.int .i64 (n : Int), .int .i64 (G 0), .int .i64 by_, .int .i64 (k : Int), .func (.func 59) #[.pointer (some ⟨g, 0, none⟩)] #[]] w fun e w' =>
      e = .returned (.tuple #[]) ∧ ∃ v', Wr w' g v' (N + 2 ^ a * eachV n G k) (a + k) ∧ WStep g v w v' w' := by
  have H := Bx.mk h
  have HG := Bx.mk hG
  have HG2 := Bx.mk hG2
  clear h hG hG2
  go_enter Try.func58, Try.ntmps58
  go_wp2
  go_loopw [1, 11] (fun f i wr => ∃ (j : Nat) (u : Value), j ≤ k ∧ i = .int .i64 (j : Nat) ∧ f = .int .i64 (G j) ∧ Bx (Wr wr g u (N + 2 ^ a * eachV n G j) (a + j)) ∧ Bx (WStep g v w u wr)) (fun _ i _ => k - (intOf i).toNat)
  case atStart => exact ⟨0, v, Nat.zero_le _, rfl, rfl, ⟨by simpa [eachV] using H.out⟩, ⟨WStep.refl _ _ _⟩⟩
  case round =>
    obtain ⟨j, u, hj, rfl, rfl, HW, HS⟩ := hrel
    by_cases hlt : j < k
    · have hg2 := HG2.out j hlt
      have hg1 := HG.out j
      obtain ⟨F, hF⟩ := Int.eq_ofNat_of_zero_le hg2.1
      have hFb : F ≤ 24 := by omega
      have hev : eachV n G (j + 1) = eachV n G j + n / 2 ^ F % 2 * 2 ^ j := by show _ + n / 2 ^ (G j).toNat % 2 * 2 ^ j = _; rw [hF]; rfl
      have hd := div_pow_cast n F
      have hand := i64_and1 ((n / 2 ^ F : Nat) : Int)
      rw [show ((n / 2 ^ F : Nat) : Int) % 2 = ((n / 2 ^ F % 2 : Nat) : Int) by omega] at hand
      have hon : n / 2 ^ F % 2 ≤ 1 := by omega
      have hq : n / 2 ^ F ≤ n := Nat.div_le_self _ _
      have HB := Bx.mk (wBit_calls g u _ _ _ wr HW.out hon (by omega))
      have HE : Bx (N + 2 ^ a * eachV n G (j + 1) = N + 2 ^ a * eachV n G j + n / 2 ^ F % 2 * 2 ^ (a + j)) := ⟨by
        rw [hev, Nat.mul_add, Nat.pow_add]
        rw [show 2 ^ a * (n / 2 ^ F % 2 * 2 ^ j) = n / 2 ^ F % 2 * (2 ^ a * 2 ^ j) by rw [Nat.mul_left_comm]]
        omega⟩
      have hG1 : Bx (G (j + 1) = (F : Int) + by_) := ⟨by rw [hg1, hF]⟩
      rw [show G j = (F : Int) from hF]
      generalize n / 2 ^ F % 2 = on at hand hon HB HE
      generalize n / 2 ^ F = Q at hd hand hq
      clear hev hg1 hg2 hF
      rcases hby with rfl | rfl
      all_goals
        go_wp2_with fail
        refine HB.out.mono ?_
        rintro e w1 ⟨rfl, u1, hw1, hs1⟩
        have HW1 := Bx.mk hw1
        have HS1 := Bx.mk (HS.out.trans hs1)
        clear hw1 hs1
        go_wp2
        go_roundw
        case rel => exact ⟨j + 1, u1, by omega, by go_num, by rw [hG1.out], ⟨by rw [HE.out]; exact HW1.out⟩, HS1⟩
        case measure => simp [intOf]; omega
    · obtain rfl : j = k := by omega
      go_wp2
      go_end0
      exact ⟨rfl, u, HW.out, HS.out⟩
end Go.Proofs.Ytnncnjkpjlpodaa
