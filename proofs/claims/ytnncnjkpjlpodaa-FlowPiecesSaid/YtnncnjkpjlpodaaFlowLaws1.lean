import Derived.Test.YtnncnjkpjlpodaaFlowWorks
/-
  The law FlowPieces: its walk.
-/
namespace Go.Proofs.Ytnncnjkpjlpodaa
open Go.RowKit

theorem pkN_split (l : List Nat) (p n m : Nat) : pkN l p (n + m) = pkN l p n + 2 ^ n * pkN l (p + n) m := by
  unfold pkN
  rw [Nat.pow_add, Nat.mod_mul, Nat.div_div_eq_div_mul, ← Nat.pow_add]

set_option maxHeartbeats 4000000 in
theorem FlowPieces_calls (A : Option Addr) (l : List Nat) (c : Nat) (sk n m : Int) (w : World) (hl : RB w A l) :
    Calls Try.prog 4 #[.slice A l.length c, .int .i64 sk, .int .i64 n, .int .i64 m] w fun e w' => e = .returned (.bool true) ∧ Below w.heap.size w w' := by
  have hlen := hl.2.1
  have R0 := Bx.mk hl.reads
  have RD : Bx (∀ W, Reads W w.heap.size 1 A l.length (bs l) → RB W A l) := ⟨fun W h => RB.of_reads h hl.1 hlen⟩
  clear hl
  go_enter Try.func4, Try.ntmps4
  go_wp2_with fail
  refine (works_calls w).mono ?_
  rintro e w1 ⟨rfl, hb⟩
  have R1 := Bx.mk (R0.out.below hb)
  have B1 := Bx.mk hb
  have Z1 : Bx (w.heap.size ≤ w1.heap.size) := ⟨hb.size⟩
  clear hb R0
  go_wp2_with fail
  refine (Among_calls n 13 w1 (by decide) (by decide)).mono ?_
  rintro e w2 ⟨rfl, rfl⟩
  have hn := amg_lt n 13 (by decide)
  generalize amg n 13 = n1 at hn
  go_wp2_with fail
  refine (Among_calls m 13 w1 (by decide) (by decide)).mono ?_
  rintro e w2 ⟨rfl, rfl⟩
  have hm := amg_lt m 13 (by decide)
  generalize amg m 13 = m1 at hm
  go_wp2_with fail
  refine (New_calls A l.length c w1).mono ?_
  rintro e w2 ⟨rfl, hw2⟩
  have h2 : Blk w2 w1.heap.size 60 #[.slice A l.length c, .int .i64 ((0 : Nat) : Int), .bool true] := by rw [hw2]; exact Blk.new _ _ _
  have R2 : Bx (Reads w2 w.heap.size 1 A l.length (bs l)) := ⟨by rw [hw2]; exact R1.out.alloc Z1.out _⟩
  have B2 : Bx (Below w.heap.size w w2) := ⟨by rw [hw2]; exact B1.out.alloc Z1.out _⟩
  have hz2 : w1.heap.size < w2.heap.size := by rw [hw2]; simp
  have hz1 := Z1.out
  generalize w1.heap.size = r at h2 hz2 hz1 ⊢
  have H2 := Bx.mk h2
  clear h2 hw2 R1 B1 Z1
  go_wp2_with fail
  refine (New_calls A l.length c w2).mono ?_
  rintro e w3 ⟨rfl, hw3⟩
  have k3 : Blk w3 w2.heap.size 60 #[.slice A l.length c, .int .i64 ((0 : Nat) : Int), .bool true] := by rw [hw3]; exact Blk.new _ _ _
  have H3 : Bx (Blk w3 r 60 #[.slice A l.length c, .int .i64 ((0 : Nat) : Int), .bool true]) := ⟨by rw [hw3]; exact H2.out.alloc _⟩
  have R3 : Bx (Reads w3 w.heap.size 1 A l.length (bs l)) := ⟨by rw [hw3]; exact R2.out.alloc (by omega) _⟩
  have B3 : Bx (Below w.heap.size w w3) := ⟨by rw [hw3]; exact B2.out.alloc (by omega) _⟩
  have hz3 : w2.heap.size < w3.heap.size := by rw [hw3]; simp
  generalize w2.heap.size = s at k3 hz3 hz2 ⊢
  have K3 := Bx.mk k3
  have Z3 := Bx.mk hz3
  clear k3 hw3 R2 B2 H2 hz3
  go_wp2_with fail
  refine (Among_calls sk 25 w3 (by decide) (by decide)).mono ?_
  rintro e w4 ⟨rfl, rfl⟩
  have hsk := amg_lt sk 25 (by decide)
  generalize amg sk 25 = s1 at hsk
  have e4 := rSkip_calls r A l.length c 0 (s1 : Int) w3 H3.out hlen (by omega)
  have f4 := fun W h => rSkip_calls s A l.length c 0 (s1 : Int) W h hlen (by omega)
  have hp : (if skipE l.length 0 (s1 : Int) = 0 then 0 + (s1 : Int).toNat else 0) ≤ 8 * l.length := by
    split
    · next h =>
      rcases Nat.lt_or_ge (8 * l.length) s1 with h2 | h2
      · rw [skipE_short (by omega) (by omega)] at h; cases h
      · omega
    · omega
  generalize skipE l.length 0 (s1 : Int) = E at e4 f4 hp
  generalize (if E = 0 then 0 + (s1 : Int).toNat else 0) = p at e4 f4 hp
  have E4 := Bx.mk e4
  have F4 := Bx.mk f4
  clear e4 f4
  go_wp2_with fail
  refine E4.out.mono ?_
  rintro e w4 ⟨rfl, h4, o4⟩
  have hz := Z3.out
  have H4 := Bx.mk h4
  have K4 := Bx.mk (K3.out.only o4 (by omega))
  have R4 := Bx.mk (R3.out.only o4 (by omega) (by omega))
  have B4 := Bx.mk (B3.out.trans (o4.below _ (by omega) (by omega)))
  have Z4 : Bx (s < w4.heap.size) := ⟨by rw [o4.size]; exact hz⟩
  clear h4 o4 hz Z3 H3 K3 R3 B3 E4
  go_wp2_with fail
  refine (F4.out w4 K4.out).mono ?_
  rintro e w5 ⟨rfl, k5, o5⟩
  have hz := Z4.out
  have K5 := Bx.mk k5
  have H5 := Bx.mk (H4.out.only o5 (by omega))
  have R5 := Bx.mk (R4.out.only o5 (by omega) (by omega))
  have B5 := Bx.mk (B4.out.trans (o5.below _ (by omega) (by omega)))
  have Z5 : Bx (s < w5.heap.size) := ⟨by rw [o5.size]; exact hz⟩
  clear k5 o5 hz Z4 H4 K4 R4 B4 F4
  obtain ⟨t, ht⟩ : ∃ t : Nat, t = n1 + m1 := ⟨_, rfl⟩
  have hti : (n1 : Int) + (m1 : Int) = (t : Int) := by omega
  have htb : t ≤ 24 := by omega
  have T := Bx.mk ht
  have TI := Bx.mk hti
  clear ht hti
  go_wp2_with fail
  rw [TI.out]
  refine (rPeek_yes s A l c p t w5 K5.out (RD.out w5 R5.out) hp htb).mono ?_
  rintro e w6 ⟨rfl, q6, hw6⟩
  have K6 : Bx (Blk w6 s 60 #[.slice A l.length c, .int .i64 (p : Int), .bool true]) := ⟨by rw [hw6]; exact K5.out⟩
  have H6 : Bx (Blk w6 r 60 #[.slice A l.length c, .int .i64 (p : Int), .bool true]) := ⟨by rw [hw6]; exact H5.out⟩
  have R6 : Bx (Reads w6 w.heap.size 1 A l.length (bs l)) := ⟨by rw [hw6]; exact R5.out⟩
  have B6 : Bx (Below w.heap.size w w6) := ⟨by rw [hw6]; exact below_drewN B5.out q6⟩
  have Z6 : Bx (s < w6.heap.size) := ⟨by rw [hw6]; exact Z5.out⟩
  clear hw6 K5 H5 R5 B5 Z5
  have e7 := rTake_calls s A l c p (t : Int) w6 K6.out (RD.out w6 R6.out) hp
  rw [Int.toNat_natCast] at e7
  by_cases hfit : p + t ≤ 8 * l.length
  · rw [skipE_ok (by omega) (by omega), if_pos rfl, if_pos rfl] at e7
    have f7 := fun W h h2 => rTake_calls r A l c p (n1 : Int) W h h2 hp
    have T1 := T.out
    rw [skipE_ok (by omega) (by omega), if_pos rfl, if_pos rfl, Int.toNat_natCast] at f7
    have g7 := fun W h h2 => rTake_calls r A l c (p + n1) (m1 : Int) W h h2 (by omega)
    rw [skipE_ok (by omega) (by omega), if_pos rfl, if_pos rfl, Int.toNat_natCast] at g7
    have hsp : pkN l p t = pkN l p n1 + 2 ^ n1 * pkN l (p + n1) m1 := by rw [T1]; exact pkN_split ..
    have x1 := pkN_lt l p n1
    have y1 := pkN_lt l (p + n1) m1
    have n24 := two24 (show n1 ≤ 24 by omega)
    have m24 := two24 (show m1 ≤ 24 by omega)
    have ha1 : p + n1 + m1 = p + t := by omega
    rw [ha1] at g7
    have hq1 := Nat.mul_le_mul n24 (Nat.le_trans (Nat.le_of_lt y1) m24)
    generalize pkN l p t = V at e7 hsp ⊢
    generalize pkN l p n1 = X at f7 hsp x1
    generalize pkN l (p + n1) m1 = Y at g7 hsp y1 hq1
    have E7 := Bx.mk e7; have F7 := Bx.mk f7; have G7 := Bx.mk g7; have SP := Bx.mk hsp; have HQ := Bx.mk hq1; have X1 := Bx.mk x1; have Y1 := Bx.mk y1; have N24 := Bx.mk n24; have M24 := Bx.mk m24
    clear e7 f7 g7 hsp hq1 x1 y1 n24 m24 ha1 T1
    go_wp2_with fail
    rw [TI.out]
    refine E7.out.mono ?_
    rintro e w7 ⟨rfl, k7, o7⟩
    have hz := Z6.out
    have K7 := Bx.mk k7
    have H7 := Bx.mk (H6.out.only o7 (by omega))
    have R7 := Bx.mk (R6.out.only o7 (by omega) (by omega))
    have B7 := Bx.mk (B6.out.trans (o7.below _ (by omega) (by omega)))
    have Z7 : Bx (s < w7.heap.size) := ⟨by rw [o7.size]; exact hz⟩
    clear k7 o7 hz Z6 H6 K6 R6 B6 E7
    go_wp2_with fail
    refine (F7.out w7 H7.out (RD.out w7 R7.out)).mono ?_
    rintro e w8 ⟨rfl, h8, o8⟩
    have hz := Z7.out
    have H8 := Bx.mk h8
    have K8 := Bx.mk (K7.out.only o8 (by omega))
    have R8 := Bx.mk (R7.out.only o8 (by omega) (by omega))
    have B8 := Bx.mk (B7.out.trans (o8.below _ (by omega) (by omega)))
    have Z8 : Bx (s < w8.heap.size) := ⟨by rw [o8.size]; exact hz⟩
    clear h8 o8 hz Z7 H7 K7 R7 B7 F7
    go_wp2_with fail
    refine (G7.out w8 H8.out (RD.out w8 R8.out)).mono ?_
    rintro e w9 ⟨rfl, h9, o9⟩
    have hz := Z8.out
    have H9 := Bx.mk h9
    have K9 := Bx.mk (K8.out.only o9 (by omega))
    have B9 := Bx.mk (B8.out.trans (o9.below _ (by omega) (by omega)))
    clear h9 o9 hz Z8 H8 K8 R8 B8 G7
    generalize p + t = q at H9 K9
    go_wp2
    go_loop [18, 19] (fun u i => ∃ k : Nat, k ≤ n1 ∧ i = .int .i64 (k : Nat) ∧ u = .int .i64 ((2 ^ k : Nat) : Int)) (fun _ i => n1 - (intOf i).toNat)
    case atStart => exact ⟨0, Nat.zero_le _, rfl, rfl⟩
    case round =>
      obtain ⟨k, hk, rfl, rfl⟩ := hrel
      by_cases hlt : k < n1
      · have hd := Bx.mk (Nat.pow_succ (n := 2) (m := k))
        have h24 := two24 (show k ≤ 24 by omega)
        generalize 2 ^ k = M at hd h24 ⊢
        go_wp2
        go_round
        case rel => exact ⟨k + 1, by omega, by go_num, by rw [hd.out]; go_num⟩
        case measure => simp [intOf]; omega
      · obtain rfl : k = n1 := by omega
        have AS := Bx.mk (rAt_calls r _ q w9 H9.out)
        have AT := Bx.mk (rAt_calls s _ q w9 K9.out)
        have hX := X1.out
        have hM := N24.out
        have hMY : (2 ^ k * Y) ≤ 281474976710656 := Nat.le_trans (Nat.mul_le_mul_left _ (Nat.le_of_lt Y1.out)) (Nat.le_trans (Nat.mul_le_mul N24.out M24.out) (by decide))
        have hMYi : ((2 ^ k : Nat) : Int) * (Y : Int) = ((2 ^ k * Y : Nat) : Int) := (Int.natCast_mul ..).symm
        have hv := SP.out
        generalize 2 ^ k * Y = MY at hMY hMYi hv
        generalize 2 ^ k = M at hMYi hX hM ⊢
        subst hv
        go_wp2_with fail
        refine AS.out.mono ?_
        rintro e w10 ⟨rfl, rfl⟩
        go_wp2_with fail
        refine AT.out.mono ?_
        rintro e w10 ⟨rfl, rfl⟩
        go_wp2
        go_ret
        exact ⟨rfl, B9.out⟩
  · have T1 := T.out
    rw [skipE_short (by omega) (by omega), if_neg (by decide), if_neg (by decide)] at e7
    have E7 := Bx.mk e7
    clear e7
    by_cases hf2 : p + n1 ≤ 8 * l.length
    · have f7 := fun W h h2 => rTake_calls r A l c p (n1 : Int) W h h2 hp
      rw [skipE_ok (by omega) (by omega), if_pos rfl, if_pos rfl, Int.toNat_natCast] at f7
      have g7 := fun W h h2 => rTake_calls r A l c (p + n1) (m1 : Int) W h h2 (by omega)
      rw [skipE_short (by omega) (by omega), if_neg (by decide), if_neg (by decide)] at g7
      generalize pkN l p n1 = X at f7
      generalize pkN l p t = V
      generalize p + n1 = q at f7 g7
      have F7 := Bx.mk f7; have G7 := Bx.mk g7
      clear f7 g7 T1 hfit hf2
      go_wp2_with fail
      rw [TI.out]
      refine E7.out.mono ?_
      rintro e w7 ⟨rfl, k7, o7⟩
      have hz := Z6.out
      have K7 := Bx.mk k7
      have H7 := Bx.mk (H6.out.only o7 (by omega))
      have R7 := Bx.mk (R6.out.only o7 (by omega) (by omega))
      have B7 := Bx.mk (B6.out.trans (o7.below _ (by omega) (by omega)))
      have Z7 : Bx (s < w7.heap.size) := ⟨by rw [o7.size]; exact hz⟩
      clear k7 o7 hz Z6 H6 K6 R6 B6 E7
      go_wp2_with fail
      refine (F7.out w7 H7.out (RD.out w7 R7.out)).mono ?_
      rintro e w8 ⟨rfl, h8, o8⟩
      have hz := Z7.out
      have H8 := Bx.mk h8
      have R8 := Bx.mk (R7.out.only o8 (by omega) (by omega))
      have B8 := Bx.mk (B7.out.trans (o8.below _ (by omega) (by omega)))
      have Z8 : Bx (s < w8.heap.size) := ⟨by rw [o8.size]; exact hz⟩
      clear h8 o8 hz Z7 H7 K7 R7 B7 F7
      go_wp2_with fail
      refine (G7.out w8 H8.out (RD.out w8 R8.out)).mono ?_
      rintro e w9 ⟨rfl, h9, o9⟩
      have hz := Z8.out
      have B9 := Bx.mk (B8.out.trans (o9.below _ (by omega) (by omega)))
      clear h9 o9 hz Z8 H8 R8 B8 G7
      go_wp2
      go_ret
      exact ⟨rfl, B9.out⟩
    · have f7 := fun W h h2 => rTake_calls r A l c p (n1 : Int) W h h2 hp
      rw [skipE_short (by omega) (by omega), if_neg (by decide), if_neg (by decide)] at f7
      have g7 := fun W h h2 => rTake_calls r A l c p (m1 : Int) W h h2 hp
      generalize (if skipE l.length p (m1 : Int) = 0 then pkN l p (m1 : Int).toNat else 0) = Y at g7
      generalize (if skipE l.length p (m1 : Int) = 0 then p + (m1 : Int).toNat else p) = q at g7
      generalize skipE l.length p (m1 : Int) = E2 at g7
      generalize pkN l p t = V
      have F7 := Bx.mk f7; have G7 := Bx.mk g7
      clear f7 g7 T1 hfit hf2
      go_wp2_with fail
      rw [TI.out]
      refine E7.out.mono ?_
      rintro e w7 ⟨rfl, k7, o7⟩
      have hz := Z6.out
      have K7 := Bx.mk k7
      have H7 := Bx.mk (H6.out.only o7 (by omega))
      have R7 := Bx.mk (R6.out.only o7 (by omega) (by omega))
      have B7 := Bx.mk (B6.out.trans (o7.below _ (by omega) (by omega)))
      have Z7 : Bx (s < w7.heap.size) := ⟨by rw [o7.size]; exact hz⟩
      clear k7 o7 hz Z6 H6 K6 R6 B6 E7
      go_wp2_with fail
      refine (F7.out w7 H7.out (RD.out w7 R7.out)).mono ?_
      rintro e w8 ⟨rfl, h8, o8⟩
      have hz := Z7.out
      have H8 := Bx.mk h8
      have R8 := Bx.mk (R7.out.only o8 (by omega) (by omega))
      have B8 := Bx.mk (B7.out.trans (o8.below _ (by omega) (by omega)))
      have Z8 : Bx (s < w8.heap.size) := ⟨by rw [o8.size]; exact hz⟩
      clear h8 o8 hz Z7 H7 K7 R7 B7 F7
      go_wp2_with fail
      refine (G7.out w8 H8.out (RD.out w8 R8.out)).mono ?_
      rintro e w9 ⟨rfl, h9, o9⟩
      have hz := Z8.out
      have B9 := Bx.mk (B8.out.trans (o9.below _ (by omega) (by omega)))
      clear h9 o9 hz Z8 H8 R8 B8 G7
      go_wp2
      go_ret
      exact ⟨rfl, B9.out⟩
end Go.Proofs.Ytnncnjkpjlpodaa
