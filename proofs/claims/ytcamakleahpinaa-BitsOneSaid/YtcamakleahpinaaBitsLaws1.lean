import Derived.Test.YtcamakleahpinaaBitsPure
/-
  The laws BitsNumbers, BitsBack, BitsOne: their walks.
-/
namespace Go.Proofs.Ytcamakleahpinaa
open Go.RowKit

set_option maxHeartbeats 4000000 in
theorem BitsNumbers_calls (A : Option Addr) (l : List Nat) (c : Nat) (a s n : Int) (w : World) (hl : RB w A l) (hn : -9223372036854775808 ≤ n ∧ n ≤ 9223372036854775807) :
    Calls Try.prog 3 #[.slice A l.length c, .int .i64 a, .int .i64 s, .int .i64 n] w fun e w' => e = .returned (.bool true) ∧ Below w.heap.size w w' := by
  have HL := Bx.mk hl
  have hlen := hl.2.1
  obtain ⟨R, E, hG, hrG⟩ := Get_any l a s
  obtain ⟨zs, F, hzb, hzl, hP, hrP⟩ := Put_any l a s n hn.2 hl.1
  have HG := Bx.mk hG; have HRG := Bx.mk hrG; have HP := Bx.mk hP; have HRP := Bx.mk hrP; have HZB := Bx.mk hzb
  clear hl hG hrG hP hrP hzb hn
  go_enter Try.func3, Try.ntmps3
  go_wp2_with fail
  refine (Bytes_calls A l c w HL.out).mono ?_
  rintro e w1 ⟨v, rfl, ho, hb⟩
  obtain ⟨A1, c1, rfl⟩ := ho.form
  have HL1 := Bx.mk (HL.out.below hb)
  have HO1 := Bx.mk (ho.rb HL.out.1 HL.out.2.1)
  have HB1 := Bx.mk hb
  clear ho hb
  go_wp2_with fail
  refine (HG.out A1 c1 w1 HO1.out).mono ?_
  rintro e w1 ⟨rfl, rfl⟩
  go_wp2_with fail
  refine (HRG.out A c _ HL1.out).mono ?_
  rintro e w1 ⟨rfl, rfl⟩
  go_wp2_with fail
  refine (HP.out A1 c1 _ HO1.out).mono ?_
  rintro e w2 ⟨v2, rfl, ho2, hb2⟩
  obtain ⟨A2, c2, rfl⟩ := ho2.form
  have HZ2 := Bx.mk (ho2.rb HZB.out (by omega))
  have HL2 := Bx.mk (HL1.out.below hb2)
  have HO2 := Bx.mk (HO1.out.below hb2)
  have HB2 := Bx.mk (below_then HB1.out HB1.out.size hb2)
  clear ho2 hb2
  go_wp2_with fail
  refine (HRP.out A c _ HL2.out).mono ?_
  rintro e w3 ⟨v3, rfl, ho3, hb3⟩
  obtain ⟨A3, c3, rfl⟩ := ho3.form
  have HZ3 := Bx.mk (ho3.rb HZB.out (by omega))
  have HZ2' := Bx.mk (HZ2.out.below hb3)
  have HL3 := Bx.mk (HL2.out.below hb3)
  have HO3 := Bx.mk (HO2.out.below hb3)
  have HB3 := Bx.mk (below_then HB2.out HB2.out.size hb3)
  clear ho3 hb3
  go_wp2_with fail
  refine (SameBytes_calls A2 A3 zs zs c2 c3 _ HZ2'.out HZ3.out).mono ?_
  rw [decide_eq_true (rfl : zs = zs)]
  rintro e w4 ⟨rfl, k, hw4⟩
  have hb4 : Below w3.heap.size w3 w4 := by rw [hw4]; exact below_drewN (Below.refl _ _) k
  have HL4 := Bx.mk (HL3.out.below hb4)
  have HO4 := Bx.mk (HO3.out.below hb4)
  have HB4 := Bx.mk (below_then HB3.out HB3.out.size hb4)
  clear hw4 hb4
  go_wp2_with fail
  refine (SameBytes_calls A1 A l l c1 c _ HO4.out HL4.out).mono ?_
  rw [decide_eq_true (rfl : l = l)]
  rintro e w5 ⟨rfl, k5, hw5⟩
  have HB5 : Bx (Below w.heap.size w w5) := ⟨by rw [hw5]; exact below_drewN HB4.out k5⟩
  clear hw5
  go_wp2_with fail
  refine (works_calls w5).mono ?_
  rintro e w6 ⟨rfl, hb6⟩
  have HB6 := Bx.mk (below_then HB5.out HB5.out.size hb6)
  clear hb6
  go_wp2
  go_ret
  exact ⟨rfl, HB6.out⟩

set_option maxHeartbeats 8000000 in
theorem BitsOne_calls (A : Option Addr) (l : List Nat) (c : Nat) (i : Int) (on : Bool) (o : Int) (w : World) (hl : RB w A l) (hc : l.length ≤ c) :
    Calls Try.prog 8 #[.slice A l.length c, .int .i64 i, .bool on, .int .i64 o] w fun e w' => e = .returned (.bool true) ∧ Below w.heap.size w w' := by
  have HL := Bx.mk hl
  have hlen := hl.2.1
  have HC := Bx.mk hc
  clear hl hc
  go_enter Try.func8, Try.ntmps8
  go_wp2_with fail
  refine (works_calls w).mono ?_
  rintro e w1 ⟨rfl, hb⟩
  have HL1 := Bx.mk (HL.out.below hb)
  have HB1 := Bx.mk hb
  clear hb
  by_cases hp : 0 < l.length
  · have b1 : ((l.length : Int) == 0) = false := beq_false_of_ne (by omega)
    obtain ⟨M, hM⟩ : ∃ M : Nat, (M : Int) = 8 * (l.length : Int) := ⟨8 * l.length, by omega⟩
    have hM1 : 0 < M := by omega
    have hM2 : M = 8 * l.length := by omega
    have HM2 := Bx.mk hM2
    have HMI := Bx.mk hM
    have hMb : M ≤ 9223372036854775807 := by omega
    clear hM hM2
    go_wp2_with fail
    rw [← HMI.out]
    refine (Among_calls i M w1 hM1 hMb).mono ?_
    rintro e w1 ⟨rfl, rfl⟩
    have hi := amg_lt i M hM1
    generalize amg i M = I at hi
    go_wp2_with fail
    rw [← HMI.out]
    refine (Among_calls o M w1 hM1 hMb).mono ?_
    rintro e w1 ⟨rfl, rfl⟩
    have hj := amg_lt o M hM1
    generalize amg o M = J at hj
    have hI8 : I / 8 < l.length := by have := HM2.out; omega
    have hJ8 : J / 8 < l.length := by have := HM2.out; omega
    go_wp2_with fail
    refine (Has_yes A l c I w1 HL1.out hI8).mono ?_
    rintro e w2 ⟨rfl, k2, hw2⟩
    have hb2 : Below w1.heap.size w1 w2 := by rw [hw2]; exact below_drewN (Below.refl _ _) k2
    have HL2 := Bx.mk (HL1.out.below hb2)
    have HB2 := Bx.mk (below_then HB1.out HB1.out.size hb2)
    clear hw2 hb2
    go_wp2_with fail
    refine (Set_yes A l c I on w2 HL2.out hI8).mono ?_
    rintro e w3 ⟨v3, rfl, ho3, hb3⟩
    obtain ⟨A3, c3, rfl⟩ := ho3.form
    have hlt3 := setN_lt l I on HL.out.1 hI8
    have HZ3 := Bx.mk (ho3.rb hlt3 (by rw [setN_length]; exact hlen))
    have HL3 := Bx.mk (HL2.out.below hb3)
    have HB3 := Bx.mk (below_then HB2.out HB2.out.size hb3)
    have HZC : Bx (l.length ≤ c3) := ⟨by
      rcases ho3.2 with ⟨he, h0⟩ | ⟨g, cap, cur, he, _, _, h1, _⟩
      · rw [setN_length] at h0; omega
      · injection he with _ _ h2; rw [setN_length] at h1; omega⟩
    clear ho3 hb3 hlt3
    rw [setN_length]
    have q1 := Has_yes A3 (setN l I on) c3 I w3 HZ3.out (by rw [setN_length]; exact hI8)
    rw [setN_length, bitB_set_self l I on HL.out.1 hI8] at q1
    have Q1 := Bx.mk q1
    clear q1
    go_wp2_with fail
    refine Q1.out.mono ?_
    rintro e w4 ⟨rfl, k4, hw4⟩
    have hb4 : Below w3.heap.size w3 w4 := by rw [hw4]; exact below_drewN (Below.refl _ _) k4
    have HL4 := Bx.mk (HL3.out.below hb4)
    have HZ4 := Bx.mk (HZ3.out.below hb4)
    have HB4 := Bx.mk (below_then HB3.out HB3.out.size hb4)
    clear hw4 hb4 Q1
    go_wp2_with fail
    refine (Has_yes A l c J w4 HL4.out hJ8).mono ?_
    rintro e w5 ⟨rfl, k5, hw5⟩
    have hb5 : Below w4.heap.size w4 w5 := by rw [hw5]; exact below_drewN (Below.refl _ _) k5
    have HL5 := Bx.mk (HL4.out.below hb5)
    have HZ5 := Bx.mk (HZ4.out.below hb5)
    have HB5 := Bx.mk (below_then HB4.out HB4.out.size hb5)
    clear hw5 hb5
    have q2 := Has_yes A3 (setN l I on) c3 J w5 HZ5.out (by rw [setN_length]; exact hJ8)
    rw [setN_length] at q2
    have Q2 := Bx.mk q2
    clear q2
    go_wp2_with fail
    refine Q2.out.mono ?_
    rintro e w6 ⟨rfl, k6, hw6⟩
    have hb6 : Below w5.heap.size w5 w6 := by rw [hw6]; exact below_drewN (Below.refl _ _) k6
    have HL6 := Bx.mk (HL5.out.below hb6)
    have HZ6 := Bx.mk (HZ5.out.below hb6)
    have HB6 := Bx.mk (below_then HB5.out HB5.out.size hb6)
    clear hw6 hb6 Q2
    have hwi : wiN l.length (8 * (l.length : Int)) = M := by have := HM2.out; unfold wiN; omega
    have q3 := Count_calls A3 (setN l I on) c3 (8 * (l.length : Int)) w6 HZ6.out (by rw [setN_length]; exact HZC.out)
    rw [setN_length, hwi, ← HMI.out] at q3
    have Q3 := Bx.mk q3
    have q4 := Count_calls A l c (8 * (l.length : Int)) w6 HL6.out HC.out
    rw [hwi, ← HMI.out] at q4
    have Q4 := Bx.mk q4
    have hcs := cntN_set l I on HL.out.1 hI8 M
    rw [if_pos hi, if_pos hi] at hcs
    have hoth : J ≠ I → bitB (setN l I on) J = bitB l J := bitB_set_other l I J on HL.out.1 hI8
    have hwas : bitB l I = decide (bitN l I = 1) := rfl
    rw [hwas]
    have h01 := bitN_01 l I
    have hc1 := cntN_le l M
    have hc2 := cntN_le (setN l I on) M
    have hM9 : M ≤ 1125899906809856 := by have := HM2.out; omega
    clear q3 q4 hwi hwas
    generalize cntN (setN l I on) M = C1 at Q3 hcs hc2
    generalize cntN l M = C0 at Q4 hcs hc1
    generalize bitN l I = B at hcs h01 ⊢
    generalize bitB (setN l I on) J = Y at hoth ⊢
    generalize bitB l J = X at hoth ⊢
    have HCS := Bx.mk hcs
    have HOT := Bx.mk hoth
    clear hcs hoth
    go_wp2_with fail
    rw [← HMI.out]
    refine Q3.out.mono ?_
    rintro e w7 ⟨rfl, rfl⟩
    go_wp2_with fail
    rw [← HMI.out]
    refine Q4.out.mono ?_
    rintro e w7 ⟨rfl, rfl⟩
    by_cases hji : J = I
    · subst hji
      rcases h01 with rfl | rfl
      · cases on with
        | false =>
          obtain rfl : C1 = C0 := by have := HCS.out; simpa using this
          go_wp2
          go_ret
          exact ⟨rfl, HB6.out⟩
        | true =>
          obtain rfl : C1 = C0 + 1 := by have := HCS.out; simpa using this
          go_wp2
          go_ret
          exact ⟨rfl, HB6.out⟩
      · cases on with
        | false =>
          obtain rfl : C0 = C1 + 1 := by have := HCS.out; simp at this; omega
          go_wp2
          go_ret
          exact ⟨rfl, HB6.out⟩
        | true =>
          obtain rfl : C1 = C0 := by have := HCS.out; simpa using this
          go_wp2
          go_ret
          exact ⟨rfl, HB6.out⟩
    · obtain rfl : Y = X := HOT.out hji
      have n1 : ((J : Int) != (I : Int)) = true := by rw [bne_iff_ne]; omega
      have n2 : ((J : Int) == (I : Int)) = false := beq_false_of_ne (by omega)
      have NJ := Bx.mk hji
      clear hji
      rcases h01 with rfl | rfl
      · cases on with
        | false =>
          obtain rfl : C1 = C0 := by have := HCS.out; simpa using this
          go_wp2
          go_ret
          exact ⟨rfl, HB6.out⟩
        | true =>
          obtain rfl : C1 = C0 + 1 := by have := HCS.out; simpa using this
          go_wp2
          go_ret
          exact ⟨rfl, HB6.out⟩
      · cases on with
        | false =>
          obtain rfl : C0 = C1 + 1 := by have := HCS.out; simp at this; omega
          go_wp2
          go_ret
          exact ⟨rfl, HB6.out⟩
        | true =>
          obtain rfl : C1 = C0 := by have := HCS.out; simpa using this
          go_wp2
          go_ret
          exact ⟨rfl, HB6.out⟩
  · obtain rfl : l = [] := List.eq_nil_of_length_eq_zero (by omega)
    go_wp2
    go_ret
    exact ⟨rfl, HB1.out⟩
end Go.Proofs.Ytcamakleahpinaa
