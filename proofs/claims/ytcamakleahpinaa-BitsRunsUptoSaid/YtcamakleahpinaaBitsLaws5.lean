import Derived.Test.YtcamakleahpinaaBitsLaws4
/-
  The law BitsRuns: its walk.
-/
namespace Go.Proofs.Ytcamakleahpinaa
open Go.RowKit

set_option maxHeartbeats 800000 in
theorem BitsRuns_calls (A : Option Addr) (l : List Nat) (c : Nat) (n : Int) (w : World) (hl : RB w A l) (hc : l.length ≤ c) (hs : l.length ≤ 1048576) :
    Calls Try.prog 6 #[.slice A l.length c, .int .i64 n] w fun e w' => e = .returned (.bool true) ∧ Below w.heap.size w w' := by
  have HL := Bx.mk hl
  have hlen := hl.2.1
  have HC := Bx.mk hc
  clear hl hc
  go_enter Try.func6, Try.ntmps6
  go_wp2_with fail
  refine (works_calls w).mono ?_
  rintro e w1 ⟨rfl, hb⟩
  have HL1 := Bx.mk (HL.out.below hb)
  have HB1 := Bx.mk hb
  clear hb
  go_wp2_with fail
  refine (Runs_calls A l c n w1 HL1.out hs).mono ?_
  rintro e w2 ⟨v, rfl, ho, hb⟩
  obtain ⟨A2, c2, rfl⟩ := ho.form
  have HI2 := Bx.mk ho.ir
  have HL2 := Bx.mk (HL1.out.below hb)
  have HB2 := Bx.mk (below_then HB1.out HB1.out.size hb)
  clear ho hb
  have hW := wiN_le l.length n
  have hWi : (wiN l.length n : Int) = max 0 (min n (8 * (l.length : Int))) := by unfold wiN; omega
  obtain ⟨r1, r2, r3, r4, r5⟩ := runsN_ok l (wiN l.length n)
  generalize hWW : wiN l.length n = W at *
  generalize runsN l W = R at *
  have HWW := Bx.mk hWW; have HWI := Bx.mk hWi; have R1 := Bx.mk r1; have R2 := Bx.mk r2; have R3 := Bx.mk r3; have R4 := Bx.mk r4
  clear hWW hWi r1 r2 r3 r4
  go_wp2
  go_loopw [6, 7, 8] (fun a t i wr => ∃ (k : Nat) (s o : Int), k ≤ R.length ∧ i = .int .i64 k ∧ a = .int .i64 s ∧ t = .int .i64 o ∧ Bx (s = preS R k) ∧ Bx (o = oddS R k) ∧ Bx (Below w.heap.size w wr) ∧ Bx (IR wr A2 R) ∧ Bx (RB wr A l)) (fun _ _ i _ => R.length - (intOf i).toNat)
  case atStart => exact ⟨0, 0, 0, Nat.zero_le _, rfl, rfl, rfl, ⟨rfl⟩, ⟨rfl⟩, HB2, HI2, HL2⟩
  case round =>
    obtain ⟨k, s, o, hk, rfl, rfl, rfl, HS, HO, HB, HI, HLr⟩ := hrel
    by_cases hlt : k < R.length
    · obtain ⟨ad, rfl, hd⟩ := HI.out (by omega)
      have hg := hd k hlt
      clear hd
      have b1 := preS_mono R R4.out (k + 1) (R.length - (k + 1)) (by omega)
      rw [show k + 1 + (R.length - (k + 1)) = R.length by omega, R1.out] at b1
      have b2 := preS_nonneg R R4.out k (by omega)
      have b3 := R4.out k hlt
      have b4 := R3.out k
      have e1 : preS R (k + 1) = preS R k + R.getD k 0 := rfl
      have e2 : oddS R (k + 1) = oddS R k + if k % 2 = 1 then R.getD k 0 else 0 := rfl
      rw [← HS.out, ← HO.out] at b2
      rw [← HS.out] at e1
      rw [← HO.out] at e2
      rw [e1] at b1
      have E1 := Bx.mk e1
      have E2 := Bx.mk e2
      clear e1 e2
      generalize R.getD k 0 = X at *
      have hsX : s + X ≤ 8388608 := by omega
      have hs0 : 0 ≤ s := by omega
      have hoX : o + X ≤ 8388608 := by omega
      have ho0 : 0 ≤ o := b2.1
      have hkb : k ≤ 8388609 := by omega
      clear b1 b2
      by_cases hpar : k % 2 = 1
      · have hp1 : ((k : Int).tmod 2) = 1 := by rw [Int.tmod_eq_emod_of_nonneg (by omega)]; omega
        have E3 : Bx (oddS R (k + 1) = o + X) := ⟨by rw [E2.out, if_pos hpar]⟩
        have hk0 : 0 < k := by omega
        have hX1 : ¬ X < 1 := by have := b4 hk0 hlt; omega
        clear b4 E2
        go_wp2
        go_roundw
        case rel => exact ⟨k + 1, s + X, o + X, by omega, by go_num, by go_num, by go_num, ⟨E1.out.symm⟩, ⟨E3.out.symm⟩, HB, HI, HLr⟩
        case measure => simp [intOf]; omega
      · have hp1 : ((k : Int).tmod 2) = 0 := by rw [Int.tmod_eq_emod_of_nonneg (by omega)]; omega
        have E3 : Bx (oddS R (k + 1) = o) := ⟨by rw [E2.out, if_neg hpar, Int.add_zero]⟩
        clear E2
        by_cases hk0 : 0 < k
        · have hX1 : ¬ X < 1 := by have := b4 hk0 hlt; omega
          clear b4
          go_wp2
          go_roundw
          case rel => exact ⟨k + 1, s + X, o, by omega, by go_num, by go_num, by go_num, ⟨E1.out.symm⟩, ⟨E3.out.symm⟩, HB, HI, HLr⟩
          case measure => simp [intOf]; omega
        · clear b4
          go_wp2
          go_roundw
          case rel => exact ⟨k + 1, s + X, o, by omega, by go_num, by go_num, by go_num, ⟨E1.out.symm⟩, ⟨E3.out.symm⟩, HB, HI, HLr⟩
          case measure => simp [intOf]; omega
    · obtain rfl : k = R.length := by omega
      have hsW : s = W := by rw [HS.out, R1.out]
      have hoW : o = (cntN l W : Nat) := by rw [HO.out, R2.out]
      subst hoW
      have q := Count_calls A l c n wr HLr.out HC.out
      rw [HWW.out] at q
      have Q := Bx.mk q
      clear q HS HO
      generalize cntN l W = T at *
      by_cases h1 : 8 * (l.length : Int) < n
      · by_cases h2 : 0 < 8 * (l.length : Int)
        · obtain rfl : s = 8 * (l.length : Int) := by have := HWI.out; omega
          clear hsW
          go_wp2_with fail
          refine Q.out.mono ?_
          rintro e w1 ⟨rfl, rfl⟩
          go_wp2
          go_ret
          exact ⟨rfl, HB.out⟩
        · obtain rfl : s = 0 := by have := HWI.out; omega
          obtain rfl : l = [] := List.eq_nil_of_length_eq_zero (by omega)
          clear hsW
          go_wp2_with fail
          refine Q.out.mono ?_
          rintro e w1 ⟨rfl, rfl⟩
          go_wp2
          go_ret
          exact ⟨rfl, HB.out⟩
      · by_cases h2 : 0 < n
        · obtain rfl : s = n := by have := HWI.out; omega
          clear hsW
          go_wp2_with fail
          refine Q.out.mono ?_
          rintro e w1 ⟨rfl, rfl⟩
          go_wp2
          go_ret
          exact ⟨rfl, HB.out⟩
        · obtain rfl : s = 0 := by have := HWI.out; omega
          clear hsW
          go_wp2_with fail
          refine Q.out.mono ?_
          rintro e w1 ⟨rfl, rfl⟩
          go_wp2
          go_ret
          exact ⟨rfl, HB.out⟩
end Go.Proofs.Ytcamakleahpinaa
