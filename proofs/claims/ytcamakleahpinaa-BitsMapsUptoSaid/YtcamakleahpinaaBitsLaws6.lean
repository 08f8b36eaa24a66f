import Derived.Test.YtcamakleahpinaaBitsSet
import Derived.Test.YtcamakleahpinaaBitsLaws4
/-
  The law BitsMaps: its walk.
-/
namespace Go.Proofs.Ytcamakleahpinaa
open Go.RowKit

set_option maxHeartbeats 2000000 in
theorem BitsMaps_calls (A : Option Addr) (l : List Nat) (c : Nat) (i : Int) (on : Bool) (fr n : Int) (w : World) (hl : RB w A l) (hc : l.length ≤ c) (hs : l.length ≤ 1048576)
    (hi : -9223372036854775808 ≤ i ∧ i ≤ 9223372036854775807) (hfr : -9223372036854775808 ≤ fr ∧ fr ≤ 9223372036854775807) :
    Calls Try.prog 7 #[.slice A l.length c, .int .i64 i, .bool on, .int .i64 fr, .int .i64 n] w fun e w' => e = .returned (.bool true) ∧ Below w.heap.size w w' := by
  have HL := Bx.mk hl
  have hlen := hl.2.1
  have HC := Bx.mk hc
  obtain ⟨B, E, hH, hrH⟩ := Has_any l i hi.1 hi.2
  obtain ⟨zs, F, hzb, hzl, hS, hrS⟩ := Set_any l i on hl.1 hi.1 hi.2
  have HH := Bx.mk hH; have HRH := Bx.mk hrH; have HS := Bx.mk hS; have HRS := Bx.mk hrS; have HZB := Bx.mk hzb
  have f1 := fun A c w hl => First_calls A l c fr n w hl hfr.2
  have f2 := fun A c w hl => rFirst_calls A l c fr n w hl hfr.2
  generalize firstN l (wiN l.length n - (max 0 fr).toNat) (max 0 fr).toNat = K at f1 f2
  have c1 := fun A c w hl hc => Count_calls A l c n w hl hc
  have c2 := fun A c w hl => rCount_calls A l c n w hl
  generalize cntN l (wiN l.length n) = T at c1 c2
  have r1 := fun A c w hl => Runs_calls A l c n w hl hs
  have r2 := fun A c w hl => rRuns_calls A l c n w hl hs
  have r5 := (runsN_ok l (wiN l.length n)).2.2.2.2
  have r6 := wiN_le l.length n
  have r7 : (runsN l (wiN l.length n)).length ≤ 8388609 := by omega
  generalize runsN l (wiN l.length n) = R at r1 r2 r7
  have F1 := Bx.mk f1; have F2 := Bx.mk f2; have C1 := Bx.mk c1; have C2 := Bx.mk c2; have R1 := Bx.mk r1; have R2 := Bx.mk r2; have R7 := Bx.mk r7
  clear hl hH hrH hS hrS hzb hi hfr f1 f2 c1 c2 r1 r2 r5 r6 r7
  go_enter Try.func7, Try.ntmps7
  go_wp2_with fail
  refine (Bytes_calls A l c w HL.out).mono ?_
  rintro e w1 ⟨v, rfl, ho, hb⟩
  obtain ⟨A1, c1, hv⟩ := ho.form
  have HC1 : Bx (l.length ≤ c1) := ⟨by
    rcases ho.2 with ⟨he, h0⟩ | ⟨g, cap, cur, he, _, _, h1, _⟩
    · omega
    · rw [hv] at he; injection he with _ _ h2; omega⟩
  subst hv
  have HL1 := Bx.mk (HL.out.below hb)
  have HO1 := Bx.mk (ho.rb HL.out.1 HL.out.2.1)
  have HB1 := Bx.mk hb
  clear ho hb
  go_wp2_with fail
  refine (HH.out A1 c1 w1 HO1.out).mono ?_
  rintro e w2 ⟨rfl, k2, hw2⟩
  have hb2 : Below w1.heap.size w1 w2 := by rw [hw2]; exact below_drewN (Below.refl _ _) k2
  have HL2 := Bx.mk (HL1.out.below hb2)
  have HO2 := Bx.mk (HO1.out.below hb2)
  have HB2 := Bx.mk (below_then HB1.out HB1.out.size hb2)
  clear hw2 hb2
  go_wp2_with fail
  refine (HRH.out A c _ HL2.out).mono ?_
  rintro e w3 ⟨rfl, rfl⟩
  go_wp2_with fail
  refine (HS.out A1 c1 _ HO2.out).mono ?_
  rintro e w4 ⟨v4, rfl, ho4, hb4⟩
  obtain ⟨A4, c4, rfl⟩ := ho4.form
  have HZ4 := Bx.mk (ho4.rb HZB.out (by omega))
  have HL4 := Bx.mk (HL2.out.below hb4)
  have HO4 := Bx.mk (HO2.out.below hb4)
  have HB4 := Bx.mk (below_then HB2.out HB2.out.size hb4)
  clear ho4 hb4
  go_wp2_with fail
  refine (HRS.out A c _ HL4.out).mono ?_
  rintro e w5 ⟨v5, rfl, ho5, hb5⟩
  obtain ⟨A5, c5, rfl⟩ := ho5.form
  have HZ5 := Bx.mk (ho5.rb HZB.out (by omega))
  have HZ4' := Bx.mk (HZ4.out.below hb5)
  have HL5 := Bx.mk (HL4.out.below hb5)
  have HO5 := Bx.mk (HO4.out.below hb5)
  have HB5 := Bx.mk (below_then HB4.out HB4.out.size hb5)
  clear ho5 hb5
  go_wp2_with fail
  refine (SameBytes_calls A4 A5 zs zs c4 c5 _ HZ4'.out HZ5.out).mono ?_
  rw [decide_eq_true (rfl : zs = zs)]
  rintro e w6 ⟨rfl, k6, hw6⟩
  have hb6 : Below w5.heap.size w5 w6 := by rw [hw6]; exact below_drewN (Below.refl _ _) k6
  have HL6 := Bx.mk (HL5.out.below hb6)
  have HO6 := Bx.mk (HO5.out.below hb6)
  have HB6 := Bx.mk (below_then HB5.out HB5.out.size hb6)
  clear hw6 hb6
  go_wp2_with fail
  refine (F1.out A1 c1 w6 HO6.out).mono ?_
  rintro e w7 ⟨rfl, k7, hw7⟩
  have hb7 : Below w6.heap.size w6 w7 := by rw [hw7]; exact below_drewN (Below.refl _ _) k7
  have HL7 := Bx.mk (HL6.out.below hb7)
  have HO7 := Bx.mk (HO6.out.below hb7)
  have HB7 := Bx.mk (below_then HB6.out HB6.out.size hb7)
  clear hw7 hb7
  go_wp2_with fail
  refine (F2.out A c w7 HL7.out).mono ?_
  rintro e w8 ⟨rfl, rfl⟩
  go_wp2_with fail
  refine (C1.out A1 c1 _ HO7.out HC1.out).mono ?_
  rintro e w8 ⟨rfl, rfl⟩
  go_wp2_with fail
  refine (C2.out A c _ HL7.out).mono ?_
  rintro e w8 ⟨rfl, rfl⟩
  go_wp2_with fail
  refine (R1.out A1 c1 _ HO7.out).mono ?_
  rintro e w8 ⟨v8, rfl, ho8, hb8⟩
  obtain ⟨A8, c8, rfl⟩ := ho8.form
  have HI8 := Bx.mk ho8.ir
  have HL8 := Bx.mk (HL7.out.below hb8)
  have HO8 := Bx.mk (HO7.out.below hb8)
  have HB8 := Bx.mk (below_then HB7.out HB7.out.size hb8)
  clear ho8 hb8
  go_wp2_with fail
  refine (R2.out A c _ HL8.out).mono ?_
  rintro e w9 ⟨v9, rfl, ho9, hb9⟩
  obtain ⟨A9, c9, rfl⟩ := ho9.form
  have HJ9 := Bx.mk ho9.ir
  have HI9 := Bx.mk (HI8.out.below hb9)
  have HL9 := Bx.mk (HL8.out.below hb9)
  have HO9 := Bx.mk (HO8.out.below hb9)
  have HB9 := Bx.mk (below_then HB8.out HB8.out.size hb9)
  clear ho9 hb9
  go_wp2_with fail
  refine (SameInts_calls A8 A9 R R c8 c9 _ HI9.out HJ9.out (Nat.le_trans R7.out (by decide))).mono ?_
  rw [decide_eq_true (rfl : R = R)]
  rintro e w10 ⟨rfl, k10, hw10⟩
  have hb10 : Below w9.heap.size w9 w10 := by rw [hw10]; exact below_drewN (Below.refl _ _) k10
  have HL10 := Bx.mk (HL9.out.below hb10)
  have HO10 := Bx.mk (HO9.out.below hb10)
  have HB10 := Bx.mk (below_then HB9.out HB9.out.size hb10)
  clear hw10 hb10
  go_wp2_with fail
  refine (SameBytes_calls A1 A l l c1 c _ HO10.out HL10.out).mono ?_
  rw [decide_eq_true (rfl : l = l)]
  rintro e w11 ⟨rfl, k11, hw11⟩
  have HB11 : Bx (Below w.heap.size w w11) := ⟨by rw [hw11]; exact below_drewN HB10.out k11⟩
  clear hw11
  go_wp2_with fail
  refine (works_calls w11).mono ?_
  rintro e w12 ⟨rfl, hb12⟩
  have HB12 := Bx.mk (below_then HB11.out HB11.out.size hb12)
  clear hb12
  go_wp2
  go_ret
  exact ⟨rfl, HB12.out⟩
end Go.Proofs.Ytcamakleahpinaa
