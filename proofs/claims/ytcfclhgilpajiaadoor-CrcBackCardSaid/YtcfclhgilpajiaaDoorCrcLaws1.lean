import Derived.Test.YtcfclhgilpajiaaDoorCrcPure
/-
  The laws CrcSums, CrcBack: their walks.
-/
namespace Go.Proofs.YtcfclhgilpajiaaDoor
open Go.RowKit

set_option maxHeartbeats 4000000 in
theorem CrcSums_calls (A : Option Addr) (l : List Nat) (c : Nat) (s : Nat) (n : Int) (w : World) (hl : RB w A l) (hs : s < 4294967296) (hg : Half w) :
    Calls Tryd.prog 6 #[.slice A l.length c, .int .u32 s, .int .i64 n] w fun e w' => e = .returned (.bool true) ∧ Below w.heap.size w w' := by
  have HL := Bx.mk hl; have HG := Bx.mk hg
  clear hl hg
  have hz : rzerosS s n = nt (zerosN (min (max n 0) 65536).toNat (nt s)) := by
    rw [zerosS, rzerosS]
    congr 2
    omega
  have HZ := Bx.mk hz; clear hz
  go_enter Tryd.func6, Tryd.ntmps6
  go_wp2_with fail
  refine (Bytes_calls A l c w HL.out).mono ?_
  rintro e w1 ⟨v, rfl, ho, hb⟩
  obtain ⟨A1, c1, rfl⟩ := ho.form
  have HL1 := Bx.mk (HL.out.below hb)
  have HO1 := Bx.mk (ho.rb HL.out.1 HL.out.2.1)
  have HG1 := Bx.mk (HG.out.below hb)
  have HB := Bx.mk hb
  clear ho hb
  go_wp2_with fail
  refine (Sum_calls A1 l c1 w1 HO1.out HG1.out).mono ?_
  rintro e w1 ⟨rfl, rfl⟩
  go_wp2_with fail
  refine (rSum_calls A l c _ HL1.out).mono ?_
  rw [← moreS_rmoreS]
  rintro e w1 ⟨rfl, rfl⟩
  generalize moreS 0 l = R1
  go_wp2_with fail
  refine (More_calls s A1 l c1 _ hs HO1.out HG1.out).mono ?_
  rintro e w1 ⟨rfl, rfl⟩
  go_wp2_with fail
  refine (rMore_calls s A l c _ hs HL1.out).mono ?_
  rw [← moreS_rmoreS]
  rintro e w1 ⟨rfl, rfl⟩
  generalize moreS s l = R2
  go_wp2_with fail
  refine (Zeros_calls s n _ hs HG1.out).mono ?_
  rw [← HZ.out]
  rintro e w1 ⟨rfl, rfl⟩
  go_wp2_with fail
  refine (rZeros_calls s n _ hs).mono ?_
  rintro e w2 ⟨rfl, hb2⟩
  generalize rzerosS s n = R3
  have HL2 := Bx.mk (HL1.out.below hb2)
  have HO2 := Bx.mk (HO1.out.below hb2)
  have HG2 := Bx.mk (HG1.out.below hb2)
  have HB2 := Bx.mk (below_then HB.out HB.out.size hb2)
  clear hb2
  go_wp2_with fail
  refine (SameBytes_calls A1 A l l c1 c _ HO2.out HL2.out).mono ?_
  rw [decide_eq_true (rfl : l = l)]
  rintro e w3 ⟨rfl, k, rfl⟩
  have HG3 := Bx.mk (HG2.out.below (below_drewN (Below.refl _ _) k))
  go_wp2_with fail
  refine (works_calls _ HG3.out).mono ?_
  rintro e w4 ⟨rfl, hb4⟩
  have HB4 := Bx.mk (below_then (below_drewN HB2.out k) HB2.out.size hb4)
  clear hb4
  go_wp2
  go_ret
  exact ⟨rfl, HB4.out⟩

set_option maxHeartbeats 4000000 in
theorem CrcBack_calls (s : Nat) (size at' : Int) (x : Nat) (w : World) (hs : s < 4294967296) (hx : x < 256) (hg : Half w) :
    Calls Tryd.prog 8 #[.int .u32 s, .int .i64 size, .int .i64 at', .int .u8 x] w fun e w' => e = .returned (.bool true) ∧ Below w.heap.size w w' := by
  have HG := Bx.mk hg
  clear hg
  go_enter Tryd.func8, Tryd.ntmps8
  go_wp2_with fail
  refine (works_calls w HG.out).mono ?_
  rintro e w1 ⟨rfl, hb⟩
  have HG1 := Bx.mk (HG.out.below hb)
  have HB := Bx.mk hb
  clear hb
  go_wp2_with fail
  refine (Among_calls size 1000 w1 (by decide) (by decide)).mono ?_
  rintro e w1 ⟨rfl, rfl⟩
  have hm := amg_lt size 1000 (by decide)
  generalize amg size 1000 = M at hm
  obtain ⟨N, hN⟩ : ∃ N : Nat, (N : Int) = 1 + (M : Int) := ⟨M + 1, by omega⟩
  go_wp2_with fail
  rw [← hN]
  have hN1 : 0 < N := by omega
  have hN2 : N ≤ 1000 := by omega
  clear hN hm
  refine (Among_calls at' N w1 hN1 (by omega)).mono ?_
  rintro e w1 ⟨rfl, rfl⟩
  have hk := amg_lt at' N hN1
  generalize amg at' N = K at hk
  go_wp2_with fail
  refine (Flip_good s N K x w1 hs hx (by omega) hk HG1.out).mono ?_
  rintro e w1 ⟨rfl, rfl⟩
  have hz := zerosN_lt (N - K) x (by omega)
  have hzn : x ≠ 0 → zerosN (N - K) x ≠ 0 := zeros_ne (N - K) x (by omega)
  have hz0 : x = 0 → zerosN (N - K) x = 0 := fun h => by rw [h]; exact zeros_nought _
  have hc := xor_lt s _ hs hz
  have F2 := Bx.mk (Flip_good (s ^^^ zerosN (N - K) x) N K x w1 hc hx (by omega) hk HG1.out)
  generalize zerosN (N - K) x = Z at hz hzn hz0 hc F2
  rw [show s ^^^ Z ^^^ Z = s by rw [Nat.xor_assoc, Nat.xor_self, Nat.xor_zero]] at F2
  have hcs : (s ^^^ Z = s) = (x = 0) := by
    apply propext
    constructor
    · intro h
      by_cases h0 : x = 0
      · exact h0
      · exact absurd h (xor_right_ne s Z (hzn h0))
    · intro h; rw [hz0 h, Nat.xor_zero]
  generalize s ^^^ Z = C at hc F2 hcs
  have HCS := Bx.mk hcs
  clear hcs hzn hz0
  go_wp2_with fail
  refine F2.out.mono ?_
  rintro e w1 ⟨rfl, rfl⟩
  by_cases h0 : x = 0
  · subst h0
    obtain rfl : C = s := by have := HCS.out; simpa using this
    go_wp2
    go_ret
    exact ⟨rfl, HB.out⟩
  · have h1 : ¬ C = s := by rw [HCS.out]; exact h0
    have b1 : ((C : Int) == (s : Int)) = false := by simp; omega
    have b2 : ((x : Int) == 0) = false := by simp; omega
    have b3 : decide (C = s) = false := by simp [h1]
    have b4 : decide (x = 0) = false := by simp [h0]
    go_wp2
    go_ret
    exact ⟨rfl, HB.out⟩
end Go.Proofs.YtcfclhgilpajiaaDoor
