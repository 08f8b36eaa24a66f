import Derived.Test.YtcfclhgilpajiaaDoorCrcPure
/-
  The laws CrcFinds, CrcFlips: their walks.
-/
namespace Go.Proofs.YtcfclhgilpajiaaDoor
open Go.RowKit



set_option maxHeartbeats 4000000 in
theorem CrcFinds_calls (A : Option Addr) (l : List Nat) (c : Nat) (at' : Int) (x : Nat) (w : World) (hl : RB w A l) (hx : x < 256) (hg : Half w) :
    Calls Tryd.prog 4 #[.slice A l.length c, .int .i64 at', .int .u8 x] w fun e w' => e = .returned (.bool true) ∧ Below w.heap.size w w' := by
  have HL := Bx.mk hl; have HG := Bx.mk hg
  have hlen := hl.2.1
  clear hl hg
  go_enter Tryd.func4, Tryd.ntmps4
  go_wp2_with fail
  refine (works_calls w HG.out).mono ?_
  rintro e w1 ⟨rfl, hb⟩
  have HG1 := Bx.mk (HG.out.below hb)
  have HL1 := Bx.mk (HL.out.below hb)
  have HB := Bx.mk hb
  clear hb
  by_cases hp : 0 < l.length
  · by_cases hx0 : 0 < x
    · have b1 : ((l.length : Int) == 0) = false := beq_false_of_ne (by omega)
      have b2 : ((x : Int) == 0) = false := beq_false_of_ne (by omega)
      go_wp2_with fail
      refine (Bytes_calls A l c w1 HL1.out).mono ?_
      rintro e w2 ⟨v, rfl, ho, hb⟩
      obtain ⟨A1, c1, rfl⟩ := ho.form
      obtain ⟨g, rfl, _, hbg, hlt, hcell, hfz⟩ := ho.opened hp
      have HL2 := Bx.mk (HL1.out.below hb)
      have HO2 := Bx.mk ho
      have HG2 := Bx.mk (HG1.out.below hb)
      have HB2 := Bx.mk (below_then HB.out HB.out.size hb)
      have HBG := Bx.mk hbg
      have HB12 := Bx.mk hb
      clear hb ho hbg
      go_wp2_with fail
      refine (Among_calls at' l.length w2 hp (by omega)).mono ?_
      rintro e w2 ⟨rfl, rfl⟩
      have hk := amg_lt at' l.length hp
      generalize amg at' l.length = K at hk
      have hck := hcell K hk
      have hfk := hfz K
      have hX := mem_getD hk HL.out.1
      have hfl := moreS_flip l K x 0 hk
      have HO3 := Bx.mk (HO2.out.put K (l.getD K 0 ^^^ x))
      have hxx := u8_xor_nat _ _ hX hx
      have hxl : l.getD K 0 ^^^ x < 256 := Nat.xor_lt_two_pow (n := 8) hX hx
      have HM := Bx.mk (set_mem (j := K) HL.out.1 hxl)
      generalize l.getD K 0 = X at hck hxx hfl HO3 hX HM hxl
      generalize X ^^^ x = Y at hxx hfl HO3 HM hxl
      have hbw : Below w1.heap.size w1 (w2.setCell ⟨g, K, none⟩ (.int .u8 (Y : Int))) := HB12.out.setCell HBG.out _
      have HL3 := Bx.mk (HL1.out.below hbw)
      have HG3 := Bx.mk (HG1.out.below hbw)
      have C1 := Sum_calls (some ⟨g, 0, none⟩) (l.set K Y) c1 _ (HO3.out.rb' HM.out (by rw [List.length_set]; exact hlen)) HG3.out
      rw [List.length_set] at C1
      have HC1 := Bx.mk C1
      have HB3 := Bx.mk (below_then HB.out HB.out.size hbw)
      have hne : moreS 0 (l.set K Y) ≠ moreS 0 l := by
        rw [hfl]; exact xor_right_ne _ _ (zeros_ne _ _ (by omega) (by omega))
      clear hfl hcell hfz C1 hbw
      go_wp2_with fail
      refine HC1.out.mono ?_
      rintro e w3 ⟨rfl, rfl⟩
      generalize moreS 0 (l.set K Y) = R1 at hne
      go_wp2_with fail
      refine (Sum_calls A l c _ HL3.out HG3.out).mono ?_
      rintro e w3 ⟨rfl, rfl⟩
      generalize moreS 0 l = R2 at hne
      have b3 : ((R1 : Int) == (R2 : Int)) = false := beq_false_of_ne (by omega)
      have b4 : ((R1 : Int) != (R2 : Int)) = true := by rw [bne_iff_ne]; omega
      go_wp2
      go_ret
      exact ⟨rfl, HB3.out⟩
    · have b1 : ((l.length : Int) == 0) = false := beq_false_of_ne (by omega)
      obtain rfl : x = 0 := by omega
      go_wp2
      go_ret
      exact ⟨rfl, HB.out⟩
  · obtain rfl : l = [] := List.eq_nil_of_length_eq_zero (by omega)
    go_wp2
    go_ret
    exact ⟨rfl, HB.out⟩

/-- what is behind the first comparison -/
def Flipped (w : World) : Ending → World → Prop := fun e w' => e = .returned (.bool true) ∧ Below w.heap.size w w'

set_option maxRecDepth 100000 in
set_option maxHeartbeats 4000000 in
theorem CrcFlips_calls (A : Option Addr) (l : List Nat) (c : Nat) (s : Nat) (size at' : Int) (x : Nat) (w : World) (hl : RB w A l) (hs : s < 4294967296) (hx : x < 256) (hg : Half w) :
    Calls Tryd.prog 7 #[.slice A l.length c, .int .u32 s, .int .i64 size, .int .i64 at', .int .u8 x] w (Flipped w) := by
  have HL := Bx.mk hl; have HG := Bx.mk hg
  have hlen := hl.2.1
  clear hl hg
  obtain ⟨R, E, hF, hrF⟩ : ∃ R E : Nat, (Calls Tryd.prog 19 #[.int .u32 s, .int .i64 size, .int .i64 at', .int .u8 x] w fun e w' => e = .returned (.tuple #[.int .u32 (R : Int), .int .i64 (E : Int)]) ∧ w = w')
      ∧ (Calls Tryd.prog 20 #[.int .u32 s, .int .i64 size, .int .i64 at', .int .u8 x] w fun e w' => e = .returned (.tuple #[.int .u32 (R : Int), .int .i64 (E : Int)]) ∧ Below w.heap.size w w') := by
    by_cases h : size > 65536 ∨ at' < 0 ∨ at' ≥ size
    · exact ⟨0, 2, Flip_bad s size at' x w h, rFlip_bad s size at' x w h⟩
    · obtain ⟨n, rfl⟩ := Int.eq_ofNat_of_zero_le (show 0 ≤ size by omega)
      obtain ⟨k, rfl⟩ := Int.eq_ofNat_of_zero_le (show 0 ≤ at' by omega)
      have h2 := rFlip_good s n k x w hs hx (by omega) (by omega)
      rw [rflip_eq _ _ _ _ (by omega)] at h2
      exact ⟨_, 0, Flip_good s n k x w hs hx (by omega) (by omega) HG.out, h2⟩
  have F1 := Bx.mk hF; have F2 := Bx.mk hrF
  clear hF hrF
  go_enter Tryd.func7, Tryd.ntmps7
  go_wp2_with fail
  refine F1.out.mono ?_
  rintro e w0 ⟨rfl, rfl⟩
  go_wp2_with fail
  refine F2.out.mono ?_
  rintro e w0 ⟨rfl, hb⟩
  have HG0 := Bx.mk (HG.out.below hb)
  have HL0 := Bx.mk (HL.out.below hb)
  have HB0 := Bx.mk hb
  clear hb
  go_wp2_with fail
  refine (works_calls w0 HG0.out).mono ?_
  rintro e w1 ⟨rfl, hb⟩
  have HG1 := Bx.mk (HG0.out.below hb)
  have HL1 := Bx.mk (HL0.out.below hb)
  have HB := Bx.mk (below_then HB0.out HB0.out.size hb)
  clear hb
  by_cases hp : 0 < l.length
  · by_cases hm : l.length ≤ 65536
    · have b1 : ((l.length : Int) == 0) = false := beq_false_of_ne (by omega)
      have hm' : (l.length : Int) ≤ 65536 := by omega
      go_wp2_with fail
      refine (Among_calls at' l.length w1 hp (by omega)).mono ?_
      rintro e w1 ⟨rfl, rfl⟩
      have hk := amg_lt at' l.length hp
      generalize amg at' l.length = K at hk
      go_wp2_with fail
      refine (Bytes_calls A l c w1 HL1.out).mono ?_
      rintro e w2 ⟨v, rfl, ho, hb⟩
      obtain ⟨A1, c1, rfl⟩ := ho.form
      obtain ⟨g, rfl, _, hbg, hlt, hcell, hfz⟩ := ho.opened hp
      have HO2 := Bx.mk ho
      have HBG := Bx.mk hbg
      have HB12 := Bx.mk hb
      clear hb ho hbg
      have hck := hcell K hk
      have hfk := hfz K
      have hX := mem_getD hk HL.out.1
      have hfl := moreS_flip l K x 0 hk
      have HO3 := Bx.mk (HO2.out.put K (l.getD K 0 ^^^ x))
      have hxx := u8_xor_nat _ _ hX hx
      have hxl : l.getD K 0 ^^^ x < 256 := Nat.xor_lt_two_pow (n := 8) hX hx
      have HM := Bx.mk (set_mem (j := K) HL.out.1 hxl)
      generalize l.getD K 0 = X at hck hxx hfl HO3 hX HM hxl
      generalize X ^^^ x = Y at hxx hfl HO3 HM hxl
      have hbw : Below w1.heap.size w1 (w2.setCell ⟨g, K, none⟩ (.int .u8 (Y : Int))) := HB12.out.setCell HBG.out _
      have HL3 := Bx.mk (HL1.out.below hbw)
      have HG3 := Bx.mk (HG1.out.below hbw)
      have C1 := Sum_calls (some ⟨g, 0, none⟩) (l.set K Y) c1 _ (HO3.out.rb' HM.out (by rw [List.length_set]; exact hlen)) HG3.out
      rw [List.length_set, hfl] at C1
      have HC1 := Bx.mk C1
      have HB3 := Bx.mk (below_then HB.out HB.out.size hbw)
      have hsl := moreS_lt 0 l (by decide) HL.out.1
      have F3 := Bx.mk (Flip_good (moreS 0 l) l.length K x _ hsl hx hm hk HG3.out)
      have HS := Bx.mk (Sum_calls A l c _ HL3.out HG3.out)
      generalize moreS 0 l ^^^ zerosN (l.length - K) x = Q at HC1 F3
      generalize moreS 0 l = S0 at HS F3
      clear hfl hcell hfz C1 hbw hsl
      go_wp2_with fail
      refine HS.out.mono ?_
      rintro e w3 ⟨rfl, rfl⟩
      go_wp2_with fail
      refine F3.out.mono ?_
      rintro e w3 ⟨rfl, rfl⟩
      go_wp2_with fail
      refine HC1.out.mono ?_
      rintro e w3 ⟨rfl, rfl⟩
      go_wp2
      go_ret
      exact ⟨rfl, HB3.out⟩
    · have b1 : ((l.length : Int) == 0) = false := beq_false_of_ne (by omega)
      have hm' : (65536 : Int) < (l.length : Int) := by omega
      go_wp2
      go_ret
      exact ⟨rfl, HB.out⟩
  · obtain rfl : l = [] := List.eq_nil_of_length_eq_zero (by omega)
    go_wp2
    go_ret
    exact ⟨rfl, HB.out⟩
end Go.Proofs.YtcfclhgilpajiaaDoor
