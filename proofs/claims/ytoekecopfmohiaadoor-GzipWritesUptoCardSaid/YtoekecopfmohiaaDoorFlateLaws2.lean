import Derived.Test.YtoekecopfmohiaaDoorFlateLaws1
/-
  FlateShort: its walk.
-/
namespace Go.Proofs.YtoekecopfmohiaaDoor
open Go.RowKit

theorem bapp_end {w w1 w2 : World} {base : Nat} {T : Value} {l : List Nat} (hT : OB w1 base T l) (hb : Below w.heap.size w w1) (hz : w.heap.size ≤ base) (hg : w1.grownBy w2 T.ownBlock) : Below w.heap.size w w2 :=
  hb.grown hg hb.size fun k hk => Nat.le_trans hz (own_block hT k hk)
set_option maxRecDepth 100000 in
set_option maxHeartbeats 4000000 in
theorem FlateShort_calls (A : Option Addr) (b : List Nat) (c : Nat) (a1 a2 : Int) (Z : Option Addr) (z : List Nat) (d : Nat) (w : World) (hb : RB w A b) (hc : b.length ≤ c) (hz : RB w Z z) (_hd : z.length ≤ d) (hzl : z.length + 4096 ≤ 140737492549632) (hg : Gf w) :
    Calls Tryd.prog 3 #[.slice A b.length c, .int .i64 a1, .int .i64 a2, .slice Z z.length d] w fun e w' => e = .returned (.bool true) ∧ Below w.heap.size w w' := by
  have HG := Bx.mk hg
  have HB := Bx.mk hb
  have HZ := Bx.mk hz
  have hlen := hb.2.1
  have W1 := Bx.mk (fworks_calls w hg)
  clear hb hg hz
  go_enter Tryd.func3, Tryd.ntmps3
  go_wp2_with (go_at_call 12; fail)
  refine W1.out.mono ?_
  rintro e w1 ⟨rfl, hb1⟩
  have B1 := Bx.mk hb1
  clear hb1 W1
  have HC : Bx (b.length ≤ c) := ⟨hc⟩
  have AM := Bx.mk (Among_calls a1 5000 w1 (by decide) (by decide))
  have hM : amg a1 5000 < 5000 := amg_lt _ _ (by decide)
  generalize amg a1 5000 = M at *
  by_cases h3 : 3000 < b.length
  obtain ⟨L, hL⟩ : ∃ L, L = b.take 3000 := ⟨_, rfl⟩
  have hLl : L.length = 3000 := by rw [hL, List.length_take]; omega
  have k1 : ∀ W, (Instr.slice 22 (.slice A b.length c) none (some (.int .i64 3000)) none).run Tryd.prog W = .ok (.slice A L.length c) W := fun W => by
    rw [hLl]; exact cut_to_bytes A b.length c 3000 (by omega) hc W
  have HL : Bx (RB w1 A L) := ⟨by rw [hL]; exact (HB.out.below B1.out).take 3000⟩
  have HLc : Bx (L.length ≤ c) := ⟨by omega⟩
  have h3i : (3000 : Int) < (b.length : Int) := by omega
  have hLn : L.length ≤ 3000 := by omega
  clear hL hLl
  go_wp2_with (go_at_call 13; fail)
  rotate_left
  obtain ⟨L, rfl⟩ : ∃ L, L = b := ⟨_, rfl⟩
  have h3i : decide ((3000 : Int) < (L.length : Int)) = false := by simp; omega
  have HL : Bx (RB w1 A L) := ⟨HB.out.below B1.out⟩
  have HLc : Bx (L.length ≤ c) := ⟨hc⟩
  have hLn : L.length ≤ 3000 := by omega
  go_wp2_with (go_at_call 13; fail)
  all_goals
    clear h3i h3
    refine AM.out.mono ?_
    rintro e w2 ⟨rfl, rfl⟩
    have HM262 : Bx (M ≤ 262144) := ⟨by omega⟩
    have G1 := Bx.mk (HG.out.below B1.out)
    have Z1 := Bx.mk (HZ.out.below B1.out)
    have hLc := HLc.out
    cases hR : inflN L M with
    | error e1 =>
      have C1 := Bx.mk (Inflate_no A L c M w1 HL.out HM262.out G1.out HLc.out hR)
      have hnz := inflN_nz hR
      have he0 : ((e1 : Int) != 0) = true := by rw [bne_iff_ne]; omega
      clear hR
      go_wp2_with (go_at_call 14; fail)
      refine C1.out.mono ?_
      rintro e w3 ⟨rfl, hbl3⟩
      have B3 := Bx.mk (below_then B1.out B1.out.size hbl3)
      clear hbl3 C1
      go_wp2
      go_ret
      exact ⟨rfl, B3.out⟩
    | ok u =>
      obtain ⟨x, n⟩ := u
      have hbd := inflN_bounds hR
      have C1 := Bx.mk (Inflate_ok A L c M w1 HL.out HM262.out G1.out HLc.out hR)
      have AM2 := Bx.mk (fun W => Among_calls a2 n W hbd.2.2 (by omega))
      have hK : amg a2 n < n := amg_lt _ _ hbd.2.2
      have HS := Bx.mk (inflN_same hR z)
      have HT := Bx.mk (inflN_cut hR (amg a2 n) hK)
      generalize amg a2 n = K at *
      clear hR
      have k2 := cut_to_bytes A L.length c n hbd.2.1 hLc
      have k3 := cut_to_bytes A L.length c K (by omega) hLc
      have htl : (L.take n).length = n := by rw [List.length_take]; omega
      have htk : (L.take K).length = K := by rw [List.length_take]; omega
      go_wp2_with (go_at_call 14; fail)
      refine C1.out.mono ?_
      rintro e w3 ⟨v3, rfl, ho3, hb3, hbl3⟩
      have B3 := Bx.mk (below_then B1.out B1.out.size hbl3)
      have HL3 := Bx.mk (HL.out.below hbl3)
      have Z3 := Bx.mk (Z1.out.below hbl3)
      have G3 := Bx.mk (G1.out.below hbl3)
      obtain ⟨A3, c3, rfl⟩ := ho3.form
      have X3 := Bx.mk (ho3.rb hb3 (by omega))
      have by4 := Bytes_calls A (L.take n) c w3 (HL3.out.take n)
      rw [htl] at by4
      have BY4 := Bx.mk by4
      have HTL := Bx.mk htl
      clear ho3 hb3 hbl3 C1 B1 HL G1 HB HG Z1 HZ by4 htl
      go_wp2_with (go_at_call 15; fail)
      refine BY4.out.mono ?_
      rintro e w4 ⟨v4, rfl, ho4, hbl4⟩
      have O4 := Bx.mk ho4
      have B4 := Bx.mk (below_then B3.out B3.out.size hbl4)
      have HL4 := Bx.mk (HL3.out.below hbl4)
      have Z4 := Bx.mk (Z3.out.below hbl4)
      have G4 := Bx.mk (G3.out.below hbl4)
      have X4 := Bx.mk (X3.out.below hbl4)
      have hz4 : w3.heap.size ≤ w4.heap.size := hbl4.size
      have HBL4 := Bx.mk hbl4
      have hap : (L.take n).length + z.length ≤ 140737492549632 := by rw [HTL.out]; omega
      have HBT : Bx (∀ y ∈ L.take n ++ z, y < 256) := ⟨fun y hy => by
        rcases List.mem_append.1 hy with h | h
        · exact (HL4.out.take n).1 y h
        · exact Z4.out.1 y h⟩
      have B3' := B3
      have HL3' := HL3
      have G3' := G3
      have X3' := X3
      clear ho4 hbl4 B3 HL3 Z3 G3 X3 BY4
      go_wp2_with (at_builtin; refine wpList_append_bytes w4 rfl _ _ rfl w3.heap.size v4 (L.take n) z rfl O4.out Z d rfl Z4.out hap hz4 ?_; intro v5 w5 ho5 hg5 _; have O5 := Bx.mk ho5; have HB5 := Bx.mk (bapp_end O4.out HBL4.out (Nat.le_refl _) hg5); clear ho5 hg5)
      have hYl : (L.take n ++ z).length ≤ 140737492549632 := by rw [List.length_append]; exact hap
      generalize L.take n ++ z = Y at *
      obtain ⟨A5, c5, hv5, hc5⟩ := O5.out.form'
      subst hv5
      have B5 := Bx.mk (below_then B3'.out B3'.out.size HB5.out)
      have C5 := Bx.mk (Inflate_ok A5 Y c5 M w5 (O5.out.rb HBT.out hYl) HM262.out (G3'.out.below HB5.out) hc5 HS.out)
      have HL5 := Bx.mk (HL3'.out.below HB5.out)
      have G5 := Bx.mk (G3'.out.below HB5.out)
      have X5 := Bx.mk (X3'.out.below HB5.out)
      have HYc : Bx (Y.length ≤ c5) := ⟨hc5⟩
      clear O5 HB5 B4 HL4 Z4 G4 X4 O4 HBL4 B3' G3' HL3' X3' hc5 hYl hap
      refine C5.out.mono ?_
      rintro e w6 ⟨v6, rfl, ho6, hb6, hbl6⟩
      obtain ⟨A6, c6, rfl⟩ := ho6.form
      have X6 := Bx.mk (X5.out.below hbl6)
      have B6 := Bx.mk (below_then B5.out B5.out.size hbl6)
      have HL6 := Bx.mk (HL5.out.below hbl6)
      have G6 := Bx.mk (G5.out.below hbl6)
      have SB := Bx.mk (SameBytes_calls A3 A6 x x c3 c6 w6 X6.out (ho6.rb hb6 (by omega)))
      clear ho6 hb6 hbl6 B5 HL5 G5 X5 C5 X6
      go_wp2_with (go_at_call 16; fail)
      refine SB.out.mono ?_
      rintro e w7 ⟨rfl, k7, rfl⟩
      have B7 := Bx.mk (below_drewN B6.out k7)
      have hbq := below_drewN (Below.refl w6.heap.size w6) k7
      have HL7 := Bx.mk (HL6.out.below hbq)
      have G7 := Bx.mk (G6.out.below hbq)
      have i8 := Inflate_no A (L.take K) c M (w6.drewN k7) (HL7.out.take K) HM262.out G7.out (by omega) HT.out
      rw [htk] at i8
      have I8 := Bx.mk i8
      clear SB B6 HL6 G6 hbq i8 htk
      generalize w6.drewN k7 = w7 at *
      go_wp2_with (go_at_call 13; fail)
      refine (AM2.out w7).mono ?_
      rintro e w8 ⟨rfl, rfl⟩
      go_wp2_with (go_at_call 14; fail)
      refine I8.out.mono ?_
      rintro e w9 ⟨rfl, hbl9⟩
      have B9 := Bx.mk (below_then B7.out B7.out.size hbl9)
      clear hbl9 I8 B7
      go_wp2
      go_ret
      exact ⟨rfl, B9.out⟩
end Go.Proofs.YtoekecopfmohiaaDoor
