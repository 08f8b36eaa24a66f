import Derived.Test.YtoekecopfmohiaaDoorInf10
import Derived.Test.YtoekecopfmohiaaDoorFlatePure
import Derived.Test.YtoekecopfmohiaaDoorStrAll
/-
  The chapter's example holds; FlateShort, FlateBounds: their walks.
-/
namespace Go.Proofs.YtoekecopfmohiaaDoor
open Go.RowKit

theorem Inflate_ok (A : Option Addr) (l : List Nat) (c m : Nat) (w : World) (hl : RB w A l) (hm : m ≤ 262144) (hg : Gf w) (hlc : l.length ≤ c) {out : List Nat} {n : Nat} (h : inflN l m = .ok (out, n)) :
    Calls Tryd.prog 14 #[.slice A l.length c, .int .i64 (m : Int)] w fun e w' => ∃ v, e = .returned (.tuple #[v, .int .i64 (n : Int), .int .i64 0]) ∧ OB w' w.heap.size v out ∧ (∀ y ∈ out, y < 256) ∧ Below w.heap.size w w' := by
  refine (Inflate_calls A l c m w hl hm hg hlc).mono fun e w' hp => ?_
  unfold InfPost at hp
  rw [h] at hp
  exact hp
theorem Inflate_no (A : Option Addr) (l : List Nat) (c m : Nat) (w : World) (hl : RB w A l) (hm : m ≤ 262144) (hg : Gf w) (hlc : l.length ≤ c) {n : Nat} (h : inflN l m = .error n) :
    Calls Tryd.prog 14 #[.slice A l.length c, .int .i64 (m : Int)] w fun e w' => e = .returned (.tuple #[.slice none 0 0, .int .i64 0, .int .i64 (n : Int)]) ∧ Below w.heap.size w w' := by
  refine (Inflate_calls A l c m w hl hm hg hlc).mono fun e w' hp => ?_
  unfold InfPost at hp
  rw [h] at hp
  exact hp.2
theorem inflN_nz {l : List Nat} {m e : Nat} (h : inflN l m = .error e) : e ≠ 0 := (inf_good K0).nz m l _ _ (inflN_err.1 h)
set_option maxRecDepth 100000 in
set_option maxHeartbeats 2000000 in
theorem fworks_calls (w : World) (hg : Gf w) : Calls Tryd.prog 12 #[] w fun e w' => e = .returned (.bool true) ∧ Below w.heap.size w w' := by
  have HG := Bx.mk hg
  clear hg
  have B1 := Bx.mk (below_alloc1 w (.cells #[.int .u8 75, .int .u8 4, .int .u8 0] 5))
  have n1 := Inflate_ok (some ⟨w.heap.size, 0, none⟩) [75, 4, 0] 3 9 _ (RB.lit w 5 [75, 4, 0] #[.int .u8 75, .int .u8 4, .int .u8 0] rfl (by decide) (by decide)) (by decide) (HG.out.below B1.out) (by decide) infl_w1
  have N1 := Bx.mk n1
  clear n1
  go_enter Tryd.func12, Tryd.ntmps12
  go_wp2_with (go_at_call 14; fail)
  refine N1.out.mono ?_
  rintro e w1 ⟨v1, rfl, ho1, -, hb1⟩
  have B2 := Bx.mk (below_then B1.out B1.out.size hb1)
  obtain ⟨A1, c1, rfl⟩ := ho1.form
  have RB1 := Bx.mk (ho1.rb (by decide) (by decide))
  clear ho1 hb1 N1 B1
  have B3 := Bx.mk (B2.out.alloc B2.out.size (.cells #[.int .u8 1, .int .u8 0, .int .u8 0, .int .u8 255, .int .u8 255] 5))
  have n2 := Inflate_ok (some ⟨w1.heap.size, 0, none⟩) [1, 0, 0, 255, 255] 5 0 _ (RB.lit w1 5 [1, 0, 0, 255, 255] #[.int .u8 1, .int .u8 0, .int .u8 0, .int .u8 255, .int .u8 255] rfl (by decide) (by decide)) (by decide) (HG.out.below B3.out) (by decide) infl_w2
  have N2 := Bx.mk n2
  have RB2 := Bx.mk (RB1.out.below (below_alloc1 w1 (.cells #[.int .u8 1, .int .u8 0, .int .u8 0, .int .u8 255, .int .u8 255] 5)))
  clear n2 RB1
  go_wp2_with (go_at_call 14; fail)
  refine N2.out.mono ?_
  rintro e w2 ⟨v2, rfl, ho2, -, hb2⟩
  have B4 := Bx.mk (below_then B3.out B3.out.size hb2)
  have RB3 := Bx.mk (RB2.out.below hb2)
  obtain ⟨A2, c2, rfl⟩ := ho2.form
  clear ho2 hb2 N2 B3 B2 RB2
  have B5 := Bx.mk (B4.out.alloc B4.out.size (.cells #[.int .u8 6] 5))
  have n3 := Inflate_no (some ⟨w2.heap.size, 0, none⟩) [6] 1 9 _ (RB.lit w2 5 [6] #[.int .u8 6] rfl (by decide) (by decide)) (by decide) (HG.out.below B5.out) (by decide) infl_w3
  have N3 := Bx.mk n3
  have RB4 := Bx.mk (RB3.out.below (below_alloc1 w2 (.cells #[.int .u8 6] 5)))
  clear n3 RB3
  go_wp2_with (go_at_call 14; fail)
  refine N3.out.mono ?_
  rintro e w3 ⟨rfl, hb3⟩
  have B6 := Bx.mk (below_then B5.out B5.out.size hb3)
  have k1 : (convert 22 9 (.slice A1 1 c1)).run Tryd.prog w3 = .ok (.string { data := #[97] }) w3 := conv_str w3 A1 c1 [97] (RB4.out.below hb3)
  clear hb3 N3 B4 B5 RB4
  go_wp2
  go_ret
  exact ⟨rfl, B6.out⟩
set_option maxRecDepth 100000 in
set_option maxHeartbeats 4000000 in
theorem FlateBounds_calls (A : Option Addr) (b : List Nat) (c : Nat) (a1 a2 : Int) (w : World) (hb : RB w A b) (hc : b.length ≤ c) (hg : Gf w) :
    Calls Tryd.prog 4 #[.slice A b.length c, .int .i64 a1, .int .i64 a2] w fun e w' => e = .returned (.bool true) ∧ Below w.heap.size w w' := by
  have HG := Bx.mk hg
  have HB := Bx.mk hb
  have hlen := hb.2.1
  have W1 := Bx.mk (fworks_calls w hg)
  clear hb hg
  go_enter Tryd.func4, Tryd.ntmps4
  go_wp2_with (go_at_call 12; fail)
  refine W1.out.mono ?_
  rintro e w1 ⟨rfl, hb1⟩
  have B1 := Bx.mk hb1
  clear hb1 W1
  have HC : Bx (b.length ≤ c) := ⟨hc⟩
  have AM := Bx.mk (Among_calls a1 5000 w1 (by decide) (by decide))
  have hM : amg a1 5000 < 5000 := amg_lt _ _ (by decide)
  generalize amg a1 5000 = M at *
  by_cases h3 : 3000 < b.length
  obtain ⟨L, hL⟩ : ∃ L, L = b.take 3000 := ⟨_, rfl⟩
  have hLl : L.length = 3000 := by rw [hL, List.length_take]; omega
  have k1 : ∀ W, (Instr.slice 22 (.slice A b.length c) none (some (.int .i64 3000)) none).run Tryd.prog W = .ok (.slice A L.length c) W := fun W => by
    rw [hLl]; exact cut_to_bytes A b.length c 3000 (by omega) hc W
  have HL : Bx (RB w1 A L) := ⟨by rw [hL]; exact (HB.out.below B1.out).take 3000⟩
  have HLc : Bx (L.length ≤ c) := ⟨by omega⟩
  have h3i : (3000 : Int) < (b.length : Int) := by omega
  have hLn : L.length ≤ 3000 := by omega
  clear hL hLl
  go_wp2_with (go_at_call 13; fail)
  rotate_left
  obtain ⟨L, rfl⟩ : ∃ L, L = b := ⟨_, rfl⟩
  have h3i : decide ((3000 : Int) < (L.length : Int)) = false := by simp; omega
  have HL : Bx (RB w1 A L) := ⟨HB.out.below B1.out⟩
  have HLc : Bx (L.length ≤ c) := ⟨hc⟩
  have hLn : L.length ≤ 3000 := by omega
  go_wp2_with (go_at_call 13; fail)
  all_goals
    clear h3i h3
    refine AM.out.mono ?_
    rintro e w2 ⟨rfl, rfl⟩
    have HM262 : Bx (M ≤ 262144) := ⟨by omega⟩
    have G1 := Bx.mk (HG.out.below B1.out)
    cases hR : inflN L M with
    | ok u =>
      obtain ⟨x, n⟩ := u
      have hbd := inflN_bounds hR
      have C1 := Bx.mk (Inflate_ok A L c M w1 HL.out HM262.out G1.out HLc.out hR)
      have AM2 := Bx.mk (fun W => Among_calls a2 5000 W (by decide) (by decide))
      have hM2 : amg a2 5000 < 5000 := amg_lt _ _ (by decide)
      generalize amg a2 5000 = D at *
      have C2 := Bx.mk (fun W h1 h2 => Inflate_ok A L c (M + D) W h1 (by omega) h2 HLc.out (inflN_more hR (Nat.le_add_right M D)))
      clear hR
      go_wp2_with (go_at_call 14; fail)
      refine C1.out.mono ?_
      rintro e w3 ⟨v3, rfl, ho3, hb3, hbl3⟩
      have B3 := Bx.mk (below_then B1.out B1.out.size hbl3)
      have HL3 := Bx.mk (HL.out.below hbl3)
      have G3 := Bx.mk (G1.out.below hbl3)
      obtain ⟨A3, c3, rfl⟩ := ho3.form
      have X3 := Bx.mk (ho3.rb hb3 (by omega))
      clear ho3 hb3 hbl3 C1 B1 HL G1 HB HG
      go_wp2_with (go_at_call 13; fail)
      refine (AM2.out w3).mono ?_
      rintro e w4 ⟨rfl, rfl⟩
      have hsum : IntKind.i64.wrap ((M : Int) + (D : Int)) = ((M + D : Nat) : Int) := by rw [IntWalk.i64_in _ (by omega)]; omega
      go_wp2_with (go_at_call 14; fail)
      refine (C2.out w3 HL3.out G3.out).mono ?_
      rintro e w5 ⟨v5, rfl, ho5, hb5, hbl5⟩
      have B5 := Bx.mk (below_then B3.out B3.out.size hbl5)
      obtain ⟨A5, c5, rfl⟩ := ho5.form
      have SB := Bx.mk (SameBytes_calls A3 A5 x x c3 c5 w5 (X3.out.below hbl5) (ho5.rb hb5 (by omega)))
      clear ho5 hb5 hbl5 C2 B3 HL3 G3 AM2
      have hx1 : decide ((M : Int) < (x.length : Int)) = false := by simp; omega
      have hx2 : decide ((L.length : Int) < (n : Int)) = false := by simp; omega
      go_wp2_with (go_at_call 16; fail)
      refine SB.out.mono ?_
      rintro e w6 ⟨rfl, k6, rfl⟩
      have B6 := Bx.mk (below_drewN B5.out k6)
      clear SB B5 X3
      go_wp2
      go_ret
      exact ⟨rfl, B6.out⟩
    | error e1 =>
      have C1 := Bx.mk (Inflate_no A L c M w1 HL.out HM262.out G1.out HLc.out hR)
      have hnz := inflN_nz hR
      have AM2 := Bx.mk (fun W => Among_calls a2 5000 W (by decide) (by decide))
      have hM2 : amg a2 5000 < 5000 := amg_lt _ _ (by decide)
      generalize amg a2 5000 = D at *
      have HM2 := Bx.mk (fun h => inflN_more2 hR (Nat.le_add_right M D) h)
      have he0 : ((e1 : Int) == 0) = false := beq_false_of_ne (by omega)
      clear hR
      go_wp2_with (go_at_call 14; fail)
      refine C1.out.mono ?_
      rintro e w3 ⟨rfl, hbl3⟩
      have B3 := Bx.mk (below_then B1.out B1.out.size hbl3)
      have HL3 := Bx.mk (HL.out.below hbl3)
      have G3 := Bx.mk (G1.out.below hbl3)
      clear hbl3 C1 B1 HL G1 HB HG
      go_wp2_with (go_at_call 13; fail)
      refine (AM2.out w3).mono ?_
      rintro e w4 ⟨rfl, rfl⟩
      have hsum : IntKind.i64.wrap ((M : Int) + (D : Int)) = ((M + D : Nat) : Int) := by rw [IntWalk.i64_in _ (by omega)]; omega
      have C2 : Bx (Calls Tryd.prog 14 #[.slice A L.length c, .int .i64 ((M + D : Nat) : Int)] w3 fun e w' => ∃ (v : Value) (n f : Nat), e = .returned (.tuple #[v, .int .i64 (n : Int), .int .i64 (f : Int)]) ∧ (e1 ≠ 3 → f = e1) ∧ Below w3.heap.size w3 w') := ⟨by
        cases hR2 : inflN L (M + D) with
        | ok u =>
          obtain ⟨x, n⟩ := u
          refine (Inflate_ok A L c (M + D) w3 HL3.out (by omega) G3.out HLc.out hR2).mono ?_
          rintro e w' ⟨v, rfl, -, -, hb⟩
          exact ⟨v, n, 0, rfl, fun h => (by rw [HM2.out h] at hR2; cases hR2), hb⟩
        | error f =>
          refine (Inflate_no A L c (M + D) w3 HL3.out (by omega) G3.out HLc.out hR2).mono ?_
          rintro e w' ⟨rfl, hb⟩
          exact ⟨_, 0, f, rfl, fun h => (by rw [HM2.out h] at hR2; cases hR2; rfl), hb⟩⟩
      go_wp2_with (go_at_call 14; fail)
      refine C2.out.mono ?_
      rintro e w5 ⟨v5, n5, f5, rfl, hf5, hbl5⟩
      have B5 := Bx.mk (below_then B3.out B3.out.size hbl5)
      clear hbl5 C2 B3 HL3 G3 AM2 HM2
      by_cases h33 : e1 = 3
      · have hi3 : ((e1 : Int) == 3) = true := by rw [h33]; rfl
        clear hf5
        subst h33
        go_wp2
        go_ret
        exact ⟨rfl, B5.out⟩
      · have hi3 : ((e1 : Int) == 3) = false := beq_false_of_ne (by omega)
        obtain rfl := hf5 h33
        go_wp2
        go_ret
        exact ⟨rfl, B5.out⟩
end Go.Proofs.YtoekecopfmohiaaDoor
