import Derived.Test.YtkcifjgfgommoaaDoorArrEq
import Derived.Test.YtkcifjgfgommoaaDoorDigRef6
/-
  DigestKeys: with a key it is as the reference's, and what it was given stays.
-/
namespace Go.Proofs.YtkcifjgfgommoaaDoor
open Go.RowKit

/-- what Keyed answers, with any key -/
def keyR (k b : List Nat) : List Nat × Int := if k.length ≤ 32 then (keyedN k b, 0) else (Z32, 2)
theorem keyR_len (k b : List Nat) : (keyR k b).1.length = 32 := by
  unfold keyR
  split
  · exact outK_len _ _
  · rfl
theorem Keyed_any (A B : Option Addr) (key b : List Nat) (c d : Nat) (w : World) (hg : Gl w) (hA : RB w A key) (hB : RB w B b) (hd : b.length ≤ d) :
    Calls Tryd.prog 17 #[.slice A key.length c, .slice B b.length d] w fun e w' =>
      e = .returned (.tuple #[.agg (u8s (keyR key b).1), .int .i64 (keyR key b).2]) ∧ Below w.heap.size w w' := by
  unfold keyR
  split
  · exact Keyed_calls A B key b c d w hg (by assumption) hA hB hd
  · exact Keyed_long A B key b c d w (by omega)
theorem rKeyed_any (A B : Option Addr) (key b : List Nat) (c d : Nat) (w : World) (hA : RB w A key) (hB : RB w B b) (hb5 : b.length ≤ 20000) :
    Calls Tryd.prog 18 #[.slice A key.length c, .slice B b.length d] w fun e w' =>
      e = .returned (.tuple #[.agg (u8s (keyR key b).1), .int .i64 (keyR key b).2]) ∧ Below w.heap.size w w' := by
  unfold keyR
  split
  · exact rKeyed_calls A B key b c d w (by assumption) hA hB hb5
  · exact rKeyed_long A B key b c d w (by omega)
set_option maxRecDepth 100000 in
set_option maxHeartbeats 4000000 in
theorem DigestKeys_calls (A : Option Addr) (key : List Nat) (c : Nat) (B : Option Addr) (b : List Nat) (d : Nat) (w : World) (hA : RB w A key) (_hc : key.length ≤ c) (hB : RB w B b) (hd : b.length ≤ d) (hg : Gl w) :
    Calls Tryd.prog 4 #[.slice A key.length c, .slice B b.length d] w fun e w' => e = .returned (.bool true) ∧ Below w.heap.size w w' := by
  have HG := Bx.mk hg
  have HA := Bx.mk hA
  have HB := Bx.mk hB
  have hb47 := hB.2.1
  clear hg hA hB
  go_enter Tryd.func4, Tryd.ntmps4
  go_upto_if 13 with fail
  go_cut [1] (fun s1 wx => wx = w ∧ ∃ (l : List Nat), s1 = .slice B l.length d ∧ l.length ≤ 5000 ∧ l.length ≤ d ∧ Bx (RB w B l))
  case first =>
    by_cases h3 : 5000 < b.length
    · have ct := cut_to_bytes B b.length d 5000 (by omega) hd
      have hl3 : (b.take 5000).length = 5000 := by rw [List.length_take]; omega
      have HL3 := Bx.mk hl3
      clear hl3
      go_wp2
      go_meet
      exact ⟨rfl, b.take 5000, by rw [HL3.out], by rw [HL3.out]; exact Nat.le_refl _, by rw [HL3.out]; omega, ⟨HB.out.take 5000⟩⟩
    · go_wp2
      go_meet
      exact ⟨rfl, b, rfl, by omega, hd, HB⟩
  case rest =>
    obtain ⟨hw0, l, rfl, hl3, hld, RL⟩ := hcut
    obtain rfl : w = wc := hw0.symm
    clear hd hb47 HB
    have HLB := Bx.mk RL.out.1
    have HLN := Bx.mk RL.out.2.1
    have HKB := Bx.mk HA.out.1
    have HKN := Bx.mk HA.out.2.1
    have HR := Bx.mk (keyR_len key l)
    have KC : Bx (∀ W A' B' c' d', Gl W → RB W A' key → RB W B' l → l.length ≤ d' → Calls Tryd.prog 17 #[.slice A' key.length c', .slice B' l.length d'] W fun e w' =>
      e = .returned (.tuple #[.agg (u8s (keyR key l).1), .int .i64 (keyR key l).2]) ∧ Below W.heap.size W w') := ⟨fun W A' B' c' d' h1 h2 h3 h4 => Keyed_any A' B' key l c' d' W h1 h2 h3 h4⟩
    have RC : Bx (∀ W A' B' c' d', RB W A' key → RB W B' l → Calls Tryd.prog 18 #[.slice A' key.length c', .slice B' l.length d'] W fun e w' =>
      e = .returned (.tuple #[.agg (u8s (keyR key l).1), .int .i64 (keyR key l).2]) ∧ Below W.heap.size W w') := ⟨fun W A' B' c' d' h2 h3 => rKeyed_any A' B' key l c' d' W h2 h3 (by omega)⟩
    clear hl3
    generalize keyR key l = KR at *
    obtain ⟨K, n⟩ := KR
    have EQ : ∀ W, (binOp .eql 24 (.agg (u8s K)) (.agg (u8s K))).run Tryd.prog W = .ok (.bool true) W := fun W => by rw [eql_u8s K K HR.out HR.out, decide_eq_true rfl]
    have hnn : (n == n) = true := beq_self_eq_true n
    go_wp2_with (go_at_call 8; fail)
    refine (Bytes_calls A key c w HA.out).mono ?_
    rintro e w1 ⟨v1, rfl, ho1, hb1⟩
    obtain ⟨A1, c1, rfl⟩ := ho1.form
    have O1 := Bx.mk (ho1.rb HKB.out HKN.out)
    have E1 := Bx.mk hb1
    clear ho1 hb1
    go_wp2_with (go_at_call 8; fail)
    refine (Bytes_calls B l d w1 (RL.out.below E1.out)).mono ?_
    rintro e w2 ⟨v2, rfl, ho2, hb2⟩
    obtain ⟨A2, c2, rfl⟩ := ho2.form
    have HC2 := Bx.mk ho2.cap
    have O2 := Bx.mk (ho2.rb HLB.out HLN.out)
    have O1' := Bx.mk (O1.out.below hb2)
    have E2 := Bx.mk (below_then E1.out E1.out.size hb2)
    clear ho2 hb2 E1 O1
    go_wp2_with (go_at_call 17; fail)
    refine (KC.out w2 _ _ _ _ (HG.out.below E2.out) O1'.out O2.out HC2.out).mono ?_
    rintro e w3 ⟨rfl, hb3⟩
    have E3 := Bx.mk (below_then E2.out E2.out.size hb3)
    have O13 := Bx.mk (O1'.out.below hb3)
    have O23 := Bx.mk (O2.out.below hb3)
    clear hb3 E2 O2 O1' KC
    go_wp2_with (first | ((with_reducible refine wpList_store_new w3 K HR.out ?_ (.tmp 7) (.tmp 24) ?_ ?_ ?_ ?_); rfl; rfl; rfl; rfl; intro w4 k4 hb4) | (go_at_call 18; fail))
    have K4 := Bx.mk k4
    have E4 := Bx.mk (below_then E3.out E3.out.size hb4)
    have O14 := Bx.mk (O13.out.below hb4)
    have O24 := Bx.mk (O23.out.below hb4)
    generalize w3.heap.size = q7 at *
    clear k4 hb4 E3 O13 O23
    refine (RC.out w4 _ _ _ _ (HA.out.below E4.out) (RL.out.below E4.out)).mono ?_
    rintro e w5 ⟨rfl, hb5⟩
    have E5 := Bx.mk (below_then E4.out E4.out.size hb5)
    have K5 := Bx.mk (K4.out.below hb5 K4.out.lt)
    have O15 := Bx.mk (O14.out.below hb5)
    have O25 := Bx.mk (O24.out.below hb5)
    clear hb5 E4 K4 RC O14 O24
    go_upto_region 6 with ((with_reducible refine wpList_store_new w5 K HR.out ?_ (.tmp 9) (.tmp 30) ?_ ?_ ?_ ?_); rfl; rfl; rfl; rfl; intro w6 k6 hb6)
    have K6 := k6
    have E6 := Bx.mk (below_then E5.out E5.out.size hb6)
    have K56 := K5.out.below hb6 K5.out.lt
    have O16 := Bx.mk (O15.out.below hb6)
    have O26 := Bx.mk (O25.out.below hb6)
    generalize w5.heap.size = q9 at *
    clear k6 hb6 E5 K5 O15 O25
    go_wp2_with (first | ((with_reducible refine wpList_load_arr (op := ⟨some 32, _, _, _, _, _⟩) q7 K K56 HR.out ?_ (.tmp 7) ?_ ?_ ?_); rfl; rfl; rfl) | ((with_reducible refine wpList_load_arr (op := ⟨some 33, _, _, _, _, _⟩) q9 K K6 HR.out ?_ (.tmp 9) ?_ ?_ ?_); rfl; rfl; rfl) | (go_at_call 15; fail))
    refine (SameBytes_calls A1 A key key c1 c w6 O16.out (HA.out.below E6.out)).mono ?_
    rintro e w7 ⟨rfl, k7, rfl⟩
    have E7 := Bx.mk (below_drewN E6.out k7)
    have O27 := Bx.mk (O26.out.below (below_drewN (Below.refl _ _) k7))
    generalize w6.drewN k7 = w7 at *
    rw [decide_eq_true rfl]
    go_wp2_with (go_at_call 15; fail)
    refine (SameBytes_calls A2 B l l c2 d w7 O27.out (RL.out.below E7.out)).mono ?_
    rintro e w8 ⟨rfl, k8, rfl⟩
    have E8 := Bx.mk (below_drewN E7.out k8)
    generalize w7.drewN k8 = w8 at *
    rw [decide_eq_true rfl]
    go_wp2_with (go_at_call 16; fail)
    refine (dworks_calls w8 (HG.out.below E8.out)).mono ?_
    rintro e w9 ⟨rfl, hb9⟩
    go_wp2
    go_ret
    exact ⟨rfl, below_then E8.out E8.out.size hb9⟩
end Go.Proofs.YtkcifjgfgommoaaDoor
