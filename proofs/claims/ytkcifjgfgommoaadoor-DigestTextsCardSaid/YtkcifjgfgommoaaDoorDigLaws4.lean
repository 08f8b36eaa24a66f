import Derived.Test.YtkcifjgfgommoaaDoorArrEq
import Derived.Test.YtkcifjgfgommoaaDoorDigRef7
import Derived.Test.YtkcifjgfgommoaaDoorDigRef8
/-
  DigestTexts: texts are read, and told apart, as the reference does.
-/
namespace Go.Proofs.YtkcifjgfgommoaaDoor
open Go.RowKit

theorem parseN_len (L : List Nat) : (parseN L).1.length = 32 := by
  unfold parseN
  split
  · exact parK_len _ _
  · rfl
theorem txt_same (s T : ByteArray) : (s.toList == T.toList) = decide (s = T) := by
  rw [Bool.eq_iff_iff, beq_iff_eq, decide_eq_true_iff]
  constructor
  · intro h
    rw [ByteArray.toList_eq, ByteArray.toList_eq] at h
    exact ByteArray.ext (Array.toList_inj.1 h)
  · intro h; rw [h]
set_option maxRecDepth 100000 in
set_option maxHeartbeats 4000000 in
theorem DigestTexts_calls (s : ByteArray) (B : Option Addr) (b : List Nat) (d : Nat) (w : World) (_hs : s.size ≤ 140737488351232) (hB : RB w B b) (hd : b.length ≤ d) (hg : Gl w) :
    Calls Tryd.prog 7 #[.string s, .slice B b.length d] w fun e w' => e = .returned (.bool true) ∧ Below w.heap.size w w' := by
  have HG := Bx.mk hg
  have HB := Bx.mk hB
  have hb47 := hB.2.1
  have HPC := Bx.mk (fun W => Parse_calls s W)
  have HRC := Bx.mk (fun W => rParse_calls s W)
  have HR := Bx.mk (parseN_len (sb s))
  clear hg hB
  generalize parseN (sb s) = PP at *
  obtain ⟨K, n⟩ := PP
  go_enter Tryd.func7, Tryd.ntmps7
  go_upto_if 12 with fail
  go_cut [1] (fun s1 wx => wx = w ∧ ∃ (l : List Nat), s1 = .slice B l.length d ∧ l.length ≤ 5000 ∧ l.length ≤ d ∧ Bx (RB w B l))
  case first =>
    by_cases h3 : 5000 < b.length
    · have ct := cut_to_bytes B b.length d 5000 (by omega) hd
      have hl3 : (b.take 5000).length = 5000 := by rw [List.length_take]; omega
      have HL3 := Bx.mk hl3
      clear hl3
      go_wp2
      go_meet
      exact ⟨rfl, b.take 5000, by rw [HL3.out], by rw [HL3.out]; exact Nat.le_refl _, by rw [HL3.out]; omega, ⟨HB.out.take 5000⟩⟩
    · go_wp2
      go_meet
      exact ⟨rfl, b, rfl, by omega, hd, HB⟩
  case rest =>
    obtain ⟨hw0, l, rfl, hl3, hld, RL⟩ := hcut
    obtain rfl : w = wc := hw0.symm
    clear hd hb47 HB
    have C6 : Bx (∀ W, Calls Tryd.prog 14 #[.string (st l)] W fun e w' => e = .returned (.string (st (hexL (keyedN [] l)))) ∧ Below W.heap.size W w') :=
      ⟨fun W => by have := rOf_calls (st l) W (by rw [st_size]; omega); rw [sb_st l RL.out.1] at this; exact this⟩
    have C5 : Bx (∀ W (T : ByteArray), Gl W → RB W B l → Calls Tryd.prog 19 #[.string T, .slice B l.length d] W fun e w' => e = .returned (.bool (decide (T = st (hexL (keyedN [] l))))) ∧ Below W.heap.size W w') :=
      ⟨fun W T h1 h2 => Same_calls T B l d W h1 h2⟩
    generalize st (hexL (keyedN [] l)) = T at *
    have hst := Bx.mk (txt_same s T)
    have hnn : (n == n) = true := beq_self_eq_true n
    have EQ : ∀ W, (binOp .eql 24 (.agg (u8s K)) (.agg (u8s K))).run Tryd.prog W = .ok (.bool true) W := fun W => by rw [eql_u8s K K HR.out HR.out, decide_eq_true rfl]
    have HCV : Bx (∀ W, RB W B l → (convert 22 9 (.slice B l.length d)).run Tryd.prog W = .ok (.string (st l)) W) := ⟨fun W h => conv_str W B d l h⟩
    clear hl3
    generalize st l = SL at *
    go_wp2_with (go_at_call 20; fail)
    refine (HPC.out w).mono ?_
    rintro e w1 ⟨rfl, hb1⟩
    have E1 := Bx.mk hb1
    clear hb1
    go_wp2_with (first | ((with_reducible refine wpList_store_new w1 K HR.out ?_ (.tmp 5) (.tmp 18) ?_ ?_ ?_ ?_); rfl; rfl; rfl; rfl; intro w4 k4 hb4) | (go_at_call 21; fail))
    have K4 := Bx.mk k4
    have E4 := Bx.mk (below_then E1.out E1.out.size hb4)
    generalize w1.heap.size = q5 at *
    clear k4 hb4 E1
    refine (HRC.out w4).mono ?_
    rintro e w5 ⟨rfl, hb5⟩
    have E5 := Bx.mk (below_then E4.out E4.out.size hb5)
    have K5 := Bx.mk (K4.out.below hb5 K4.out.lt)
    clear hb5 E4 K4
    go_upto_region 5 with ((with_reducible refine wpList_store_new w5 K HR.out ?_ (.tmp 7) (.tmp 23) ?_ ?_ ?_ ?_); rfl; rfl; rfl; rfl; intro w6 k6 hb6)
    have K6 := Bx.mk k6
    have E6 := Bx.mk (below_then E5.out E5.out.size hb6)
    have K56 := Bx.mk (K5.out.below hb6 K5.out.lt)
    generalize w5.heap.size = q7 at *
    clear k6 hb6 E5 K5
    have hcv := HCV.out w6 (RL.out.below E6.out)
    go_wp2_with (go_at_call 14; fail)
    refine (C6.out w6).mono ?_
    rintro e w7 ⟨rfl, hb7⟩
    have E7 := Bx.mk (below_then E6.out E6.out.size hb7)
    have K7 := K6.out.below hb7 K6.out.lt
    have K57 := K56.out.below hb7 K56.out.lt
    clear hb7 E6 K6 K56 hcv
    go_wp2_with (first | ((with_reducible refine wpList_load_arr (op := ⟨some 28, _, _, _, _, _⟩) q5 K K57 HR.out ?_ (.tmp 5) ?_ ?_ ?_); rfl; rfl; rfl) | ((with_reducible refine wpList_load_arr (op := ⟨some 29, _, _, _, _, _⟩) q7 K K7 HR.out ?_ (.tmp 7) ?_ ?_ ?_); rfl; rfl; rfl) | (go_at_call 19; fail))
    refine (C5.out w7 s (HG.out.below E7.out) (RL.out.below E7.out)).mono ?_
    rintro e w8 ⟨rfl, hb8⟩
    have E8 := Bx.mk (below_then E7.out E7.out.size hb8)
    clear hb8
    have hst' := hst.out
    have hbb : (decide (s = T) == decide (s = T)) = true := beq_self_eq_true _
    generalize decide (s = T) = DB at *
    go_wp2_with (go_at_call 19; fail)
    refine (C5.out w8 T (HG.out.below E8.out) (RL.out.below E8.out)).mono ?_
    rintro e w9 ⟨rfl, hb9⟩
    have E9 := Bx.mk (below_then E8.out E8.out.size hb9)
    clear hb9
    rw [decide_eq_true rfl]
    go_wp2_with (go_at_call 16; fail)
    refine (dworks_calls w9 (HG.out.below E9.out)).mono ?_
    rintro e w10 ⟨rfl, hb10⟩
    go_wp2
    go_ret
    exact ⟨rfl, below_then E9.out E9.out.size hb10⟩
end Go.Proofs.YtkcifjgfgommoaaDoor
