import Derived.Test.YtkcifjgfgommoaaDoorArrEq
import Derived.Test.YtkcifjgfgommoaaDoorDigRef8
import Derived.Deep.RegionHeld3
/-
  DigestSums: the digest of bytes, its text and the text of a text are the reference's.
-/
namespace Go.Proofs.YtkcifjgfgommoaaDoor
open Go.RowKit

/-- a call's contract in every world that a call may have made out of W0 -/
def Fro (W0 : World) (P : World → Prop) : Prop := ∀ W, Below W0.heap.size W0 W → P W
set_option maxRecDepth 100000 in
set_option maxHeartbeats 4000000 in
theorem DigestSums_calls (B : Option Addr) (b : List Nat) (d : Nat) (w : World) (hB : RB w B b) (hd : b.length ≤ d) (hg : Gl w) :
    Calls Tryd.prog 3 #[.slice B b.length d] w fun e w' => e = .returned (.bool true) ∧ Below w.heap.size w w' := by
  have HG := Bx.mk hg
  have HB := Bx.mk hB
  have hb47 := hB.2.1
  clear hg hB
  go_enter Tryd.func3, Tryd.ntmps3
  go_upto_if 7 with fail
  go_cut [0] (fun s0 wx => wx = w ∧ ∃ (l : List Nat), s0 = .slice B l.length d ∧ l.length ≤ 5000 ∧ l.length ≤ d ∧ Bx (RB w B l))
  case first =>
    by_cases h3 : 5000 < b.length
    · have ct := cut_to_bytes B b.length d 5000 (by omega) hd
      have hl3 : (b.take 5000).length = 5000 := by rw [List.length_take]; omega
      have HL3 := Bx.mk hl3
      clear hl3
      go_wp2
      go_meet
      exact ⟨rfl, b.take 5000, by rw [HL3.out], by rw [HL3.out]; exact Nat.le_refl _, by rw [HL3.out]; omega, ⟨HB.out.take 5000⟩⟩
    · go_wp2
      go_meet
      exact ⟨rfl, b, rfl, by omega, hd, HB⟩
  case rest =>
    obtain ⟨hw0, l, rfl, hl3, hld, RL⟩ := hcut
    obtain rfl : w = wc := hw0.symm
    clear hd hb47 HB
    have HLB := Bx.mk RL.out.1
    have HLN := Bx.mk RL.out.2.1
    have HK : Bx ((keyedN [] l).length = 32) := ⟨outK_len _ _⟩
    have G1 := HG
    have HLD := Bx.mk hld
    have C1 : Bx (Fro w fun W => ∀ A' c', RB W A' l → l.length ≤ c' → Calls Tryd.prog 9 #[.slice A' l.length c'] W fun e w' => e = .returned (.agg (u8s (keyedN [] l))) ∧ Below W.heap.size W w') :=
      ⟨fun W hW A' c' h1 h2 => Sum_calls A' l c' W (G1.out.below hW) h1 h2⟩
    have C2 : Bx (Fro w fun W => Calls Tryd.prog 10 #[.slice B l.length d] W fun e w' => e = .returned (.agg (u8s (keyedN [] l))) ∧ Below W.heap.size W w') :=
      ⟨fun W hW => rSum_calls B l d W (RL.out.below hW) (by omega)⟩
    have C3 : Bx (Fro w fun W => Calls Tryd.prog 11 #[.agg (u8s (keyedN [] l))] W fun e w' => e = .returned (.string (st (hexL (keyedN [] l)))) ∧ Below W.heap.size W w') :=
      ⟨fun W hW => Hex_calls _ W (outK_len _ _) (outK_mem _ _)⟩
    have C4 : Bx (Fro w fun W => Calls Tryd.prog 12 #[.agg (u8s (keyedN [] l))] W fun e w' => e = .returned (.string (st (hexL (keyedN [] l)))) ∧ Below W.heap.size W w') :=
      ⟨fun W hW => rHex_calls _ W (outK_len _ _) (outK_mem _ _)⟩
    have C5 : Bx (Fro w fun W => Calls Tryd.prog 13 #[.string (st l)] W fun e w' => e = .returned (.string (st (hexL (keyedN [] l)))) ∧ Below W.heap.size W w') :=
      ⟨fun W hW => by have := Of_calls (st l) W (G1.out.below hW) (by rw [st_size]; exact RL.out.2.1); rw [sb_st l RL.out.1] at this; exact this⟩
    have C6 : Bx (Fro w fun W => Calls Tryd.prog 14 #[.string (st l)] W fun e w' => e = .returned (.string (st (hexL (keyedN [] l)))) ∧ Below W.heap.size W w') :=
      ⟨fun W hW => by have := rOf_calls (st l) W (by rw [st_size]; omega); rw [sb_st l RL.out.1] at this; exact this⟩
    have C8 : Bx (Fro w fun W => Calls Tryd.prog 16 #[] W fun e w' => e = .returned (.bool true) ∧ Below W.heap.size W w') :=
      ⟨fun W hW => dworks_calls W (G1.out.below hW)⟩
    have CV : Bx (Fro w fun W => (convert 22 9 (.slice B l.length d)).run Tryd.prog W = .ok (.string (st l)) W) :=
      ⟨fun W hW => conv_str W B d l (RL.out.below hW)⟩
    clear HLD hl3 HG G1
    generalize keyedN [] l = K at *
    generalize st (hexL K) = T at *
    generalize st l = SL at *
    go_wp2_with (go_at_call 8; fail)
    refine (Bytes_calls B l d w RL.out).mono ?_
    rintro e w1 ⟨v1, rfl, ho1, hb1⟩
    obtain ⟨A1, c1, rfl⟩ := ho1.form
    have O1 := Bx.mk (ho1.rb HLB.out HLN.out)
    have E1 := Bx.mk hb1
    have HC1 := Bx.mk ho1.cap
    clear ho1 hb1
    go_wp2_with (go_at_call 9; fail)
    refine (C1.out w1 E1.out A1 c1 O1.out HC1.out).mono ?_
    rintro e w2 ⟨rfl, hb2⟩
    have E2 := Bx.mk (below_then E1.out E1.out.size hb2)
    have O2 := Bx.mk (O1.out.below hb2)
    clear hb2 E1 O1
    go_upto_region 5 with ((with_reducible refine wpList_store_new w2 K HK.out ?_ (.tmp 4) (.tmp 13) ?_ ?_ ?_ ?_); rfl; rfl; rfl; rfl; intro w5 k5 hb5)
    have K5 := Bx.mk k5
    have O5 := Bx.mk (O2.out.below hb5)
    have E5 := Bx.mk (below_then E2.out E2.out.size hb5)
    generalize w2.heap.size = q4 at *
    clear k5 hb5 E2 O2
    have R4 : ∀ W, Below w5.heap.size w5 W → W.rangeAt q4 0 (b8 K) := fun W hW => Blk.range (K5.out.below hW K5.out.lt)
    have D2 : Bx (Fro w5 fun W => Calls Tryd.prog 10 #[.slice B l.length d] W fun e w' => e = .returned (.agg (u8s K)) ∧ Below w5.heap.size w5 w') :=
      ⟨fun W hW => (C2.out W (below_then E5.out E5.out.size hW)).mono fun e w' h => ⟨h.1, below_then hW hW.size h.2⟩⟩
    have D3 : Bx (Fro w5 fun W => Calls Tryd.prog 11 #[.agg (u8s K)] W fun e w' => e = .returned (.string T) ∧ Below w5.heap.size w5 w') :=
      ⟨fun W hW => (C3.out W (below_then E5.out E5.out.size hW)).mono fun e w' h => ⟨h.1, below_then hW hW.size h.2⟩⟩
    have D4 : Bx (Fro w5 fun W => Calls Tryd.prog 12 #[.agg (u8s K)] W fun e w' => e = .returned (.string T) ∧ Below w5.heap.size w5 w') :=
      ⟨fun W hW => (C4.out W (below_then E5.out E5.out.size hW)).mono fun e w' h => ⟨h.1, below_then hW hW.size h.2⟩⟩
    have D5 : Bx (Fro w5 fun W => Calls Tryd.prog 13 #[.string SL] W fun e w' => e = .returned (.string T) ∧ Below w5.heap.size w5 w') :=
      ⟨fun W hW => (C5.out W (below_then E5.out E5.out.size hW)).mono fun e w' h => ⟨h.1, below_then hW hW.size h.2⟩⟩
    have D6 : Bx (Fro w5 fun W => Calls Tryd.prog 14 #[.string SL] W fun e w' => e = .returned (.string T) ∧ Below w5.heap.size w5 w') :=
      ⟨fun W hW => (C6.out W (below_then E5.out E5.out.size hW)).mono fun e w' h => ⟨h.1, below_then hW hW.size h.2⟩⟩
    have D7 : Bx (Fro w5 fun W => Calls Tryd.prog 15 #[.slice A1 l.length c1, .slice B l.length d] W fun e w' => e = .returned (.bool true) ∧ Below w5.heap.size w5 w') :=
      ⟨fun W hW => (SameBytes_calls A1 B l l c1 d W (O5.out.below hW) (RL.out.below (below_then E5.out E5.out.size hW))).mono fun e w' h => ⟨by rw [h.1, decide_eq_true rfl], by obtain ⟨_, k, rfl⟩ := h; exact below_drewN hW k⟩⟩
    have D8 : Bx (Fro w5 fun W => Calls Tryd.prog 16 #[] W fun e w' => e = .returned (.bool true) ∧ Below w5.heap.size w5 w') :=
      ⟨fun W hW => (C8.out W (below_then E5.out E5.out.size hW)).mono fun e w' h => ⟨h.1, below_then hW hW.size h.2⟩⟩
    have DV : Bx (Fro w5 fun W => (convert 22 9 (.slice B l.length d)).run Tryd.prog W = .ok (.string SL) W) := ⟨fun W hW => CV.out W (below_then E5.out E5.out.size hW)⟩
    have EQ : ∀ W, (binOp .eql 24 (.agg (u8s K)) (.agg (u8s K))).run Tryd.prog W = .ok (.bool true) W := fun W => by rw [eql_u8s K K HK.out HK.out, decide_eq_true rfl]
    have EQ3 : ∀ W, (binOp .eql 24 (.agg (b8 K).toArray) (.agg (u8s K))).run Tryd.prog W = .ok (.bool true) W := EQ
    have hseq : (T.toList == T.toList) = true := beq_self_eq_true _
    have E6 : Below w5.heap.size w5 w5 := Below.refl _ _
    have E7 : Below w5.heap.size w5 w5.drew := E6.drew
    have HL4 := Bx.mk R4
    have HHI := Bx.mk (infoO K HK.out)
    clear C1 C2 C3 C4 C5 C6 C8 CV R4 RL O5 HLB HLN
    refine wp_region_noPanic ?_
    refine wp_region_held_drew (S := fun x => Below w5.heap.size w5 x) (by kernel_rfl) (by first | assumption | exact Below.drew (by assumption)) (fun _ => ?_)
    refine takeH (i := 0) rfl rfl (by kernel_rfl) (by kernel_rfl) (by kernel_rfl) (fun _ _ _ h => h) (yieldsIf_load_mid (by rfl) 24 _ rfl q4 0 rfl (b8 K) (.array 32 5) (fun W h => HL4.out W h) (by kernel_rfl) rfl HHI.out) (by assumption) ?_
    simp only [List.setIfInBounds_toArray, List.set_cons_zero, List.set_cons_succ]
    refine takeH (i := 1) (v := ?_) rfl rfl (by kernel_rfl) (by kernel_rfl) (by kernel_rfl) (fun _ _ _ h => h) (Or.inl ⟨by rfl, ?_⟩) (by assumption) ?_
    rotate_left
    · (intro w hSw; go_simp; first | done | with_reducible rfl)
    simp only [List.setIfInBounds_toArray, List.set_cons_zero, List.set_cons_succ]
    refine wpAnyH_ready (rs := [2]) (by kernel_rfl) (by simp) ?_
    refine AllReadyH.cons rfl (fun K hK => ?_) AllReadyH.nil
    go_simp
    refine (D2.out _ (by assumption)).mono ?_
    rintro e wN ⟨rfl, hc2⟩
    go_wp2_with fail
    refine hK.out _ _ (by assumption) (fun _ => ?_)
    clear hK K
    refine takeH (i := 3) (v := ?_) rfl rfl (by kernel_rfl) (by kernel_rfl) (by kernel_rfl) (fun _ _ _ h => h) (Or.inl ⟨by rfl, ?_⟩) (by assumption) ?_
    rotate_left
    · (intro w hSw; go_simp; first | done | with_reducible rfl)
    simp only [List.setIfInBounds_toArray, List.set_cons_zero, List.set_cons_succ]
    refine takeH (i := 4) (v := ?_) rfl rfl (by kernel_rfl) (by kernel_rfl) (by kernel_rfl) (fun _ _ _ h => h) (Or.inl ⟨by rfl, ?_⟩) (by assumption) ?_
    rotate_left
    · (intro w hSw; go_simp; first | done | with_reducible rfl)
    simp only [List.setIfInBounds_toArray, List.set_cons_zero, List.set_cons_succ]
    refine takeH (i := 5) rfl rfl (by kernel_rfl) (by kernel_rfl) (by kernel_rfl) (fun _ _ _ h => h) (yieldsIf_load_mid (by rfl) 24 _ rfl q4 0 rfl (b8 K) (.array 32 5) (fun W h => HL4.out W h) (by kernel_rfl) rfl HHI.out) (by assumption) ?_
    simp only [List.setIfInBounds_toArray, List.set_cons_zero, List.set_cons_succ]
    refine takeH (i := 7) rfl rfl (by kernel_rfl) (by kernel_rfl) (by kernel_rfl) (fun _ _ _ h => h) (yieldsIf_load_mid (by rfl) 24 _ rfl q4 0 rfl (b8 K) (.array 32 5) (fun W h => HL4.out W h) (by kernel_rfl) rfl HHI.out) (by assumption) ?_
    simp only [List.setIfInBounds_toArray, List.set_cons_zero, List.set_cons_succ]
    refine wpAnyH_ready (rs := [6]) (by kernel_rfl) (by simp) ?_
    refine AllReadyH.cons rfl (fun K hK => ?_) AllReadyH.nil
    go_simp
    refine (D3.out _ (by assumption)).mono ?_
    rintro e wN ⟨rfl, hc3⟩
    go_wp2_with fail
    refine hK.out _ _ (by assumption) (fun _ => ?_)
    clear hK K
    refine wpAnyH_ready (rs := [8]) (by kernel_rfl) (by simp) ?_
    refine AllReadyH.cons rfl (fun K hK => ?_) AllReadyH.nil
    go_simp
    refine (D4.out _ (by assumption)).mono ?_
    rintro e wN ⟨rfl, hc4⟩
    go_wp2_with fail
    refine hK.out _ _ (by assumption) (fun _ => ?_)
    clear hK K
    refine takeH (i := 9) (v := ?_) rfl rfl (by kernel_rfl) (by kernel_rfl) (by kernel_rfl) (fun _ _ _ h => h) (Or.inl ⟨by rfl, ?_⟩) (by assumption) ?_
    rotate_left
    · (intro w hSw; go_simp; first | done | with_reducible rfl)
    simp only [List.setIfInBounds_toArray, List.set_cons_zero, List.set_cons_succ]
    refine takeH (i := 10) (v := ?_) rfl rfl (by kernel_rfl) (by kernel_rfl) (by kernel_rfl) (fun _ _ _ h => h) (Or.inl ⟨by rfl, ?_⟩) (by assumption) ?_
    rotate_left
    · (intro w hSw; go_simp; first | done | with_reducible rfl)
    simp only [List.setIfInBounds_toArray, List.set_cons_zero, List.set_cons_succ]
    refine takeH (i := 11) (v := ?_) rfl rfl (by kernel_rfl) (by kernel_rfl) (by kernel_rfl) (fun _ _ _ h => h) (Or.inl ⟨by rfl, ?_⟩) (by assumption) ?_
    rotate_left
    · (intro w hSw; go_simp; first | done | with_reducible rfl)
    simp only [List.setIfInBounds_toArray, List.set_cons_zero, List.set_cons_succ]
    refine takeH (i := 12) (v := ?_) rfl rfl (by kernel_rfl) (by kernel_rfl) (by kernel_rfl) (fun _ _ _ h => h) (Or.inl ⟨by rfl, ?_⟩) (by assumption) ?_
    rotate_left
    · (intro w hSw; go_simp; first | done | with_reducible rfl)
    simp only [List.setIfInBounds_toArray, List.set_cons_zero, List.set_cons_succ]
    refine takeH (i := 13) (v := ?_) rfl rfl (by kernel_rfl) (by kernel_rfl) (by kernel_rfl) (fun _ _ _ h => h) (Or.inl ⟨by rfl, ?_⟩) (by assumption) ?_
    rotate_left
    · (intro w hSw; have hcv := DV.out w hSw; go_simp; first | done | with_reducible rfl)
    simp only [List.setIfInBounds_toArray, List.set_cons_zero, List.set_cons_succ]
    refine takeH (i := 15) (v := ?_) rfl rfl (by kernel_rfl) (by kernel_rfl) (by kernel_rfl) (fun _ _ _ h => h) (Or.inl ⟨by rfl, ?_⟩) (by assumption) ?_
    rotate_left
    · (intro w hSw; go_simp; first | done | with_reducible rfl)
    simp only [List.setIfInBounds_toArray, List.set_cons_zero, List.set_cons_succ]
    refine takeH (i := 16) (v := ?_) rfl rfl (by kernel_rfl) (by kernel_rfl) (by kernel_rfl) (fun _ _ _ h => h) (Or.inl ⟨by rfl, ?_⟩) (by assumption) ?_
    rotate_left
    · (intro w hSw; have hcv := DV.out w hSw; go_simp; first | done | with_reducible rfl)
    simp only [List.setIfInBounds_toArray, List.set_cons_zero, List.set_cons_succ]
    refine wpAnyH_ready (rs := [14]) (by kernel_rfl) (by simp) ?_
    refine AllReadyH.cons rfl (fun K hK => ?_) AllReadyH.nil
    go_simp
    refine (D5.out _ (by assumption)).mono ?_
    rintro e wN ⟨rfl, hc5⟩
    go_wp2_with fail
    refine hK.out _ _ (by assumption) (fun _ => ?_)
    clear hK K
    refine wpAnyH_ready (rs := [17]) (by kernel_rfl) (by simp) ?_
    refine AllReadyH.cons rfl (fun K hK => ?_) AllReadyH.nil
    go_simp
    refine (D6.out _ (by assumption)).mono ?_
    rintro e wN ⟨rfl, hc6⟩
    go_wp2_with fail
    refine hK.out _ _ (by assumption) (fun _ => ?_)
    clear hK K
    refine takeH (i := 18) (v := ?_) rfl rfl (by kernel_rfl) (by kernel_rfl) (by kernel_rfl) (fun _ _ _ h => h) (Or.inl ⟨by rfl, ?_⟩) (by assumption) ?_
    rotate_left
    · (intro w hSw; go_simp; first | done | with_reducible rfl)
    simp only [List.setIfInBounds_toArray, List.set_cons_zero, List.set_cons_succ]
    refine takeH (i := 19) (v := ?_) rfl rfl (by kernel_rfl) (by kernel_rfl) (by kernel_rfl) (fun _ _ _ h => h) (Or.inl ⟨by rfl, ?_⟩) (by assumption) ?_
    rotate_left
    · (intro w hSw; go_simp; first | done | with_reducible rfl)
    simp only [List.setIfInBounds_toArray, List.set_cons_zero, List.set_cons_succ]
    refine takeH (i := 20) (v := ?_) rfl rfl (by kernel_rfl) (by kernel_rfl) (by kernel_rfl) (fun _ _ _ h => h) (Or.inl ⟨by rfl, ?_⟩) (by assumption) ?_
    rotate_left
    · (intro w hSw; go_simp; first | done | with_reducible rfl)
    simp only [List.setIfInBounds_toArray, List.set_cons_zero, List.set_cons_succ]
    refine takeH (i := 21) (v := ?_) rfl rfl (by kernel_rfl) (by kernel_rfl) (by kernel_rfl) (fun _ _ _ h => h) (Or.inl ⟨by rfl, ?_⟩) (by assumption) ?_
    rotate_left
    · (intro w hSw; go_simp; first | done | with_reducible rfl)
    simp only [List.setIfInBounds_toArray, List.set_cons_zero, List.set_cons_succ]
    refine takeH (i := 22) (v := ?_) rfl rfl (by kernel_rfl) (by kernel_rfl) (by kernel_rfl) (fun _ _ _ h => h) (Or.inl ⟨by rfl, ?_⟩) (by assumption) ?_
    rotate_left
    · (intro w hSw; go_simp; first | done | with_reducible rfl)
    simp only [List.setIfInBounds_toArray, List.set_cons_zero, List.set_cons_succ]
    refine wpAnyH_ready (rs := [23]) (by kernel_rfl) (by simp) ?_
    refine AllReadyH.cons rfl (fun K hK => ?_) AllReadyH.nil
    go_simp
    refine (D7.out _ (by assumption)).mono ?_
    rintro e wN ⟨rfl, hc7⟩
    go_wp2_with fail
    refine hK.out _ _ (by assumption) (fun _ => ?_)
    clear hK K
    refine takeH (i := 24) (v := ?_) rfl rfl (by kernel_rfl) (by kernel_rfl) (by kernel_rfl) (fun _ _ _ h => h) (Or.inl ⟨by rfl, ?_⟩) (by assumption) ?_
    rotate_left
    · (intro w hSw; go_simp; first | done | with_reducible rfl)
    simp only [List.setIfInBounds_toArray, List.set_cons_zero, List.set_cons_succ]
    refine takeH (i := 25) (v := ?_) rfl rfl (by kernel_rfl) (by kernel_rfl) (by kernel_rfl) (fun _ _ _ h => h) (Or.inl ⟨by rfl, ?_⟩) (by assumption) ?_
    rotate_left
    · (intro w hSw; go_simp; first | done | with_reducible rfl)
    simp only [List.setIfInBounds_toArray, List.set_cons_zero, List.set_cons_succ]
    refine wpAnyH_ready (rs := [26]) (by kernel_rfl) (by simp) ?_
    refine AllReadyH.cons rfl (fun K hK => ?_) AllReadyH.nil
    go_simp
    refine (D8.out _ (by assumption)).mono ?_
    rintro e wN ⟨rfl, hc8⟩
    go_wp2_with fail
    refine hK.out _ _ (by assumption) (fun _ => ?_)
    clear hK K
    refine takeH (i := 27) (v := ?_) rfl rfl (by kernel_rfl) (by kernel_rfl) (by kernel_rfl) (fun _ _ _ h => h) (Or.inl ⟨by rfl, ?_⟩) (by assumption) ?_
    rotate_left
    · (intro w hSw; go_simp; first | done | with_reducible rfl)
    simp only [List.setIfInBounds_toArray, List.set_cons_zero, List.set_cons_succ]
    refine takeH (i := 28) (v := ?_) rfl rfl (by kernel_rfl) (by kernel_rfl) (by kernel_rfl) (fun _ _ _ h => h) (Or.inl ⟨by rfl, ?_⟩) (by assumption) ?_
    rotate_left
    · (intro w hSw; go_simp; first | done | with_reducible rfl)
    simp only [List.setIfInBounds_toArray, List.set_cons_zero, List.set_cons_succ]
    refine wpAnyH_done (by kernel_rfl) ?_ _
    refine NoPanic.normal ?_
    go_wp2
    go_ret
    exact ⟨rfl, below_then E5.out E5.out.size hc8⟩
end Go.Proofs.YtkcifjgfgommoaaDoor
