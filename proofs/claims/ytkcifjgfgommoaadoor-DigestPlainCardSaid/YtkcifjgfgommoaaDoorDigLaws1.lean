import Derived.Test.YtkcifjgfgommoaaDoorArrEq
import Derived.Deep.RegionHeld3
/-
  DigestPlain: without a key it is as with a key of nothing.
-/
namespace Go.Proofs.YtkcifjgfgommoaaDoor
open Go.RowKit

theorem keyed_len (k b : List Nat) : (keyedN k b).length = 32 := outK_len _ _
theorem keyed_mem (k b : List Nat) : ∀ x ∈ keyedN k b, x < 256 := outK_mem _ _
theorem takeH {ops : Array Oper} {Q : Exit → Act → World → Prop} {md : Region.Mode} {S : World → Prop} {P : Program} {i s : Nat} {oi : Oper} {v : Value} {fuel : Nat} {listed : Array Bool} {tmps : Array Value} {dfs : List Deferred} {w : World} (hi : ops[i]? = some oi) (hd : oi.dst = some s)
    (hs : Region.noSelect ops = true) (hf : Region.free md ops listed i = true) (hr : (Region.ready md ops listed).contains i = true)
    (hQ : ∀ c a w, Q (.panic c) (a.put oi.dst v) w → Q (.panic c) a w) (hy : YieldsIf P ops S oi v ⟨tmps, dfs⟩) (hS : S w)
    (h : wpAnyH P md ops Q S fuel (listed.setIfInBounds i true) ⟨tmps.setIfInBounds s v, dfs⟩ w) : wpAnyH P md ops Q S (fuel + 1) listed ⟨tmps, dfs⟩ w :=
  wpAnyH_take hi hs hf hr hQ hy hS (by rw [hd]; exact h)
/-- a call's contract in every world that a call may have made out of W0 -/
def From (W0 : World) (P : World → Prop) : Prop := ∀ W, Below W0.heap.size W0 W → P W
set_option maxRecDepth 100000 in
set_option maxHeartbeats 4000000 in
theorem DigestPlain_calls (B : Option Addr) (b : List Nat) (d : Nat) (w : World) (hB : RB w B b) (hd : b.length ≤ d) (hg : Gl w) :
    Calls Tryd.prog 5 #[.slice B b.length d] w fun e w' => e = .returned (.bool true) ∧ Below w.heap.size w w' := by
  have HG := Bx.mk hg
  have HB := Bx.mk hB
  have hb47 := hB.2.1
  clear hg hB
  go_enter Tryd.func5, Tryd.ntmps5
  go_wp2_with fail
  refine (dworks_calls w HG.out).mono ?_
  rintro e w1 ⟨rfl, hb1⟩
  have E1 := Bx.mk hb1
  clear hb1
  go_upto_if 11 with fail
  go_cut [0] (fun s0 wx => wx = w1 ∧ ∃ (l : List Nat), s0 = .slice B l.length d ∧ l.length ≤ 20000 ∧ l.length ≤ d ∧ Bx (RB w1 B l))
  case first =>
    have R1 := Bx.mk (HB.out.below E1.out)
    by_cases h3 : 20000 < b.length
    · have ct := cut_to_bytes B b.length d 20000 (by omega) hd
      have hl3 : (b.take 20000).length = 20000 := by rw [List.length_take]; omega
      have HL3 := Bx.mk hl3
      clear hl3
      go_wp2
      go_meet
      exact ⟨rfl, b.take 20000, by rw [HL3.out], by rw [HL3.out]; exact Nat.le_refl _, by rw [HL3.out]; omega, ⟨R1.out.take 20000⟩⟩
    · go_wp2
      go_meet
      exact ⟨rfl, b, rfl, by omega, hd, R1⟩
  case rest =>
    obtain ⟨hw0, l, rfl, hl3, hld, RL⟩ := hcut
    obtain rfl : w1 = wc := hw0.symm
    clear hd hb47 HB
    have G1 := Bx.mk (HG.out.below E1.out)
    have HK := Bx.mk (keyed_len [] l)
    have HM := Bx.mk (keyed_mem [] l)
    have HLD := Bx.mk hld
    have C1 : Bx (From w1 fun W => Calls Tryd.prog 17 #[.slice none 0 0, .slice B l.length d] W fun e w' => e = .returned (.tuple #[.agg (u8s (keyedN [] l)), .int .i64 0]) ∧ Below W.heap.size W w') :=
      ⟨fun W hW => Keyed_calls none B [] l 0 d W (G1.out.below hW) (by decide) (RB.nil _ _) (RL.out.below hW) HLD.out⟩
    have C2 : Bx (From w1 fun W => ∀ A : Option Addr, ∀ c : Nat, Calls Tryd.prog 17 #[.slice A 0 c, .slice B l.length d] W fun e w' => e = .returned (.tuple #[.agg (u8s (keyedN [] l)), .int .i64 0]) ∧ Below W.heap.size W w') :=
      ⟨fun W hW A c => Keyed_calls A B [] l c d W (G1.out.below hW) (by decide) (RB.nil _ _) (RL.out.below hW) HLD.out⟩
    have C3 : Bx (From w1 fun W => Calls Tryd.prog 9 #[.slice B l.length d] W fun e w' => e = .returned (.agg (u8s (keyedN [] l))) ∧ Below W.heap.size W w') :=
      ⟨fun W hW => Sum_calls B l d W (G1.out.below hW) (RL.out.below hW) HLD.out⟩
    have C4 : Bx (From w1 fun W => Calls Tryd.prog 11 #[.agg (u8s (keyedN [] l))] W fun e w' => e = .returned (.string (st (hexL (keyedN [] l)))) ∧ Below W.heap.size W w') :=
      ⟨fun W hW => Hex_calls _ W (keyed_len _ _) (keyed_mem _ _)⟩
    have C5 : Bx (From w1 fun W => Calls Tryd.prog 19 #[.string (st (hexL (keyedN [] l))), .slice B l.length d] W fun e w' => e = .returned (.bool true) ∧ Below W.heap.size W w') :=
      ⟨fun W hW => (Same_calls (st (hexL (keyedN [] l))) B l d W (G1.out.below hW) (RL.out.below hW)).mono fun e w' h => ⟨by rw [h.1, decide_eq_true rfl], h.2⟩⟩
    clear G1 HLD HM
    generalize keyedN [] l = K at *
    generalize st (hexL K) = T at *
    go_wp2_with fail
    refine (C1.out w1 (Below.refl _ _)).mono ?_
    rintro e w2 ⟨rfl, hb2⟩
    have E2 := Bx.mk (hb2.mono (Nat.le_refl _))
    clear hb2
    go_wp2_with (first | ((with_reducible refine wpList_store_new w2 K HK.out ?_ (.tmp 3) (.tmp 17) ?_ ?_ ?_ ?_); rfl; rfl; rfl; rfl; intro w3 k3 hb3) | (go_at_call 17; fail))
    have K3 := Bx.mk k3
    have E3 := Bx.mk (below_then E2.out E2.out.size hb3)
    have E3' := Bx.mk (below_then E3.out E3.out.size (below_alloc1 w3 (.cells #[] 5)))
    generalize w2.heap.size = q3 at *
    clear k3 hb3
    refine (C2.out _ E3'.out _ _).mono ?_
    rintro e w4 ⟨rfl, hb4⟩
    have E4 := Bx.mk (below_then E3'.out E3'.out.size hb4)
    have K4 := Bx.mk ((K3.out.alloc (.cells #[] 5)).below hb4 (by simp; have := K3.out.lt; omega))
    clear hb4 K3 E3 E3'
    go_upto_region 7 with ((with_reducible refine wpList_store_new w4 K HK.out ?_ (.tmp 5) (.tmp 23) ?_ ?_ ?_ ?_); rfl; rfl; rfl; rfl; intro w5 k5 hb5)
    have K5 := Bx.mk k5
    have K5' := Bx.mk (K4.out.below hb5 K4.out.lt)
    have E5 := Bx.mk (below_then E4.out E4.out.size hb5)
    generalize w4.heap.size = q5 at *
    clear k5 hb5 K4 E4
    have R3 : Bx (From w5 fun W => W.rangeAt q3 0 (b8 K)) := ⟨fun W hW => Blk.range (K5'.out.below hW K5'.out.lt)⟩
    have R5 : Bx (From w5 fun W => W.rangeAt q5 0 (b8 K)) := ⟨fun W hW => Blk.range (K5.out.below hW K5.out.lt)⟩
    have D3 : Bx (From w5 fun W => Calls Tryd.prog 9 #[.slice B l.length d] W fun e w' => e = .returned (.agg (u8s K)) ∧ Below w5.heap.size w5 w') :=
      ⟨fun W hW => (C3.out W (below_then E5.out E5.out.size hW)).mono fun e w' h => ⟨h.1, below_then hW hW.size h.2⟩⟩
    have D4 : Bx (From w5 fun W => Calls Tryd.prog 11 #[.agg (u8s K)] W fun e w' => e = .returned (.string T) ∧ Below w5.heap.size w5 w') :=
      ⟨fun W hW => (C4.out W (below_then E5.out E5.out.size hW)).mono fun e w' h => ⟨h.1, below_then hW hW.size h.2⟩⟩
    have D5 : Bx (From w5 fun W => Calls Tryd.prog 19 #[.string T, .slice B l.length d] W fun e w' => e = .returned (.bool true) ∧ Below w5.heap.size w5 w') :=
      ⟨fun W hW => (C5.out W (below_then E5.out E5.out.size hW)).mono fun e w' h => ⟨h.1, below_then hW hW.size h.2⟩⟩
    have EQ : ∀ W, (binOp .eql 24 (.agg (u8s K)) (.agg (u8s K))).run Tryd.prog W = .ok (.bool true) W := fun W => by rw [eql_u8s K K HK.out HK.out, decide_eq_true rfl]
    have EQ2 : ∀ W, (binOp .eql 24 (.agg (b8 K).toArray) (.agg (b8 K).toArray)).run Tryd.prog W = .ok (.bool true) W := EQ
    have EQ3 : ∀ W, (binOp .eql 24 (.agg (b8 K).toArray) (.agg (u8s K))).run Tryd.prog W = .ok (.bool true) W := EQ
    have E6 : Below w5.heap.size w5 w5 := Below.refl _ _
    have E7 : Below w5.heap.size w5 w5.drew := E6.drew
    have L3 : ∀ W, Below w5.heap.size w5 W → W.rangeAt q3 0 (b8 K) := R3.out
    have L5 : ∀ W, Below w5.heap.size w5 W → W.rangeAt q5 0 (b8 K) := R5.out
    have HI := infoO K HK.out
    have HL3 := Bx.mk L3
    have HL5 := Bx.mk L5
    have HHI := Bx.mk HI
    clear C1 C2 C3 C4 C5 L3 L5 HI
    refine wp_region_noPanic ?_
    refine wp_region_held_drew (S := fun x => Below w5.heap.size w5 x) (by kernel_rfl) (by first | assumption | exact Below.drew (by assumption)) (fun _ => ?_)
    refine takeH (i := 0) (v := ?_) rfl rfl (by kernel_rfl) (by kernel_rfl) (by kernel_rfl) (fun _ _ _ h => h) (Or.inl ⟨by rfl, ?_⟩) (by assumption) ?_
    rotate_left
    · (intro w hSw; go_simp; first | done | with_reducible rfl)
    simp only [List.setIfInBounds_toArray, List.set_cons_zero, List.set_cons_succ]
    refine takeH (i := 1) (v := ?_) rfl rfl (by kernel_rfl) (by kernel_rfl) (by kernel_rfl) (fun _ _ _ h => h) (Or.inl ⟨by rfl, ?_⟩) (by assumption) ?_
    rotate_left
    · (intro w hSw; go_simp; first | done | with_reducible rfl)
    simp only [List.setIfInBounds_toArray, List.set_cons_zero, List.set_cons_succ]
    refine takeH (i := 2) (v := ?_) rfl rfl (by kernel_rfl) (by kernel_rfl) (by kernel_rfl) (fun _ _ _ h => h) (Or.inl ⟨by rfl, ?_⟩) (by assumption) ?_
    rotate_left
    · (intro w hSw; go_simp; first | done | with_reducible rfl)
    simp only [List.setIfInBounds_toArray, List.set_cons_zero, List.set_cons_succ]
    refine takeH (i := 3) (v := ?_) rfl rfl (by kernel_rfl) (by kernel_rfl) (by kernel_rfl) (fun _ _ _ h => h) (Or.inl ⟨by rfl, ?_⟩) (by assumption) ?_
    rotate_left
    · (intro w hSw; go_simp; first | done | with_reducible rfl)
    simp only [List.setIfInBounds_toArray, List.set_cons_zero, List.set_cons_succ]
    refine takeH (i := 4) (v := ?_) rfl rfl (by kernel_rfl) (by kernel_rfl) (by kernel_rfl) (fun _ _ _ h => h) (Or.inl ⟨by rfl, ?_⟩) (by assumption) ?_
    rotate_left
    · (intro w hSw; go_simp; first | done | with_reducible rfl)
    simp only [List.setIfInBounds_toArray, List.set_cons_zero, List.set_cons_succ]
    refine takeH (i := 5) (v := ?_) rfl rfl (by kernel_rfl) (by kernel_rfl) (by kernel_rfl) (fun _ _ _ h => h) (Or.inl ⟨by rfl, ?_⟩) (by assumption) ?_
    rotate_left
    · (intro w hSw; go_simp; first | done | with_reducible rfl)
    simp only [List.setIfInBounds_toArray, List.set_cons_zero, List.set_cons_succ]
    refine takeH (i := 6) (v := ?_) rfl rfl (by kernel_rfl) (by kernel_rfl) (by kernel_rfl) (fun _ _ _ h => h) (Or.inl ⟨by rfl, ?_⟩) (by assumption) ?_
    rotate_left
    · (intro w hSw; go_simp; first | done | with_reducible rfl)
    simp only [List.setIfInBounds_toArray, List.set_cons_zero, List.set_cons_succ]
    refine takeH (i := 7) rfl rfl (by kernel_rfl) (by kernel_rfl) (by kernel_rfl) (fun _ _ _ h => h) (yieldsIf_load_mid (by rfl) 24 _ rfl q3 0 rfl (b8 K) (.array 32 5) (fun W h => HL3.out W h) (by kernel_rfl) rfl HHI.out) (by assumption) ?_
    simp only [List.setIfInBounds_toArray, List.set_cons_zero, List.set_cons_succ]
    refine takeH (i := 8) rfl rfl (by kernel_rfl) (by kernel_rfl) (by kernel_rfl) (fun _ _ _ h => h) (yieldsIf_load_mid (by rfl) 24 _ rfl q5 0 rfl (b8 K) (.array 32 5) (fun W h => HL5.out W h) (by kernel_rfl) rfl HHI.out) (by assumption) ?_
    simp only [List.setIfInBounds_toArray, List.set_cons_zero, List.set_cons_succ]
    refine takeH (i := 9) (v := ?_) rfl rfl (by kernel_rfl) (by kernel_rfl) (by kernel_rfl) (fun _ _ _ h => h) (Or.inl ⟨by rfl, ?_⟩) (by assumption) ?_
    rotate_left
    · (intro w hSw; go_simp; first | done | with_reducible rfl)
    simp only [List.setIfInBounds_toArray, List.set_cons_zero, List.set_cons_succ]
    refine takeH (i := 10) (v := ?_) rfl rfl (by kernel_rfl) (by kernel_rfl) (by kernel_rfl) (fun _ _ _ h => h) (Or.inl ⟨by rfl, ?_⟩) (by assumption) ?_
    rotate_left
    · (intro w hSw; go_simp; first | done | with_reducible rfl)
    simp only [List.setIfInBounds_toArray, List.set_cons_zero, List.set_cons_succ]
    refine takeH (i := 11) (v := ?_) rfl rfl (by kernel_rfl) (by kernel_rfl) (by kernel_rfl) (fun _ _ _ h => h) (Or.inl ⟨by rfl, ?_⟩) (by assumption) ?_
    rotate_left
    · (intro w hSw; go_simp; first | done | with_reducible rfl)
    simp only [List.setIfInBounds_toArray, List.set_cons_zero, List.set_cons_succ]
    refine takeH (i := 12) rfl rfl (by kernel_rfl) (by kernel_rfl) (by kernel_rfl) (fun _ _ _ h => h) (yieldsIf_load_mid (by rfl) 24 _ rfl q3 0 rfl (b8 K) (.array 32 5) (fun W h => HL3.out W h) (by kernel_rfl) rfl HHI.out) (by assumption) ?_
    simp only [List.setIfInBounds_toArray, List.set_cons_zero, List.set_cons_succ]
    refine takeH (i := 13) (v := ?_) rfl rfl (by kernel_rfl) (by kernel_rfl) (by kernel_rfl) (fun _ _ _ h => h) (Or.inl ⟨by rfl, ?_⟩) (by assumption) ?_
    rotate_left
    · (intro w hSw; go_simp; first | done | with_reducible rfl)
    simp only [List.setIfInBounds_toArray, List.set_cons_zero, List.set_cons_succ]
    refine wpAnyH_ready (rs := [14]) (by kernel_rfl) (by simp) ?_
    refine AllReadyH.cons rfl (fun K hK => ?_) AllReadyH.nil
    go_simp
    refine (D3.out _ (by assumption)).mono ?_
    rintro e wN ⟨rfl, hb6⟩
    go_wp2_with fail
    refine hK.out _ _ (by assumption) (fun _ => ?_)
    clear hK K
    refine takeH (i := 15) (v := ?_) rfl rfl (by kernel_rfl) (by kernel_rfl) (by kernel_rfl) (fun _ _ _ h => h) (Or.inl ⟨by rfl, ?_⟩) (by assumption) ?_
    rotate_left
    · (intro w hSw; go_simp; first | done | with_reducible rfl)
    simp only [List.setIfInBounds_toArray, List.set_cons_zero, List.set_cons_succ]
    refine takeH (i := 16) (v := ?_) rfl rfl (by kernel_rfl) (by kernel_rfl) (by kernel_rfl) (fun _ _ _ h => h) (Or.inl ⟨by rfl, ?_⟩) (by assumption) ?_
    rotate_left
    · (intro w hSw; go_simp; first | done | with_reducible rfl)
    simp only [List.setIfInBounds_toArray, List.set_cons_zero, List.set_cons_succ]
    refine takeH (i := 17) (v := ?_) rfl rfl (by kernel_rfl) (by kernel_rfl) (by kernel_rfl) (fun _ _ _ h => h) (Or.inl ⟨by rfl, ?_⟩) (by assumption) ?_
    rotate_left
    · (intro w hSw; go_simp; first | done | with_reducible rfl)
    simp only [List.setIfInBounds_toArray, List.set_cons_zero, List.set_cons_succ]
    refine takeH (i := 18) rfl rfl (by kernel_rfl) (by kernel_rfl) (by kernel_rfl) (fun _ _ _ h => h) (yieldsIf_load_mid (by rfl) 24 _ rfl q3 0 rfl (b8 K) (.array 32 5) (fun W h => HL3.out W h) (by kernel_rfl) rfl HHI.out) (by assumption) ?_
    simp only [List.setIfInBounds_toArray, List.set_cons_zero, List.set_cons_succ]
    refine takeH (i := 20) (v := ?_) rfl rfl (by kernel_rfl) (by kernel_rfl) (by kernel_rfl) (fun _ _ _ h => h) (Or.inl ⟨by rfl, ?_⟩) (by assumption) ?_
    rotate_left
    · (intro w hSw; go_simp; first | done | with_reducible rfl)
    simp only [List.setIfInBounds_toArray, List.set_cons_zero, List.set_cons_succ]
    refine wpAnyH_ready (rs := [19]) (by kernel_rfl) (by simp) ?_
    refine AllReadyH.cons rfl (fun K hK => ?_) AllReadyH.nil
    go_simp
    refine (D4.out _ (by assumption)).mono ?_
    rintro e wN ⟨rfl, hb7⟩
    go_wp2_with fail
    refine hK.out _ _ (by assumption) (fun _ => ?_)
    clear hK K
    refine wpAnyH_ready (rs := [21]) (by kernel_rfl) (by simp) ?_
    refine AllReadyH.cons rfl (fun K hK => ?_) AllReadyH.nil
    go_simp
    refine (D5.out _ (by assumption)).mono ?_
    rintro e wN ⟨rfl, hb8⟩
    go_wp2_with fail
    refine hK.out _ _ (by assumption) (fun _ => ?_)
    clear hK K
    refine takeH (i := 22) (v := ?_) rfl rfl (by kernel_rfl) (by kernel_rfl) (by kernel_rfl) (fun _ _ _ h => h) (Or.inl ⟨by rfl, ?_⟩) (by assumption) ?_
    rotate_left
    · (intro w hSw; go_simp; first | done | with_reducible rfl)
    simp only [List.setIfInBounds_toArray, List.set_cons_zero, List.set_cons_succ]
    refine takeH (i := 23) (v := ?_) rfl rfl (by kernel_rfl) (by kernel_rfl) (by kernel_rfl) (fun _ _ _ h => h) (Or.inl ⟨by rfl, ?_⟩) (by assumption) ?_
    rotate_left
    · (intro w hSw; go_simp; first | done | with_reducible rfl)
    simp only [List.setIfInBounds_toArray, List.set_cons_zero, List.set_cons_succ]
    refine wpAnyH_done (by kernel_rfl) ?_ _
    refine NoPanic.normal ?_
    go_wp2
    go_ret
    exact ⟨rfl, below_then E1.out E1.out.size (below_then E5.out E5.out.size hb8)⟩
end Go.Proofs.YtkcifjgfgommoaaDoor
