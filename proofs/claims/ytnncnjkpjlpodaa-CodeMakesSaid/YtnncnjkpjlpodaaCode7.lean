import Derived.Test.YtnncnjkpjlpodaaCode6
/-
  The lengths that need not be told: the program's.
-/
namespace Go.Proofs.Ytnncnjkpjlpodaa
open Go.RowKit

def fixN : Nat → Nat
  | 0 => 144
  | 1 => 112
  | 2 => 24
  | _ => 8
def fixV : Nat → Nat
  | 0 => 8
  | 1 => 9
  | 2 => 7
  | _ => 8
def fixP : Nat → List Nat
  | 0 => []
  | k + 1 => fixP k ++ List.replicate (fixN k) (fixV k)
def fixL : List Nat := fixP 4
theorem zl_replicate (n x : Nat) : zl (List.replicate n x) = List.replicate n (x : Int) := by simp [zl]
theorem fixP_len : ∀ k, k ≤ 4 → (fixP k).length ≤ 288
  | 0, _ => by simp [fixP]
  | 1, _ => by simp only [fixP, List.length_append, List.length_replicate, List.length_nil, fixN]; omega
  | 2, _ => by simp only [fixP, List.length_append, List.length_replicate, List.length_nil, fixN]; omega
  | 3, _ => by simp only [fixP, List.length_append, List.length_replicate, List.length_nil, fixN]; omega
  | 4, _ => by simp only [fixP, List.length_append, List.length_replicate, List.length_nil, fixN]; omega
/-- behind an append of what a call made -/
theorem app_end {w w1 w2 : World} {base : Nat} {T : Value} {l : List Int} (hT : OI w1 base T l) (hb : Below w.heap.size w w1) (hz : w.heap.size ≤ base) (hg : w1.grownBy w2 T.ownBlock) : Below w.heap.size w w2 :=
  hb.grown hg hb.size fun k hk => Nat.le_trans hz (OI.block hT k hk)
set_option maxRecDepth 100000 in
set_option maxHeartbeats 4000000 in
theorem Fixed_calls (w : World) : Calls Try.prog 54 #[] w fun e w' => ∃ v, e = .returned v ∧ OI w' w.heap.size v (zl fixL) ∧ Below w.heap.size w w' := by
  have i0 : ∀ w, (Instr.index 93 (.agg #[.int .i64 144, .int .i64 8, .int .i64 112, .int .i64 9, .int .i64 24, .int .i64 7, .int .i64 8, .int .i64 8]) (.int .i64 0)).run Try.prog w = .ok (.agg #[.int .i64 144, .int .i64 8]) w := fun _ => by kernel_rfl
  have i1 : ∀ w, (Instr.index 93 (.agg #[.int .i64 144, .int .i64 8, .int .i64 112, .int .i64 9, .int .i64 24, .int .i64 7, .int .i64 8, .int .i64 8]) (.int .i64 1)).run Try.prog w = .ok (.agg #[.int .i64 112, .int .i64 9]) w := fun _ => by kernel_rfl
  have i2 : ∀ w, (Instr.index 93 (.agg #[.int .i64 144, .int .i64 8, .int .i64 112, .int .i64 9, .int .i64 24, .int .i64 7, .int .i64 8, .int .i64 8]) (.int .i64 2)).run Try.prog w = .ok (.agg #[.int .i64 24, .int .i64 7]) w := fun _ => by kernel_rfl
  have i3 : ∀ w, (Instr.index 93 (.agg #[.int .i64 144, .int .i64 8, .int .i64 112, .int .i64 9, .int .i64 24, .int .i64 7, .int .i64 8, .int .i64 8]) (.int .i64 3)).run Try.prog w = .ok (.agg #[.int .i64 8, .int .i64 8]) w := fun _ => by kernel_rfl
  go_enter Try.func54, Try.ntmps54
  go_wp2
  go_loopw [1, 9] (fun t i wr => ∃ k : Nat, k ≤ 4 ∧ i = .int .i64 (k : Nat) ∧ Bx (OI wr w.heap.size t (zl (fixP k))) ∧ Bx (Below w.heap.size w wr)) (fun _ i _ => 4 - (intOf i).toNat)
  case atStart => exact ⟨0, Nat.zero_le _, rfl, ⟨OI.nil _ _⟩, ⟨Below.refl _ _⟩⟩
  case round =>
    obtain ⟨k, hk, rfl, HT, HB⟩ := hrel
    obtain rfl | rfl | rfl | rfl | rfl : k = 0 ∨ k = 1 ∨ k = 2 ∨ k = 3 ∨ k = 4 := by omega
    · have hb1 := (HB.out.alloc HB.out.size (.cells #[.int .i64 144, .int .i64 8] 92)).alloc (Nat.le_trans HB.out.size (by simp)) (.cells #[.int .i64 8] 3)
      have rp := Repeat_calls (some ⟨(wr.alloc (.cells #[.int .i64 144, .int .i64 8] 92)).heap.size, 0, none⟩) 8 1 144 _ (IR.lit (wr.alloc (.cells #[.int .i64 144, .int .i64 8] 92)) 3 [8] #[.int .i64 8] rfl) (by decide)
      rw [show (wr.alloc (.cells #[.int .i64 144, .int .i64 8] 92)).heap.size = wr.heap.size + 1 by simp] at rp
      have RP := Bx.mk rp
      have HB1 := Bx.mk hb1
      have HT1 := Bx.mk ((HT.out.below (below_alloc1 wr (.cells #[.int .i64 144, .int .i64 8] 92))).below (below_alloc1 _ (.cells #[.int .i64 8] 3)))
      have hfl := fixP_len 0 (by omega)
      have HFP : Bx (zl (fixP (0 + 1)) = zl (fixP 0) ++ List.replicate 144 ((8 : Nat) : Int)) := ⟨by show zl (_ ++ List.replicate _ _) = _; rw [zl_app, zl_replicate]; rfl⟩
      clear rp hb1
      go_wp2_with fail
      refine RP.out.mono ?_
      rintro e w2 ⟨rfl, ho2, hb2⟩
      have R2 := Bx.mk ho2.reads
      have T2 := Bx.mk (HT1.out.below hb2)
      have B2 := Bx.mk (below_then HB1.out HB1.out.size hb2)
      have hz2 : w.heap.size ≤ w2.heap.size := B2.out.size
      have hlen : ((zl (fixP 0)).length + 144) * 8 ≤ 140737488355328 := by rw [zl_length]; omega
      generalize (wr.alloc (.cells #[.int .i64 144, .int .i64 8] 92)).alloc (.cells #[.int .i64 8] 3) = w9 at *
      generalize w9.heap.size = z9 at R2 ⊢
      clear ho2 hb2 HT1 HB1 RP
      go_wp2_with (at_builtin; refine wpList_append_ints w2 rfl (.tmp 12) (.tmp 18) rfl w.heap.size u1 (zl (fixP 0)) (List.replicate 144 ((8 : Nat) : Int)) 144 List.length_replicate rfl T2.out _ _ rfl (by have := R2.out; rw [List.length_replicate] at this; exact this) hlen hz2 ?_; intro v3 w3 ho3 hg3 _; have T3 : Bx (OI w3 w.heap.size v3 (zl (fixP (0 + 1)))) := ⟨by rw [HFP.out]; exact ho3⟩; have B3 := Bx.mk (app_end T2.out B2.out (Nat.le_refl _) hg3); clear ho3 hg3)
      go_roundw
      case rel => exact ⟨0 + 1, by omega, rfl, T3, B3⟩
      case measure => simp [intOf]
    · have hb1 := (HB.out.alloc HB.out.size (.cells #[.int .i64 112, .int .i64 9] 92)).alloc (Nat.le_trans HB.out.size (by simp)) (.cells #[.int .i64 9] 3)
      have rp := Repeat_calls (some ⟨(wr.alloc (.cells #[.int .i64 112, .int .i64 9] 92)).heap.size, 0, none⟩) 9 1 112 _ (IR.lit (wr.alloc (.cells #[.int .i64 112, .int .i64 9] 92)) 3 [9] #[.int .i64 9] rfl) (by decide)
      rw [show (wr.alloc (.cells #[.int .i64 112, .int .i64 9] 92)).heap.size = wr.heap.size + 1 by simp] at rp
      have RP := Bx.mk rp
      have HB1 := Bx.mk hb1
      have HT1 := Bx.mk ((HT.out.below (below_alloc1 wr (.cells #[.int .i64 112, .int .i64 9] 92))).below (below_alloc1 _ (.cells #[.int .i64 9] 3)))
      have hfl := fixP_len 1 (by omega)
      have HFP : Bx (zl (fixP (1 + 1)) = zl (fixP 1) ++ List.replicate 112 ((9 : Nat) : Int)) := ⟨by show zl (_ ++ List.replicate _ _) = _; rw [zl_app, zl_replicate]; rfl⟩
      clear rp hb1
      go_wp2_with fail
      refine RP.out.mono ?_
      rintro e w2 ⟨rfl, ho2, hb2⟩
      have R2 := Bx.mk ho2.reads
      have T2 := Bx.mk (HT1.out.below hb2)
      have B2 := Bx.mk (below_then HB1.out HB1.out.size hb2)
      have hz2 : w.heap.size ≤ w2.heap.size := B2.out.size
      have hlen : ((zl (fixP 1)).length + 112) * 8 ≤ 140737488355328 := by rw [zl_length]; omega
      generalize (wr.alloc (.cells #[.int .i64 112, .int .i64 9] 92)).alloc (.cells #[.int .i64 9] 3) = w9 at *
      generalize w9.heap.size = z9 at R2 ⊢
      clear ho2 hb2 HT1 HB1 RP
      go_wp2_with (at_builtin; refine wpList_append_ints w2 rfl (.tmp 12) (.tmp 18) rfl w.heap.size u1 (zl (fixP 1)) (List.replicate 112 ((9 : Nat) : Int)) 112 List.length_replicate rfl T2.out _ _ rfl (by have := R2.out; rw [List.length_replicate] at this; exact this) hlen hz2 ?_; intro v3 w3 ho3 hg3 _; have T3 : Bx (OI w3 w.heap.size v3 (zl (fixP (1 + 1)))) := ⟨by rw [HFP.out]; exact ho3⟩; have B3 := Bx.mk (app_end T2.out B2.out (Nat.le_refl _) hg3); clear ho3 hg3)
      go_roundw
      case rel => exact ⟨1 + 1, by omega, rfl, T3, B3⟩
      case measure => simp [intOf]
    · have hb1 := (HB.out.alloc HB.out.size (.cells #[.int .i64 24, .int .i64 7] 92)).alloc (Nat.le_trans HB.out.size (by simp)) (.cells #[.int .i64 7] 3)
      have rp := Repeat_calls (some ⟨(wr.alloc (.cells #[.int .i64 24, .int .i64 7] 92)).heap.size, 0, none⟩) 7 1 24 _ (IR.lit (wr.alloc (.cells #[.int .i64 24, .int .i64 7] 92)) 3 [7] #[.int .i64 7] rfl) (by decide)
      rw [show (wr.alloc (.cells #[.int .i64 24, .int .i64 7] 92)).heap.size = wr.heap.size + 1 by simp] at rp
      have RP := Bx.mk rp
      have HB1 := Bx.mk hb1
      have HT1 := Bx.mk ((HT.out.below (below_alloc1 wr (.cells #[.int .i64 24, .int .i64 7] 92))).below (below_alloc1 _ (.cells #[.int .i64 7] 3)))
      have hfl := fixP_len 2 (by omega)
      have HFP : Bx (zl (fixP (2 + 1)) = zl (fixP 2) ++ List.replicate 24 ((7 : Nat) : Int)) := ⟨by show zl (_ ++ List.replicate _ _) = _; rw [zl_app, zl_replicate]; rfl⟩
      clear rp hb1
      go_wp2_with fail
      refine RP.out.mono ?_
      rintro e w2 ⟨rfl, ho2, hb2⟩
      have R2 := Bx.mk ho2.reads
      have T2 := Bx.mk (HT1.out.below hb2)
      have B2 := Bx.mk (below_then HB1.out HB1.out.size hb2)
      have hz2 : w.heap.size ≤ w2.heap.size := B2.out.size
      have hlen : ((zl (fixP 2)).length + 24) * 8 ≤ 140737488355328 := by rw [zl_length]; omega
      generalize (wr.alloc (.cells #[.int .i64 24, .int .i64 7] 92)).alloc (.cells #[.int .i64 7] 3) = w9 at *
      generalize w9.heap.size = z9 at R2 ⊢
      clear ho2 hb2 HT1 HB1 RP
      go_wp2_with (at_builtin; refine wpList_append_ints w2 rfl (.tmp 12) (.tmp 18) rfl w.heap.size u1 (zl (fixP 2)) (List.replicate 24 ((7 : Nat) : Int)) 24 List.length_replicate rfl T2.out _ _ rfl (by have := R2.out; rw [List.length_replicate] at this; exact this) hlen hz2 ?_; intro v3 w3 ho3 hg3 _; have T3 : Bx (OI w3 w.heap.size v3 (zl (fixP (2 + 1)))) := ⟨by rw [HFP.out]; exact ho3⟩; have B3 := Bx.mk (app_end T2.out B2.out (Nat.le_refl _) hg3); clear ho3 hg3)
      go_roundw
      case rel => exact ⟨2 + 1, by omega, rfl, T3, B3⟩
      case measure => simp [intOf]
    · have hb1 := (HB.out.alloc HB.out.size (.cells #[.int .i64 8, .int .i64 8] 92)).alloc (Nat.le_trans HB.out.size (by simp)) (.cells #[.int .i64 8] 3)
      have rp := Repeat_calls (some ⟨(wr.alloc (.cells #[.int .i64 8, .int .i64 8] 92)).heap.size, 0, none⟩) 8 1 8 _ (IR.lit (wr.alloc (.cells #[.int .i64 8, .int .i64 8] 92)) 3 [8] #[.int .i64 8] rfl) (by decide)
      rw [show (wr.alloc (.cells #[.int .i64 8, .int .i64 8] 92)).heap.size = wr.heap.size + 1 by simp] at rp
      have RP := Bx.mk rp
      have HB1 := Bx.mk hb1
      have HT1 := Bx.mk ((HT.out.below (below_alloc1 wr (.cells #[.int .i64 8, .int .i64 8] 92))).below (below_alloc1 _ (.cells #[.int .i64 8] 3)))
      have hfl := fixP_len 3 (by omega)
      have HFP : Bx (zl (fixP (3 + 1)) = zl (fixP 3) ++ List.replicate 8 ((8 : Nat) : Int)) := ⟨by show zl (_ ++ List.replicate _ _) = _; rw [zl_app, zl_replicate]; rfl⟩
      clear rp hb1
      go_wp2_with fail
      refine RP.out.mono ?_
      rintro e w2 ⟨rfl, ho2, hb2⟩
      have R2 := Bx.mk ho2.reads
      have T2 := Bx.mk (HT1.out.below hb2)
      have B2 := Bx.mk (below_then HB1.out HB1.out.size hb2)
      have hz2 : w.heap.size ≤ w2.heap.size := B2.out.size
      have hlen : ((zl (fixP 3)).length + 8) * 8 ≤ 140737488355328 := by rw [zl_length]; omega
      generalize (wr.alloc (.cells #[.int .i64 8, .int .i64 8] 92)).alloc (.cells #[.int .i64 8] 3) = w9 at *
      generalize w9.heap.size = z9 at R2 ⊢
      clear ho2 hb2 HT1 HB1 RP
      go_wp2_with (at_builtin; refine wpList_append_ints w2 rfl (.tmp 12) (.tmp 18) rfl w.heap.size u1 (zl (fixP 3)) (List.replicate 8 ((8 : Nat) : Int)) 8 List.length_replicate rfl T2.out _ _ rfl (by have := R2.out; rw [List.length_replicate] at this; exact this) hlen hz2 ?_; intro v3 w3 ho3 hg3 _; have T3 : Bx (OI w3 w.heap.size v3 (zl (fixP (3 + 1)))) := ⟨by rw [HFP.out]; exact ho3⟩; have B3 := Bx.mk (app_end T2.out B2.out (Nat.le_refl _) hg3); clear ho3 hg3)
      go_roundw
      case rel => exact ⟨3 + 1, by omega, rfl, T3, B3⟩
      case measure => simp [intOf]
    · go_wp2
      go_ret
      exact ⟨_, rfl, HT.out, HB.out⟩
end Go.Proofs.Ytnncnjkpjlpodaa
