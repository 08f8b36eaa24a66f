import Derived.Test.YtoekecopfmohiaaDoorFlateLaws2
import Derived.Test.YtoekecopfmohiaaDoorDef5
/-
  FlateRuns: its walk.
-/
namespace Go.Proofs.YtoekecopfmohiaaDoor
open Go.RowKit

theorem make_bytes' (m : Nat) (hm : m ≤ 140737488000000) (w : World) :
    (Instr.makeSlice 22 (.int .i64 (m : Int)) (.int .i64 (m : Int))).run Tryd.prog w = .ok (.slice (some ⟨w.heap.size, 0, none⟩) m m) (w.alloc (.cells (madeCells #[.int .u8 0] m) 5)) :=
  run_make_row' 22 5 (.int .u8 0) 1 Tryd.underlying22 info_byte rfl .i64 .i64 m (by omega) (by omega) w
theorem own_made' (w : World) (m : Nat) (hm : m ≤ 140737488000000) : OB (w.alloc (.cells (madeCells #[.int .u8 0] m) 5)) w.heap.size (.slice (some ⟨w.heap.size, 0, none⟩) m m) (List.replicate m 0) := by
  refine ⟨by simp [bs], .inr ⟨w.heap.size, m, _, by rw [List.length_replicate], Nat.le_refl _, heap_alloc_new w _, by simp, by unfold maxLen; omega, by rw [size_madeCells, Nat.mul_one], ?_⟩⟩
  rw [toList_madeCells_one]
  simp [bs, List.map_replicate]
/-- so many of them are set -/
def filN (M c k : Nat) : List Nat := List.replicate k c ++ List.replicate (M - k) 0
theorem filN_len (M c k : Nat) (h : k ≤ M) : (filN M c k).length = M := by unfold filN; rw [List.length_append, List.length_replicate, List.length_replicate]; omega
theorem filN_zero (M c : Nat) : filN M c 0 = List.replicate M 0 := by simp [filN]
theorem filN_all (M c : Nat) : filN M c M = List.replicate M c := by simp [filN]
theorem filN_set (M c k : Nat) (h : k < M) : (filN M c k).set k c = filN M c (k + 1) := by
  unfold filN
  rw [List.set_append_right _ _ (by rw [List.length_replicate]; exact Nat.le_refl _), List.length_replicate, Nat.sub_self]
  obtain ⟨j, hj⟩ : ∃ j, M - k = j + 1 := ⟨M - k - 1, by omega⟩
  rw [hj, show M - (k + 1) = j by omega, List.replicate_succ, List.set_cons_zero, List.replicate_succ', List.append_assoc]; rfl
set_option maxRecDepth 100000 in
set_option maxHeartbeats 4000000 in
theorem FlateRuns_calls (c : Nat) (a : Int) (w : World) (hc : c < 256) (hg : Gf w) :
    Calls Tryd.prog 5 #[.int .u8 (c : Int), .int .i64 a] w fun e w' => e = .returned (.bool true) ∧ Below w.heap.size w w' := by
  have HG := Bx.mk hg
  have W1 := Bx.mk (fworks_calls w hg)
  clear hg
  have AM := Bx.mk (fun W => Among_calls a 20000 W (by decide) (by decide))
  have hM : amg a 20000 < 20000 := amg_lt _ _ (by decide)
  generalize amg a 20000 = M at *
  have hmk := fun W => make_bytes' M (by omega) W
  go_enter Tryd.func5, Tryd.ntmps5
  go_wp2_with (go_at_call 12; fail)
  refine W1.out.mono ?_
  rintro e w1 ⟨rfl, hb1⟩
  have B1 := Bx.mk hb1
  clear hb1 W1
  go_wp2_with (go_at_call 13; fail)
  refine (AM.out w1).mono ?_
  rintro e w2 ⟨rfl, rfl⟩
  have O2 := Bx.mk (own_made' w1 M (by omega))
  rw [← filN_zero M c] at O2
  have B2 := Bx.mk (below_then B1.out B1.out.size (below_alloc1 w1 (.cells (madeCells #[.int .u8 0] M) 5)))
  have HZ : Bx (w.heap.size ≤ w1.heap.size) := ⟨B1.out.size⟩
  go_wp2
  generalize w1.alloc (.cells (madeCells #[.int .u8 0] M) 5) = w2 at *
  generalize w1.heap.size = q at *
  clear hmk AM B1
  go_loopw [6] (fun i wr => ∃ k : Nat, k ≤ M ∧ i = .int .i64 (k : Nat) ∧ Bx (OB wr q (.slice (some ⟨q, 0, none⟩) M M) (filN M c k)) ∧ Bx (Below w.heap.size w wr)) (fun i _ => M - (intOf i).toNat)
  case atStart => exact ⟨0, Nat.zero_le _, rfl, O2, B2⟩
  case round =>
    obtain ⟨k, hk, rfl, OQ, BQ⟩ := hrel
    clear O2 B2
    by_cases hlt : k < M
    · have hki : (k : Int) < (M : Int) := by omega
      obtain ⟨g', hg', -, -, -, hcell, hfz⟩ := OQ.out.opened (by rw [filN_len M c k hk]; omega)
      obtain rfl : q = g' := by injection hg' with h; injection h
      clear hg'
      have hck := hcell k (by rw [filN_len M c k hk]; exact hlt)
      have hfk := hfz k
      generalize (filN M c k).getD k 0 = T at hck
      clear hcell hfz
      have hp := OQ.out.put k c
      rw [filN_set M c k hlt] at hp
      have HP := Bx.mk hp
      have HB' := Bx.mk (BQ.out.setCell (p := ⟨q, k, none⟩) HZ.out (.int .u8 (c : Int)))
      clear hp
      go_wp2
      go_roundw
      case rel => exact ⟨k + 1, by omega, by go_num, HP, HB'⟩
      case measure => simp [intOf]; omega
    · obtain rfl : k = M := by omega
      have hob := OQ.out
      rw [filN_all] at hob
      have LR : (List.replicate k c).length = k := List.length_replicate
      have hrb : RB wr (some ⟨q, 0, none⟩) (List.replicate k c) := hob.rb' (fun y hy => by rw [(List.mem_replicate.1 hy).2]; exact hc) (by rw [LR]; omega)
      have RBX := Bx.mk hrb
      have rc := flRuns_calls (some ⟨q, 0, none⟩) (List.replicate k c) k wr hrb (by rw [LR]; exact Nat.le_refl _) (HG.out.below BQ.out) (by rw [LR]; omega)
      rw [LR] at rc
      have RC := Bx.mk rc
      clear hob hrb rc OQ
      go_wp2_with (go_at_call 17; fail)
      refine RC.out.mono ?_
      rintro e w3 ⟨l, v3, hbt, rfl, ho3, hb3⟩
      have hfew := runs_few c k hc l hbt
      have hinf := inf_runs (List.replicate k c) l [] k (fun y hy => by rw [(List.mem_replicate.1 hy).2]; exact hc) (by rw [LR]; exact Nat.le_refl _) (by rw [LR]; omega) hbt
      rw [List.append_nil] at hinf
      obtain ⟨A3, c3, hv3, hc3⟩ := ho3.form'
      subst hv3
      have B3 := Bx.mk (below_then BQ.out BQ.out.size hb3)
      have IC := Bx.mk (Inflate_ok A3 l c3 k w3 (ho3.rb hbt.byte (by omega)) (by omega) (HG.out.below B3.out) hc3 hinf)
      have RB3 := Bx.mk (RBX.out.below hb3)
      clear hbt ho3 hb3 RC hinf hc3 BQ RBX
      go_wp2_with (go_at_call 14; fail)
      refine IC.out.mono ?_
      rintro e w4 ⟨v4, rfl, ho4, hb4, hbl4⟩
      obtain ⟨A4, c4, rfl⟩ := ho4.form
      have B4 := Bx.mk (below_then B3.out B3.out.size hbl4)
      have sb := SameBytes_calls A4 (some ⟨q, 0, none⟩) (List.replicate k c) (List.replicate k c) c4 k w4 (ho4.rb hb4 (by rw [LR]; omega)) (RB3.out.below hbl4)
      rw [LR] at sb ⊢
      have SB := Bx.mk sb
      clear ho4 hb4 hbl4 IC B3 RB3 sb
      have hq : IntKind.i64.wrap (8 + (k : Int) / 100) = ((8 + k / 100 : Nat) : Int) := by rw [IntWalk.i64_in _ (by omega)]; omega
      have hle : (l.length : Int) ≤ ((8 + k / 100 : Nat) : Int) := by omega
      go_wp2_with (go_at_call 16; fail)
      refine SB.out.mono ?_
      rintro e w6 ⟨rfl, k6, rfl⟩
      have B6 := Bx.mk (below_drewN B4.out k6)
      clear SB B4
      go_wp2
      go_ret
      exact ⟨rfl, B6.out⟩
end Go.Proofs.YtoekecopfmohiaaDoor
