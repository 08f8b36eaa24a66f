import Derived.Test.YtkcifjgfgommoaaDoorDigRef5
/-
  The reference's Keyed with a long key, Sum, Hex.
-/
namespace Go.Proofs.YtkcifjgfgommoaaDoor
open Go.RowKit

set_option maxRecDepth 100000 in
set_option maxHeartbeats 1000000 in
theorem rKeyed_long (A B : Option Addr) (key b : List Nat) (c d : Nat) (w : World) (hk : 32 < key.length) :
    Calls Tryd.prog 18 #[.slice A key.length c, .slice B b.length d] w fun e w' =>
      e = .returned (.tuple #[.agg (u8s Z32), .int .i64 2]) ∧ Below w.heap.size w w' := by
  have hkg : (32 : Int) < (key.length : Int) := by omega
  have HZ : Bx (Z32.length = 32) := ⟨rfl⟩
  go_enter Tryd.func18, Tryd.ntmps18
  go_upto_region 2 with fail
  refine wp_region_lit ?_
  refine wpList_plain rfl (fun K hK => ?_)
  go_simp
  refine hK _ _ ?_
  clear hK K
  refine wpList_store_new w Z32 HZ.out rfl (.tmp 4) (.tmp 17) rfl rfl rfl ?_
  intro w7 k7 hb7
  have LV := load_arr w7 w.heap.size Z32 k7 HZ.out
  have EB := Bx.mk hb7
  clear hb7 k7
  generalize hZ : u8s Z32 = Z at *
  go_wp2
  exact bodyPost_ret (v := .tuple #[.agg Z, .int .i64 2]) (by simp [results, Tryd.results18, asAddr, LV]) rfl ⟨by rw [hZ], EB.out⟩
set_option maxRecDepth 100000 in
set_option maxHeartbeats 1000000 in
theorem rSum_calls (B : Option Addr) (b : List Nat) (d : Nat) (w : World) (hB : RB w B b) (hb5 : b.length ≤ 20000) :
    Calls Tryd.prog 10 #[.slice B b.length d] w fun e w' => e = .returned (.agg (u8s (keyedN [] b))) ∧ Below w.heap.size w w' := by
  have HK := Bx.mk (fun W (hb : Below w.heap.size w W) => rKeyed_calls none B [] b 0 d W (by decide) (RB.nil _ _) (hB.below hb) hb5)
  have HL : Bx ((keyedN [] b).length = 32) := ⟨outK_len _ _⟩
  clear hB hb5
  generalize hK : keyedN [] b = K at *
  have HKK := Bx.mk hK
  clear hK
  go_enter Tryd.func10, Tryd.ntmps10
  go_wp2_with fail
  change Calls _ _ #[.slice none ([] : List Nat).length 0, _] (w.alloc (Obj.cells #[.int .u8 0, .int .u8 0, .int .u8 0, .int .u8 0, .int .u8 0, .int .u8 0, .int .u8 0, .int .u8 0, .int .u8 0, .int .u8 0, .int .u8 0, .int .u8 0, .int .u8 0, .int .u8 0, .int .u8 0, .int .u8 0, .int .u8 0, .int .u8 0, .int .u8 0, .int .u8 0, .int .u8 0, .int .u8 0, .int .u8 0, .int .u8 0, .int .u8 0, .int .u8 0, .int .u8 0, .int .u8 0, .int .u8 0, .int .u8 0, .int .u8 0, .int .u8 0] 24)) _
  have HZS : Bx ((u8s Z32).size = 32) := ⟨rfl⟩
  have B0 : Bx (Blk (w.alloc (Obj.cells #[.int .u8 0, .int .u8 0, .int .u8 0, .int .u8 0, .int .u8 0, .int .u8 0, .int .u8 0, .int .u8 0, .int .u8 0, .int .u8 0, .int .u8 0, .int .u8 0, .int .u8 0, .int .u8 0, .int .u8 0, .int .u8 0, .int .u8 0, .int .u8 0, .int .u8 0, .int .u8 0, .int .u8 0, .int .u8 0, .int .u8 0, .int .u8 0, .int .u8 0, .int .u8 0, .int .u8 0, .int .u8 0, .int .u8 0, .int .u8 0, .int .u8 0, .int .u8 0] 24)) w.heap.size 24 (u8s Z32)) := ⟨Blk.new w _ _⟩
  have BE := Bx.mk (below_alloc1 w (Obj.cells #[.int .u8 0, .int .u8 0, .int .u8 0, .int .u8 0, .int .u8 0, .int .u8 0, .int .u8 0, .int .u8 0, .int .u8 0, .int .u8 0, .int .u8 0, .int .u8 0, .int .u8 0, .int .u8 0, .int .u8 0, .int .u8 0, .int .u8 0, .int .u8 0, .int .u8 0, .int .u8 0, .int .u8 0, .int .u8 0, .int .u8 0, .int .u8 0, .int .u8 0, .int .u8 0, .int .u8 0, .int .u8 0, .int .u8 0, .int .u8 0, .int .u8 0, .int .u8 0] 24))
  generalize w.alloc (Obj.cells #[.int .u8 0, .int .u8 0, .int .u8 0, .int .u8 0, .int .u8 0, .int .u8 0, .int .u8 0, .int .u8 0, .int .u8 0, .int .u8 0, .int .u8 0, .int .u8 0, .int .u8 0, .int .u8 0, .int .u8 0, .int .u8 0, .int .u8 0, .int .u8 0, .int .u8 0, .int .u8 0, .int .u8 0, .int .u8 0, .int .u8 0, .int .u8 0, .int .u8 0, .int .u8 0, .int .u8 0, .int .u8 0, .int .u8 0, .int .u8 0, .int .u8 0, .int .u8 0] 24) = W1 at *
  refine (HK.out _ BE.out).mono ?_
  rintro e w2 ⟨rfl, hb2⟩
  have B2 := Bx.mk (B0.out.below hb2 B0.out.lt)
  have E2 := Bx.mk (below_then BE.out BE.out.size hb2)
  clear hb2 BE B0
  go_wp2_with (first | ((with_reducible refine wpList_store_new w2 K HL.out ?_ (.tmp 3) (.tmp 8) ?_ ?_ ?_ ?_); rfl; rfl; rfl; rfl; intro w3 k3 hb3; have B3 := B2.out.below hb3 B2.out.lt; have K3 := k3; have E3 := Bx.mk (below_then E2.out E2.out.size hb3); clear k3 hb3) | ((with_reducible refine wpList_load_arr w2.heap.size K K3 HL.out ?_ (.tmp 3) ?_ ?_ ?_); rfl; rfl; rfl) | ((with_reducible refine wpList_store_arr w3 w.heap.size (u8s Z32) K B3 HZS.out HL.out ?_ (.tmp 2) (.tmp 10) ?_ ?_ ?_ ?_); rfl; rfl; rfl; rfl; intro w4 k4 hb4 _; have K4 := k4; have E4 := Bx.mk (E3.out.trans hb4); clear k4 hb4))
  have LV := load_arr w4 w.heap.size K K4 HL.out
  exact bodyPost_ret (v := .agg (u8s K)) (by simp [results, Tryd.results10, asAddr, Act.put, LV]) rfl ⟨rfl, E4.out⟩
theorem str_cut (n : Nat) (hn : n < 16) (W : World) : (Instr.slice 9 (.string DIG) (some (.int .i64 (n : Int))) (some (.int .i64 ((n : Int) + 1))) none).run Tryd.prog W = .ok (.string (st [hexd n])) W := by
  obtain rfl | rfl | rfl | rfl | rfl | rfl | rfl | rfl | rfl | rfl | rfl | rfl | rfl | rfl | rfl | rfl : n = 0 ∨ n = 1 ∨ n = 2 ∨ n = 3 ∨ n = 4 ∨ n = 5 ∨ n = 6 ∨ n = 7 ∨ n = 8 ∨ n = 9 ∨ n = 10 ∨ n = 11 ∨ n = 12 ∨ n = 13 ∨ n = 14 ∨ n = 15 := by omega
  all_goals kernel_rfl
theorem st_app (l m : List Nat) : st l ++ st m = st (l ++ m) := by
  apply ByteArray.ext
  apply Array.ext'
  have h : (st l ++ st m).data = (st l).data ++ (st m).data := by simp
  rw [h]
  show ((l.map UInt8.ofNat).toArray ++ (m.map UInt8.ofNat).toArray).toList = ((l ++ m).map UInt8.ofNat).toArray.toList
  simp
theorem st_add (l m : List Nat) (W : World) (h : l.length + m.length ≤ 1000) : (Op.stringOp .add (st l) (st m)).run Tryd.prog W = .ok (.string (st (l ++ m))) W := by
  rw [run_string_add_sum W (st l) (st m) (by rw [st_size, st_size]; omega), st_app]
set_option maxRecDepth 100000 in
set_option maxHeartbeats 1000000 in
theorem rHex_calls (l : List Nat) (w : World) (hl : l.length = 32) (hb : ∀ x ∈ l, x < 256) :
    Calls Tryd.prog 12 #[.agg (u8s l)] w fun e w' => e = .returned (.string (st (hexL l))) ∧ Below w.heap.size w w' := by
  have HL := Bx.mk hl
  have HB := Bx.mk hb
  clear hl hb
  go_enter Tryd.func12, Tryd.ntmps12
  have B1 : Bx (Blk (w.alloc (Obj.cells (u8s l) 24)) w.heap.size 24 (u8s l)) := ⟨Blk.new w _ _⟩
  have BE : Bx (Below w.heap.size w (w.alloc (Obj.cells (u8s l) 24))) := ⟨(Below.refl _ _).alloc (Nat.le_refl _) _⟩
  have HS0 : Bx (st [] = ({ data := #[] } : ByteArray)) := ⟨rfl⟩
  go_wp2_with fail
  generalize w.alloc (Obj.cells (u8s l) 24) = W0 at *
  obtain ⟨q, hq⟩ : ∃ q, q = w.heap.size := ⟨_, rfl⟩
  rw [← hq] at B1 ⊢
  have HQ := Bx.mk hq
  clear hq
  go_loopw [3, 4] (fun v i w' => ∃ k : Nat, k ≤ 32 ∧ i = .int .i64 k ∧ v = .string (st (hexL (l.take k))) ∧ Bx (Blk w' q 24 (u8s l)) ∧ Bx (Below w.heap.size w w')) (fun _ i _ => 32 - (intOf i).toNat)
  case atStart => exact ⟨0, by omega, rfl, rfl, B1, BE⟩
  case round =>
    obtain ⟨k, hk, rfl, rfl, BK, EK⟩ := hrel
    by_cases hlt : k < 32
    · have hx : l.getD k 0 < 256 := mem_getD (by rw [HL.out]; exact hlt) HB.out
      have c0 := (BK.out.cell k).trans (u8s_get l k (by rw [HL.out]; exact hlt))
      have HN := Bx.mk (hexL_snoc l k (by rw [HL.out]; exact hlt))
      have hln : (hexL (l.take k)).length = 2 * k := by rw [hexL_len, List.length_take, HL.out]; omega
      generalize hexL (l.take k) = HK at *
      generalize l.getD k 0 = X at *
      have d1 : (X : Int) / 16 = ((X / 16 : Nat) : Int) := by omega
      have d2 : (X : Int) % 16 = ((X % 16 : Nat) : Int) := by omega
      have d3 : (X : Int).tdiv 16 = ((X / 16 : Nat) : Int) := by rw [Int.tdiv_eq_ediv_of_nonneg (by omega)]; omega
      have d4 : (X : Int).tmod 16 = ((X % 16 : Nat) : Int) := by rw [Int.tmod_eq_emod_of_nonneg (by omega)]; omega
      have s1 := str_cut (X / 16) (by omega)
      have s2 := str_cut (X % 16) (by omega)
      unfold DIG at s1 s2
      have hh : X / 16 < 16 := by omega
      have hm : X % 16 < 16 := by omega
      generalize X / 16 = Xh at *
      generalize X % 16 = Xl at *
      have a1 := fun W => st_add [hexd Xh] [hexd Xl] W (by show 1 + 1 ≤ 1000; omega)
      have a2 := fun W => st_add HK ([hexd Xh] ++ [hexd Xl]) W (by show HK.length + 2 ≤ 1000; omega)
      have w1 : IntKind.i64.wrap ((Xh : Int) + 1) = (Xh : Int) + 1 := IntWalk.i64_in _ (by omega)
      have w2 : IntKind.i64.wrap ((Xl : Int) + 1) = (Xl : Int) + 1 := IntWalk.i64_in _ (by omega)
      have HE : Bx (HK ++ ([hexd Xh] ++ [hexd Xl]) = HK ++ [hexd Xh, hexd Xl]) := ⟨rfl⟩
      generalize HK ++ ([hexd Xh] ++ [hexd Xl]) = HK2 at *
      generalize hst2 : st ([hexd Xh] ++ [hexd Xl]) = SS at *
      generalize st [hexd Xh] = SA at *
      generalize st [hexd Xl] = SB at *
      generalize hsk : st HK = SK at *

      generalize hk2 : st HK2 = SK2 at *
      have HK2' := Bx.mk hk2
      clear hst2 hsk hk2 hln
      go_wp2
      go_quiet (fail)
      go_wp2
      go_roundw
      case rel => exact ⟨k + 1, by omega, by go_num, by rw [HN.out, ← HE.out, HK2'.out], BK, ⟨below_drewN EK.out _⟩⟩
      case measure => simp [intOf]; omega
    · obtain rfl : k = 32 := by omega
      have HF : Bx (l.take 32 = l) := ⟨List.take_of_length_le (by rw [HL.out]; omega)⟩
      rw [HF.out]
      go_wp2
      go_ret
      exact ⟨rfl, EK.out⟩
end Go.Proofs.YtkcifjgfgommoaaDoor
