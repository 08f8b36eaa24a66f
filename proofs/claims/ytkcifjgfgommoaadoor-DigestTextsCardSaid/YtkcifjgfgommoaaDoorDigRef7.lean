import Derived.Test.YtkcifjgfgommoaaDoorDigRef6
/-
  The reference's Parse and Of.
-/
namespace Go.Proofs.YtkcifjgfgommoaaDoor
open Go.RowKit

theorem digV_hexv : ∀ c, c < 256 → (digV c ≤ 15 ↔ ¬ hexv c < 0) ∧ (digV c ≤ 15 → (hexv c).toNat = digV c) ∧ digV c ≤ 16 := by decide +kernel
/-- what the first i digits have made -/
def accK (L : List Nat) (i : Nat) : List Nat := (List.range 32).map fun j => if 2 * j + 1 < i then digV (L.getD (2 * j) 0) * 16 + digV (L.getD (2 * j + 1) 0) else if 2 * j < i then digV (L.getD (2 * j) 0) else 0
theorem accK_len (L : List Nat) (i : Nat) : (accK L i).length = 32 := by simp [accK]
theorem accK_at (L : List Nat) (i j : Nat) (hj : j < 32) : (accK L i).getD j 0 = if 2 * j + 1 < i then digV (L.getD (2 * j) 0) * 16 + digV (L.getD (2 * j + 1) 0) else if 2 * j < i then digV (L.getD (2 * j) 0) else 0 := by
  unfold accK
  rw [List.getD_eq_getElem?_getD, List.getElem?_map, List.getElem?_range hj]; rfl
theorem accK_zero (L : List Nat) : accK L 0 = Z32 :=
  getD_ext _ _ (by rw [accK_len]; rfl) fun i hi => by
    rw [accK_len] at hi
    unfold Z32
    rw [accK_at _ _ _ hi, if_neg (by omega), if_neg (by omega), List.getD_eq_getElem?_getD, List.getElem?_replicate, if_pos hi]; rfl
theorem accK_old (L : List Nat) (i : Nat) (hi : i < 64) (hok : ∀ j, j < i → digV (L.getD j 0) ≤ 15) : (accK L i).getD (i / 2) 0 ≤ 15 := by
  rw [accK_at _ _ _ (by omega), if_neg (by omega)]
  split
  · exact hok _ (by omega)
  · omega
theorem accK_set (L : List Nat) (i : Nat) (_hi : i < 64) : (accK L i).set (i / 2) ((accK L i).getD (i / 2) 0 * 16 + digV (L.getD i 0)) = accK L (i + 1) :=
  getD_ext _ _ (by rw [List.length_set, accK_len, accK_len]) fun j hj => by
    rw [List.length_set, accK_len] at hj
    rw [accK_at _ (i + 1) _ hj]
    by_cases h1 : j = i / 2
    · subst h1
      rw [getD_set_self _ _ _ (by rw [accK_len]; exact hj), accK_at _ i _ hj, if_neg (by omega)]
      rcases Nat.mod_two_eq_zero_or_one i with h | h
      · have e : 2 * (i / 2) = i := by omega
        rw [if_neg (by omega), if_neg (by omega), if_pos (by omega), e]; omega
      · have e : 2 * (i / 2) + 1 = i := by omega
        rw [if_pos (by omega), if_pos (by omega), e]
    · rw [getD_set_ne _ _ _ _ (by omega), accK_at _ i _ hj]
      by_cases h3 : 2 * j + 1 < i
      · rw [if_pos h3, if_pos (by omega)]
      · rw [if_neg h3]
        by_cases h4 : 2 * j < i
        · rw [if_pos h4, if_neg (by omega), if_pos (by omega)]
        · rw [if_neg h4, if_neg (by omega), if_neg (by omega)]
theorem acc_par (L : List Nat) (hL : ∀ x ∈ L, x < 256) (hok : ∀ j, j < 64 → digV (L.getD j 0) ≤ 15) : accK L 64 = parK L 32 :=
  getD_ext _ _ (by rw [accK_len, parK_len]) fun i hi => by
    rw [accK_len] at hi
    rw [accK_at _ _ _ hi, parK_at _ _ _ hi, if_pos (by omega), if_pos hi, (digV_hexv _ (byte_lt hL _)).2.1 (hok _ (by omega)), (digV_hexv _ (byte_lt hL _)).2.1 (hok _ (by omega))]
set_option maxRecDepth 100000 in
set_option maxHeartbeats 4000000 in
theorem rParse_calls (s : ByteArray) (w : World) :
    Calls Tryd.prog 21 #[.string s] w fun e w' => e = .returned (.tuple #[.agg (u8s (parseN (sb s)).1), .int .i64 (parseN (sb s)).2]) ∧ Below w.heap.size w w' := by
  have HZ : Bx (Z32.length = 32) := ⟨rfl⟩
  have HZS : Bx ((u8s Z32).size = 32) := ⟨rfl⟩
  have HZV : Bx (Value.agg #[.int .u8 0, .int .u8 0, .int .u8 0, .int .u8 0, .int .u8 0, .int .u8 0, .int .u8 0, .int .u8 0, .int .u8 0, .int .u8 0, .int .u8 0, .int .u8 0, .int .u8 0, .int .u8 0, .int .u8 0, .int .u8 0, .int .u8 0, .int .u8 0, .int .u8 0, .int .u8 0, .int .u8 0, .int .u8 0, .int .u8 0, .int .u8 0, .int .u8 0, .int .u8 0, .int .u8 0, .int .u8 0, .int .u8 0, .int .u8 0, .int .u8 0, .int .u8 0] = Value.agg (u8s Z32)) := ⟨rfl⟩
  have HSL := Bx.mk (sb_len s)
  have HSB := Bx.mk (sb_mem s)
  have HP1 : Bx ((sb s).length = 64 → (∀ j, j < 64 → digV ((sb s).getD j 0) ≤ 15) → parseN (sb s) = (accK (sb s) 64, 0)) := ⟨fun h1 h2 => by
    rw [acc_par _ (sb_mem s) h2]
    exact if_pos ⟨h1, fun j hj => (digV_hexv _ (byte_lt (sb_mem s) _)).1.1 (h2 j (by omega))⟩⟩
  have HP2 : Bx ((∃ j, j < 64 ∧ 15 < digV ((sb s).getD j 0)) → parseN (sb s) = (Z32, 160)) := ⟨fun ⟨j, h1, h2⟩ => if_neg fun h => by
    have := (digV_hexv _ (byte_lt (sb_mem s) j)).1.2 (h.2 j (by omega))
    omega⟩
  have HP3 : Bx ((sb s).length ≠ 64 → parseN (sb s) = (Z32, 160)) := ⟨fun h1 => if_neg fun h => h1 h.1⟩
  have SI : Bx (∀ (j : Nat) (W : World), j < (sb s).length → (Instr.index 9 (.string s) (.int .i64 (j : Int))).run Tryd.prog W = .ok (.int .u8 (((sb s).getD j 0 : Nat) : Int)) W) := ⟨fun j W hj => str_index s j hj W⟩
  generalize sb s = L at *
  go_enter Tryd.func21, Tryd.ntmps21
  go_upto_region 1 with fail
  have B0 : Bx (Blk (w.alloc (Obj.cells #[.int .u8 0, .int .u8 0, .int .u8 0, .int .u8 0, .int .u8 0, .int .u8 0, .int .u8 0, .int .u8 0, .int .u8 0, .int .u8 0, .int .u8 0, .int .u8 0, .int .u8 0, .int .u8 0, .int .u8 0, .int .u8 0, .int .u8 0, .int .u8 0, .int .u8 0, .int .u8 0, .int .u8 0, .int .u8 0, .int .u8 0, .int .u8 0, .int .u8 0, .int .u8 0, .int .u8 0, .int .u8 0, .int .u8 0, .int .u8 0, .int .u8 0, .int .u8 0] 24)) w.heap.size 24 (u8s Z32)) := ⟨Blk.new w _ _⟩
  have BE := Bx.mk (below_alloc1 w (Obj.cells #[.int .u8 0, .int .u8 0, .int .u8 0, .int .u8 0, .int .u8 0, .int .u8 0, .int .u8 0, .int .u8 0, .int .u8 0, .int .u8 0, .int .u8 0, .int .u8 0, .int .u8 0, .int .u8 0, .int .u8 0, .int .u8 0, .int .u8 0, .int .u8 0, .int .u8 0, .int .u8 0, .int .u8 0, .int .u8 0, .int .u8 0, .int .u8 0, .int .u8 0, .int .u8 0, .int .u8 0, .int .u8 0, .int .u8 0, .int .u8 0, .int .u8 0, .int .u8 0] 24))
  have HQS : Bx ((w.alloc (Obj.cells #[.int .u8 0, .int .u8 0, .int .u8 0, .int .u8 0, .int .u8 0, .int .u8 0, .int .u8 0, .int .u8 0, .int .u8 0, .int .u8 0, .int .u8 0, .int .u8 0, .int .u8 0, .int .u8 0, .int .u8 0, .int .u8 0, .int .u8 0, .int .u8 0, .int .u8 0, .int .u8 0, .int .u8 0, .int .u8 0, .int .u8 0, .int .u8 0, .int .u8 0, .int .u8 0, .int .u8 0, .int .u8 0, .int .u8 0, .int .u8 0, .int .u8 0, .int .u8 0] 24)).heap.size = w.heap.size + 1) := ⟨by simp⟩
  generalize w.alloc (Obj.cells #[.int .u8 0, .int .u8 0, .int .u8 0, .int .u8 0, .int .u8 0, .int .u8 0, .int .u8 0, .int .u8 0, .int .u8 0, .int .u8 0, .int .u8 0, .int .u8 0, .int .u8 0, .int .u8 0, .int .u8 0, .int .u8 0, .int .u8 0, .int .u8 0, .int .u8 0, .int .u8 0, .int .u8 0, .int .u8 0, .int .u8 0, .int .u8 0, .int .u8 0, .int .u8 0, .int .u8 0, .int .u8 0, .int .u8 0, .int .u8 0, .int .u8 0, .int .u8 0] 24) = W1 at *
  refine wp_region_lit ?_
  refine wpList_plain rfl (fun K hK => ?_)
  go_simp
  refine hK _ _ ?_
  clear hK K
  refine wpList_plain rfl (fun K hK => ?_)
  go_simp
  refine hK _ _ ?_
  clear hK K
  refine wpList_store_new W1 Z32 HZ.out rfl (.tmp 4) (.tmp 6) rfl rfl rfl ?_
  intro w2 k2 hb2
  have P0 : Bx (PS w w.heap.size W1.heap.size Z32 w2) := ⟨⟨⟨rfl, HQS.out⟩, B0.out.below hb2 B0.out.lt, k2, below_then BE.out BE.out.size hb2⟩⟩
  have HQ : Bx (W1.heap.size = w.heap.size + 1) := HQS
  clear k2 hb2 B0 BE HQS
  generalize W1.heap.size = q4 at *
  by_cases h64 : s.size = 64
  · have HL : Bx (L.length = 64) := ⟨by rw [HSL.out, h64]⟩
    have hne : ((s.size : Int) != 64) = false := by rw [h64]; rfl
    have hsz : (s.size : Int) = 64 := by omega
    go_wp2
    go_loopw [5] (fun i w' => ∃ k : Nat, k ≤ 64 ∧ i = .int .i64 k ∧ Bx (∀ j, j < k → digV (L.getD j 0) ≤ 15) ∧ Bx (PS w w.heap.size q4 (accK L k) w')) (fun i _ => 64 - (intOf i).toNat)
    case atStart => exact ⟨0, by omega, rfl, ⟨fun j hj => absurd hj (by omega)⟩, ⟨by rw [accK_zero]; exact P0.out⟩⟩
    case round =>
      obtain ⟨k, hk, rfl, OK, PK⟩ := hrel
      by_cases hlt : k < 64
      · have i1 : ∀ W, (Instr.index 9 (.string s) (.int .i64 (k : Int))).run Tryd.prog W = .ok (.int .u8 ((L.getD k 0 : Nat) : Int)) W := fun W => SI.out k W (by rw [HL.out]; exact hlt)
        have D1 := Bx.mk (fun W => digit_calls (L.getD k 0) W (byte_lt HSB.out k))
        have HAS := Bx.mk (accK_set L k hlt)
        have HAO := Bx.mk (accK_old L k hlt OK.out)
        have HBAD : Bx (15 < digV (L.getD k 0) → parseN L = (Z32, 160)) := ⟨fun h => HP2.out ⟨k, hlt, h⟩⟩
        have HOK : Bx (digV (L.getD k 0) ≤ 15 → ∀ j, j < k + 1 → digV (L.getD j 0) ≤ 15) := ⟨fun h j hj => by
          rcases Nat.lt_or_ge j k with h1 | h1
          · exact OK.out j h1
          · obtain rfl : j = k := by omega
            exact h⟩
        have hv16 : digV (L.getD k 0) ≤ 16 := (digV_hexv _ (byte_lt HSB.out k)).2.2
        generalize L.getD k 0 = X at *
        generalize digV X = V at *
        go_wp2_with (go_at_call 26; fail)
        refine (D1.out _).mono ?_
        rintro e wd ⟨rfl, rfl⟩
        by_cases hbad : 15 < V
        · have hb1 : (15 : Int) < (V : Int) := by omega
          have HE := Bx.mk (HBAD.out hbad)
          have P2 := PK.out.k2
          have PB := Bx.mk PK.out.bel
          clear HAS HAO HBAD HOK D1 i1
          go_wp2_with ((with_reducible refine wpList_store_arr _ w.heap.size (u8s Z32) Z32 P2 HZS.out HZ.out ?_ (.tmp 2) (.tmp 23) ?_ ?_ ?_ ?_); rfl; rfl; rfl; exact HZV.out; intro w4 k4 hb4 _; have K4 := Bx.mk k4; have E4 := Bx.mk (PB.out.trans hb4); clear k4 hb4)
          have LV := load_arr w4 w.heap.size Z32 K4.out HZ.out
          rw [HE.out]
          exact bodyPost_ret (v := .tuple #[.agg (u8s Z32), .int .i64 160]) (by simp [results, Tryd.results21, asAddr, LV]) rfl ⟨rfl, E4.out⟩
        · have hb1 : decide ((15 : Int) < (V : Int)) = false := by simp; omega
          have OKN := Bx.mk (HOK.out (by omega))
          have hkd : Int.tdiv (k : Int) 2 = ((k / 2 : Nat) : Int) := rfl
          have f4 := PK.out.k4.frozen (k / 2)
          have c4 : wd.cell? ⟨q4, k / 2, none⟩ = some (.int .u8 (((accK L k).getD (k / 2) 0 : Nat) : Int)) := (PK.out.k4.cell _).trans (u8s_get _ _ (by rw [accK_len]; omega))
          have PN := Bx.mk (PK.out.set4 (k / 2) ((accK L k).getD (k / 2) 0 * 16 + V))
          rw [HAS.out] at PN
          have hk2 : k / 2 < 32 := by omega
          have hOLD := HAO.out
          generalize (accK L k).getD (k / 2) 0 = OLD at *
          generalize k / 2 = K2 at *
          have ik : (K2 : Int) < 32 := by omega
          have iw1 : IntKind.u8.wrap ((OLD : Int) * 16) = (OLD : Int) * 16 := by rw [IntKind.wrap_u8']; omega
          have iw2 : IntKind.u8.wrap ((OLD : Int) * 16 + (V : Int)) = ((OLD * 16 + V : Nat) : Int) := by rw [IntKind.wrap_u8']; omega
          have kw : IntKind.i64.wrap (K2 : Int) = (K2 : Int) := IntWalk.i64_in _ (by omega)
          clear HAS HAO HBAD HOK PK
          generalize OLD * 16 + V = NN at *
          go_wp2_with fail
          refine wp_region_still_tail 13 (by kernel_rfl) (by kernel_rfl) ?_
          simp only [List.take_succ_cons, List.take_zero, List.drop_succ_cons, List.drop_zero]
          change wpStill _ _ wd.drew (fun a' => wpList _ _ _ _ a' wd.drew) _ _
          iterate 10 still_step
          refine wpStill_step (fun K hK => ?_)
          go_simp
          refine ⟨_, (D1.out _), hK _ ?_⟩
          clear hK K
          repeat still_step
          refine wpStill_nil ?_
          go_wp2
          have PN1 := Bx.mk (PN.out.drewN 1)
          go_roundw
          case rel => exact ⟨k + 1, by omega, by go_num, OKN, PN1⟩
          case measure => simp [intOf]; omega
      · obtain rfl : k = 64 := by omega
        have HE := Bx.mk (HP1.out HL.out OK.out)
        have K4 := PK.out.k4
        have K2 := PK.out.k2
        have PB := Bx.mk PK.out.bel
        have HAL : Bx ((accK L 64).length = 32) := ⟨accK_len L 64⟩
        clear PK OK HP1 HP2 HP3 SI
        generalize accK L 64 = OUT at *
        go_wp2_with (first | ((with_reducible refine wpList_load_arr q4 OUT K4 HAL.out ?_ (.tmp 4) ?_ ?_ ?_); rfl; rfl; rfl) | ((with_reducible refine wpList_store_arr wr w.heap.size (u8s Z32) OUT K2 HZS.out HAL.out ?_ (.tmp 2) (.tmp 41) ?_ ?_ ?_ ?_); rfl; rfl; rfl; rfl; intro w4 k4 hb4 _; have KF := Bx.mk k4; have E4 := Bx.mk (PB.out.trans hb4); clear k4 hb4))
        have LV := load_arr w4 w.heap.size OUT KF.out HAL.out
        rw [HE.out]
        exact bodyPost_ret (v := .tuple #[.agg (u8s OUT), .int .i64 0]) (by simp [results, Tryd.results21, asAddr, LV]) rfl ⟨rfl, E4.out⟩
  · have HL : Bx (L.length ≠ 64) := ⟨by rw [HSL.out]; exact h64⟩
    have hne : ((s.size : Int) != 64) = true := by rw [bne_iff_ne]; omega
    have HE := Bx.mk (HP3.out HL.out)
    have P2 := P0.out.k2
    have PB := Bx.mk P0.out.bel
    generalize hS : s.size = N at *
    clear HP1 HP2 HP3 SI P0
    go_wp2_with fail
    go_loopw [5] (fun i wr => i = .int .i64 0 ∧ wr = w2) (fun i _ => 0)
    case atStart => exact ⟨rfl, rfl⟩
    case round =>
      obtain ⟨rfl, hw⟩ := hrel
      obtain rfl : w2 = wr := hw.symm
      by_cases h0 : 0 < N
      · have h1 : (0 : Int) < (N : Int) := by omega
        go_wp2_with ((with_reducible refine wpList_store_arr _ w.heap.size (u8s Z32) Z32 P2 HZS.out HZ.out ?_ (.tmp 2) (.tmp 23) ?_ ?_ ?_ ?_); rfl; rfl; rfl; exact HZV.out; intro w4 k4 hb4 _; have K4 := Bx.mk k4; have E4 := Bx.mk (PB.out.trans hb4); clear k4 hb4)
        have LV := load_arr w4 w.heap.size Z32 K4.out HZ.out
        rw [HE.out]
        exact bodyPost_ret (v := .tuple #[.agg (u8s Z32), .int .i64 160]) (by simp [results, Tryd.results21, asAddr, LV]) rfl ⟨rfl, E4.out⟩
      · have h1 : decide ((0 : Int) < (N : Int)) = false := by simp; omega
        go_wp2_with ((with_reducible refine wpList_store_arr _ w.heap.size (u8s Z32) Z32 P2 HZS.out HZ.out ?_ (.tmp 2) (.tmp 40) ?_ ?_ ?_ ?_); rfl; rfl; rfl; exact HZV.out; intro w4 k4 hb4 _; have K4 := Bx.mk k4; have E4 := Bx.mk (PB.out.trans hb4); clear k4 hb4)
        have LV := load_arr w4 w.heap.size Z32 K4.out HZ.out
        rw [HE.out]
        exact bodyPost_ret (v := .tuple #[.agg (u8s Z32), .int .i64 160]) (by simp [results, Tryd.results21, asAddr, LV]) rfl ⟨rfl, E4.out⟩
end Go.Proofs.YtkcifjgfgommoaaDoor
