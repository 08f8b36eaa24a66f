import Derived.Test.YtkcifjgfgommoaaDoorDig5
import Derived.Deep.DeepCutAuto
/-
  Digests: Parse, Of, Same.
-/
namespace Go.Proofs.YtkcifjgfgommoaaDoor
open Go.RowKit

theorem str_index (s : ByteArray) (j : Nat) (hj : j < (sb s).length) (W : World) : (Instr.index 9 (.string s) (.int .i64 (j : Int))).run Tryd.prog W = .ok (.int .u8 (((sb s).getD j 0 : Nat) : Int)) W := by
  have hj' : j < s.size := by rw [sb_len] at hj; exact hj
  rw [run_index_string W 9 s .i64 (j : Int) Tryd.underlying9, dif_pos ⟨by omega, by omega⟩]
  congr 1
  congr 1
  unfold sb
  have hj2 : j < s.data.size := hj'
  rw [List.getD_eq_getElem?_getD, List.getElem?_map, Array.getElem?_toList, Array.getElem?_eq_getElem hj2]
  rfl
theorem hexv_pos {c : Nat} (h : ¬ hexv c < 0) : ∃ n : Nat, n < 16 ∧ hexv c = (n : Int) := by
  unfold hexv at h ⊢
  split at h
  · exact ⟨c - 48, by omega, by rw [if_pos (by assumption)]; omega⟩
  · split at h
    · exact ⟨c - 87, by omega, by rw [if_neg (by assumption), if_pos (by assumption)]; omega⟩
    · omega
theorem hexv_neg {c : Nat} (h : hexv c < 0) : hexv c = -1 := by
  unfold hexv at h ⊢
  split at h
  · omega
  · split at h
    · omega
    · rw [if_neg (by assumption), if_neg (by assumption)]
theorem or_nibs : ∀ a : Nat, a < 16 → ∀ b : Nat, b < 16 → bits .or .i64 ((a : Int) * 16) (b : Int) = ((a * 16 + b : Nat) : Int) := by decide +kernel
/-- the bytes that the first k pairs of digits are -/
def parK (L : List Nat) (k : Nat) : List Nat := (List.range 32).map fun i => if i < k then (hexv (L.getD (2 * i) 0)).toNat * 16 + (hexv (L.getD (2 * i + 1) 0)).toNat else 0
def okK (L : List Nat) (k : Nat) : Prop := ∀ j, j < 2 * k → ¬ hexv (L.getD j 0) < 0
instance (L : List Nat) (k : Nat) : Decidable (okK L k) := by unfold okK; infer_instance
def parseN (L : List Nat) : List Nat × Int := if L.length = 64 ∧ okK L 32 then (parK L 32, 0) else (Z32, 160)
theorem parK_len (L : List Nat) (k : Nat) : (parK L k).length = 32 := by simp [parK]
theorem parK_at (L : List Nat) (k i : Nat) (hi : i < 32) : (parK L k).getD i 0 = if i < k then (hexv (L.getD (2 * i) 0)).toNat * 16 + (hexv (L.getD (2 * i + 1) 0)).toNat else 0 := by
  unfold parK
  rw [List.getD_eq_getElem?_getD, List.getElem?_map, List.getElem?_range hi]; rfl
theorem parK_zero (L : List Nat) : parK L 0 = Z32 :=
  getD_ext _ _ (by rw [parK_len]; rfl) fun i hi => by
    rw [parK_len] at hi
    unfold Z32
    rw [parK_at _ _ _ hi, if_neg (by omega), List.getD_eq_getElem?_getD, List.getElem?_replicate, if_pos hi]; rfl
theorem parK_set (L : List Nat) (k : Nat) (hk : k < 32) : (parK L k).set k ((hexv (L.getD (2 * k) 0)).toNat * 16 + (hexv (L.getD (2 * k + 1) 0)).toNat) = parK L (k + 1) :=
  getD_ext _ _ (by rw [List.length_set, parK_len, parK_len]) fun i hi => by
    rw [List.length_set, parK_len] at hi
    rw [parK_at _ _ _ hi]
    by_cases h1 : i = k
    · subst h1
      rw [getD_set_self _ _ _ (by rw [parK_len]; exact hi), if_pos (by omega)]
    · rw [List.getD_eq_getElem?_getD, List.getElem?_set_ne (by omega), ← List.getD_eq_getElem?_getD, parK_at _ _ _ hi]
      by_cases h3 : i < k
      · rw [if_pos h3, if_pos (by omega)]
      · rw [if_neg h3, if_neg (by omega)]
theorem okK_succ {L : List Nat} {k : Nat} (h : okK L k) (h1 : ¬ hexv (L.getD (2 * k) 0) < 0) (h2 : ¬ hexv (L.getD (2 * k + 1) 0) < 0) : okK L (k + 1) := fun j hj => by
  rcases Nat.lt_or_ge j (2 * k) with h3 | h3
  · exact h j h3
  · obtain rfl | rfl : j = 2 * k ∨ j = 2 * k + 1 := by omega
    · exact h1
    · exact h2
/-- the memory inside Parse -/
structure PS (w : World) (q2 q4 : Nat) (d : List Nat) (x : World) : Prop where
  ad : q2 = w.heap.size ∧ q4 = q2 + 1
  k2 : Blk x q2 24 (u8s Z32)
  k4 : Blk x q4 24 (u8s d)
  bel : Below q2 w x
theorem PS.set4 {w x : World} {q2 q4 : Nat} {d : List Nat} (s : PS w q2 q4 d x) (i z : Nat) : PS w q2 q4 (d.set i z) (x.setCell ⟨q4, i, none⟩ (.int .u8 (z : Int))) := by
  have ho := s.ad
  refine ⟨s.ad, s.k2.far (by show _ ≠ q4; omega) _, ?_, s.bel.setCell (by show q2 ≤ q4; omega) _⟩
  have := s.k4.set_ i (.int .u8 (z : Int))
  unfold u8s at this ⊢
  rwa [List.setIfInBounds_toArray, ← List.map_set (f := fun (x : Nat) => Value.int .u8 (x : Int))] at this
theorem PS.drewN {w x : World} {q2 q4 : Nat} {d : List Nat} (s : PS w q2 q4 d x) (n : Nat) : PS w q2 q4 d (x.drewN n) := ⟨s.ad, s.k2, s.k4, below_drewN s.bel n⟩
set_option maxRecDepth 100000 in
set_option maxHeartbeats 2000000 in
theorem Parse_calls (s : ByteArray) (w : World) :
    Calls Tryd.prog 20 #[.string s] w fun e w' => e = .returned (.tuple #[.agg (u8s (parseN (sb s)).1), .int .i64 (parseN (sb s)).2]) ∧ Below w.heap.size w w' := by
  have HI : Bx ((Tryd.prog.info? 24).map (·.size) = some (b8 Z32).length) := ⟨infoO Z32 rfl⟩
  have HI' : Bx ((Tryd.prog.info? 24).map (·.size) = some (u8s Z32).size) := ⟨infoO' Z32 rfl⟩
  have HO1 : Bx ((u8s Z32).all (·.oneCell') = true) := ⟨u8s_one Z32⟩
  have P0 : Bx (PS w w.heap.size (w.heap.size + 1) Z32 ((w.alloc (Obj.cells (u8s Z32) 24)).alloc (Obj.cells (u8s Z32) 24))) := ⟨⟨⟨rfl, rfl⟩, (Blk.new w _ _).alloc _, Blk.new_ (by simp) _ _, ((Below.refl _ _).alloc (Nat.le_refl _) _).alloc (by simp) _⟩⟩
  have HLZ : Bx (Z32.length = 32) := ⟨rfl⟩
  have hlen := sb_len s
  by_cases h64 : s.size = 64
  · have HL : Bx ((sb s).length = 64) := ⟨by rw [hlen, h64]⟩
    have HSB := Bx.mk (sb_mem s)
    have SI : Bx (∀ (j : Nat) (W : World), j < 64 → (Instr.index 9 (.string s) (.int .i64 (j : Int))).run Tryd.prog W = .ok (.int .u8 (((sb s).getD j 0 : Nat) : Int)) W) := ⟨fun j W hj => str_index s j (by rw [HL.out]; exact hj) W⟩
    have DC : Bx (∀ (c : Nat) (W : World), c < 256 → Calls Tryd.prog 25 #[.string DIG, .int .u8 (c : Int)] W fun e w' => e = .returned (.int .i64 (hexv c)) ∧ w' = W) := ⟨fun c W hc => (DigIndex_calls c hc W).mono fun e w' h => ⟨h.1, h.2.symm⟩⟩
    unfold DIG at DC
    have hne : ((s.size : Int) != 64) = false := by rw [h64]; rfl
    have HP1 : Bx (okK (sb s) 32 → parseN (sb s) = (parK (sb s) 32, 0)) := ⟨fun h => if_pos ⟨HL.out, h⟩⟩
    have HP2 : Bx (¬ okK (sb s) 32 → parseN (sb s) = (Z32, 160)) := ⟨fun h => if_neg fun h2 => h h2.2⟩
    clear hlen h64
    generalize sb s = L at *
    go_enter Tryd.func20, Tryd.ntmps20
    go_upto_block 0 with fail
    change Code.wp _ _ _ _ ((w.alloc (Obj.cells (u8s Z32) 24)).alloc (Obj.cells (u8s Z32) 24))
    generalize (w.alloc (Obj.cells (u8s Z32) 24)).alloc (Obj.cells (u8s Z32) 24) = W0 at *
    obtain ⟨q2, hq2⟩ : ∃ q, q = w.heap.size := ⟨_, rfl⟩
    obtain ⟨q4, hq4⟩ : ∃ q, q = w.heap.size + 1 := ⟨_, rfl⟩
    rw [← hq4, ← hq2] at P0 ⊢
    have HQ := Bx.mk hq2
    clear hq2 hq4
    go_wp2
    go_loopw [12] (fun i w' => ∃ k : Nat, k ≤ 32 ∧ i = .int .i64 k ∧ Bx (okK L k) ∧ Bx (PS w q2 q4 (parK L k) w')) (fun i _ => 32 - (intOf i).toNat)
    case atStart => exact ⟨0, by omega, rfl, ⟨fun j hj => absurd hj (by omega)⟩, ⟨by rw [parK_zero]; exact P0.out⟩⟩
    case round =>
      obtain ⟨k, hk, rfl, OK, PK⟩ := hrel
      by_cases hlt : k < 32
      · have i1 : ∀ W, (Instr.index 9 (.string s) (.int .i64 (2 * (k : Int)))).run Tryd.prog W = .ok (.int .u8 ((L.getD (2 * k) 0 : Nat) : Int)) W := fun W => by
          have := SI.out (2 * k) W (by omega)
          rw [show ((2 * k : Nat) : Int) = 2 * (k : Int) by omega] at this
          exact this
        have i2 : ∀ W, (Instr.index 9 (.string s) (.int .i64 (2 * (k : Int) + 1))).run Tryd.prog W = .ok (.int .u8 ((L.getD (2 * k + 1) 0 : Nat) : Int)) W := fun W => by
          have := SI.out (2 * k + 1) W (by omega)
          rw [show ((2 * k + 1 : Nat) : Int) = 2 * (k : Int) + 1 by omega] at this
          exact this
        have x1 := byte_lt HSB.out (2 * k)
        have x2 := byte_lt HSB.out (2 * k + 1)
        have d1 := fun W => DC.out _ W x1
        have d2 := fun W => DC.out _ W x2
        have D1 := Bx.mk d1
        have D2 := Bx.mk d2
        have HPS := Bx.mk (parK_set L k hlt)
        have HOS := Bx.mk (@okK_succ L k OK.out)
        have HNO : Bx (hexv (L.getD (2 * k) 0) < 0 ∨ hexv (L.getD (2 * k + 1) 0) < 0 → ¬ okK L 32) := ⟨fun h h2 => by
          rcases h with h | h
          · exact h2 (2 * k) (by omega) h
          · exact h2 (2 * k + 1) (by omega) h⟩
        clear d1 d2 x1 x2
        have hw1 : IntKind.i64.wrap (2 * (k : Int)) = 2 * (k : Int) := IntWalk.i64_in _ (by omega)
        have hw2 : IntKind.i64.wrap (2 * (k : Int) + 1) = 2 * (k : Int) + 1 := IntWalk.i64_in _ (by omega)
        have HV1 := Bx.mk (@hexv_pos (L.getD (2 * k) 0))
        have HV2 := Bx.mk (@hexv_pos (L.getD (2 * k + 1) 0))
        have HV3 := Bx.mk (@hexv_neg (L.getD (2 * k) 0))
        have HV4 := Bx.mk (@hexv_neg (L.getD (2 * k + 1) 0))
        generalize L.getD (2 * k) 0 = X1 at *
        generalize L.getD (2 * k + 1) 0 = X2 at *
        go_wp2_with fail
        go_quiet (first | exact Calls.quiet_of_same (D1.out _) | exact Calls.quiet_of_same (D2.out _))
        have PD : Bx (PS w q2 q4 (parK L k) (wr.drewN nq)) := ⟨PK.out.drewN nq⟩
        generalize wr.drewN nq = w5 at *
        clear i1 i2 hw1 hw2 PK D1 D2
        by_cases hv1 : hexv X1 < 0
        · have HE : Bx (parseN L = (Z32, 160)) := ⟨HP2.out (HNO.out (.inl hv1))⟩
          have hx1 := HV3.out hv1
          clear hv1
          generalize hexv X1 = V1 at *
          subst hx1
          generalize hexv X2 = V2 at *
          have T2 := PD.out.k2.there (u8s Z32).size rfl
          have BO : Blk (w5.setCells q2 0 (u8s Z32).toList) q2 24 (u8s Z32) := PD.out.k2.setAll rfl
          have BF : Bx (Below q2 w (w5.setCells q2 0 (u8s Z32).toList)) := ⟨below_setCells _ (Nat.le_refl _) _ _ PD.out.bel⟩
          have HZ : Bx (Value.agg #[.int .u8 0, .int .u8 0, .int .u8 0, .int .u8 0, .int .u8 0, .int .u8 0, .int .u8 0, .int .u8 0, .int .u8 0, .int .u8 0, .int .u8 0, .int .u8 0, .int .u8 0, .int .u8 0, .int .u8 0, .int .u8 0, .int .u8 0, .int .u8 0, .int .u8 0, .int .u8 0, .int .u8 0, .int .u8 0, .int .u8 0, .int .u8 0, .int .u8 0, .int .u8 0, .int .u8 0, .int .u8 0, .int .u8 0, .int .u8 0, .int .u8 0, .int .u8 0] = Value.agg (u8s Z32)) := ⟨rfl⟩
          generalize Z32 = Z at *
          go_wp2_with ((with_reducible refine wpList_store_mid ?_ 24 (.tmp 2) (.tmp 32) ?_ q2 0 (u8s Z) ?_ ?_ T2 HI'.out HO1.out ?_); rfl; rfl; rfl; exact HZ.out)
          have LV := run_loadVar_mid (P := Tryd.prog) _ q2 0 24 (b8 Z) (.array 32 5) (Blk.range BO) (by kernel_rfl) rfl HI.out
          generalize w5.setCells q2 0 (u8s Z).toList = FW at *
          rw [HE.out]
          refine bodyPost_ret (v := .tuple #[.agg (u8s Z), .int .i64 160]) (by simp [results, Tryd.results20, asAddr, LV]; rfl) rfl ⟨rfl, ?_⟩
          rw [← HQ.out]; exact BF.out
        · obtain ⟨n1, hn1, e1⟩ := HV1.out (by omega)
          by_cases hv2 : hexv X2 < 0
          · have HE : Bx (parseN L = (Z32, 160)) := ⟨HP2.out (HNO.out (.inr hv2))⟩
            have hx2 := HV4.out hv2
            clear hv1 hv2
            generalize hexv X1 = V1 at *
            subst e1
            generalize hexv X2 = V2 at *
            subst hx2
            have T2 := PD.out.k2.there (u8s Z32).size rfl
            have BO : Blk (w5.setCells q2 0 (u8s Z32).toList) q2 24 (u8s Z32) := PD.out.k2.setAll rfl
            have BF : Bx (Below q2 w (w5.setCells q2 0 (u8s Z32).toList)) := ⟨below_setCells _ (Nat.le_refl _) _ _ PD.out.bel⟩
            have HZ : Bx (Value.agg #[.int .u8 0, .int .u8 0, .int .u8 0, .int .u8 0, .int .u8 0, .int .u8 0, .int .u8 0, .int .u8 0, .int .u8 0, .int .u8 0, .int .u8 0, .int .u8 0, .int .u8 0, .int .u8 0, .int .u8 0, .int .u8 0, .int .u8 0, .int .u8 0, .int .u8 0, .int .u8 0, .int .u8 0, .int .u8 0, .int .u8 0, .int .u8 0, .int .u8 0, .int .u8 0, .int .u8 0, .int .u8 0, .int .u8 0, .int .u8 0, .int .u8 0, .int .u8 0] = Value.agg (u8s Z32)) := ⟨rfl⟩
            generalize Z32 = Z at *
            go_wp2_with ((with_reducible refine wpList_store_mid ?_ 24 (.tmp 2) (.tmp 32) ?_ q2 0 (u8s Z) ?_ ?_ T2 HI'.out HO1.out ?_); rfl; rfl; rfl; exact HZ.out)
            have LV := run_loadVar_mid (P := Tryd.prog) _ q2 0 24 (b8 Z) (.array 32 5) (Blk.range BO) (by kernel_rfl) rfl HI.out
            generalize w5.setCells q2 0 (u8s Z).toList = FW at *
            rw [HE.out]
            refine bodyPost_ret (v := .tuple #[.agg (u8s Z), .int .i64 160]) (by simp [results, Tryd.results20, asAddr, LV]; rfl) rfl ⟨rfl, ?_⟩
            rw [← HQ.out]; exact BF.out
          · obtain ⟨n2, hn2, e2⟩ := HV2.out (by omega)
            have HO2 := Bx.mk (HOS.out (by omega) (by omega))
            clear hv1 hv2
            have or1 := or_nibs n1 hn1 n2 hn2
            have HW : Bx ((parK L k).set k (n1 * 16 + n2) = parK L (k + 1)) := ⟨by have := HPS.out; rw [e1, e2, Int.toNat_natCast, Int.toNat_natCast] at this; exact this⟩
            clear HPS
            generalize hexv X1 = V1 at *
            subst e1
            generalize hexv X2 = V2 at *
            subst e2
            have f4 := PD.out.k4.frozen k
            have c4 : w5.cell? ⟨q4, k, none⟩ = some (.int .u8 (((parK L k).getD k 0 : Nat) : Int)) := (PD.out.k4.cell _).trans (u8s_get _ _ (by rw [parK_len]; exact hlt))
            have PN := Bx.mk (PD.out.set4 k (n1 * 16 + n2))
            rw [HW.out] at PN
            have hNN : n1 * 16 + n2 < 256 := by omega
            generalize (parK L k).getD k 0 = OLD at *
            generalize n1 * 16 + n2 = NN at *
            have ik : (k : Int) < 32 := by omega
            have ik1 : IntKind.u8.wrap (NN : Int) = (NN : Int) := by rw [IntKind.wrap_u8']; omega
            go_wp2
            go_roundw
            case rel => exact ⟨k + 1, by omega, by go_num, HO2, PN⟩
            case measure => simp [intOf]; omega
      · obtain rfl : k = 32 := by omega
        have HE : Bx (parseN L = (parK L 32, 0)) := ⟨HP1.out OK.out⟩
        have R4 : wr.rangeAt q4 0 (b8 (parK L 32)) := Blk.range PK.out.k4
        have T2 := PK.out.k2.there (u8s (parK L 32)).size (by rw [u8s_size, u8s_size, parK_len]; rfl)
        have HI24 : Bx ((Tryd.prog.info? 24).map (·.size) = some (b8 (parK L 32)).length) := ⟨infoO _ (parK_len ..)⟩
        have HI24' : Bx ((Tryd.prog.info? 24).map (·.size) = some (u8s (parK L 32)).size) := ⟨infoO' _ (parK_len ..)⟩
        have BO : Blk (wr.setCells q2 0 (u8s (parK L 32)).toList) q2 24 (u8s (parK L 32)) := PK.out.k2.setAll (by rw [u8s_size, u8s_size, parK_len]; rfl)
        have BF : Bx (Below q2 w (wr.setCells q2 0 (u8s (parK L 32)).toList)) := ⟨below_setCells _ (Nat.le_refl _) _ _ PK.out.bel⟩
        generalize parK L 32 = OUT at *
        go_wp2_with (first | ((with_reducible refine wpList_load_mid ?_ 24 (.tmp 4) ?_ q4 0 ?_ (b8 OUT) (.array 32 5) R4 ?_ ?_ HI24.out ?_); rfl; rfl; rfl; kernel_rfl; rfl) | ((with_reducible refine wpList_store_mid ?_ 24 (.tmp 2) (.tmp 41) ?_ q2 0 (u8s OUT) ?_ ?_ T2 HI24'.out (u8s_one _) ?_); rfl; rfl; rfl; rfl))
        have LV := run_loadVar_mid (P := Tryd.prog) _ q2 0 24 (b8 OUT) (.array 32 5) (Blk.range BO) (by kernel_rfl) rfl HI24.out
        generalize wr.setCells q2 0 (u8s OUT).toList = FW at *
        rw [HE.out]
        refine bodyPost_ret (v := .tuple #[.agg (u8s OUT), .int .i64 0]) (by simp [results, Tryd.results20, asAddr, LV]; rfl) rfl ⟨rfl, ?_⟩
        rw [← HQ.out]; exact BF.out
  · have hne : ((s.size : Int) != 64) = true := by rw [bne_iff_ne]; omega
    have HE : Bx (parseN (sb s) = (Z32, 160)) := ⟨if_neg fun h => h64 (by rw [← hlen]; exact h.1)⟩
    clear hlen h64
    go_enter Tryd.func20, Tryd.ntmps20
    go_upto_region 3 with fail
    change Code.wp _ _ _ _ ((w.alloc (Obj.cells (u8s Z32) 24)).alloc (Obj.cells (u8s Z32) 24))
    generalize (w.alloc (Obj.cells (u8s Z32) 24)).alloc (Obj.cells (u8s Z32) 24) = W at *
    have R6 : W.rangeAt (w.heap.size + 1) 0 (b8 Z32) := Blk.range P0.out.k4
    have T4 := P0.out.k2.there (u8s Z32).size rfl
    have BO : Blk (W.setCells w.heap.size 0 (u8s Z32).toList) w.heap.size 24 (u8s Z32) := P0.out.k2.setAll rfl
    have BF : Bx (Below w.heap.size w (W.setCells w.heap.size 0 (u8s Z32).toList)) := ⟨below_setCells _ (Nat.le_refl _) _ _ P0.out.bel⟩
    generalize Z32 = Z at *
    go_wp2_with (first | ((with_reducible refine wpList_load_mid ?_ 24 (.tmp 4) ?_ (w.heap.size + 1) 0 ?_ (b8 Z) (.array 32 5) R6 ?_ ?_ HI.out ?_); rfl; rfl; rfl; kernel_rfl; rfl) | ((with_reducible refine wpList_store_mid ?_ 24 (.tmp 2) (.tmp 11) ?_ w.heap.size 0 (u8s Z) ?_ ?_ T4 HI'.out HO1.out ?_); rfl; rfl; rfl; rfl))
    have LV := run_loadVar_mid (P := Tryd.prog) _ w.heap.size 0 24 (b8 Z) (.array 32 5) (Blk.range BO) (by kernel_rfl) rfl HI.out
    generalize W.setCells w.heap.size 0 (u8s Z).toList = FW at *
    rw [HE.out]
    exact bodyPost_ret (v := .tuple #[.agg (u8s Z), .int .i64 160]) (by simp [results, Tryd.results20, asAddr, LV]; rfl) rfl ⟨rfl, BF.out⟩

set_option maxHeartbeats 1000000 in
theorem Of_calls (s : ByteArray) (w : World) (hg : Gl w) (hs : s.size ≤ 140737488351232) :
    Calls Tryd.prog 13 #[.string s] w fun e w' => e = .returned (.string (st (hexL (keyedN [] (sb s))))) ∧ Below w.heap.size w w' := by
  obtain ⟨c, w1, hcv, hr, hc, hb⟩ := conv_bts w s hs
  have HS := Bx.mk (Sum_calls (some ⟨w.heap.size, 0, none⟩) (sb s) c w1 (hg.below hb) hr hc)
  have HH := Bx.mk (fun W => Hex_calls (keyedN [] (sb s)) W (outK_len _ _) (outK_mem _ _))
  have HB := Bx.mk hb
  clear hr hc hb hg hs
  generalize keyedN [] (sb s) = K at *
  go_enter Tryd.func13, Tryd.ntmps13
  go_wp2_with fail
  refine HS.out.mono ?_
  rintro e w2 ⟨rfl, hb2⟩
  have HB2 := Bx.mk (HB.out.trans (hb2.mono HB.out.size))
  clear hb2
  go_wp2_with fail
  refine (HH.out _).mono ?_
  rintro e w3 ⟨rfl, hb3⟩
  have HB3 := Bx.mk (HB2.out.trans (hb3.mono HB2.out.size))
  clear hb3
  go_wp2
  go_ret
  exact ⟨rfl, HB3.out⟩
/-- Same: s is the text of b's digest -/
def sameN (s : ByteArray) (b : List Nat) : Bool := s.toList == (st (hexL (keyedN [] b))).toList
theorem sameN_iff (s : ByteArray) (b : List Nat) : sameN s b = decide (s = st (hexL (keyedN [] b))) := by
  unfold sameN
  rw [Bool.eq_iff_iff, beq_iff_eq, decide_eq_true_iff]
  constructor
  · intro h
    rw [ByteArray.toList_eq, ByteArray.toList_eq] at h
    have h2 : s.data = (st (hexL (keyedN [] b))).data := Array.toList_inj.1 h
    exact ByteArray.ext h2
  · intro h; rw [h]
set_option maxHeartbeats 1000000 in
theorem Same_calls (s : ByteArray) (B : Option Addr) (b : List Nat) (d : Nat) (w : World) (hg : Gl w) (hB : RB w B b) :
    Calls Tryd.prog 19 #[.string s, .slice B b.length d] w fun e w' => e = .returned (.bool (decide (s = st (hexL (keyedN [] b))))) ∧ Below w.heap.size w w' := by
  have hcv := conv_str w B d b hB
  have HO := Bx.mk (Of_calls (st b) w hg (by rw [st_size]; exact hB.2.1))
  rw [sb_st b hB.1] at HO
  have HS := Bx.mk (sameN_iff s b)
  clear hg hB
  rw [← HS.out]
  unfold sameN
  generalize st (hexL (keyedN [] b)) = T at *
  generalize st b = SB at *
  go_enter Tryd.func19, Tryd.ntmps19
  go_wp2_with fail
  refine HO.out.mono ?_
  rintro e w2 ⟨rfl, hb2⟩
  have HB2 := Bx.mk hb2
  clear hb2
  go_wp2
  go_ret
  exact ⟨rfl, HB2.out⟩
end Go.Proofs.YtkcifjgfgommoaaDoor
