import Derived.Test.YtkcifjgfgommoaaDoorDig2
/-
  Digests: press, walked.
-/
namespace Go.Proofs.YtkcifjgfgommoaaDoor
open Go.RowKit

theorem flip_nat (x : Nat) (h : x < 4294967296) : bits .xor .u32 IntKind.u32.max (x : Int) = ((4294967295 - x : Nat) : Int) := by
  have h1 : (4294967295 ^^^ x : Nat) = 4294967295 - x := by
    apply Nat.eq_of_testBit_eq
    intro i
    rw [Nat.testBit_xor, show (4294967295 : Nat) = 2 ^ 32 - 1 from rfl, Nat.testBit_two_pow_sub_one, show 2 ^ 32 - 1 - x = 2 ^ 32 - (x + 1) by omega, Nat.testBit_two_pow_sub_succ (by omega)]
    rcases Nat.lt_or_ge i 32 with hi | hi
    · simp [hi]
    · have : x.testBit i = false := Nat.testBit_lt_two_pow (Nat.lt_of_lt_of_le h (Nat.pow_le_pow_right (n := 2) (by omega) hi))
      simp [this, show ¬ i < 32 by omega]
  have h2 := u32_xor_nat 4294967295 x (by omega) h
  rw [h1] at h2
  exact h2

theorem zero8 : ∀ i, i < 8 → (wd (List.replicate 8 0))[i]? = some (.int .u32 0) := fun i hi => by
  obtain rfl | rfl | rfl | rfl | rfl | rfl | rfl | rfl : i = 0 ∨ i = 1 ∨ i = 2 ∨ i = 3 ∨ i = 4 ∨ i = 5 ∨ i = 6 ∨ i = 7 := by omega
  all_goals rfl
/-- the state behind k of the last loop's rounds -/
def finK (h V : List Nat) (k : Nat) : List Nat := (List.range 8).map fun i => if i < k then h.getD i 0 ^^^ (V.getD i 0 ^^^ V.getD (i + 8) 0) else h.getD i 0
theorem finK_len (h V : List Nat) (k : Nat) : (finK h V k).length = 8 := by simp [finK]
theorem getD_ext (l m : List Nat) (hl : l.length = m.length) (h : ∀ i, i < l.length → l.getD i 0 = m.getD i 0) : l = m := by
  apply List.ext_getElem hl
  intro i h1 h2
  rw [← getD_getElem l i h1, ← getD_getElem m i h2]; exact h i h1
theorem finK_at (h V : List Nat) (k i : Nat) (hi : i < 8) : (finK h V k).getD i 0 = if i < k then h.getD i 0 ^^^ (V.getD i 0 ^^^ V.getD (i + 8) 0) else h.getD i 0 := by
  unfold finK
  rw [List.getD_eq_getElem?_getD, List.getElem?_map, List.getElem?_range hi]; rfl
theorem finK_zero (h V : List Nat) (hl : h.length = 8) : finK h V 0 = h :=
  getD_ext _ _ (by rw [finK_len, hl]) fun i hi => by rw [finK_at _ _ _ _ (by rw [finK_len] at hi; exact hi), if_neg (by omega)]
theorem finK_all (h V : List Nat) : finK h V 8 = (List.range 8).map fun i => h.getD i 0 ^^^ (V.getD i 0 ^^^ V.getD (i + 8) 0) := by
  unfold finK
  apply List.map_congr_left
  intro i hi
  rw [if_pos (List.mem_range.1 hi)]
theorem finK_get (h V : List Nat) (k : Nat) (hk : k < 8) : (finK h V k).getD k 0 = h.getD k 0 := by
  rw [finK_at _ _ _ _ hk, if_neg (by omega)]
theorem finK_set (h V : List Nat) (k : Nat) (hk : k < 8) : (finK h V k).set k (h.getD k 0 ^^^ (V.getD k 0 ^^^ V.getD (k + 8) 0)) = finK h V (k + 1) :=
  getD_ext _ _ (by rw [List.length_set, finK_len, finK_len]) fun i hi => by
    rw [List.length_set, finK_len] at hi
    rw [finK_at _ _ _ _ hi]
    by_cases h1 : i = k
    · subst h1
      rw [getD_set_self _ _ _ (by rw [finK_len]; exact hi), if_pos (by omega)]
    · have : ((finK h V k).set k (h.getD k 0 ^^^ (V.getD k 0 ^^^ V.getD (k + 8) 0))).getD i 0 = (finK h V k).getD i 0 := by
        rw [List.getD_eq_getElem?_getD, List.getElem?_set_ne (by omega), ← List.getD_eq_getElem?_getD]
      rw [this, finK_at _ _ _ _ hi]
      by_cases h3 : i < k
      · rw [if_pos h3, if_pos (by omega)]
      · rw [if_neg h3, if_neg (by omega)]
theorem rw_one (r : Nat) {R : Nat → Array Value} (hR : ∀ r, R r = (b8 rowsF).toArray.extract (r * 16) (r * 16 + 16)) : (R r).all (·.oneCell') = true := by
  rw [hR, Array.all_eq_true]
  intro i hi
  rw [Array.getElem_extract, List.getElem_toArray]
  unfold b8
  rw [List.getElem_map]; rfl

set_option maxRecDepth 100000 in
set_option maxHeartbeats 4000000 in
theorem press_calls (h b : List Nat) (taken : Nat) (last : Bool) (w : World) (hg : Gl w) (hh : W32 h) (hl : h.length = 8) (hb : ∀ x ∈ b, x < 256) (hbl : b.length = 64) (ht : taken < 18446744073709551616) :
    Calls Tryd.prog 22 #[.agg (wd h), .agg (u8s b), .int .u64 taken, .bool last] w fun e w' =>
      e = .returned (.agg (wd (pressN h b taken last))) ∧ Below w.heap.size w w' := by
  go_enter Tryd.func22, Tryd.ntmps22
  go_wp2
  obtain ⟨W, hW⟩ : ∃ W, W = (((w.alloc (Obj.cells (wd h) 40)).alloc (Obj.cells (u8s b) 41)).alloc (Obj.cells (wd (List.replicate 8 0)) 40)).alloc (Obj.cells (wd (List.replicate 16 0)) 49) := ⟨_, rfl⟩
  have S0 := Bx.mk (St.first (b := b) (h := h) hW hg)
  clear hg
  rw [show ((((w.alloc (Obj.cells (wd h) 40)).alloc (Obj.cells (u8s b) 41)).alloc
          (Obj.cells
            #[Value.int IntKind.u32 0, Value.int IntKind.u32 0, Value.int IntKind.u32 0, Value.int IntKind.u32 0,
              Value.int IntKind.u32 0, Value.int IntKind.u32 0, Value.int IntKind.u32 0, Value.int IntKind.u32 0]
            40)).alloc
      (Obj.cells
        #[Value.int IntKind.u32 0, Value.int IntKind.u32 0, Value.int IntKind.u32 0, Value.int IntKind.u32 0,
          Value.int IntKind.u32 0, Value.int IntKind.u32 0, Value.int IntKind.u32 0, Value.int IntKind.u32 0,
          Value.int IntKind.u32 0, Value.int IntKind.u32 0, Value.int IntKind.u32 0, Value.int IntKind.u32 0,
          Value.int IntKind.u32 0, Value.int IntKind.u32 0, Value.int IntKind.u32 0, Value.int IntKind.u32 0]
        49)) = W from hW.symm]
  clear hW
  obtain ⟨p3, hp3⟩ : ∃ p, p = w.heap.size + 3 := ⟨_, rfl⟩
  obtain ⟨p2, hp2⟩ : ∃ p, p = w.heap.size + 2 := ⟨_, rfl⟩
  obtain ⟨p1, hp1⟩ : ∃ p, p = w.heap.size + 1 := ⟨_, rfl⟩
  obtain ⟨p0, hp0⟩ : ∃ p, p = w.heap.size := ⟨_, rfl⟩
  rw [show w.heap.size + 1 + 1 + 1 = p3 from hp3.symm, show w.heap.size + 1 + 1 = p2 from hp2.symm, ← hp1, ← hp0]
  rw [← hp3, ← hp2, ← hp1, ← hp0] at S0
  have HP0 := Bx.mk hp0
  clear hp0 hp1 hp2 hp3
  have HSRC : Bx (∀ j v, (ws h)[j]? = some v → W.drew.cell? ((⟨p0, 0, none⟩ : Addr).add j) = some v) := ⟨fun j v hv => by
    obtain ⟨hj, rfl⟩ := ws_get h j v hv
    rw [add_plain]
    exact (S0.out.b0.cell j).trans (wd_get h j hj)⟩
  have G : Blk W.drew p3 49 (ws (List.replicate 16 0)).toArray := S0.out.drew.b3
  have HFIT : Bx (0 + (ws h).length ≤ (ws (List.replicate 16 0)).length) := ⟨by rw [ws_len, ws_len, hl]; decide⟩
  have HGI : Bx (goInt (ws h).length = .int .i64 8) := ⟨by rw [ws_len, hl]; rfl⟩
  have HSP := Bx.mk (ws_splice (List.replicate 16 0) 0 h)
  have HF2 : Bx (8 + (ws ivL).length ≤ (ws (splice (List.replicate 16 0) 0 h)).length) := ⟨by rw [ws_len, ws_len, length_splice _ _ _ (by rw [hl]; decide)]; decide⟩
  have HS2 : Bx (splice (ws (splice (List.replicate 16 0) 0 h)) 8 (ws ivL) = ws (h ++ ivL)) := ⟨by rw [ws_splice, splice_two h hl]⟩
  have HGI2 : Bx (goInt (ws ivL).length = .int .i64 8) := ⟨by rw [ws_len]; rfl⟩
  generalize splice (List.replicate 16 0) 0 h = V1 at *
  go_region_law ((refine step_copy_splice rfl (.tmp 18) (.tmp 19) 44 44 rfl 38 Tryd.underlying44 size_u32 (some ⟨p3, 0, none⟩) (some ⟨p0, 0, none⟩) 8 16 8 8 (by go_simp) (by go_simp) p3 0 (ws (List.replicate 16 0)) 49 G (ws h) (by rw [ws_len, hl]; decide) (fun _ => ⟨rfl, _, rfl, HSRC.out⟩) HFIT.out (ws_one _) p3 W.drew (Below.refl _ _) (Nat.le_refl _) ?_; intro w5 hg5 hb5; rw [HGI.out]; have S5 : Bx (St w p0 p1 p2 p3 h b V1 w5) := ⟨S0.out.drew.turn hb5 (by have := hg5.out; rw [HSP.out] at this; exact this)⟩; clear hg5 hb5))
  clear HSRC HFIT HGI HSP G S0
  have G : Blk w5.drew p3 49 (ws V1).toArray := S5.out.drew.b3
  have HSRC : Bx (∀ j v, (ws ivL)[j]? = some v → w5.drew.cell? ((⟨0, 0, none⟩ : Addr).add j) = some v) := ⟨fun j v hv => by
    obtain ⟨hj, rfl⟩ := ws_get ivL j v hv
    rw [add_plain]
    exact S5.out.gx.iv j hj⟩
  go_wp2
  go_region_law ((refine step_copy_splice rfl (.tmp 21) (.tmp 22) 44 44 rfl 38 Tryd.underlying44 size_u32 (some ⟨p3, 8, none⟩) (some ⟨0, 0, none⟩) 8 8 8 8 (by go_simp) (by go_simp) p3 8 (ws V1) 49 G (ws ivL) (by rw [ws_len]; decide) (fun _ => ⟨rfl, _, rfl, HSRC.out⟩) HF2.out (ws_one _) p3 w5.drew (Below.refl _ _) (Nat.le_refl _) ?_; intro w6 hg6 hb6; rw [HGI2.out]; have S6 : Bx (St w p0 p1 p2 p3 h b (h ++ ivL) w6) := ⟨S5.out.drew.turn hb6 (by have := hg6.out; rw [HS2.out] at this; exact this)⟩; clear hg6 hb6))
  clear HSRC HF2 HGI2 HS2 G S5
  have HU : Bx ((h ++ ivL).length = 16) := ⟨by rw [List.length_append, hl]; rfl⟩
  have hu : W32 (h ++ ivL) := fun z hz => by rcases List.mem_append.1 hz with h1 | h1; exact hh z h1; exact ivL_w32 z h1
  have HF : Bx (firstV h taken last = if last then (((h ++ ivL).set 12 ((h ++ ivL).getD 12 0 ^^^ taken % 4294967296)).set 13 (((h ++ ivL).set 12 ((h ++ ivL).getD 12 0 ^^^ taken % 4294967296)).getD 13 0 ^^^ taken / 4294967296)).set 14 (4294967295 - (((h ++ ivL).set 12 ((h ++ ivL).getD 12 0 ^^^ taken % 4294967296)).set 13 (((h ++ ivL).set 12 ((h ++ ivL).getD 12 0 ^^^ taken % 4294967296)).getD 13 0 ^^^ taken / 4294967296)).getD 14 0) else ((h ++ ivL).set 12 ((h ++ ivL).getD 12 0 ^^^ taken % 4294967296)).set 13 (((h ++ ivL).set 12 ((h ++ ivL).getD 12 0 ^^^ taken % 4294967296)).getD 13 0 ^^^ taken / 4294967296)) := ⟨rfl⟩
  have HV : Bx ((firstV h taken last).length = 16) := ⟨(firstV_w32 hh hl taken ht last).2⟩
  have HV2 : Bx (W32 (firstV h taken last)) := ⟨(firstV_w32 hh hl taken ht last).1⟩
  have HPR : Bx (pressN h b taken last = (List.range 8).map fun i => h.getD i 0 ^^^ ((mixAll (blockW b) 10 (firstV h taken last)).getD i 0 ^^^ (mixAll (blockW b) 10 (firstV h taken last)).getD (i + 8) 0)) := ⟨rfl⟩
  generalize firstV h taken last = V0 at *
  generalize h ++ ivL = U at *
  have x12 := u32_xor_nat (U.getD 12 0) (taken % 4294967296) (hu.get 12) (by omega)
  have c12 := (S6.out.b3.cell 12).trans (wd_get U 12 (by rw [HU.out]; decide))
  have f12 := S6.out.b3.frozen 12
  have l12 : U.getD 12 0 ^^^ taken % 4294967296 < 4294967296 := Nat.xor_lt_two_pow (n := 32) (hu.get 12) (Nat.mod_lt _ (by omega))
  have hu2 := hu.set_ 12 l12
  generalize U.getD 12 0 ^^^ taken % 4294967296 = Y12 at *
  have S7 := Bx.mk (S6.out.set3 12 Y12)
  have HU2 : Bx ((U.set 12 Y12).length = 16) := ⟨by rw [List.length_set]; exact HU.out⟩
  generalize U.getD 12 0 = X12 at *
  generalize U.set 12 Y12 = U2 at *
  have x13 := u32_xor_nat (U2.getD 13 0) (taken / 4294967296) (hu2.get 13) (by omega)
  have c13 := (S7.out.b3.cell 13).trans (wd_get U2 13 (by rw [HU2.out]; decide))
  have f13 := S7.out.b3.frozen 13
  have l13 : U2.getD 13 0 ^^^ taken / 4294967296 < 4294967296 := Nat.xor_lt_two_pow (n := 32) (hu2.get 13) (by omega)
  have hu3 := hu2.set_ 13 l13
  generalize U2.getD 13 0 ^^^ taken / 4294967296 = Y13 at *
  have S8 := Bx.mk (S7.out.set3 13 Y13)
  have HU3 : Bx ((U2.set 13 Y13).length = 16) := ⟨by rw [List.length_set]; exact HU2.out⟩
  generalize U2.getD 13 0 = X13 at *
  generalize U2.set 13 Y13 = U3 at *
  have hd1 : (taken : Int) % 4294967296 = ((taken % 4294967296 : Nat) : Int) := by omega
  have hd2 : (taken : Int) / 4294967296 = ((taken / 4294967296 : Nat) : Int) := by omega
  have hd3 : ((taken / 4294967296 : Nat) : Int) % 4294967296 = ((taken / 4294967296 : Nat) : Int) := by omega
  generalize taken % 4294967296 = T0 at *
  generalize taken / 4294967296 = T1 at *
  clear S6 S7
  go_upto_if 37 with fail
  go_cut [9] (fun s9 wx => s9 = .pointer (some ⟨p3, 0, none⟩) ∧ Bx (St w p0 p1 p2 p3 h b V0 wx))
  case first =>
    clear HPR hb ht hbl hh hl HV HV2
    clear x12 c12 f12 x13 c13 f13 hd1 hd2 hd3
    generalize (w6.setCell ⟨p3, 12, none⟩ (.int .u32 (Y12 : Int))).setCell ⟨p3, 13, none⟩ (.int .u32 (Y13 : Int)) = w7 at *
    have c14 := (S8.out.b3.cell 14).trans (wd_get U3 14 (by rw [HU3.out]; decide))
    have f14 := S8.out.b3.frozen 14
    have hl14 := hu3.get 14
    have S9 := Bx.mk (S8.out.set3 14 (4294967295 - U3.getD 14 0))
    have h14 : (4294967295 : Int) - (U3.getD 14 0 : Int) = ((4294967295 - U3.getD 14 0 : Nat) : Int) := by omega
    generalize U3.getD 14 0 = X14 at *
    cases last
    · go_wp2
      go_meet
      case rel => exact ⟨rfl, ⟨by rw [show V0 = U3 by simpa using HF.out]; exact S8.out⟩⟩
    · have HX := Bx.mk (flip_nat X14 hl14)
      go_wp2
      go_meet
      case rel => exact ⟨rfl, ⟨by rw [show V0 = U3.set 14 (4294967295 - X14) by simpa using HF.out, HX.out]; exact S9.out⟩⟩
  case rest =>
    obtain ⟨rfl, S1⟩ := hcut
    clear HF x12 c12 f12 x13 c13 f13 hd1 hd2 hd3 S8 hu hu2 hu3 HU HU2 HU3 l12 l13
    go_upto_block 0 with fail
    obtain ⟨w8, hw8⟩ : ∃ w8, w8 = wc.alloc (.cells (wd (mK b 0)) 49) := ⟨_, rfl⟩
    rw [show wc.alloc (Obj.cells
        #[Value.int IntKind.u32 0, Value.int IntKind.u32 0, Value.int IntKind.u32 0, Value.int IntKind.u32 0,
          Value.int IntKind.u32 0, Value.int IntKind.u32 0, Value.int IntKind.u32 0, Value.int IntKind.u32 0,
          Value.int IntKind.u32 0, Value.int IntKind.u32 0, Value.int IntKind.u32 0, Value.int IntKind.u32 0,
          Value.int IntKind.u32 0, Value.int IntKind.u32 0, Value.int IntKind.u32 0, Value.int IntKind.u32 0]
        49) = w8 from hw8.symm]
    obtain ⟨p4, hp4⟩ : ∃ p4, p4 = wc.heap.size := ⟨_, rfl⟩
    have HP4 : p3 < p4 := by rw [hp4]; exact S1.out.lt
    have M8 : Bx (Blk w8 p4 49 (wd (mK b 0))) := ⟨by rw [hw8, hp4]; exact Blk.new wc _ _⟩
    have S2 : Bx (St w p0 p1 p2 p3 h b V0 w8) := ⟨by rw [hw8]; exact S1.out.alloc _⟩
    rw [← hp4]
    clear hp4 hw8 S1
    go_cut [10] (fun s10 wx => s10 = .pointer (some ⟨p4, 0, none⟩) ∧ Bx (St w p0 p1 p2 p3 h b V0 wx) ∧ Bx (Blk wx p4 49 (wd (blockW b))))
    case first =>
      clear HPR HV HV2 hh hl ht
      have HP34 := Bx.mk HP4
      have ST4 : ∀ {w' : World} {u : List Nat} (_ : Blk w' p4 49 (wd u)) (i z : Nat), Blk (w'.setCell ⟨p4, i, none⟩ (.int .u32 (z : Int))) p4 49 (wd (u.set i z)) := fun hk i z => by
        rw [← wd_set]; exact hk.set_ i _
      go_wp2
      go_loopw [42] (fun i w' => ∃ k : Nat, k ≤ 16 ∧ i = .int .i64 k ∧ Bx (Blk w' p4 49 (wd (mK b k))) ∧ Bx (St w p0 p1 p2 p3 h b V0 w')) (fun i _ => 16 - (intOf i).toNat)
      case atStart => exact ⟨0, by omega, rfl, M8, S2⟩
      case round =>
        obtain ⟨k, hk, rfl, MK, BK⟩ := hrel
        by_cases hlt : k < 16
        · go_wp2
          go_loopw [45] (fun i w' => ∃ q : Nat, q ≤ 4 ∧ i = .int .i64 q ∧ Bx (Blk w' p4 49 (wd ((mK b k).set k (wordK b k q)))) ∧ Bx (St w p0 p1 p2 p3 h b V0 w')) (fun i _ => 4 - (intOf i).toNat)
          case atStart => exact ⟨0, by omega, rfl, ⟨by rw [mK_set0 b k hlt]; exact MK.out⟩, BK⟩
          case round =>
            obtain ⟨q, hq, rfl, MQ, BQ⟩ := hrel
            by_cases hlt2 : q < 4
            · have cb := (BQ.out.b1.cell (4 * k + q)).trans (u8s_get b _ (by omega))
              have cm := (MQ.out.cell k).trans (wd_get _ k (by rw [List.length_set, mK_len b k hk]; exact hlt))
              rw [getD_set_self _ _ _ (by rw [mK_len b k hk]; exact hlt)] at cm
              have fm := MQ.out.frozen k
              have hX := byte_lt hb (4 * k + q)
              have hor := u32_or_nat (wordK b k q) (b.getD (4 * k + q) 0 <<< (8 * q)) (wordK_lt b hb k q hq) (shl_lt hX hlt2)
              have HM : Bx (((mK b k).set k (wordK b k q)).set k (wordK b k (q + 1)) = (mK b k).set k (wordK b k (q + 1))) := ⟨by rw [List.set_set]⟩
              have MN := Bx.mk (ST4 MQ.out k (wordK b k (q + 1)))
              rw [HM.out] at MN
              have hk16 : (k : Int) < 16 := by omega
              have BN := Bx.mk (BQ.out.drew.far (q := ⟨p4, k, none⟩) HP34.out (.int .u32 ((wordK b k (q + 1) : Nat) : Int)))
              rw [show wordK b k q ||| b.getD (4 * k + q) 0 <<< (8 * q) = wordK b k (q + 1) from rfl] at hor
              generalize hY : wordK b k (q + 1) = Y at *
              have HY := Bx.mk hY
              clear hY
              generalize wordK b k q = M at *
              generalize b.getD (4 * k + q) 0 = X at *
              rw [Nat.shiftLeft_eq] at hor
              obtain rfl | rfl | rfl | rfl : q = 0 ∨ q = 1 ∨ q = 2 ∨ q = 3 := by omega
              · rw [Nat.add_zero] at cb
                have hor2 : bits .or .u32 (M : Int) (X : Int) = (Y : Int) := by simpa using hor
                clear hor
                go_wp2
                go_region
                go_wp2
                go_roundw
                case rel => exact ⟨1, by omega, by go_num, ⟨by have hY := HY.out; rw [show wordK b k 1 = Y from hY]; exact MN.out.drew⟩, BN⟩
                case measure => simp [intOf]
              · have hor2 : bits .or .u32 (M : Int) ((X : Int) * 256) = (Y : Int) := by simpa using hor
                clear hor
                go_wp2
                go_region
                go_wp2
                go_roundw
                case rel => exact ⟨2, by omega, by go_num, ⟨by have hY := HY.out; rw [show wordK b k 2 = Y from hY]; exact MN.out.drew⟩, BN⟩
                case measure => simp [intOf]
              · have hor2 : bits .or .u32 (M : Int) ((X : Int) * 65536) = (Y : Int) := by simpa using hor
                clear hor
                go_wp2
                go_region
                go_wp2
                go_roundw
                case rel => exact ⟨3, by omega, by go_num, ⟨by have hY := HY.out; rw [show wordK b k 3 = Y from hY]; exact MN.out.drew⟩, BN⟩
                case measure => simp [intOf]
              · have hor2 : bits .or .u32 (M : Int) ((X : Int) * 16777216) = (Y : Int) := by simpa using hor
                clear hor
                go_wp2
                go_region
                go_wp2
                go_roundw
                case rel => exact ⟨4, by omega, by go_num, ⟨by have hY := HY.out; rw [show wordK b k 4 = Y from hY]; exact MN.out.drew⟩, BN⟩
                case measure => simp [intOf]
            · obtain rfl : q = 4 := by omega
              go_wp2
              go_roundw
              case rel => exact ⟨k + 1, by omega, by go_num, ⟨by have h := MQ.out; rw [wordK_four, mK_set b k hlt] at h; exact h⟩, BQ⟩
              case measure => simp [intOf]; omega
        · obtain rfl : k = 16 := by omega
          rw [mK_all] at MK
          go_wp2
          go_meet
          case rel => exact ⟨rfl, BK, MK⟩
    case rest =>
      obtain ⟨rfl, S3, MB⟩ := hcut
      clear S2 M8
      go_upto_block 4 with (refine wpList_load_mid rfl 51 (.global 1) rfl 1 0 rfl (b8 rowsF) (.array 10 50) S3.out.gx.range_rows (by kernel_rfl) rfl (by kernel_rfl) ?_)
      have RI : Bx (∀ (r : Nat) (W' : World), r < 10 → (Instr.index 51 (.agg (b8 rowsF).toArray) (.int .i64 (r : Int))).run Tryd.prog W' = .ok (.agg ((b8 rowsF).toArray.extract (r * 16) (r * 16 + 16))) W') := ⟨fun r W' hr => run_index_row W' _ 50 5 10 16 _ _ r (by kernel_rfl) (by kernel_rfl) (by kernel_rfl) hr⟩
      obtain ⟨RW, hRW⟩ : ∃ RW : Nat → Array Value, ∀ r, RW r = (b8 rowsF).toArray.extract (r * 16) (r * 16 + 16) := ⟨_, fun _ => rfl⟩
      simp only [← hRW] at RI
      have HRW := Bx.mk hRW
      clear hRW
      generalize (b8 rowsF).toArray = RA at RI ⊢
      go_cut [9, 10] (fun s9 s10 wx => s9 = .pointer (some ⟨p3, 0, none⟩) ∧ s10 = .pointer (some ⟨p4, 0, none⟩) ∧ Bx (St w p0 p1 p2 p3 h b (mixAll (blockW b) 10 V0) wx))
      case first =>
        have HBW : Bx ((blockW b).length = 16 ∧ W32 (blockW b)) := ⟨by simp [blockW], blockW_w32 b hb⟩
        clear HPR hh hl ht hb
        have HP34 := Bx.mk HP4
        go_wp2
        go_loopw [66] (fun i w' => ∃ r : Nat, r ≤ 10 ∧ i = .int .i64 r ∧ Bx (St w p0 p1 p2 p3 h b (mixAll (blockW b) r V0) w') ∧ Bx (Blk w' p4 49 (wd (blockW b)))) (fun i _ => 10 - (intOf i).toNat)
        case atStart => exact ⟨0, by omega, rfl, S3, MB⟩
        case round =>
          obtain ⟨r, hr, rfl, VR, MR⟩ := hrel
          by_cases hlt : r < 10
          · have ri := RI.out r
            have ri2 : ∀ W', (Instr.index 51 (.agg RA) (.int .i64 (r : Int))).run Tryd.prog W' = .ok (.agg (RW r)) W' := fun W' => ri W' hlt
            clear ri
            have hrs : (RW r).size = 16 := rw_size r HRW.out hlt
            have hst := run_storeCells_new (P := Tryd.prog) wr 50 #[.int .u8 0, .int .u8 0, .int .u8 0, .int .u8 0, .int .u8 0, .int .u8 0, .int .u8 0, .int .u8 0, .int .u8 0, .int .u8 0, .int .u8 0, .int .u8 0, .int .u8 0, .int .u8 0, .int .u8 0, .int .u8 0] (RW r) (by rw [hrs]; kernel_rfl) (by rw [hrs]; rfl) (rw_one r HRW.out)
            have HLR : Bx ((wr.alloc (.cells (RW r) 50)).rangeAt 2 0 (b8 lanesF)) := ⟨(VR.out.alloc _).gx.range_lanes⟩
            have LI : Bx (∀ (i : Nat) (W' : World), i < 8 → (Instr.index 53 (.agg (b8 lanesF).toArray) (.int .i64 (i : Int))).run Tryd.prog W' = .ok (.agg #[.int .u8 ((lanesF.getD (4 * i) 0 : Nat) : Int), .int .u8 ((lanesF.getD (4 * i + 1) 0 : Nat) : Int), .int .u8 ((lanesF.getD (4 * i + 2) 0 : Nat) : Int), .int .u8 ((lanesF.getD (4 * i + 3) 0 : Nat) : Int)]) W') := ⟨fun i W' hi => by
              exact (run_index_row W' _ 52 5 8 4 _ _ i (by kernel_rfl) (by kernel_rfl) (by kernel_rfl) hi).trans (by rw [lanes_get i hi])⟩
            go_wp2_with (refine wpList_load_mid rfl 53 (.global 2) rfl 2 0 rfl (b8 lanesF) (.array 8 52) HLR.out (by kernel_rfl) rfl (by kernel_rfl) ?_)
            clear ri2 hst
            obtain ⟨w10, hw10⟩ : ∃ w10, w10 = wr.alloc (.cells (RW r) 50) := ⟨_, rfl⟩
            rw [← hw10]
            obtain ⟨rp, hrp⟩ : ∃ rp, rp = wr.heap.size := ⟨_, rfl⟩
            rw [← hrp]
            have RP : Bx (Blk w10 rp 50 (RW r)) := ⟨by rw [hw10, hrp]; exact Blk.new _ _ _⟩
            have V10 : Bx (St w p0 p1 p2 p3 h b (mixRow (blockW b) r 0 (mixAll (blockW b) r V0)) w10) := ⟨by rw [hw10]; exact VR.out.alloc _⟩
            have M10 : Bx (Blk w10 p4 49 (wd (blockW b))) := ⟨by rw [hw10]; exact MR.out.alloc _⟩
            have HR3 : Bx (p3 < rp ∧ p4 < rp) := ⟨by rw [hrp]; exact ⟨VR.out.lt, MR.out.lt⟩⟩
            clear hw10 hrp VR MR HLR
            go_loopw [70] (fun i w' => ∃ q : Nat, q ≤ 8 ∧ i = .int .i64 q ∧ Bx (St w p0 p1 p2 p3 h b (mixRow (blockW b) r q (mixAll (blockW b) r V0)) w') ∧ Bx (Blk w' p4 49 (wd (blockW b))) ∧ Bx (Blk w' rp 50 (RW r))) (fun i _ => 8 - (intOf i).toNat)
            case atStart => exact ⟨0, by omega, rfl, V10, M10, RP⟩
            case round =>
              obtain ⟨q, hq, rfl, VQ, MQ, RQ⟩ := hrel
              by_cases hlt2 : q < 8
              · have li := LI.out q
                have li2 : ∀ W', _ := fun W' => li W' hlt2
                clear li
                have ll := lanes_lt q hlt2
                have rr := rows_lt r hlt
                have e1 := RQ.out.cell (2 * q)
                rw [rw_get r HRW.out hlt (2 * q) (by omega)] at e1
                have e2 := RQ.out.cell (2 * q + 1)
                rw [rw_get r HRW.out hlt (2 * q + 1) (by omega)] at e2
                have r1 := rr (2 * q) (by omega)
                have r2 := rr (2 * q + 1) (by omega)
                have m1 := (MQ.out.cell (rowsF.getD (16 * r + 2 * q) 0)).trans (wd_get _ _ (by rw [HBW.out.1]; exact r1))
                have m2 := (MQ.out.cell (rowsF.getD (16 * r + (2 * q + 1)) 0)).trans (wd_get _ _ (by rw [HBW.out.1]; exact r2))
                have HMX : Bx (mixRow (blockW b) r (q + 1) (mixAll (blockW b) r V0) = mixN (mixRow (blockW b) r q (mixAll (blockW b) r V0)) (lanesF.getD (4 * q) 0) (lanesF.getD (4 * q + 1) 0) (lanesF.getD (4 * q + 2) 0) (lanesF.getD (4 * q + 3) 0) ((blockW b).getD (rowsF.getD (16 * r + 2 * q) 0) 0) ((blockW b).getD (rowsF.getD (16 * r + (2 * q + 1)) 0) 0)) := ⟨rfl⟩
                have HVL : Bx ((mixRow (blockW b) r q (mixAll (blockW b) r V0)).length = 16 ∧ W32 (mixRow (blockW b) r q (mixAll (blockW b) r V0))) := ⟨by rw [mixRow_len, mixAll_len]; exact HV.out, mixRow_w32 _ _ (mixAll_w32 _ HV2.out _) _⟩
                clear rr
                generalize mixRow (blockW b) r q (mixAll (blockW b) r V0) = V at *
                generalize (blockW b).getD (rowsF.getD (16 * r + 2 * q) 0) 0 = X at *
                generalize (blockW b).getD (rowsF.getD (16 * r + (2 * q + 1)) 0) 0 = Y at *
                generalize rowsF.getD (16 * r + 2 * q) 0 = R1 at *
                generalize rowsF.getD (16 * r + (2 * q + 1)) 0 = R2 at *
                generalize lanesF.getD (4 * q) 0 = L0 at *
                generalize lanesF.getD (4 * q + 1) 0 = L1 at *
                generalize lanesF.getD (4 * q + 2) 0 = L2 at *
                generalize lanesF.getD (4 * q + 3) 0 = L3 at *
                obtain ⟨ll0, ll1, ll2, ll3⟩ := ll
                go_wp2
                obtain ⟨w12, hw12⟩ : ∃ w12, w12 = wr.alloc (.cells #[.int .u8 (L0 : Int), .int .u8 (L1 : Int), .int .u8 (L2 : Int), .int .u8 (L3 : Int)] 52) := ⟨_, rfl⟩
                rw [← hw12]
                obtain ⟨lp, hlp⟩ : ∃ lp, lp = wr.heap.size := ⟨_, rfl⟩
                rw [← hlp]
                have LB : Blk w12 lp 52 #[.int .u8 (L0 : Int), .int .u8 (L1 : Int), .int .u8 (L2 : Int), .int .u8 (L3 : Int)] := by rw [hw12, hlp]; exact Blk.new _ _ _
                have VQ2 : Bx (St w p0 p1 p2 p3 h b V w12) := ⟨by rw [hw12]; exact VQ.out.alloc _⟩
                have MQ2 : Bx (Blk w12 p4 49 (wd (blockW b))) := ⟨by rw [hw12]; exact MQ.out.alloc _⟩
                have RQ2 : Bx (Blk w12 rp 50 (RW r)) := ⟨by rw [hw12]; exact RQ.out.alloc _⟩
                have e1' : w12.cell? ⟨rp, 2 * q, none⟩ = some (.int .u8 (R1 : Int)) := by rw [hw12, World.cell?_alloc_lt _ _ _ RQ.out.lt]; exact e1
                have e2' : w12.cell? ⟨rp, 2 * q + 1, none⟩ = some (.int .u8 (R2 : Int)) := by rw [hw12, World.cell?_alloc_lt _ _ _ RQ.out.lt]; exact e2
                have m1' : w12.cell? ⟨p4, R1, none⟩ = some (.int .u32 (X : Int)) := by rw [hw12, World.cell?_alloc_lt _ _ _ MQ.out.lt]; exact m1
                have m2' : w12.cell? ⟨p4, R2, none⟩ = some (.int .u32 (Y : Int)) := by rw [hw12, World.cell?_alloc_lt _ _ _ MQ.out.lt]; exact m2
                clear e1 e2 m1 m2 hw12 hlp VQ MQ RQ li2
                have c0 := LB.cell 0
                have c1 := LB.cell 1
                have c2 := LB.cell 2
                have c3 := LB.cell 3
                have ir1 : (R1 : Int) < 16 := by omega
                have ir2 : (R2 : Int) < 16 := by omega
                have iq1 : IntKind.i64.wrap (2 * (q : Int)) = 2 * (q : Int) := IntWalk.i64_in _ (by omega)
                have iq2 : IntKind.i64.wrap (2 * (q : Int) + 1) = 2 * (q : Int) + 1 := IntWalk.i64_in _ (by omega)
                have iq3 : (0 : Int) ≤ 2 * (q : Int) := by omega
                have iq4 : (2 * (q : Int)).toNat = 2 * q := by omega
                have iq5 : (2 * (q : Int) + 1).toNat = 2 * q + 1 := by omega
                have iq6 : 2 * (q : Int) < 16 := by omega
                have iq7 : 2 * (q : Int) + 1 < 16 := by omega
                have iq8 : (0 : Int) ≤ 2 * (q : Int) + 1 := by omega
                refine wp_region_still_tail 14 (by kernel_rfl) (by kernel_rfl) ?_
                simp only [List.take_succ_cons, List.take_zero, List.drop_succ_cons, List.drop_zero]
                change wpStill _ _ w12.drew (fun a' => wpList _ _ _ _ a' w12.drew) _ _
                have d0 : w12.drew.cell? ⟨lp, 0, none⟩ = _ := c0
                have d1 : w12.drew.cell? ⟨lp, 1, none⟩ = _ := c1
                have d2 : w12.drew.cell? ⟨lp, 2, none⟩ = _ := c2
                have d3 : w12.drew.cell? ⟨lp, 3, none⟩ = _ := c3
                have d4 : w12.drew.cell? ⟨rp, 2 * q, none⟩ = _ := e1'
                have d5 : w12.drew.cell? ⟨rp, 2 * q + 1, none⟩ = _ := e2'
                have d6 : w12.drew.cell? ⟨p4, R1, none⟩ = _ := m1'
                have d7 : w12.drew.cell? ⟨p4, R2, none⟩ = _ := m2'
                have V13 : Bx (St w p0 p1 p2 p3 h b V w12.drew) := ⟨VQ2.out.drew⟩
                have M13 : Bx (Blk w12.drew p4 49 (wd (blockW b))) := ⟨MQ2.out.drew⟩
                have R13 : Bx (Blk w12.drew rp 50 (RW r)) := ⟨RQ2.out.drew⟩
                clear c0 c1 c2 c3 e1' e2' m1' m2' LB VQ2 MQ2 RQ2
                generalize w12.drew = w13 at *
                repeat still_step
                refine wpStill_nil ?_
                have MC := Bx.mk (mix_calls p3 V L0 L1 L2 L3 X Y w13 V13.out.b3 HVL.out.1 HVL.out.2 ll0 ll1 ll2 ll3)
                clear d0 d1 d2 d3 d4 d5 d6 d7 iq1 iq2 iq3 iq4 iq5 iq6 iq7 iq8
                go_wp2_with fail
                refine MC.out.mono ?_
                rintro e w14 ⟨rfl, k1, k2, k3⟩
                have V14 : Bx (St w p0 p1 p2 p3 h b (mixRow (blockW b) r (q + 1) (mixAll (blockW b) r V0)) w14) := ⟨by rw [HMX.out]; exact V13.out.turn k2 k1⟩
                have M14 : Bx (Blk w14 p4 49 (wd (blockW b))) := ⟨(k3 p4 M13.out.lt (by have := HP34.out; omega)).trans M13.out⟩
                have R14 : Bx (Blk w14 rp 50 (RW r)) := ⟨(k3 rp R13.out.lt (by have := HR3.out; omega)).trans R13.out⟩
                clear k1 k2 k3 MC
                go_wp2
                go_roundw
                case rel => exact ⟨q + 1, by omega, by go_num, V14, M14, R14⟩
                case measure => simp [intOf]; omega
              · obtain rfl : q = 8 := by omega
                go_wp2
                go_roundw
                case rel => exact ⟨r + 1, by omega, by go_num, VQ, MQ⟩
                case measure => simp [intOf]; omega
          · obtain rfl : r = 10 := by omega
            go_wp2
            go_meet
            case rel => exact ⟨rfl, rfl, VR⟩
      case rest =>
        obtain ⟨rfl, rfl, S4⟩ := hcut
        clear S3 MB
        have S5 : Bx (St w p0 p1 p2 p3 (finK h (mixAll (blockW b) 10 V0) 0) b (mixAll (blockW b) 10 V0) wc) := ⟨by rw [finK_zero _ _ hl]; exact S4.out⟩
        have HW16 : Bx ((mixAll (blockW b) 10 V0).length = 16 ∧ W32 (mixAll (blockW b) 10 V0)) := ⟨by rw [mixAll_len]; exact HV.out, mixAll_w32 _ HV2.out _⟩
        have HPF : Bx (pressN h b taken last = finK h (mixAll (blockW b) 10 V0) 8) := ⟨by rw [finK_all]; exact HPR.out⟩
        clear S4 HPR
        generalize mixAll (blockW b) 10 V0 = V at *
        have H8 := Bx.mk hl
        clear hl
        go_wp2
        go_loopw [91] (fun i w' => ∃ k : Nat, k ≤ 8 ∧ i = .int .i64 k ∧ Bx (St w p0 p1 p2 p3 (finK h V k) b V w')) (fun i _ => 8 - (intOf i).toNat)
        case atStart => exact ⟨0, by omega, rfl, S5⟩
        case round =>
          obtain ⟨k, hk, rfl, SK⟩ := hrel
          by_cases hlt : k < 8
          · have c0 := (SK.out.b0.cell k).trans (wd_get _ k (by rw [finK_len]; exact hlt))
            rw [finK_get _ _ _ hlt] at c0
            have f0 := SK.out.b0.frozen k
            have c1 := (SK.out.b3.cell k).trans (wd_get _ k (by rw [HW16.out.1]; omega))
            have c2 := (SK.out.b3.cell (k + 8)).trans (wd_get _ (k + 8) (by rw [HW16.out.1]; omega))
            have x1 := u32_xor_nat (V.getD k 0) (V.getD (k + 8) 0) (HW16.out.2.get _) (HW16.out.2.get _)
            have x2 := u32_xor_nat (h.getD k 0) (V.getD k 0 ^^^ V.getD (k + 8) 0) (hh.get _) (Nat.xor_lt_two_pow (n := 32) (HW16.out.2.get _) (HW16.out.2.get _))
            have SN := Bx.mk (SK.out.drew.set0 k (h.getD k 0 ^^^ (V.getD k 0 ^^^ V.getD (k + 8) 0)))
            rw [finK_set _ _ _ hlt] at SN
            have l2 : V.getD k 0 ^^^ V.getD (k + 8) 0 < 4294967296 := Nat.xor_lt_two_pow (n := 32) (HW16.out.2.get _) (HW16.out.2.get _)
            generalize h.getD k 0 ^^^ (V.getD k 0 ^^^ V.getD (k + 8) 0) = X at *
            generalize V.getD k 0 ^^^ V.getD (k + 8) 0 = Y at *
            generalize V.getD k 0 = Y1 at *
            generalize V.getD (k + 8) 0 = Y2 at *
            generalize h.getD k 0 = Z at *
            have ik : (k : Int) < 8 := by omega
            have ik2 : (k : Int) < 16 := by omega
            have ik3 : (k : Int) + 8 < 16 := by omega
            go_wp2
            go_region
            go_wp2
            go_roundw
            case rel => exact ⟨k + 1, by omega, by go_num, SN⟩
            case measure => simp [intOf]; omega
          · obtain rfl : k = 8 := by omega
            have hc : ∀ i, i < 8 → wr.cell? ⟨p0, i, none⟩ = some (.int .u32 (((finK h V 8).getD i 0 : Nat) : Int)) := fun i hi => (SK.out.b0.cell i).trans (wd_get _ i (by rw [finK_len]; exact hi))
            have hf : ∀ i, wr.frozen? ⟨p2, i, none⟩ = false := fun i => SK.out.b2.frozen i
            have hr : ∀ i, i < 8 → wr.cell? ⟨p2, i, none⟩ = some (.int .u32 0) := fun i hi => (SK.out.b2.cell i).trans (zero8 i hi)
            have HW8 : Bx (wd (finK h V 8) = #[.int .u32 (((finK h V 8).getD 0 0 : Nat) : Int), .int .u32 (((finK h V 8).getD 1 0 : Nat) : Int), .int .u32 (((finK h V 8).getD 2 0 : Nat) : Int), .int .u32 (((finK h V 8).getD 3 0 : Nat) : Int), .int .u32 (((finK h V 8).getD 4 0 : Nat) : Int), .int .u32 (((finK h V 8).getD 5 0 : Nat) : Int), .int .u32 (((finK h V 8).getD 6 0 : Nat) : Int), .int .u32 (((finK h V 8).getD 7 0 : Nat) : Int)]) := ⟨rfl⟩
            have h0 := hc 0 (by omega)
            have h1 := hc 1 (by omega)
            have h2 := hc 2 (by omega)
            have h3 := hc 3 (by omega)
            have h4 := hc 4 (by omega)
            have h5 := hc 5 (by omega)
            have h6 := hc 6 (by omega)
            have h7 := hc 7 (by omega)
            have f0 := hf 0
            have f1 := hf 1
            have f2 := hf 2
            have f3 := hf 3
            have f4 := hf 4
            have f5 := hf 5
            have f6 := hf 6
            have f7 := hf 7
            have r0 := hr 0 (by omega)
            have r1 := hr 1 (by omega)
            have r2 := hr 2 (by omega)
            have r3 := hr 3 (by omega)
            have r4 := hr 4 (by omega)
            have r5 := hr 5 (by omega)
            have r6 := hr 6 (by omega)
            have r7 := hr 7 (by omega)
            clear hc hf hr
            generalize (finK h V 8).getD 0 0 = x0 at *
            generalize (finK h V 8).getD 1 0 = x1 at *
            generalize (finK h V 8).getD 2 0 = x2 at *
            generalize (finK h V 8).getD 3 0 = x3 at *
            generalize (finK h V 8).getD 4 0 = x4 at *
            generalize (finK h V 8).getD 5 0 = x5 at *
            generalize (finK h V 8).getD 6 0 = x6 at *
            generalize (finK h V 8).getD 7 0 = x7 at *
            go_wp2
            have HO := Bx.mk SK.out.o
            have FB : Blk ((((((((wr.setCell ⟨p2, 0, none⟩ (.int .u32 (x0 : Int))).setCell ⟨p2, 1, none⟩ (.int .u32 (x1 : Int))).setCell ⟨p2, 2, none⟩ (.int .u32 (x2 : Int))).setCell ⟨p2, 3, none⟩ (.int .u32 (x3 : Int))).setCell ⟨p2, 4, none⟩ (.int .u32 (x4 : Int))).setCell ⟨p2, 5, none⟩ (.int .u32 (x5 : Int))).setCell ⟨p2, 6, none⟩ (.int .u32 (x6 : Int))).setCell ⟨p2, 7, none⟩ (.int .u32 (x7 : Int))) p2 40 #[.int .u32 (x0 : Int), .int .u32 (x1 : Int), .int .u32 (x2 : Int), .int .u32 (x3 : Int), .int .u32 (x4 : Int), .int .u32 (x5 : Int), .int .u32 (x6 : Int), .int .u32 (x7 : Int)] :=
              (((((((SK.out.b2.set_ 0 _).set_ 1 _).set_ 2 _).set_ 3 _).set_ 4 _).set_ 5 _).set_ 6 _).set_ 7 _
            have hp2 : p0 ≤ p2 := by have := HO.out; omega
            have FL : Bx (Below p0 w ((((((((wr.setCell ⟨p2, 0, none⟩ (.int .u32 (x0 : Int))).setCell ⟨p2, 1, none⟩ (.int .u32 (x1 : Int))).setCell ⟨p2, 2, none⟩ (.int .u32 (x2 : Int))).setCell ⟨p2, 3, none⟩ (.int .u32 (x3 : Int))).setCell ⟨p2, 4, none⟩ (.int .u32 (x4 : Int))).setCell ⟨p2, 5, none⟩ (.int .u32 (x5 : Int))).setCell ⟨p2, 6, none⟩ (.int .u32 (x6 : Int))).setCell ⟨p2, 7, none⟩ (.int .u32 (x7 : Int)))) :=
              ⟨(((((((SK.out.bel.setCell (p := ⟨p2, 0, none⟩) hp2 _).setCell (p := ⟨p2, 1, none⟩) hp2 _).setCell (p := ⟨p2, 2, none⟩) hp2 _).setCell (p := ⟨p2, 3, none⟩) hp2 _).setCell (p := ⟨p2, 4, none⟩) hp2 _).setCell (p := ⟨p2, 5, none⟩) hp2 _).setCell (p := ⟨p2, 6, none⟩) hp2 _).setCell (p := ⟨p2, 7, none⟩) hp2 _⟩
            clear h0 h1 h2 h3 h4 h5 h6 h7 f0 f1 f2 f3 f4 f5 f6 f7 r0 r1 r2 r3 r4 r5 r6 r7
            generalize ((((((((wr.setCell ⟨p2, 0, none⟩ (.int .u32 (x0 : Int))).setCell ⟨p2, 1, none⟩ (.int .u32 (x1 : Int))).setCell ⟨p2, 2, none⟩ (.int .u32 (x2 : Int))).setCell ⟨p2, 3, none⟩ (.int .u32 (x3 : Int))).setCell ⟨p2, 4, none⟩ (.int .u32 (x4 : Int))).setCell ⟨p2, 5, none⟩ (.int .u32 (x5 : Int))).setCell ⟨p2, 6, none⟩ (.int .u32 (x6 : Int))).setCell ⟨p2, 7, none⟩ (.int .u32 (x7 : Int))) = FW at *
            have h0 := FB.cell 0
            have h1 := FB.cell 1
            have h2 := FB.cell 2
            have h3 := FB.cell 3
            have h4 := FB.cell 4
            have h5 := FB.cell 5
            have h6 := FB.cell 6
            have h7 := FB.cell 7
            rw [HPF.out, HW8.out]
            refine bodyPost_ret (v := .agg #[.int .u32 (x0 : Int), .int .u32 (x1 : Int), .int .u32 (x2 : Int), .int .u32 (x3 : Int), .int .u32 (x4 : Int), .int .u32 (x5 : Int), .int .u32 (x6 : Int), .int .u32 (x7 : Int)]) (by simp [results, Tryd.results22, go_sem, h0, h1, h2, h3, h4, h5, h6, h7]) rfl ⟨rfl, ?_⟩
            rw [← HP0.out]; exact FL.out
end Go.Proofs.YtkcifjgfgommoaaDoor
