import Derived.Test.YtkcifjgfgommoaaDoorArr
/-
  Digests: Keyed, walked.
-/
namespace Go.Proofs.YtkcifjgfgommoaaDoor
open Go.RowKit

theorem z32_new (w : World) (t : TypeId) : Blk (w.alloc (.cells #[.int .u8 0] t)) w.heap.size t #[.int .u8 0] := Blk.new _ _ _
theorem size_u8 : (Tryd.prog.info? 5).map (·.size) = some 1 := by kernel_rfl
theorem KS.start {w : World} {l h : List Nat} {x : Nat} (hg : Gl w) (hh : l.set 0 x = h) :
    KS w w.heap.size (w.heap.size + 1) (w.heap.size + 2) (w.heap.size + 3) (List.replicate 32 0) h (List.replicate 64 0)
      (((((w.alloc (Obj.cells (u8s (List.replicate 32 0)) 24)).alloc (Obj.cells (u8s (List.replicate 32 0)) 24)).alloc (Obj.cells (wd l) 40)).setCell ⟨w.heap.size + 2, 0, none⟩ (.int .u32 (x : Int))).alloc (Obj.cells (u8s (List.replicate 64 0)) 41)) := by
  have hs := hh
  refine ⟨⟨rfl, rfl, rfl, rfl⟩, ?_, ?_, ?_, Blk.new_ (by simp [World.setCell]) _ _, ?_, hg⟩
  · exact ((((Blk.new w _ _).alloc _).alloc _).far (by show w.heap.size ≠ w.heap.size + 2; omega) _).alloc _
  · exact (((Blk.new_ (by simp) _ _).alloc _).far (by show w.heap.size + 1 ≠ w.heap.size + 2; omega) _).alloc _
  · have h1 := (Blk.new_ (w := (w.alloc (Obj.cells (u8s (List.replicate 32 0)) 24)).alloc (Obj.cells (u8s (List.replicate 32 0)) 24)) (n := w.heap.size + 2) (by simp) 40 (wd l)).set_ 0 (.int .u32 (x : Int))
    rw [wd_set, hs] at h1
    exact h1.alloc _
  · exact ((((((Below.refl _ _).alloc (Nat.le_refl _) _).alloc (by simp) _).alloc (by simp; omega) _).setCell (by show w.heap.size ≤ w.heap.size + 2; omega) _).alloc (by simp [World.setCell]; omega) _)
theorem comeN_key (K : Nat) (b h : List Nat) (t : Nat) : (if K = 0 then runN h t b else comeN h t b false) = comeN h t b (decide (K = 0)) := by
  by_cases hk : K = 0
  · rw [if_pos hk, decide_eq_true hk]; unfold comeN; rw [if_neg (by simp)]
  · rw [if_neg hk, decide_eq_false hk]
theorem infoW {l : List Nat} (h : l.length = 8) : (Tryd.prog.info? 40).map (·.size) = some (ws l).length := by rw [ws_len, h]; kernel_rfl
theorem infoB {l : List Nat} (h : l.length = 64) : (Tryd.prog.info? 41).map (·.size) = some (b8 l).length := by rw [b8_len, h]; kernel_rfl
theorem infoW' {l : List Nat} (h : l.length = 8) : (Tryd.prog.info? 40).map (·.size) = some (wd l).size := by rw [wd_size, h]; kernel_rfl
theorem infoB' {l : List Nat} (h : l.length = 64) : (Tryd.prog.info? 41).map (·.size) = some (u8s l).size := by rw [u8s_size, h]; kernel_rfl
theorem beq_len (n : Nat) : decide (n = 0) = ((n : Int) == 0) := by
  by_cases h : n = 0
  · rw [h]; rfl
  · rw [decide_eq_false h]; exact (beq_false_of_ne (by omega)).symm
theorem come_step (h : List Nat) (t : Nat) (l : List Nat) (f : Bool) (hne : 0 < l.length ∨ f = true) :
    comeN h t l f = comeN (pressN h (pad l) (t + min l.length 64) (((l.drop (min l.length 64)).length : Int) == 0)) (t + min l.length 64) (l.drop (min l.length 64)) false := by
  have h0 : comeN h t l f = runN h t l := by
    unfold comeN
    rw [if_neg]
    rintro ⟨a, b⟩
    rcases hne with c | c
    · omega
    · rw [b] at c; cases c
  rw [h0, ← beq_len, List.length_drop]
  by_cases hl : l.length ≤ 64
  · rw [runN_last _ _ _ hl, show min l.length 64 = l.length by omega]
    unfold comeN
    rw [if_pos (by simp), decide_eq_true (by omega)]
  · rw [runN_more _ _ _ hl, show min l.length 64 = 64 by omega]
    unfold comeN
    rw [if_neg (by simp; omega), decide_eq_false (by omega)]
theorem pad_splice2 (l : List Nat) : splice (b8 (List.replicate 64 0)) 0 (b8 (l.take 64)) = b8 (pad l) := by rw [b8_splice, pad_splice]
def bsize (v : Value) : Nat := match v with | .slice _ n _ => n | _ => 0
def b1 (v : Value) : Nat := match v with | .bool true => 1 | _ => 0

set_option maxRecDepth 100000 in
set_option maxHeartbeats 4000000 in
theorem Keyed_calls (A B : Option Addr) (key b : List Nat) (c d : Nat) (w : World) (hg : Gl w) (hk : key.length ≤ 32) (hA : RB w A key) (hB : RB w B b) (hd : b.length ≤ d) :
    Calls Tryd.prog 17 #[.slice A key.length c, .slice B b.length d] w fun e w' =>
      e = .returned (.tuple #[.agg (u8s (keyedN key b)), .int .i64 0]) ∧ Below w.heap.size w w' := by
  have hb47 := hB.2.1
  have kint : (key.length : Int) ≤ 32 := by omega
  have hkK : IntKind.u32.wrap (key.length : Int) = (key.length : Int) := by rw [IntKind.wrap_u32]; omega
  have o1 := u32_or_nat 16842752 (key.length * 256) (by omega) (by omega)
  have l1 : 16842752 ||| key.length * 256 < 4294967296 := Nat.or_lt_two_pow (n := 32) (by omega) (by omega)
  have o2 := u32_or_nat (16842752 ||| key.length * 256) 32 l1 (by omega)
  have l2 : (16842752 ||| key.length * 256) ||| 32 < 4294967296 := Nat.or_lt_two_pow (n := 32) l1 (by omega)
  have o3 := u32_xor_nat 1779033703 ((16842752 ||| key.length * 256) ||| 32) (by omega) l2
  have HF : Bx (ivL.set 0 (1779033703 ^^^ ((16842752 ||| key.length * 256) ||| 32)) = firstH key.length) := ⟨rfl⟩
  have HFL : Bx ((firstH key.length).length = 8 ∧ W32 (firstH key.length)) := ⟨firstH_len _, firstH_w32 _ hk⟩
  have HKN : Bx (keyedN key b = outK (if key.length = 0 then runN (firstH key.length) 0 b else comeN (pressN (firstH key.length) (pad key) 64 (decide (b.length = 0))) 64 b false) 32) := ⟨by
    unfold keyedN keyH
    by_cases h : key.length = 0
    · rw [if_pos h, if_pos h, h]
    · rw [if_neg h, if_neg h]⟩
  generalize 1779033703 ^^^ ((16842752 ||| key.length * 256) ||| 32) = N3 at *
  generalize (16842752 ||| key.length * 256) ||| 32 = N2 at *
  generalize 16842752 ||| key.length * 256 = N1 at *
  have HGV : Bx (∀ o1 o2 : Obj, ((w.alloc o1).alloc o2).rangeAt 0 0 (ws ivL)) := ⟨fun o1 o2 j v hv => by
    obtain ⟨hj, rfl⟩ := ws_get ivL j v hv
    rw [Nat.zero_add]
    exact ((hg.below (below_alloc1 w o1)).below (below_alloc1 _ o2)).iv j hj⟩
  have HA := Bx.mk hA; have HB := Bx.mk hB; have HG := Bx.mk hg; have HD := Bx.mk hd
  clear hA hB hg hd
  have hkg : decide ((32 : Int) < (key.length : Int)) = false := by simp; omega
  have hst : ∀ o1 o2 : Obj, (storeCells ⟨w.heap.size + 1 + 1, 0, none⟩ (ws ivL) 0).run Tryd.prog (((w.alloc o1).alloc o2).alloc (.cells #[.int .u32 0, .int .u32 0, .int .u32 0, .int .u32 0, .int .u32 0, .int .u32 0, .int .u32 0, .int .u32 0] 40)) = .ok () (((w.alloc o1).alloc o2).alloc (.cells (wd ivL) 40)) := fun o1 o2 => by
    have := run_storeCells_new (P := Tryd.prog) ((w.alloc o1).alloc o2) 40 #[.int .u32 0, .int .u32 0, .int .u32 0, .int .u32 0, .int .u32 0, .int .u32 0, .int .u32 0, .int .u32 0] (wd ivL) (by kernel_rfl) rfl (wd_one _)
    simpa [wd, ws] using this
  go_enter Tryd.func17, Tryd.ntmps17
  go_upto_region 5 with (refine wpList_load_mid rfl 40 (.global 0) rfl 0 0 rfl (ws ivL) (.array 8 38) (HGV.out _ _) (by kernel_rfl) rfl (by kernel_rfl) ?_)
  change Code.wp _ _ _ _ (((w.alloc (Obj.cells (u8s (List.replicate 32 0)) 24)).alloc (Obj.cells (u8s (List.replicate 32 0)) 24)).alloc (Obj.cells (wd ivL) 40))
  have KS0 := Bx.mk (KS.start (w := w) HG.out HF.out)
  have hb3 : Blk (((w.alloc (Obj.cells (u8s (List.replicate 32 0)) 24)).alloc (Obj.cells (u8s (List.replicate 32 0)) 24)).alloc (Obj.cells (wd ivL) 40)) (w.heap.size + 1 + 1) 40 (wd ivL) := Blk.new_ (by simp) _ _
  have hs3 : (((w.alloc (Obj.cells (u8s (List.replicate 32 0)) 24)).alloc (Obj.cells (u8s (List.replicate 32 0)) 24)).alloc (Obj.cells (wd ivL) 40)).heap.size = w.heap.size + 3 := by simp
  generalize ((w.alloc (Obj.cells (u8s (List.replicate 32 0)) 24)).alloc (Obj.cells (u8s (List.replicate 32 0)) 24)).alloc (Obj.cells (wd ivL) 40) = W3 at *
  generalize (ws ivL).toArray = WA
  rw [show w.heap.size + 1 + 1 = w.heap.size + 2 from rfl] at *
  have c0 : W3.cell? ⟨w.heap.size + 2, 0, none⟩ = some (.int .u32 1779033703) := hb3.cell 0
  have f0 := hb3.frozen 0
  obtain ⟨q7, hq7⟩ : ∃ q, q = w.heap.size + 2 := ⟨_, rfl⟩
  obtain ⟨q8, hq8⟩ : ∃ q, q = w.heap.size + 3 := ⟨_, rfl⟩
  obtain ⟨q6, hq6⟩ : ∃ q, q = w.heap.size + 1 := ⟨_, rfl⟩
  obtain ⟨q4, hq4⟩ : ∃ q, q = w.heap.size := ⟨_, rfl⟩
  rw [← hq8] at hs3
  rw [← hq7] at c0 f0 ⊢
  rw [← hq6, ← hq4]
  rw [← hq7, ← hq6, ← hq8, ← hq4] at KS0
  have HQ := Bx.mk hq4
  clear hb3 hq4 hq6 hq7 hq8 hst HGV
  have z1 := o1; have z2 := o2; have z3 := o3
  generalize hK : key.length = K at *
  have HK := Bx.mk hK
  clear hK
  rw [show ((16842752 : Nat) : Int) = 16842752 from rfl, show ((K * 256 : Nat) : Int) = (K : Int) * 256 by omega] at o1
  rw [show ((32 : Nat) : Int) = 32 from rfl] at o2
  rw [show ((1779033703 : Nat) : Int) = 1779033703 from rfl] at o3
  clear z1 z2 z3
  go_upto_if 30 with fail
  change Code.wp _ _ _ _ ((W3.setCell ⟨q7, 0, none⟩ (.int .u32 (N3 : Int))).alloc (Obj.cells (u8s (List.replicate 64 0)) 41))
  generalize (W3.setCell ⟨q7, 0, none⟩ (.int .u32 (N3 : Int))).alloc (Obj.cells (u8s (List.replicate 64 0)) 41) = W4 at *
  clear c0 f0 o1 o2 o3 l1 l2 hs3 HF
  generalize hFH : firstH K = FH at *
  clear hFH
  go_cut [9] (fun s9 wx => ∃ (t : Nat) (h bb : List Nat), s9 = .int .u64 (t : Int) ∧ t ≤ 64 ∧ Bx (KS w q4 q6 q7 q8 (List.replicate 32 0) h bb wx) ∧ Bx (h.length = 8 ∧ W32 h ∧ bb.length = 64) ∧ Bx (keyedN key b = outK (comeN h t b (decide (K = 0))) 32))
  case first =>
    by_cases hK0 : K = 0
    · subst hK0
      go_wp2
      go_meet
      case rel => exact ⟨0, FH, _, rfl, by omega, KS0, ⟨HFL.out.1, HFL.out.2, by simp⟩, ⟨by rw [HKN.out]; simp [comeN]⟩⟩
    · have hK1 : 0 < K := by omega
      have HK0 := Bx.mk hK0
      obtain ⟨ad, rfl, hc⟩ := HA.out.2.2 (by rw [HK.out]; omega)
      have HKL := Bx.mk HA.out.1
      have HSRC : Bx (∀ j v, (b8 key)[j]? = some v → W4.cell? (ad.add j) = some v) := ⟨fun j v hv => by
        obtain ⟨hj, rfl⟩ := b8_get key j v hv
        exact cell_below (w := w) (by rw [← HQ.out]; exact KS0.out.bel) (hc j hj)⟩
      obtain ⟨Z, hZ⟩ : ∃ Z, Z = b8 (List.replicate 64 0) := ⟨_, rfl⟩
      have HBL : Bx (Blk W4 q8 41 Z.toArray) := ⟨by rw [hZ]; exact KS0.out.k8⟩
      have HN : Bx ((b8 key).length = Nat.min K 64) := ⟨by rw [b8_len, HK.out]; show K = min K 64; omega⟩
      have HGI : Bx (goInt (b8 key).length = .int .i64 K) := ⟨by rw [b8_len, HK.out]; rfl⟩
      have HFIT : Bx (0 + (b8 key).length ≤ Z.length) := ⟨by rw [hZ, b8_len, b8_len, HK.out, List.length_replicate]; omega⟩
      have HPAD : Bx (splice Z 0 (b8 key) = b8 (pad key)) := ⟨by
        have := pad_splice key
        rw [List.take_of_length_le (by rw [HK.out]; omega)] at this
        rw [hZ, b8_splice, this]⟩
      have HPC := Bx.mk (fun W hg => press_calls FH (pad key) 64 ((b.length : Int) == 0) W hg HFL.out.2 HFL.out.1 (pad_mem HKL.out) (pad_len key) (by omega))
      have HP8 : Bx ((pressN FH (pad key) 64 ((b.length : Int) == 0)).length = 8 ∧ W32 (pressN FH (pad key) 64 ((b.length : Int) == 0))) := ⟨pressN_len .., pressN_w32 HFL.out.2 HFL.out.1 _ _ (by omega) _⟩
      have HKN2 : Bx (keyedN key b = outK (comeN (pressN FH (pad key) 64 ((b.length : Int) == 0)) 64 b (decide (K = 0))) 32) := ⟨by rw [HKN.out, if_neg HK0.out, decide_eq_false HK0.out, beq_len]⟩
      have HI7 : Bx ((Tryd.prog.info? 40).map (·.size) = some (ws FH).length) := ⟨infoW HFL.out.1⟩
      have HI8 : Bx ((Tryd.prog.info? 41).map (·.size) = some (b8 (pad key)).length) := ⟨infoB (pad_len _)⟩
      have HI9 : Bx ((Tryd.prog.info? 40).map (·.size) = some (wd (pressN FH (pad key) 64 ((b.length : Int) == 0))).size) := ⟨infoW' (pressN_len ..)⟩
      have HWN : Bx (∀ w5, KS w q4 q6 q7 q8 (List.replicate 32 0) FH (pad key) w5 → w5.rangeAt q7 0 (ws FH) ∧ w5.rangeAt q8 0 (b8 (pad key))) := ⟨fun w5 h => ⟨Blk.range h.k7, Blk.range h.k8⟩⟩
      have HPL := Bx.mk (pad_len key)
      generalize pressN FH (pad key) 64 ((b.length : Int) == 0) = PR at *
      generalize hPK : pad key = PK at *
      clear hPK hK1 hc HKN hZ
      go_upto_region 11 with (refine wpList_copy_splice (o := ⟨some 33, _, _, _, _, _⟩) rfl (.tmp 31) (.tmp 32) 22 22 rfl 5 Tryd.underlying22 size_u8 (some ⟨q8, 0, none⟩) (some ad) 64 64 K c (by rfl) (by rfl) q8 0 Z 41 HBL.out (b8 key) HN.out (fun _ => ⟨rfl, _, rfl, HSRC.out⟩) HFIT.out (b8_one _) q8 W4 (Below.refl _ _) (Nat.le_refl _) ?_; intro w5 hg5 hb5; rw [HGI.out]; have S5 : Bx (KS w q4 q6 q7 q8 (List.replicate 32 0) FH PK w5) := ⟨KS0.out.turn8 hb5 (by have := hg5.out; rw [HPAD.out] at this; exact this)⟩; clear hg5 hb5)
      have R7 := (HWN.out _ S5.out).1
      have R8 := (HWN.out _ S5.out).2
      go_wp2_with (first | ((with_reducible refine wpList_load_mid (op := ⟨some 34, _, _, _, _, _⟩) ?_ 40 (.tmp 7) ?_ q7 0 ?_ (ws FH) (.array 8 38) R7 ?_ ?_ HI7.out ?_); rfl; rfl; rfl; kernel_rfl; rfl) | ((with_reducible refine wpList_load_mid (op := ⟨some 35, _, _, _, _, _⟩) ?_ 41 (.tmp 8) ?_ q8 0 ?_ (b8 PK) (.array 64 5) R8 ?_ ?_ HI8.out ?_); rfl; rfl; rfl; kernel_rfl; rfl) | (go_at_call 22; refine (HPC.out _ S5.out.gx).mono ?_; rintro e w6 ⟨rfl, hb6⟩; have S6 := Bx.mk (S5.out.call hb6); have T7 := S6.out.k7.there (wd PR).size (by rw [wd_size, wd_size, HFL.out.1, HP8.out.1]); clear hb6 S5 R7 R8) | ((with_reducible refine wpList_store_mid ?_ 40 (.tmp 7) (.tmp 40) ?_ q7 0 (wd PR) ?_ ?_ T7 HI9.out ?_ ?_); rfl; rfl; rfl; rfl; exact wd_one _))
      go_meet
      case rel => exact ⟨64, PR, PK, rfl, by omega, ⟨S6.out.h7 (by rw [HFL.out.1, HP8.out.1])⟩, ⟨HP8.out.1, HP8.out.2, HPL.out⟩, HKN2⟩
  case rest =>
    obtain ⟨t0, h0, bb0, rfl, ht0, S0, HL0, HK1⟩ := hcut
    rw [beq_len] at HK1
    clear KS0 HKN HFL HK HA
    go_wp2_with fail
    generalize ((K : Int) == 0) = f0 at *
    clear hk kint hkK hkg
    go_loopw [1, 9, 10] (fun s1 s9 s10 w' => ∃ (A' : Option Addr) (l : List Nat) (c' t : Nat) (h bb : List Nat) (f : Bool), s1 = .slice A' l.length c' ∧ s9 = .int .u64 (t : Int) ∧ s10 = .bool f ∧ t + l.length ≤ 140737488355328 ∧ Bx (RB w A' l ∧ l.length ≤ c') ∧ Bx (KS w q4 q6 q7 q8 (List.replicate 32 0) h bb w') ∧ Bx (h.length = 8 ∧ W32 h ∧ bb.length = 64) ∧ Bx (keyedN key b = outK (comeN h t l f) 32)) (fun s1 _ s10 _ => 2 * bsize s1 + b1 s10)
    case atStart => exact ⟨B, b, d, t0, h0, bb0, f0, rfl, rfl, rfl, by omega, ⟨HB.out, HD.out⟩, S0, HL0, HK1⟩
    case round =>
      obtain ⟨A', l, c', t, h, bb, f, rfl, rfl, rfl, htl, HR, SK, HL, HC⟩ := hrel
      by_cases hend : l.length = 0 ∧ f = false
      · obtain ⟨e1, rfl⟩ := hend
        have HH : Bx (keyedN key b = outK h 32) := ⟨by rw [HC.out]; unfold comeN; rw [if_pos ⟨e1, rfl⟩]⟩
        have hl0 : ¬ 0 < l.length := by omega
        clear HC e1 HR
        have SK0 : Bx (KS w q4 q6 q7 q8 (outK h 0) h bb wr) := ⟨by rw [outK_zero]; exact SK.out⟩
        clear SK
        go_wp2_with fail
        go_loopw [68] (fun i w' => ∃ k : Nat, k ≤ 32 ∧ i = .int .i64 k ∧ Bx (KS w q4 q6 q7 q8 (outK h k) h bb w')) (fun i _ => 32 - (intOf i).toNat)
        case atStart => exact ⟨0, by omega, rfl, SK0⟩
        case round =>
          obtain ⟨k, hk, rfl, SK⟩ := hrel
          by_cases hlt : k < 32
          · obtain ⟨a, r, ha, hr, rfl⟩ : ∃ a r, a < 8 ∧ r < 4 ∧ k = 4 * a + r := ⟨k / 4, k % 4, by omega, by omega, by omega⟩
            have c0 := (SK.out.k7.cell a).trans (wd_get _ a (by rw [HL.out.1]; exact ha))
            have hX := HL.out.2.1.get a
            have f0 := SK.out.k6.frozen (4 * a + r)
            have cr : wr.cell? ⟨q6, 4 * a + r, none⟩ = some (.int .u8 (((outK h (4 * a + r)).getD (4 * a + r) 0 : Nat) : Int)) := (SK.out.k6.cell _).trans (u8s_get _ _ (by rw [outK_len]; exact hlt))
            have SN := Bx.mk (SK.out.set6 (4 * a + r) ((h.getD a 0 >>> (8 * r)) % 256))
            have HO : Bx ((outK h (4 * a + r)).set (4 * a + r) ((h.getD a 0 >>> (8 * r)) % 256) = outK h (4 * a + r + 1)) := ⟨by
              have := outK_set h (4 * a + r) hlt
              rw [show (4 * a + r) / 4 = a by omega, show (4 * a + r) % 4 = r by omega] at this
              exact this⟩
            rw [HO.out] at SN
            generalize (outK h (4 * a + r)).getD (4 * a + r) 0 = OLD at *
            generalize h.getD a 0 = X at *
            have ik : (a : Int) < 8 := by omega
            have e1 : (4 * (a : Int)) / 4 = a := by omega
            have e2 : (4 * (a : Int)) % 4 = 0 := by omega
            have e3 : (4 * (a : Int) + 1) / 4 = a := by omega
            have e4 : (4 * (a : Int) + 1) % 4 = 1 := by omega
            have e5 : (4 * (a : Int) + 2) / 4 = a := by omega
            have e6 : (4 * (a : Int) + 2) % 4 = 2 := by omega
            have e7 : (4 * (a : Int) + 3) / 4 = a := by omega
            have e8 : (4 * (a : Int) + 3) % 4 = 3 := by omega
            clear hl0
            obtain rfl | rfl | rfl | rfl : r = 0 ∨ r = 1 ∨ r = 2 ∨ r = 3 := by omega
            · rw [show ((X >>> (8 * 0) % 256 : Nat) : Int) = (X : Int) % 256 by rw [Nat.shiftRight_eq_div_pow]; omega] at SN
              rw [Nat.add_zero] at f0 cr SN
              go_wp2
              go_roundw
              case rel => exact ⟨4 * a + 1, by omega, by go_num, SN⟩
              case measure => simp [intOf]; omega
            · rw [show ((X >>> (8 * 1) % 256 : Nat) : Int) = (X : Int) / 256 % 256 by rw [Nat.shiftRight_eq_div_pow]; omega] at SN
              go_wp2
              go_roundw
              case rel => exact ⟨4 * a + 2, by omega, by go_num, SN⟩
              case measure => simp [intOf]; omega
            · rw [show ((X >>> (8 * 2) % 256 : Nat) : Int) = (X : Int) / 65536 % 256 by rw [Nat.shiftRight_eq_div_pow]; omega] at SN
              go_wp2
              go_roundw
              case rel => exact ⟨4 * a + 3, by omega, by go_num, SN⟩
              case measure => simp [intOf]; omega
            · rw [show ((X >>> (8 * 3) % 256 : Nat) : Int) = (X : Int) / 16777216 by rw [Nat.shiftRight_eq_div_pow]; omega] at SN
              go_wp2
              go_roundw
              case rel => exact ⟨4 * a + 4, by omega, by go_num, SN⟩
              case measure => simp [intOf]; omega
          · obtain rfl : k = 32 := by omega
            have R6 : wr.rangeAt q6 0 (b8 (outK h 32)) := Blk.range SK.out.k6
            have T4 := SK.out.k4.there (u8s (outK h 32)).size (by rw [u8s_size, u8s_size, outK_len]; rfl)
            have HI24 : Bx ((Tryd.prog.info? 24).map (·.size) = some (b8 (outK h 32)).length) := ⟨by rw [b8_len, outK_len]; kernel_rfl⟩
            have HI24' : Bx ((Tryd.prog.info? 24).map (·.size) = some (u8s (outK h 32)).size) := ⟨by rw [u8s_size, outK_len]; kernel_rfl⟩
            have BO : Blk (wr.setCells q4 0 (u8s (outK h 32)).toList) q4 24 (u8s (outK h 32)) := SK.out.k4.setAll (by rw [u8s_size, u8s_size, outK_len]; rfl)
            have BE : Bx (Below q4 w (wr.setCells q4 0 (u8s (outK h 32)).toList)) := ⟨below_setCells q4 (Nat.le_refl _) _ _ SK.out.bel⟩
            generalize outK h 32 = OUT at *
            go_wp2_with (first | ((with_reducible refine wpList_load_mid ?_ 24 (.tmp 6) ?_ q6 0 ?_ (b8 OUT) (.array 32 5) R6 ?_ ?_ HI24.out ?_); rfl; rfl; rfl; kernel_rfl; rfl) | ((with_reducible refine wpList_store_mid ?_ 24 (.tmp 4) (.tmp 83) ?_ q4 0 (u8s OUT) ?_ ?_ T4 HI24'.out ?_ ?_); rfl; rfl; rfl; rfl; exact u8s_one _))
            have LV := run_loadVar_mid (P := Tryd.prog) _ q4 0 24 (b8 OUT) (.array 32 5) (Blk.range BO) (by kernel_rfl) rfl HI24.out
            generalize wr.setCells q4 0 (u8s OUT).toList = FW at *
            rw [HH.out]
            refine bodyPost_ret (v := .tuple #[.agg (u8s OUT), .int .i64 0]) (by simp [results, Tryd.results17, asAddr, LV]; rfl) rfl ⟨rfl, ?_⟩
            rw [← HQ.out]; exact BE.out
      · have hne : 0 < l.length ∨ f = true := by
          by_cases h1 : l.length = 0
          · right; cases f
            · exact absurd ⟨h1, rfl⟩ hend
            · rfl
          · left; omega
        have HNE := Bx.mk hne
        obtain ⟨N, hN⟩ : ∃ N, N = min l.length 64 := ⟨_, rfl⟩
        obtain ⟨L2, hL2⟩ : ∃ L2, L2 = (l.drop N).length := ⟨_, rfl⟩
        have HST := Bx.mk (come_step h t l f hne)
        rw [← hN, ← hL2] at HST
        have hn1 : N ≤ l.length := by omega
        have hn2 : N ≤ 64 := by omega
        have HL2 : Bx (L2 = l.length - N) := ⟨by rw [hL2, List.length_drop]⟩
        have HN0 : Bx (N = min l.length 64) := ⟨hN⟩
        have HLD : Bx (L2 = (l.drop N).length) := ⟨hL2⟩
        have hsl : ∀ W, (Instr.slice 22 (.slice A' l.length c') (some (.int .i64 (N : Int))) none none).run Tryd.prog W = .ok (.slice (if c' = N then A' else A'.map (·.add N)) L2 (c' - N)) W := fun W => by
          have := cut_from_bytes A' l.length c' N hn1 W
          rw [← HL2.out] at this; exact this
        have RD := Bx.mk (HR.out.1.drop N c' HR.out.2)
        generalize (if c' = N then A' else A'.map (·.add N)) = A2 at *
        have w1 : IntKind.u64.wrap (N : Int) = (N : Int) := by rw [IntKind.wrap_u64]; omega
        have w2 : IntKind.u64.wrap ((t : Int) + (N : Int)) = ((t + N : Nat) : Int) := by rw [IntKind.wrap_u64]; omega
        obtain ⟨Z, hZ⟩ : ∃ Z, Z = b8 (List.replicate 64 0) := ⟨_, rfl⟩
        have HZ := Bx.mk hZ
        have HSRC : Bx (∀ W, Below w.heap.size w W → 0 < l.length → ∃ ad, A' = some ad ∧ ∀ j v, (b8 (l.take 64))[j]? = some v → W.cell? (ad.add j) = some v) := ⟨fun W hW hp => by
          obtain ⟨ad, e, hc⟩ := HR.out.1.2.2 hp
          refine ⟨ad, e, fun j v hv => ?_⟩
          obtain ⟨hj, rfl⟩ := b8_get _ j v hv
          rw [List.length_take] at hj
          rw [List.getD_eq_getElem?_getD, List.getElem?_take, if_pos (by omega), ← List.getD_eq_getElem?_getD]
          exact cell_below hW (hc j (by omega))⟩
        have HNL : Bx ((b8 (l.take 64)).length = Nat.min l.length 64) := ⟨by rw [b8_len, List.length_take]; exact Nat.min_comm ..⟩
        have HGI : Bx (goInt (b8 (l.take 64)).length = .int .i64 N) := ⟨by rw [HNL.out]; exact congrArg (fun n : Nat => Value.int .i64 (n : Int)) HN0.out.symm⟩
        have HFIT : Bx (0 + (b8 (l.take 64)).length ≤ Z.length) := ⟨by rw [hZ, b8_len, b8_len, List.length_take, List.length_replicate]; omega⟩
        have HPAD : Bx (splice Z 0 (b8 (l.take 64)) = b8 (pad l)) := ⟨by rw [hZ]; exact pad_splice2 l⟩
        have HPC := Bx.mk (fun W hg => press_calls h (pad l) (t + N) ((L2 : Int) == 0) W hg HL.out.2.1 HL.out.1 (pad_mem HR.out.1.1) (pad_len l) (by omega))
        simp only [Int.natCast_add] at HPC
        have HP8 : Bx ((pressN h (pad l) (t + N) ((L2 : Int) == 0)).length = 8 ∧ W32 (pressN h (pad l) (t + N) ((L2 : Int) == 0))) := ⟨pressN_len .., pressN_w32 HL.out.2.1 HL.out.1 _ _ (by omega) _⟩
        have HI7 : Bx ((Tryd.prog.info? 40).map (·.size) = some (ws h).length) := ⟨infoW HL.out.1⟩
        have HI8 : Bx ((Tryd.prog.info? 41).map (·.size) = some (b8 (pad l)).length) := ⟨infoB (pad_len _)⟩
        have HI9 : Bx ((Tryd.prog.info? 40).map (·.size) = some (wd (pressN h (pad l) (t + N) ((L2 : Int) == 0))).size) := ⟨infoW' (pressN_len ..)⟩
        have HPL := Bx.mk (pad_len l)
        have HNX : Bx (keyedN key b = outK (comeN (pressN h (pad l) (t + N) ((L2 : Int) == 0)) (t + N) (l.drop N) false) 32) := ⟨by rw [HC.out, HST.out]⟩
        have HI10 : Bx ((Tryd.prog.info? 41).map (·.size) = some (u8s (List.replicate 64 0)).size) := ⟨infoB' (by simp)⟩
        have HZS : Bx (bb.length = (List.replicate 64 0).length) := ⟨by rw [HL.out.2.2]; rfl⟩
        have T8 := SK.out.k8.there (u8s (List.replicate 64 0)).size (by rw [u8s_size, u8s_size, HL.out.2.2]; rfl)
        have S1 : Bx (KS w q4 q6 q7 q8 (List.replicate 32 0) h (List.replicate 64 0) (wr.setCells q8 0 (u8s (List.replicate 64 0)).toList)) := ⟨SK.out.h8 HZS.out⟩
        generalize pressN h (pad l) (t + N) ((L2 : Int) == 0) = PR at *
        generalize pad l = PK at *
        generalize hZV : u8s (List.replicate 64 0) = ZV at *
        have HZV := Bx.mk hZV
        clear hN hL2 hZ hZV HC HST hend
        have hne2 : 0 < l.length ∨ (¬ 0 < l.length ∧ f = true) := by
          rcases hne with h | h
          · exact .inl h
          · by_cases h2 : 0 < l.length
            · exact .inl h2
            · exact .inr ⟨h2, h⟩
        clear hne
        rcases hne2 with hlt | ⟨hlt, rfl⟩
        all_goals
          go_upto_region 16 with ((with_reducible refine wpList_store_mid ?_ 41 (.tmp 8) (.tmp 50) ?_ q8 0 ZV ?_ ?_ T8 HI10.out ?_ ?_); rfl; rfl; rfl; exact congrArg Value.agg HZV.out; (rw [← HZV.out]; exact u8s_one _))
          generalize wr.setCells q8 0 ZV.toList = w1' at *
          have HBL : Bx (Blk w1' q8 41 Z.toArray) := ⟨by rw [HZ.out]; exact S1.out.k8⟩
          have HS2 := Bx.mk (HSRC.out w1' (by rw [← HQ.out]; exact S1.out.bel))
          have HNL0 : Bx (0 < (b8 (l.take 64)).length → 0 < l.length) := ⟨fun h => by rw [b8_len, List.length_take] at h; omega⟩
          clear HSRC
          go_upto_region 17 with (refine wpList_copy_splice (o := ⟨some 53, _, _, _, _, _⟩) rfl (.tmp 51) (.tmp 52) 22 22 rfl 5 Tryd.underlying22 size_u8 (some ⟨q8, 0, none⟩) A' 64 64 l.length c' (by rfl) (by rfl) q8 0 Z 41 HBL.out (b8 (l.take 64)) HNL.out (fun hp => ⟨rfl, HS2.out (HNL0.out hp)⟩) HFIT.out (b8_one _) q8 w1' (Below.refl _ _) (Nat.le_refl _) ?_; intro w5 hg5 hb5; rw [HGI.out]; have S5 : Bx (KS w q4 q6 q7 q8 (List.replicate 32 0) h PK w5) := ⟨S1.out.turn8 hb5 (by have := hg5.out; rw [HPAD.out] at this; exact this)⟩; clear hg5 hb5)
          go_quiet (fail)
          have S6 : Bx (KS w q4 q6 q7 q8 (List.replicate 32 0) h PK (w5.drewN nq)) := ⟨⟨S5.out.ad, S5.out.k4, S5.out.k6, S5.out.k7, S5.out.k8, below_drewN S5.out.bel nq, S5.out.gl⟩⟩
          generalize w5.drewN nq = w6 at *
          clear S5 S1 T8 hsl
          have R7 : w6.rangeAt q7 0 (ws h) := Blk.range S6.out.k7
          have R8 : w6.rangeAt q8 0 (b8 PK) := Blk.range S6.out.k8
          go_wp2_with (first | ((with_reducible refine wpList_load_mid (op := ⟨some 61, _, _, _, _, _⟩) ?_ 40 (.tmp 7) ?_ q7 0 ?_ (ws h) (.array 8 38) R7 ?_ ?_ HI7.out ?_); rfl; rfl; rfl; kernel_rfl; rfl) | ((with_reducible refine wpList_load_mid (op := ⟨some 62, _, _, _, _, _⟩) ?_ 41 (.tmp 8) ?_ q8 0 ?_ (b8 PK) (.array 64 5) R8 ?_ ?_ HI8.out ?_); rfl; rfl; rfl; kernel_rfl; rfl) | (go_at_call 22; refine (HPC.out _ S6.out.gx).mono ?_; rintro e w7 ⟨rfl, hb7⟩; have S7 := Bx.mk (S6.out.call hb7); have T7 := S7.out.k7.there (wd PR).size (by rw [wd_size, wd_size, HL.out.1, HP8.out.1]); clear hb7 S6 R7 R8) | ((with_reducible refine wpList_store_mid ?_ 40 (.tmp 7) (.tmp 67) ?_ q7 0 (wd PR) ?_ ?_ T7 HI9.out ?_ ?_); rfl; rfl; rfl; rfl; exact wd_one _))
          go_roundw
          case rel => exact ⟨A2, l.drop N, c' - N, t + N, PR, PK, false, by rw [← HLD.out], by go_num, rfl, by rw [← HLD.out, HL2.out]; omega, ⟨RD.out, by rw [← HLD.out, HL2.out]; have := HR.out.2; omega⟩, ⟨S7.out.h7 (by rw [HL.out.1, HP8.out.1])⟩, ⟨HP8.out.1, HP8.out.2, HPL.out⟩, HNX⟩
          case measure => simp [bsize, b1]; have := HL2.out; have := HN0.out; omega
end Go.Proofs.YtkcifjgfgommoaaDoor
