import Derived.Test.YtoekecopfmohiaaDoorGz4
/-
  gzip: Dress: its walk.
-/
namespace Go.Proofs.YtoekecopfmohiaaDoor
open Go.RowKit

theorem mag_all (W : World) : (Instr.sliceAt 61 (.pointer (some ⟨0, 0, none⟩)) none none none).run Tryd.prog W = .ok (.slice (some ⟨0, 0, none⟩) 10 10) W := by kernel_rfl
theorem hMag_hd : hMag = hd0 0 := rfl
theorem mag_rb {w : World} (h : Gz w) : RB w (some ⟨0, 0, none⟩) hMag := ⟨by decide, by decide, fun _ => ⟨_, rfl, fun j hj => by rw [add_plain]; exact h.mag j hj⟩⟩
/-- may it be dressed? -/
def DrsOk (nm nt ex : List Nat) : Prop := ¬ nulN nm < nm.length ∧ ¬ nulN nt < nt.length ∧ ex.length ≤ 65535
instance (nm nt ex : List Nat) : Decidable (DrsOk nm nt ex) := by unfold DrsOk; exact inferInstance
set_option maxRecDepth 100000 in
set_option maxHeartbeats 2000000 in
theorem Dress_no (v : Value) (nm nt : ByteArray) (E : Option Addr) (ex : List Nat) (ce : Nat) (sum : Bool) (w : World) (h : ¬ DrsOk (sb nm) (sb nt) ex) :
    Calls Tryd.prog 21 #[v, .string nm, .string nt, .slice E ex.length ce, .bool sum] w fun e w' => e = .returned (.tuple #[.slice none 0 0, .int .i64 2]) ∧ w = w' := by
  have S1 := Bx.mk (fun W => sIndex_calls nm W)
  have S2 := Bx.mk (fun W => sIndex_calls nt W)
  by_cases h1 : nulN (sb nm) < (sb nm).length
  · rw [if_pos h1] at S1
    generalize nulN (sb nm) = N1 at *
    have hge : (0 : Int) ≤ (N1 : Int) := by omega
    clear h h1
    go_enter Tryd.func21, Tryd.ntmps21
    go_wp2_with (go_at_call 38; fail)
    refine (S1.out w).mono ?_
    rintro e w1 ⟨rfl, rfl⟩
    go_wp2
    go_ret2
    exact ⟨rfl, rfl⟩
  rw [if_neg h1] at S1
  by_cases h2 : nulN (sb nt) < (sb nt).length
  · rw [if_pos h2] at S2
    generalize nulN (sb nt) = N2 at *
    have hge : (0 : Int) ≤ (N2 : Int) := by omega
    clear h h1 h2
    go_enter Tryd.func21, Tryd.ntmps21
    go_wp2_with (go_at_call 38; fail)
    refine (S1.out w).mono ?_
    rintro e w1 ⟨rfl, rfl⟩
    go_wp2_with (go_at_call 38; fail)
    refine (S2.out w).mono ?_
    rintro e w1 ⟨rfl, rfl⟩
    go_wp2
    go_ret2
    exact ⟨rfl, rfl⟩
  rw [if_neg h2] at S2
  have h3 : (65535 : Int) < (ex.length : Int) := by
    have : ¬ ex.length ≤ 65535 := fun hc => h ⟨h1, h2, hc⟩
    omega
  clear h h1 h2
  go_enter Tryd.func21, Tryd.ntmps21
  go_wp2_with (go_at_call 38; fail)
  refine (S1.out w).mono ?_
  rintro e w1 ⟨rfl, rfl⟩
  go_wp2_with (go_at_call 38; fail)
  refine (S2.out w).mono ?_
  rintro e w1 ⟨rfl, rfl⟩
  go_wp2
  go_ret2
  exact ⟨rfl, rfl⟩
theorem hdK_ex (ex nm nt : List Nat) (h : ex ≠ []) : hdK ex nm nt 0 = hMag.set 3 4 ++ le 2 ex.length ++ ex := by
  unfold hdK flK exB
  simp [h]
  rfl
theorem hdK_no (ex nm nt : List Nat) (h : ex = []) : hdK ex nm nt 0 = hMag := by
  unfold hdK flK exB
  simp [h]
  rfl
theorem hdK_len (ex nm nt : List Nat) (k : Nat) : 10 ≤ (hdK ex nm nt k).length ∧ (hdK ex nm nt k).length ≤ ex.length + nm.length + nt.length + 14 := by
  unfold hdK exB nmB
  simp only [List.length_append, hd0, List.length_cons, List.length_nil]
  repeat' split
  all_goals simp [le_len] <;> omega
theorem hdK_get (ex nm nt : List Nat) (k : Nat) : (hdK ex nm nt k).getD 3 0 = flK ex nm nt k := rfl
theorem hdK_lt (ex nm nt : List Nat) (k : Nat) (he : ∀ x ∈ ex, x < 256) (hn : ∀ x ∈ nm, x < 256) (ht : ∀ x ∈ nt, x < 256) : ∀ x ∈ hdK ex nm nt k, x < 256 := by
  have hf := flK_lt ex nm nt k
  intro x hx
  unfold hdK exB nmB at hx
  simp only [List.mem_append] at hx
  rcases hx with hx | (hx | hx) | hx
  · simp only [hd0, List.mem_cons, List.not_mem_nil, or_false] at hx
    omega
  · split at hx
    · cases hx
    · rcases List.mem_append.1 hx with hx | hx
      · exact le_lt 2 _ x hx
      · exact he x hx
  · split at hx
    · cases hx
    · split at hx
      · cases hx
      · rcases List.mem_append.1 hx with hx | hx
        · exact hn x hx
        · rw [List.mem_singleton.1 hx]; decide
  · split at hx
    · cases hx
    · split at hx
      · cases hx
      · rcases List.mem_append.1 hx with hx | hx
        · exact ht x hx
        · rw [List.mem_singleton.1 hx]; decide
theorem exB_len (ex : List Nat) : (exB ex).length ≤ ex.length + 2 := by
  unfold exB
  split
  · simp
  · rw [List.length_append, le_len]; omega
theorem nmB_len (nm : List Nat) : (nmB nm).length ≤ nm.length + 1 := by
  unfold nmB
  split
  · simp
  · simp
theorem hdK_len0 (ex : List Nat) (nm nt : List Nat) : (hdK ex nm nt 0).length ≤ ex.length + 0 + 14 := by
  have := exB_len ex
  unfold hdK
  simp [hd0]; omega
theorem hdK_len1 (ex : List Nat) (nm nt : List Nat) : (hdK ex nm nt 1).length ≤ ex.length + nm.length + 14 := by
  have := exB_len ex
  have := nmB_len nm
  unfold hdK
  simp [hd0]; omega
theorem str_empty (s : ByteArray) : s.toList.isEmpty = (sb s).isEmpty := by
  rw [Lib.toList_data]
  unfold sb
  cases s.data.toList <;> rfl
theorem exB_cons (ex : List Nat) (h : ex ≠ []) : (hd0 0).set 3 4 ++ le 2 ex.length ++ ex = hd0 4 ++ exB ex := by
  unfold exB; rw [if_neg h, List.append_assoc]; rfl
theorem sb_byte (s : ByteArray) : ∀ x ∈ sb s, x < 256 := by
  intro x hx
  unfold sb at hx
  obtain ⟨c, -, rfl⟩ := List.mem_map.1 hx
  exact c.toNat_lt
theorem or2_lt (x : Nat) (h : x < 256) : x ||| 2 < 256 := Nat.or_lt_two_pow (n := 8) h (by decide)
theorem hdA_lt (ex nm nt : List Nat) (sum : Bool) (he : ∀ x ∈ ex, x < 256) (hn : ∀ x ∈ nm, x < 256) (ht : ∀ x ∈ nt, x < 256) : ∀ x ∈ hdA ex nm nt sum, x < 256 := by
  have h0 := hdK_lt ex nm nt 2 he hn ht
  cases sum with
  | false => rw [← hdK_all]; exact h0
  | true =>
    rw [← hdK_sum]
    intro x hx
    rcases List.mem_or_eq_of_mem_set hx with hx | rfl
    · exact h0 x hx
    · exact or2_lt _ (Nat.lt_trans (flK_lt ex nm nt 2) (by decide))
set_option maxRecDepth 100000 in
set_option maxHeartbeats 8000000 in
theorem Dress_yes (A : Option Addr) (b : List Nat) (c : Nat) (nm nt : ByteArray) (E : Option Addr) (ex : List Nat) (ce : Nat) (sum : Bool) (w : World) (hb : RB w A b) (hc : b.length ≤ c) (he : RB w E ex) (hg : Gz w)
    (hz : ex.length + nm.size + nt.size + 9 * b.length / 8 + 60 ≤ 2 ^ 47) (hbl : b.length ≤ 20000) (h : DrsOk (sb nm) (sb nt) ex) :
    Calls Tryd.prog 21 #[.slice A b.length c, .string nm, .string nt, .slice E ex.length ce, .bool sum] w fun e w' => ∃ l v, Bts l (fN (wholeF copF b)) (fA (wholeF copF b)) ∧ e = .returned (.tuple #[v, .int .i64 0]) ∧ OB w' w.heap.size v (gzF ex (sb nm) (sb nt) sum l b) ∧ Below w.heap.size w w' := by
  obtain ⟨h1, h2, h3⟩ := h
  have S1 := Bx.mk (fun W => sIndex_calls nm W)
  have S2 := Bx.mk (fun W => sIndex_calls nt W)
  rw [if_neg h1] at S1
  rw [if_neg h2] at S2
  have h3i : decide ((65535 : Int) < (ex.length : Int)) = false := decide_eq_false (by omega)
  have HB := Bx.mk hb
  have HE := Bx.mk he
  have HG := Bx.mk hg
  have CL := Bx.mk (Clone_calls (some ⟨0, 0, none⟩) hMag 10 w (mag_rb hg))
  have hma := mag_all
  clear h1 h2 hb he hg
  go_enter Tryd.func21, Tryd.ntmps21
  go_wp2_with (go_at_call 38; fail)
  refine (S1.out w).mono ?_
  rintro e w1 ⟨rfl, rfl⟩
  go_wp2_with (go_at_call 38; fail)
  refine (S2.out w).mono ?_
  rintro e w1 ⟨rfl, rfl⟩
  go_wp2_with (go_at_call 39; fail)
  refine CL.out.mono ?_
  rintro e w1 ⟨v1, rfl, ho1, hb1⟩
  obtain ⟨A1, c1, rfl⟩ := ho1.form
  have hm3 : 3 < hMag.length := by decide
  have hm10 : Bx (hMag.length = 10) := ⟨rfl⟩
  generalize hHM : hMag = HM at *
  have HHM := Bx.mk hHM
  have O1 := Bx.mk ho1
  clear hHM
  have B1 := Bx.mk hb1
  clear ho1 hb1 CL hma S1 S2
  by_cases hex : ex = []
  case' pos =>
    have hexi : decide ((0 : Int) < (ex.length : Int)) = false := by rw [hex]; rfl
    have HHK0 : Bx (HM = hdK ex (sb nm) (sb nt) 0) := ⟨by rw [← HHM.out]; exact (hdK_no ex _ _ hex).symm⟩
    obtain ⟨w5, rfl⟩ : ∃ w5, w5 = w1 := ⟨_, rfl⟩
    obtain ⟨A5, rfl⟩ : ∃ A5, A5 = A1 := ⟨_, rfl⟩
    obtain ⟨c5, rfl⟩ : ∃ c5, c5 = c1 := ⟨_, rfl⟩
    obtain ⟨HK0, rfl⟩ : ∃ HK0, HK0 = HM := ⟨_, rfl⟩
    have O5 := O1
    have B5 := B1
    clear O1 B1 hexi hm3 hm10 HHM
    have hexn : ¬ 0 < ex.length := by rw [hex]; decide
    clear hex
    go_wp2
  case' neg =>
    have hexn : 0 < ex.length := List.length_pos_iff.2 hex
    obtain ⟨g1, hg1, -, -, hgl, hcell, hfz⟩ := O1.out.opened (by omega)
    subst hg1
    have c3 : w1.cell? ⟨g1, 3, none⟩ = some (.int .u8 0) := by have := hcell 3 hm3; rw [← HHM.out] at this; exact this
    have f3 := hfz 3
    have hm3i : (3 : Int) < (HM.length : Int) := by omega
    have hor : bits .or .u8 0 4 = 4 := by decide
    have O2 := Bx.mk (O1.out.put 3 4)
    have B2 := Bx.mk (B1.out.setCell (p := ⟨g1, 3, none⟩) (own_block O1.out g1 (by simp [Value.ownBlock])) (.int .u8 4))
    have h65 : ex.length < 256 ^ 2 := by omega
    clear hcell hfz O1
    go_wp2_with (go_at_call 40; fail)
    generalize w1.setCell ⟨g1, 3, none⟩ (.int .u8 4) = w2 at *
    refine (number_calls' ex.length 2 w2 (by decide) (by decide) h65).mono ?_
    rintro e w3 ⟨v3, rfl, ho3, hb3⟩
    have B3 := Bx.mk (below_then B2.out B2.out.size hb3)
    have O3 := Bx.mk (O2.out.below hb3)
    obtain ⟨A3, c3', hv3⟩ := ho3.form
    rw [le_len] at hv3
    subst hv3
    have N3 := Bx.mk (ho3.rb' (le_lt 2 _) (by rw [le_len]; decide))
    have E3 := Bx.mk (HE.out.below B3.out)
    have hz3 : w.heap.size ≤ w3.heap.size := B3.out.size
    have hl3 : (HM.set 3 4).length + (le 2 ex.length).length ≤ 140737492549632 := by rw [le_len, List.length_set]; have := hm10.out; omega
    have hl4 : (HM.set 3 4 ++ le 2 ex.length).length + ex.length ≤ 140737492549632 := by rw [List.length_append, le_len, List.length_set]; have := hm10.out; omega
    have HLE : Bx ((le 2 ex.length).length = 2) := ⟨le_len 2 _⟩
    have HEX := Bx.mk hex
    clear ho3 hb3 O2 B2 c3 f3 hex
    go_wp2_with (first | (at_builtin; refine wpList_append_bytes w3 rfl (.tmp 38) (.tmp 41) rfl w.heap.size (.slice (some ⟨g1, 0, none⟩) HM.length c1) (HM.set 3 4) (le 2 ex.length) rfl O3.out A3 c3' (by rw [HLE.out]; rfl) N3.out hl3 hz3 ?_; intro v4 w4 ho4 hg4 _; have O4 := Bx.mk ho4; have B4 := Bx.mk (bapp_end O3.out B3.out (Nat.le_refl _) hg4); have E4 := Bx.mk (HE.out.below B4.out); have hz4 : w.heap.size ≤ w4.heap.size := B4.out.size; clear ho4 hg4 O3 B3 E3) | (at_builtin; refine wpList_append_bytes w4 rfl (.tmp 42) (.tmp 43) rfl w.heap.size v4 (HM.set 3 4 ++ le 2 ex.length) ex rfl O4.out E ce rfl E4.out hl4 hz4 ?_; intro v5 w5 ho5 hg5 _; have O5 : Bx (OB w5 w.heap.size v5 (hdK ex (sb nm) (sb nt) 0)) := ⟨by have e : hdK ex (sb nm) (sb nt) 0 = HM.set 3 4 ++ le 2 ex.length ++ ex := (by rw [← HHM.out]; exact hdK_ex ex _ _ HEX.out); rw [e]; exact ho5⟩; have B5 := Bx.mk (bapp_end O4.out B4.out (Nat.le_refl _) hg5); clear ho5 hg5 O4 B4 E4) | fail)
    obtain ⟨A5, c5, hv5⟩ := O5.out.form
    subst hv5
    generalize hHK : hdK ex (sb nm) (sb nt) 0 = HK0 at O5 ⊢
    have HHK0 : Bx (HK0 = hdK ex (sb nm) (sb nt) 0) := ⟨hHK.symm⟩
    clear hm3i hor hexn hHK hm3 hm10 HHM
  all_goals
    have hba := below_alloc1 w5 (.cells #[.string nm, .string nt] 9)
    have B7 : Bx (Blk (w5.alloc (.cells #[.string nm, .string nt] 9)) w5.heap.size 9 #[.string nm, .string nt]) := ⟨Blk.new _ _ _⟩
    have L7 := Bx.mk (below_then B5.out B5.out.size hba)
    have O7 := Bx.mk (O5.out.kept hba)
    have LQ7 : Bx (w.heap.size ≤ w5.heap.size) := ⟨B5.out.size⟩
    clear hba B5 O5
    generalize w5.alloc (.cells #[.string nm, .string nt] 9) = w7 at *
    generalize w5.heap.size = q7 at *
    go_loopw [12, 49] (fun s12 s49 wr => ∃ (k : Nat) (A6 : Option Addr) (c6 : Nat) (HK : List Nat), k ≤ 2 ∧ s49 = .int .i64 (k : Nat) ∧ s12 = .slice A6 HK.length c6 ∧ Bx (HK = hdK ex (sb nm) (sb nt) k) ∧ Bx (OB wr w.heap.size (.slice A6 HK.length c6) HK) ∧ Bx (Blk wr q7 9 #[.string nm, .string nt]) ∧ Bx (Below w.heap.size w wr)) (fun _ s49 _ => 2 - (intOf s49).toNat)
    case atStart => exact ⟨0, A5, c5, HK0, by omega, rfl, rfl, HHK0, O7, B7, L7⟩
    case round =>
      obtain ⟨k, A6, c6, HK, hk2, rfl, rfl, HKK, OQ, BQ, LQ⟩ := hrel
      clear O7 B7 L7
      have hkk : k = 0 ∨ k = 1 ∨ k = 2 := by omega
      rcases hkk with rfl | rfl | rfl
      · have ck : wr.cell? ⟨q7, 0, none⟩ = some (.string nm) := BQ.out.cell 0
        by_cases hte : sb nm = []
        · have HN : Bx (hdK ex (sb nm) (sb nt) 1 = hdK ex (sb nm) (sb nt) 0) := ⟨hdK_none ex (sb nm) (sb nt) 0 (by decide) hte⟩
          have HK8 : Bx (HK = hdK ex (sb nm) (sb nt) 1) := ⟨by rw [HN.out]; exact HKK.out⟩
          have hne : nm.toList.isEmpty = true := by rw [str_empty, hte]; rfl
          clear HN
          go_wp2
          go_roundw
          case rel => exact ⟨1, A6, c6, HK, by omega, rfl, rfl, HK8, OQ, BQ, LQ⟩
          case measure => simp [intOf]
        · have hne : nm.toList.isEmpty = false := by rw [str_empty]; cases hs : sb nm with
            | nil => exact absurd hs hte
            | cons x r => rfl
          have hor0 : flK ex (sb nm) (sb nt) 0 ||| 8 = flK ex (sb nm) (sb nt) 1 := flK_or ex (sb nm) (sb nt) 0 (by decide) hte
          have hF := flK_lt ex (sb nm) (sb nt) 0
          have hG := flK_lt ex (sb nm) (sb nt) 1
          have HS : Bx (HK.set 3 (flK ex (sb nm) (sb nt) 1) ++ sb nm ++ [0] = hdK ex (sb nm) (sb nt) 1) := ⟨by rw [HKK.out]; exact hdK_some ex (sb nm) (sb nt) 0 (by decide) hte⟩
          have hgt : HK.getD 3 0 = flK ex (sb nm) (sb nt) 0 := by rw [HKK.out]; rfl
          have hlk : 10 ≤ HK.length ∧ HK.length ≤ ex.length + (sb nm).length + (sb nt).length + 14 := by rw [HKK.out]; exact hdK_len ex (sb nm) (sb nt) 0
          have HLT : Bx (HK.length ≤ ex.length + 0 + 14) := ⟨by rw [HKK.out]; have := hdK_len0 ex (sb nm) (sb nt); have := sb_len nm; omega⟩
          generalize flK ex (sb nm) (sb nt) 0 = F at *
          generalize flK ex (sb nm) (sb nt) 1 = G at *
          have hor : Bx (bits .or .u8 (F : Int) 8 = (G : Int)) := ⟨by rw [← hor0]; exact u8_or_nat F 8 (by omega) (by decide)⟩
          obtain ⟨g6, hg6, -, -, hgl, hcell, hfz⟩ := OQ.out.opened (by omega)
          subst hg6
          have c3 : wr.cell? ⟨g6, 3, none⟩ = some (.int .u8 (F : Int)) := by have := hcell 3 (by omega); rw [hgt] at this; exact this
          have f3 := hfz 3
          have h3n : 3 < HK.length := by omega
          have h3z : (3 : Int) < (HK.length : Int) := by omega
          have OP := Bx.mk (OQ.out.put 3 G)
          have LP := Bx.mk ((LQ.out.setCell (p := ⟨g6, 3, none⟩) (own_block OQ.out g6 (by simp [Value.ownBlock])) (.int .u8 (G : Int))).drew)
          have BP : Bx (Blk (wr.setCell ⟨g6, 3, none⟩ (.int .u8 (G : Int))) q7 9 #[.string nm, .string nt]) := ⟨BQ.out.far (fun hc => own_blk_ne OQ.out BQ.out (by decide) (by simp [Value.ownBlock, hc])) _⟩
          clear hcell hfz hor0 hgt OQ LQ BQ
          go_upto_region 11 with (fail)
          go_still_tail 7, (by kernel_rfl)
          have O8 : Bx (OB (wr.setCell ⟨g6, 3, none⟩ (.int .u8 (bits .or .u8 (F : Int) 8))).drew w.heap.size (.slice (some ⟨g6, 0, none⟩) HK.length c6) (HK.set 3 G)) := ⟨by rw [hor.out]; exact OP.out⟩
          have B8 : Bx (Blk (wr.setCell ⟨g6, 3, none⟩ (.int .u8 (bits .or .u8 (F : Int) 8))).drew q7 9 #[.string nm, .string nt]) := ⟨by rw [hor.out]; exact BP.out⟩
          have hl8 : (HK.set 3 G).length + nm.size ≤ 2 ^ 47 := by rw [List.length_set]; have := HLT.out; omega
          have hz8 : w.heap.size ≤ (wr.setCell ⟨g6, 3, none⟩ (.int .u8 (bits .or .u8 (F : Int) 8))).drew.heap.size := by rw [hor.out]; exact LP.out.size
          have L8 : Bx (Below w.heap.size w (wr.setCell ⟨g6, 3, none⟩ (.int .u8 (bits .or .u8 (F : Int) 8))).drew) := ⟨by rw [hor.out]; exact LP.out⟩
          clear OP BP LP hor
          go_wp2_with (first | (at_builtin; refine wpList_append_str _ rfl (.tmp 63) (.tmp 64) rfl w.heap.size (.slice (some ⟨g6, 0, none⟩) HK.length c6) (HK.set 3 G) nm rfl O8.out rfl hl8 hz8 ?_; intro v9 w9 ho9 hg9; have O9 := Bx.mk ho9; have L9 := Bx.mk (bapp_end O8.out L8.out (Nat.le_refl _) hg9); have B9 : Bx (Blk w9 q7 9 #[.string nm, .string nt]) := ⟨B8.out.grown hg9 (fun hc => own_blk_ne O8.out B8.out (by decide) hc.symm)⟩; have R9 := Bx.mk (RB.lit w9 5 [0] #[.int .u8 0] rfl (by decide) (by decide)); have hba9 := below_alloc1 w9 (.cells #[.int .u8 0] 5); have O9' := Bx.mk (O9.out.kept hba9); have L9' := Bx.mk (below_then L9.out L9.out.size hba9); have B9' : Bx (Blk (w9.alloc (.cells #[.int .u8 0] 5)) q7 9 #[.string nm, .string nt]) := ⟨B9.out.alloc _⟩; have hl9 : (HK.set 3 G ++ sb nm).length + [0].length ≤ 140737492549632 := (by rw [List.length_append, List.length_set, sb_len]; have := HLT.out; simp only [List.length_singleton]; omega); have hz9 : w.heap.size ≤ (w9.alloc (.cells #[.int .u8 0] 5)).heap.size := L9'.out.size; clear ho9 hg9 hba9 O8 L8 B8 O9 L9 B9) | (at_builtin; refine wpList_append_bytes _ rfl (.tmp 65) (.tmp 66) rfl w.heap.size v9 (HK.set 3 G ++ sb nm) [0] rfl O9'.out (some ⟨w9.heap.size, 0, none⟩) 1 rfl R9.out hl9 hz9 ?_; intro v10 w10 ho10 hg10 _; have O10 : Bx (OB w10 w.heap.size v10 (hdK ex (sb nm) (sb nt) 1)) := ⟨by rw [← HS.out]; exact ho10⟩; have L10 := Bx.mk (bapp_end O9'.out L9'.out (Nat.le_refl _) hg10); have B10 : Bx (Blk w10 q7 9 #[.string nm, .string nt]) := ⟨B9'.out.grown hg10 (fun hc => own_blk_ne O9'.out B9'.out (by decide) hc.symm)⟩; clear ho10 hg10 O9' L9' B9' R9; obtain ⟨A10, c10, hv10⟩ := O10.out.form; subst hv10) | fail)
          go_roundw
          case rel => exact ⟨1, A10, c10, _, by omega, rfl, rfl, ⟨rfl⟩, O10, B10, L10⟩
          case measure => simp [intOf]
      · have ck : wr.cell? ⟨q7, 1, none⟩ = some (.string nt) := BQ.out.cell 1
        by_cases hte : sb nt = []
        · have HN : Bx (hdK ex (sb nm) (sb nt) 2 = hdK ex (sb nm) (sb nt) 1) := ⟨hdK_none ex (sb nm) (sb nt) 1 (by decide) hte⟩
          have HK8 : Bx (HK = hdK ex (sb nm) (sb nt) 2) := ⟨by rw [HN.out]; exact HKK.out⟩
          have hne : nt.toList.isEmpty = true := by rw [str_empty, hte]; rfl
          clear HN
          go_wp2
          go_roundw
          case rel => exact ⟨2, A6, c6, HK, by omega, rfl, rfl, HK8, OQ, BQ, LQ⟩
          case measure => simp [intOf]
        · have hne : nt.toList.isEmpty = false := by rw [str_empty]; cases hs : sb nt with
            | nil => exact absurd hs hte
            | cons x r => rfl
          have hor0 : flK ex (sb nm) (sb nt) 1 ||| 16 = flK ex (sb nm) (sb nt) 2 := flK_or ex (sb nm) (sb nt) 1 (by decide) hte
          have hF := flK_lt ex (sb nm) (sb nt) 1
          have hG := flK_lt ex (sb nm) (sb nt) 2
          have HS : Bx (HK.set 3 (flK ex (sb nm) (sb nt) 2) ++ sb nt ++ [0] = hdK ex (sb nm) (sb nt) 2) := ⟨by rw [HKK.out]; exact hdK_some ex (sb nm) (sb nt) 1 (by decide) hte⟩
          have hgt : HK.getD 3 0 = flK ex (sb nm) (sb nt) 1 := by rw [HKK.out]; rfl
          have hlk : 10 ≤ HK.length ∧ HK.length ≤ ex.length + (sb nm).length + (sb nt).length + 14 := by rw [HKK.out]; exact hdK_len ex (sb nm) (sb nt) 1
          have HLT : Bx (HK.length ≤ ex.length + nm.size + 14) := ⟨by rw [HKK.out]; have := hdK_len1 ex (sb nm) (sb nt); have := sb_len nm; omega⟩
          generalize flK ex (sb nm) (sb nt) 1 = F at *
          generalize flK ex (sb nm) (sb nt) 2 = G at *
          have hor : Bx (bits .or .u8 (F : Int) 16 = (G : Int)) := ⟨by rw [← hor0]; exact u8_or_nat F 16 (by omega) (by decide)⟩
          obtain ⟨g6, hg6, -, -, hgl, hcell, hfz⟩ := OQ.out.opened (by omega)
          subst hg6
          have c3 : wr.cell? ⟨g6, 3, none⟩ = some (.int .u8 (F : Int)) := by have := hcell 3 (by omega); rw [hgt] at this; exact this
          have f3 := hfz 3
          have h3n : 3 < HK.length := by omega
          have h3z : (3 : Int) < (HK.length : Int) := by omega
          have OP := Bx.mk (OQ.out.put 3 G)
          have LP := Bx.mk ((LQ.out.setCell (p := ⟨g6, 3, none⟩) (own_block OQ.out g6 (by simp [Value.ownBlock])) (.int .u8 (G : Int))).drew)
          have BP : Bx (Blk (wr.setCell ⟨g6, 3, none⟩ (.int .u8 (G : Int))) q7 9 #[.string nm, .string nt]) := ⟨BQ.out.far (fun hc => own_blk_ne OQ.out BQ.out (by decide) (by simp [Value.ownBlock, hc])) _⟩
          clear hcell hfz hor0 hgt OQ LQ BQ
          go_upto_region 11 with (fail)
          go_still_tail 7, (by kernel_rfl)
          have O8 : Bx (OB (wr.setCell ⟨g6, 3, none⟩ (.int .u8 (bits .or .u8 (F : Int) 16))).drew w.heap.size (.slice (some ⟨g6, 0, none⟩) HK.length c6) (HK.set 3 G)) := ⟨by rw [hor.out]; exact OP.out⟩
          have B8 : Bx (Blk (wr.setCell ⟨g6, 3, none⟩ (.int .u8 (bits .or .u8 (F : Int) 16))).drew q7 9 #[.string nm, .string nt]) := ⟨by rw [hor.out]; exact BP.out⟩
          have hl8 : (HK.set 3 G).length + nt.size ≤ 2 ^ 47 := by rw [List.length_set]; have := HLT.out; omega
          have hz8 : w.heap.size ≤ (wr.setCell ⟨g6, 3, none⟩ (.int .u8 (bits .or .u8 (F : Int) 16))).drew.heap.size := by rw [hor.out]; exact LP.out.size
          have L8 : Bx (Below w.heap.size w (wr.setCell ⟨g6, 3, none⟩ (.int .u8 (bits .or .u8 (F : Int) 16))).drew) := ⟨by rw [hor.out]; exact LP.out⟩
          clear OP BP LP hor
          go_wp2_with (first | (at_builtin; refine wpList_append_str _ rfl (.tmp 63) (.tmp 64) rfl w.heap.size (.slice (some ⟨g6, 0, none⟩) HK.length c6) (HK.set 3 G) nt rfl O8.out rfl hl8 hz8 ?_; intro v9 w9 ho9 hg9; have O9 := Bx.mk ho9; have L9 := Bx.mk (bapp_end O8.out L8.out (Nat.le_refl _) hg9); have B9 : Bx (Blk w9 q7 9 #[.string nm, .string nt]) := ⟨B8.out.grown hg9 (fun hc => own_blk_ne O8.out B8.out (by decide) hc.symm)⟩; have R9 := Bx.mk (RB.lit w9 5 [0] #[.int .u8 0] rfl (by decide) (by decide)); have hba9 := below_alloc1 w9 (.cells #[.int .u8 0] 5); have O9' := Bx.mk (O9.out.kept hba9); have L9' := Bx.mk (below_then L9.out L9.out.size hba9); have B9' : Bx (Blk (w9.alloc (.cells #[.int .u8 0] 5)) q7 9 #[.string nm, .string nt]) := ⟨B9.out.alloc _⟩; have hl9 : (HK.set 3 G ++ sb nt).length + [0].length ≤ 140737492549632 := (by rw [List.length_append, List.length_set, sb_len]; have := HLT.out; simp only [List.length_singleton]; omega); have hz9 : w.heap.size ≤ (w9.alloc (.cells #[.int .u8 0] 5)).heap.size := L9'.out.size; clear ho9 hg9 hba9 O8 L8 B8 O9 L9 B9) | (at_builtin; refine wpList_append_bytes _ rfl (.tmp 65) (.tmp 66) rfl w.heap.size v9 (HK.set 3 G ++ sb nt) [0] rfl O9'.out (some ⟨w9.heap.size, 0, none⟩) 1 rfl R9.out hl9 hz9 ?_; intro v10 w10 ho10 hg10 _; have O10 : Bx (OB w10 w.heap.size v10 (hdK ex (sb nm) (sb nt) 2)) := ⟨by rw [← HS.out]; exact ho10⟩; have L10 := Bx.mk (bapp_end O9'.out L9'.out (Nat.le_refl _) hg10); have B10 : Bx (Blk w10 q7 9 #[.string nm, .string nt]) := ⟨B9'.out.grown hg10 (fun hc => own_blk_ne O9'.out B9'.out (by decide) hc.symm)⟩; clear ho10 hg10 O9' L9' B9' R9; obtain ⟨A10, c10, hv10⟩ := O10.out.form; subst hv10) | fail)
          go_roundw
          case rel => exact ⟨2, A10, c10, _, by omega, rfl, rfl, ⟨rfl⟩, O10, B10, L10⟩
          case measure => simp [intOf]
      · have HK2 : Bx (HK = hdK ex (sb nm) (sb nt) 2) := HKK
        have hlk : 10 ≤ HK.length ∧ HK.length ≤ ex.length + (sb nm).length + (sb nt).length + 14 := by rw [HKK.out]; exact hdK_len ex (sb nm) (sb nt) 2
        have hsz1 := sb_len nm
        have hsz2 := sb_len nt
        clear BQ HKK
        cases sum
        case' true =>
          have hF := flK_lt ex (sb nm) (sb nt) 2
          have hor0 : flK ex (sb nm) (sb nt) 2 ||| 2 < 256 := or2_lt _ (by omega)
          have hgt : HK.getD 3 0 = flK ex (sb nm) (sb nt) 2 := by rw [HK2.out]; rfl
          have HS : Bx (HK.set 3 (flK ex (sb nm) (sb nt) 2 ||| 2) = hdA ex (sb nm) (sb nt) true) := ⟨by rw [HK2.out]; exact hdK_sum ex (sb nm) (sb nt)⟩
          have hor1 : bits .or .u8 (flK ex (sb nm) (sb nt) 2 : Int) 2 = ((flK ex (sb nm) (sb nt) 2 ||| 2 : Nat) : Int) := u8_or_nat _ 2 (by omega) (by decide)
          have HLT : Bx (∀ x ∈ hdA ex (sb nm) (sb nt) true, x < 256) := ⟨hdA_lt ex (sb nm) (sb nt) true HE.out.1 (sb_byte nm) (sb_byte nt)⟩
          generalize hGG : flK ex (sb nm) (sb nt) 2 ||| 2 = G at *
          clear hGG
          generalize flK ex (sb nm) (sb nt) 2 = F at *
          obtain ⟨g6, hg6, -, -, hgl, hcell, hfz⟩ := OQ.out.opened (by omega)
          subst hg6
          have c3 : wr.cell? ⟨g6, 3, none⟩ = some (.int .u8 (F : Int)) := by have := hcell 3 (by omega); rw [hgt] at this; exact this
          have f3 := hfz 3
          have h3n : 3 < HK.length := by omega
          have h3z : (3 : Int) < (HK.length : Int) := by omega
          have O8 := Bx.mk (OQ.out.put 3 G)
          have L8 := Bx.mk (LQ.out.setCell (p := ⟨g6, 3, none⟩) (own_block OQ.out g6 (by simp [Value.ownBlock])) (.int .u8 (G : Int)))
          clear hcell hfz hgt OQ LQ HK2 hor0
          have hlen8 : (HK.set 3 G).length = HK.length := List.length_set
          have R8 := Bx.mk (O8.out.rb' (by rw [HS.out]; exact HLT.out) (by rw [hlen8]; omega))
          have CS := Bx.mk (fun W hr hg => Sum_calls (some ⟨g6, 0, none⟩) (HK.set 3 G) c6 W hr hg)
          rw [hlen8] at CS
          go_wp2_with (go_at_call 23; fail)
          generalize wr.setCell ⟨g6, 3, none⟩ (.int .u8 (G : Int)) = w8 at *
          refine (CS.out w8 R8.out (HG.out.below L8.out).half).mono ?_
          rintro e w9 ⟨rfl, rfl⟩
          have hXl : moreS 0 (HK.set 3 G) < 4294967296 := moreS_lt 0 _ (by decide) (by rw [HS.out]; exact HLT.out)
          have HXX : Bx (hdB ex (sb nm) (sb nt) true = HK.set 3 G ++ le 2 (moreS 0 (HK.set 3 G) % 65536)) := ⟨by rw [HS.out]; rfl⟩
          have hlA : HK.length ≤ ex.length + nm.size + nt.size + 14 := by omega
          generalize moreS 0 (HK.set 3 G) = X at *
          have hu : IntKind.u16.wrap (X : Int) = ((X % 65536 : Nat) : Int) := by simp [IntKind.wrap, IntKind.bits, IntKind.signed] <;> omega
          have hi : IntKind.i64.wrap ((X % 65536 : Nat) : Int) = ((X % 65536 : Nat) : Int) := IntWalk.i64_in _ (by omega)
          have hY : X % 65536 < 256 ^ 2 := Nat.mod_lt _ (by decide)
          generalize X % 65536 = Y at *
          clear CS R8 HS HLT c3 f3 hlk hsz1 hsz2
          go_wp2_with (go_at_call 40; fail)
          refine (number_calls' Y 2 w8 (by decide) (by decide) hY).mono ?_
          rintro e w9 ⟨v9, rfl, ho9, hb9⟩
          obtain ⟨A9, c9, hv9⟩ := ho9.form
          rw [le_len] at hv9
          subst hv9
          have HLE9 : Bx ((le 2 Y).length = 2) := ⟨le_len 2 _⟩
          have N9 := Bx.mk (ho9.rb' (le_lt 2 _) (by rw [le_len]; decide))
          have O9 := Bx.mk (O8.out.below hb9)
          have L9 := Bx.mk (below_then L8.out L8.out.size hb9)
          have hz9 : w.heap.size ≤ w9.heap.size := L9.out.size
          have hl9 : (HK.set 3 G).length + (le 2 Y).length ≤ 140737492549632 := by rw [le_len]; omega
          clear ho9 hb9 O8 L8
          go_wp2_with (first | (at_builtin; refine wpList_append_bytes w9 rfl (.tmp 75) (.tmp 80) rfl w.heap.size (.slice (some ⟨g6, 0, none⟩) HK.length c6) (HK.set 3 G) (le 2 Y) rfl (by rw [← hlen8] at O9; rw [← hlen8]; exact O9.out) A9 c9 (by rw [HLE9.out]; rfl) N9.out hl9 hz9 ?_; intro v12 w12 ho12 hg12 _; have O12 : Bx (OB w12 w.heap.size v12 (hdB ex (sb nm) (sb nt) true)) := ⟨by rw [HXX.out]; exact ho12⟩; have L12 := Bx.mk (bapp_end O9.out L9.out (Nat.le_refl _) hg12); have hHD : (hdB ex (sb nm) (sb nt) true).length ≤ ex.length + nm.size + nt.size + 16 := (by rw [HXX.out, List.length_append, le_len, hlen8]; omega); clear ho12 hg12 O9 L9 N9; generalize hHDD : hdB ex (sb nm) (sb nt) true = HD at *; have HHD : Bx (gzF ex (sb nm) (sb nt) true = fun l b => HD ++ (l ++ tlB b)) := ⟨by funext l b; unfold gzF; rw [hHDD]⟩; clear hHDD HXX; obtain ⟨A12, c12, hv12⟩ := O12.out.form; subst hv12) | (go_at_call 17; fail) | fail)
          clear hl9 hz9 hlen8 HLE9 hu hi hY hXl hlA h3n h3z
        case' false =>
          have HHD : Bx (gzF ex (sb nm) (sb nt) false = fun l b => HK ++ (l ++ tlB b)) := ⟨by funext l b; unfold gzF hdB; rw [HK2.out, hdK_all]; rfl⟩
          have hHD : HK.length ≤ ex.length + nm.size + nt.size + 16 := by omega
          obtain ⟨HD, rfl⟩ : ∃ HD, HD = HK := ⟨_, rfl⟩
          obtain ⟨w12, rfl⟩ : ∃ w12, w12 = wr := ⟨_, rfl⟩
          obtain ⟨A12, rfl⟩ : ∃ A12, A12 = A6 := ⟨_, rfl⟩
          obtain ⟨c12, rfl⟩ : ∃ c12, c12 = c6 := ⟨_, rfl⟩
          have O12 := OQ
          have L12 := LQ
          clear OQ LQ HK2 hlk hsz1 hsz2
          go_wp2_with (go_at_call 17; fail)
        all_goals
          refine (flRuns_calls A b c w12 (HB.out.below L12.out) hc (HG.out.below L12.out).gf (by omega)).mono ?_
          rintro e w13 ⟨l, v13, hbts, rfl, ho13, hb13⟩
          obtain ⟨A13, c13, hv13⟩ := ho13.form
          subst hv13
          have hll : l.length ≤ (9 * b.length + 17) / 8 := by
            have h1 := hbts.len
            have h2 := (runsF_A copF (fun c n hc hn => ⟨(copF_A c n (by omega) hn).1, (copF_A c n (by omega) hn).2.1⟩) (b.length + 1) b HB.out.1).1
            unfold wholeF at h1
            rw [blkF_A] at h1
            omega
          have N13 := Bx.mk (ho13.rb' hbts.byte (by omega))
          have HBTS := Bx.mk hbts
          have O13 := Bx.mk (O12.out.below hb13)
          have L13 := Bx.mk (below_then L12.out L12.out.size hb13)
          have hz13 : w.heap.size ≤ w13.heap.size := L13.out.size
          have hl13 : HD.length + l.length ≤ 140737492549632 := by omega
          clear ho13 hb13 O12 L12 hbts
          go_wp2_with (first | (at_builtin; refine wpList_append_bytes w13 rfl (.tmp 82) (.tmp 84) rfl w.heap.size (.slice A12 HD.length c12) HD l rfl O13.out A13 c13 rfl N13.out hl13 hz13 ?_; intro v14 w14 ho14 hg14 _; have O14 := Bx.mk ho14; have L14 := Bx.mk (bapp_end O13.out L13.out (Nat.le_refl _) hg14); clear ho14 hg14 O13 L13 N13 hz13) | (go_at_call 23; fail) | fail)
          refine (Sum_calls A b c w14 (HB.out.below L14.out) (HG.out.below L14.out).half).mono ?_
          rintro e w15 ⟨rfl, rfl⟩
          have hZ : moreS 0 b < 4294967296 := moreS_lt 0 _ (by decide) HB.out.1
          have HTL : Bx (tlB b = le 4 (moreS 0 b) ++ le 4 b.length) := ⟨rfl⟩
          generalize moreS 0 b = Z at *
          have hiZ : IntKind.i64.wrap (Z : Int) = (Z : Int) := IntWalk.i64_in _ (by omega)
          have hlA : (HD ++ l).length + 8 ≤ 140737492549632 := by rw [List.length_append]; omega
          go_wp2_with (go_at_call 40; fail)
          refine (number_calls' Z 4 w14 (by decide) (by decide) hZ).mono ?_
          rintro e w16 ⟨v16, rfl, ho16, hb16⟩
          obtain ⟨A16, c16, hv16⟩ := ho16.form
          rw [le_len] at hv16
          subst hv16
          have HLE16 : Bx ((le 4 Z).length = 4) := ⟨le_len 4 _⟩
          have N16 := Bx.mk (ho16.rb' (le_lt 4 _) (by rw [le_len]; decide))
          have O16 := Bx.mk (O14.out.below hb16)
          have L16 := Bx.mk (below_then L14.out L14.out.size hb16)
          have hz16 : w.heap.size ≤ w16.heap.size := L16.out.size
          have hl16 : (HD ++ l).length + (le 4 Z).length ≤ 140737492549632 := by rw [le_len]; omega
          clear ho16 hb16 O14 L14 hZ
          go_wp2_with (first | (at_builtin; refine wpList_append_bytes w16 rfl (.tmp 86) (.tmp 90) rfl w.heap.size v14 (HD ++ l) (le 4 Z) rfl O16.out A16 c16 (by rw [HLE16.out]; rfl) N16.out hl16 hz16 ?_; intro v17 w17 ho17 hg17 _; have O17 := Bx.mk ho17; have L17 := Bx.mk (bapp_end O16.out L16.out (Nat.le_refl _) hg17); clear ho17 hg17 O16 L16 N16 hz16) | (go_at_call 40; fail) | fail)
          refine (number_calls' b.length 4 w17 (by decide) (by decide) (by omega)).mono ?_
          rintro e w18 ⟨v18, rfl, ho18, hb18⟩
          obtain ⟨A18, c18, hv18⟩ := ho18.form
          rw [le_len] at hv18
          subst hv18
          have HLE18 : Bx ((le 4 b.length).length = 4) := ⟨le_len 4 _⟩
          have N18 := Bx.mk (ho18.rb' (le_lt 4 _) (by rw [le_len]; decide))
          have O18 := Bx.mk (O17.out.below hb18)
          have L18 := Bx.mk (below_then L17.out L17.out.size hb18)
          have hz18 : w.heap.size ≤ w18.heap.size := L18.out.size
          have hl18 : (HD ++ l ++ le 4 Z).length + (le 4 b.length).length ≤ 140737492549632 := by rw [le_len, List.length_append, le_len]; omega
          clear ho18 hb18 O17 L17
          go_wp2_with (first | (at_builtin; refine wpList_append_bytes w18 rfl (.tmp 92) (.tmp 95) rfl w.heap.size v17 (HD ++ l ++ le 4 Z) (le 4 b.length) rfl O18.out A18 c18 (by rw [HLE18.out]; rfl) N18.out hl18 hz18 ?_; intro v19 w19 ho19 hg19 _; have O19 := Bx.mk ho19; have L19 := Bx.mk (bapp_end O18.out L18.out (Nat.le_refl _) hg19); clear ho19 hg19 O18 L18 N18 hz18) | fail)
          go_ret2
          refine ⟨l, v19, HBTS.out, rfl, ?_, L19.out⟩
          rw [HHD.out]
          show OB w19 w.heap.size v19 (HD ++ (l ++ tlB b))
          rw [HTL.out]
          have := O19.out
          rw [List.append_assoc, List.append_assoc] at this
          exact this
end Go.Proofs.YtoekecopfmohiaaDoor
