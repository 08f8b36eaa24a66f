import Derived.Test.YtoekecopfmohiaaDoorRefGz5
import Derived.Test.YtoekecopfmohiaaDoorRefCrc
/-
  The reference of gzip: Dress: its walk.
-/
namespace Go.Proofs.YtoekecopfmohiaaDoor
open Go.RowKit

set_option maxRecDepth 100000 in
set_option maxHeartbeats 2000000 in
theorem rDress_no (v : Value) (nm nt : ByteArray) (E : Option Addr) (ex : List Nat) (ce : Nat) (sum : Bool) (w : World) (hn : nm.size ≤ 1048576) (ht : nt.size ≤ 1048576) (h : ¬ DrsOk (sb nm) (sb nt) ex) :
    Calls Tryd.prog 24 #[v, .string nm, .string nt, .slice E ex.length ce, .bool sum] w fun e w' => e = .returned (.tuple #[.slice none 0 0, .int .i64 2]) ∧ w = w' := by
  have S1 := Bx.mk (fun W => zero_calls nm W (by omega))
  have S2 := Bx.mk (fun W => zero_calls nt W (by omega))
  by_cases h1 : nulN (sb nm) < (sb nm).length
  · rw [decide_eq_true h1] at S1
    clear h h1
    go_enter Tryd.func24, Tryd.ntmps24
    go_wp2_with (go_at_call 43; fail)
    refine (S1.out w).mono ?_
    rintro e w1 ⟨rfl, rfl⟩
    go_wp2
    go_ret2
    exact ⟨rfl, rfl⟩
  rw [decide_eq_false h1] at S1
  by_cases h2 : nulN (sb nt) < (sb nt).length
  · rw [decide_eq_true h2] at S2
    clear h h1 h2
    go_enter Tryd.func24, Tryd.ntmps24
    go_wp2_with (go_at_call 43; fail)
    refine (S1.out w).mono ?_
    rintro e w1 ⟨rfl, rfl⟩
    go_wp2_with (go_at_call 43; fail)
    refine (S2.out w).mono ?_
    rintro e w1 ⟨rfl, rfl⟩
    go_wp2
    go_ret2
    exact ⟨rfl, rfl⟩
  rw [decide_eq_false h2] at S2
  have h3 : (65535 : Int) < (ex.length : Int) := by
    have : ¬ ex.length ≤ 65535 := fun hc => h ⟨h1, h2, hc⟩
    omega
  clear h h1 h2
  go_enter Tryd.func24, Tryd.ntmps24
  go_wp2_with (go_at_call 43; fail)
  refine (S1.out w).mono ?_
  rintro e w1 ⟨rfl, rfl⟩
  go_wp2_with (go_at_call 43; fail)
  refine (S2.out w).mono ?_
  rintro e w1 ⟨rfl, rfl⟩
  go_wp2
  go_ret2
  exact ⟨rfl, rfl⟩
theorem own_mag (w : World) : OB (w.alloc (.cells #[.int .u8 31, .int .u8 139, .int .u8 8, .int .u8 0, .int .u8 0, .int .u8 0, .int .u8 0, .int .u8 0, .int .u8 0, .int .u8 0] 5)) w.heap.size (.slice (some ⟨w.heap.size, 0, none⟩) 10 10) hMag :=
  ⟨rfl, .inr ⟨w.heap.size, 10, #[.int .u8 31, .int .u8 139, .int .u8 8, .int .u8 0, .int .u8 0, .int .u8 0, .int .u8 0, .int .u8 0, .int .u8 0, .int .u8 0], rfl, Nat.le_refl _, heap_alloc_new w _, by decide, by decide, rfl, rfl⟩⟩
theorem flK_add0 (ex nm nt : List Nat) (h : nm ≠ []) : flK ex nm nt 0 + 8 = flK ex nm nt 1 := by unfold flK; simp [h]
theorem flK_add1 (ex nm nt : List Nat) (h : nt ≠ []) : flK ex nm nt 1 + 16 = flK ex nm nt 2 := by unfold flK; simp [h]
theorem flK_add2 (ex nm nt : List Nat) : flK ex nm nt 2 + 2 = flK ex nm nt 2 ||| 2 := by
  have h := or_fl (decide (ex = [])) (decide (nm = [])) (decide (nt = []))
  simp only [decide_eq_true_eq] at h
  unfold flK
  simpa using h.2.2.symm
set_option maxRecDepth 100000 in
set_option maxHeartbeats 8000000 in
theorem rDress_yes (A : Option Addr) (b : List Nat) (c : Nat) (nm nt : ByteArray) (E : Option Addr) (ex : List Nat) (ce : Nat) (sum : Bool) (w : World) (hb : RB w A b) (he : RB w E ex)
    (hn : nm.size ≤ 1048576) (ht : nt.size ≤ 1048576) (hbl : b.length ≤ 20000) (h : DrsOk (sb nm) (sb nt) ex) :
    Calls Tryd.prog 24 #[.slice A b.length c, .string nm, .string nt, .slice E ex.length ce, .bool sum] w fun e w' => ∃ l v, Bts l (fN (wholeF copF b)) (fA (wholeF copF b)) ∧ e = .returned (.tuple #[v, .int .i64 0]) ∧ OB w' w.heap.size v (gzF ex (sb nm) (sb nt) sum l b) ∧ Below w.heap.size w w' := by
  obtain ⟨h1, h2, h3⟩ := h
  have S1 := Bx.mk (fun W => zero_calls nm W (by omega))
  have S2 := Bx.mk (fun W => zero_calls nt W (by omega))
  rw [decide_eq_false h1] at S1
  rw [decide_eq_false h2] at S2
  have h3i : decide ((65535 : Int) < (ex.length : Int)) = false := decide_eq_false (by omega)
  have HB := Bx.mk hb
  have HE := Bx.mk he
  clear h1 h2 hb he
  go_enter Tryd.func24, Tryd.ntmps24
  go_wp2_with (go_at_call 43; fail)
  refine (S1.out w).mono ?_
  rintro e w1 ⟨rfl, rfl⟩
  go_wp2_with (go_at_call 43; fail)
  refine (S2.out w).mono ?_
  rintro e w1 ⟨rfl, rfl⟩
  have O1 := Bx.mk (own_mag w)
  have B1 := Bx.mk (below_alloc1 w (.cells #[.int .u8 31, .int .u8 139, .int .u8 8, .int .u8 0, .int .u8 0, .int .u8 0, .int .u8 0, .int .u8 0, .int .u8 0, .int .u8 0] 5))
  go_upto_if 27 with fail
  generalize w.alloc (.cells #[.int .u8 31, .int .u8 139, .int .u8 8, .int .u8 0, .int .u8 0, .int .u8 0, .int .u8 0, .int .u8 0, .int .u8 0, .int .u8 0] 5) = w1 at *
  go_cut [12] (fun s12 wx => ∃ (A6 : Option Addr) (c6 : Nat) (HK : List Nat), s12 = .slice A6 HK.length c6 ∧ Bx (HK = hdK ex (sb nm) (sb nt) 0) ∧ Bx (OB wx w.heap.size (.slice A6 HK.length c6) HK) ∧ Bx (Below w.heap.size w wx))
  case first =>
    by_cases hex : ex = []
    · have hexi : decide ((0 : Int) < (ex.length : Int)) = false := by rw [hex]; rfl
      have hexn : ¬ 0 < ex.length := by rw [hex]; decide
      have HHK0 : Bx (hMag = hdK ex (sb nm) (sb nt) 0) := ⟨(hdK_no ex _ _ hex).symm⟩
      clear hex
      go_wp2
      go_meet
      exact ⟨_, _, hMag, rfl, HHK0, O1, B1⟩
    · have hexn : 0 < ex.length := List.length_pos_iff.2 hex
      obtain ⟨g1, hg1, -, -, hgl, hcell, hfz⟩ := O1.out.opened (by decide)
      have hgg : w.heap.size = g1 := by injection hg1 with h; injection h
      have c3 : w1.cell? ⟨w.heap.size, 3, none⟩ = some (.int .u8 0) := by rw [hgg]; exact hcell 3 (by decide)
      have f3 : w1.frozen? ⟨w.heap.size, 3, none⟩ = false := by rw [hgg]; exact hfz 3
      have O2 := Bx.mk (O1.out.put 3 4)
      have B2 := Bx.mk (B1.out.setCell (p := ⟨w.heap.size, 3, none⟩) (Nat.le_refl _) (.int .u8 4))
      have h65 : ex.length < 256 ^ 2 := by omega
      have HEX := Bx.mk hex
      clear hcell hfz O1 hg1 hgg hex
      go_wp2_with (go_at_call 44; fail)
      generalize w1.setCell ⟨w.heap.size, 3, none⟩ (.int .u8 4) = w2 at *
      refine (rnumber_calls ex.length 2 w2 (by decide) (by decide) h65).mono ?_
      rintro e w3 ⟨v3, rfl, ho3, hb3⟩
      have B3 := Bx.mk (below_then B2.out B2.out.size hb3)
      have O3 := Bx.mk (O2.out.below hb3)
      obtain ⟨A3, c3', hv3⟩ := ho3.form
      rw [le_len] at hv3
      subst hv3
      have N3 := Bx.mk (ho3.rb' (le_lt 2 _) (by rw [le_len]; decide))
      have E3 := Bx.mk (HE.out.below B3.out)
      have hz3 : w.heap.size ≤ w3.heap.size := B3.out.size
      have hl3 : (hMag.set 3 4).length + (le 2 ex.length).length ≤ 140737492549632 := by rw [le_len]; decide
      have hl4 : (hMag.set 3 4 ++ le 2 ex.length).length + ex.length ≤ 140737492549632 := by rw [List.length_append, le_len, show (hMag.set 3 4).length = 10 from rfl]; omega
      have HLE : Bx ((le 2 ex.length).length = 2) := ⟨le_len 2 _⟩
      clear ho3 hb3 O2 B2 c3 f3
      go_wp2_with (first | (at_builtin; refine wpList_append_bytes w3 rfl (.tmp 34) (.tmp 37) rfl w.heap.size (.slice (some ⟨w.heap.size, 0, none⟩) 10 10) (hMag.set 3 4) (le 2 ex.length) rfl O3.out A3 c3' (by rw [HLE.out]; rfl) N3.out hl3 hz3 ?_; intro v4 w4 ho4 hg4 _; have O4 := Bx.mk ho4; have B4 := Bx.mk (bapp_end O3.out B3.out (Nat.le_refl _) hg4); have E4 := Bx.mk (HE.out.below B4.out); have hz4 : w.heap.size ≤ w4.heap.size := B4.out.size; clear ho4 hg4 O3 B3 E3) | (at_builtin; refine wpList_append_bytes w4 rfl (.tmp 38) (.tmp 39) rfl w.heap.size v4 (hMag.set 3 4 ++ le 2 ex.length) ex rfl O4.out E ce rfl E4.out hl4 hz4 ?_; intro v5 w5 ho5 hg5 _; have O5 : Bx (OB w5 w.heap.size v5 (hdK ex (sb nm) (sb nt) 0)) := ⟨by have e : hdK ex (sb nm) (sb nt) 0 = hMag.set 3 4 ++ le 2 ex.length ++ ex := (hdK_ex ex _ _ HEX.out); rw [e]; exact ho5⟩; have B5 := Bx.mk (bapp_end O4.out B4.out (Nat.le_refl _) hg5); clear ho5 hg5 O4 B4 E4) | fail)
      obtain ⟨A5, c5, hv5⟩ := O5.out.form
      subst hv5
      go_meet
      exact ⟨A5, c5, _, rfl, ⟨rfl⟩, O5, B5⟩
  case rest =>
    obtain ⟨A6, c6, HK, rfl, HKK, OQ, LQ⟩ := hcut
    clear O1 B1
    go_upto_if 42 with fail
    go_cut [12] (fun s12 wx => ∃ (A6 : Option Addr) (c6 : Nat) (HK : List Nat), s12 = .slice A6 HK.length c6 ∧ Bx (HK = hdK ex (sb nm) (sb nt) 1) ∧ Bx (OB wx w.heap.size (.slice A6 HK.length c6) HK) ∧ Bx (Below w.heap.size w wx))
    case first =>
      by_cases hte : sb nm = []
      · have HN : Bx (hdK ex (sb nm) (sb nt) 1 = hdK ex (sb nm) (sb nt) 0) := ⟨hdK_none ex (sb nm) (sb nt) 0 (by decide) hte⟩
        have HK8 : Bx (HK = hdK ex (sb nm) (sb nt) 1) := ⟨by rw [HN.out]; exact HKK.out⟩
        have hne : nm.toList.isEmpty = true := by rw [str_empty, hte]; rfl
        clear HN
        simp only [hne, Bool.not_true]
        go_wp2
        go_meet
        exact ⟨A6, c6, HK, rfl, HK8, OQ, LQ⟩
      · have hne : nm.toList.isEmpty = false := by rw [str_empty]; cases hs : sb nm with
          | nil => exact absurd hs hte
          | cons x r => rfl
        have hor0 : flK ex (sb nm) (sb nt) 0 + 8 = flK ex (sb nm) (sb nt) 1 := flK_add0 ex (sb nm) (sb nt) hte
        have hF := flK_lt ex (sb nm) (sb nt) 0
        have hG := flK_lt ex (sb nm) (sb nt) 1
        have HS : Bx (HK.set 3 (flK ex (sb nm) (sb nt) 1) ++ sb nm ++ [0] = hdK ex (sb nm) (sb nt) 1) := ⟨by rw [HKK.out]; exact hdK_some ex (sb nm) (sb nt) 0 (by decide) hte⟩
        have hgt : HK.getD 3 0 = flK ex (sb nm) (sb nt) 0 := by rw [HKK.out]; rfl
        have hlk : 10 ≤ HK.length ∧ HK.length ≤ ex.length + (sb nm).length + (sb nt).length + 14 := by rw [HKK.out]; exact hdK_len ex (sb nm) (sb nt) 0
        have HLT : Bx (HK.length ≤ ex.length + 0 + 14) := ⟨by rw [HKK.out]; have := hdK_len0 ex (sb nm) (sb nt); have := sb_len nm; omega⟩
        generalize flK ex (sb nm) (sb nt) 0 = F at *
        generalize flK ex (sb nm) (sb nt) 1 = G at *
        have hor : IntKind.u8.wrap ((F : Int) + 8) = (G : Int) := by rw [IntWalk.u8_in _ (by omega)]; omega
        obtain ⟨g6, hg6, -, -, hgl, hcell, hfz⟩ := OQ.out.opened (by omega)
        subst hg6
        have c3 : wc.cell? ⟨g6, 3, none⟩ = some (.int .u8 (F : Int)) := by have := hcell 3 (by omega); rw [hgt] at this; exact this
        have f3 := hfz 3
        have h3n : 3 < HK.length := by omega
        have h3z : (3 : Int) < (HK.length : Int) := by omega
        have O8 := Bx.mk (OQ.out.put 3 G)
        have L8 := Bx.mk (LQ.out.setCell (p := ⟨g6, 3, none⟩) (own_block OQ.out g6 (by simp [Value.ownBlock])) (.int .u8 (G : Int)))
        have hl8 : (HK.set 3 G).length + nm.size ≤ 2 ^ 47 := by rw [List.length_set]; have := HLT.out; omega
        have hz8 : w.heap.size ≤ (wc.setCell ⟨g6, 3, none⟩ (.int .u8 (G : Int))).heap.size := L8.out.size
        clear hcell hfz hor0 hgt OQ LQ HKK
        simp only [hne, Bool.not_false]
        go_wp2_with (first | (at_builtin; refine wpList_append_str _ rfl (.tmp 49) (.tmp 50) rfl w.heap.size (.slice (some ⟨g6, 0, none⟩) HK.length c6) (HK.set 3 G) nm rfl O8.out rfl hl8 hz8 ?_; intro v9 w9 ho9 hg9; have O9 := Bx.mk ho9; have L9 := Bx.mk (bapp_end O8.out L8.out (Nat.le_refl _) hg9); have R9 := Bx.mk (RB.lit w9 5 [0] #[.int .u8 0] rfl (by decide) (by decide)); have hba9 := below_alloc1 w9 (.cells #[.int .u8 0] 5); have O9' := Bx.mk (O9.out.kept hba9); have L9' := Bx.mk (below_then L9.out L9.out.size hba9); have hl9 : (HK.set 3 G ++ sb nm).length + [0].length ≤ 140737492549632 := (by rw [List.length_append, List.length_set, sb_len]; have := HLT.out; simp only [List.length_singleton]; omega); have hz9 : w.heap.size ≤ (w9.alloc (.cells #[.int .u8 0] 5)).heap.size := L9'.out.size; clear ho9 hg9 hba9 O8 L8 O9 L9) | (at_builtin; refine wpList_append_bytes _ rfl (.tmp 51) (.tmp 52) rfl w.heap.size v9 (HK.set 3 G ++ sb nm) [0] rfl O9'.out (some ⟨w9.heap.size, 0, none⟩) 1 rfl R9.out hl9 hz9 ?_; intro v10 w10 ho10 hg10 _; have O10 : Bx (OB w10 w.heap.size v10 (hdK ex (sb nm) (sb nt) 1)) := ⟨by rw [← HS.out]; exact ho10⟩; have L10 := Bx.mk (bapp_end O9'.out L9'.out (Nat.le_refl _) hg10); clear ho10 hg10 O9' L9' R9; obtain ⟨A10, c10, hv10⟩ := O10.out.form; subst hv10) | fail)
        go_meet
        exact ⟨A10, c10, _, rfl, ⟨rfl⟩, O10, L10⟩
    case rest =>
      obtain ⟨A6, c6, HK, rfl, HKK, OQ, LQ⟩ := hcut
      skip
      go_upto_if 55 with fail
      go_cut [12] (fun s12 wx => ∃ (A6 : Option Addr) (c6 : Nat) (HK : List Nat), s12 = .slice A6 HK.length c6 ∧ Bx (HK = hdK ex (sb nm) (sb nt) 2) ∧ Bx (OB wx w.heap.size (.slice A6 HK.length c6) HK) ∧ Bx (Below w.heap.size w wx))
      case first =>
        by_cases hte : sb nt = []
        · have HN : Bx (hdK ex (sb nm) (sb nt) 2 = hdK ex (sb nm) (sb nt) 1) := ⟨hdK_none ex (sb nm) (sb nt) 1 (by decide) hte⟩
          have HK8 : Bx (HK = hdK ex (sb nm) (sb nt) 2) := ⟨by rw [HN.out]; exact HKK.out⟩
          have hne : nt.toList.isEmpty = true := by rw [str_empty, hte]; rfl
          clear HN
          simp only [hne, Bool.not_true]
          go_wp2
          go_meet
          exact ⟨A6, c6, HK, rfl, HK8, OQ, LQ⟩
        · have hne : nt.toList.isEmpty = false := by rw [str_empty]; cases hs : sb nt with
            | nil => exact absurd hs hte
            | cons x r => rfl
          have hor0 : flK ex (sb nm) (sb nt) 1 + 16 = flK ex (sb nm) (sb nt) 2 := flK_add1 ex (sb nm) (sb nt) hte
          have hF := flK_lt ex (sb nm) (sb nt) 1
          have hG := flK_lt ex (sb nm) (sb nt) 2
          have HS : Bx (HK.set 3 (flK ex (sb nm) (sb nt) 2) ++ sb nt ++ [0] = hdK ex (sb nm) (sb nt) 2) := ⟨by rw [HKK.out]; exact hdK_some ex (sb nm) (sb nt) 1 (by decide) hte⟩
          have hgt : HK.getD 3 0 = flK ex (sb nm) (sb nt) 1 := by rw [HKK.out]; rfl
          have hlk : 10 ≤ HK.length ∧ HK.length ≤ ex.length + (sb nm).length + (sb nt).length + 14 := by rw [HKK.out]; exact hdK_len ex (sb nm) (sb nt) 1
          have HLT : Bx (HK.length ≤ ex.length + nm.size + 14) := ⟨by rw [HKK.out]; have := hdK_len1 ex (sb nm) (sb nt); have := sb_len nm; omega⟩
          generalize flK ex (sb nm) (sb nt) 1 = F at *
          generalize flK ex (sb nm) (sb nt) 2 = G at *
          have hor : IntKind.u8.wrap ((F : Int) + 16) = (G : Int) := by rw [IntWalk.u8_in _ (by omega)]; omega
          obtain ⟨g6, hg6, -, -, hgl, hcell, hfz⟩ := OQ.out.opened (by omega)
          subst hg6
          have c3 : wc.cell? ⟨g6, 3, none⟩ = some (.int .u8 (F : Int)) := by have := hcell 3 (by omega); rw [hgt] at this; exact this
          have f3 := hfz 3
          have h3n : 3 < HK.length := by omega
          have h3z : (3 : Int) < (HK.length : Int) := by omega
          have O8 := Bx.mk (OQ.out.put 3 G)
          have L8 := Bx.mk (LQ.out.setCell (p := ⟨g6, 3, none⟩) (own_block OQ.out g6 (by simp [Value.ownBlock])) (.int .u8 (G : Int)))
          have hl8 : (HK.set 3 G).length + nt.size ≤ 2 ^ 47 := by rw [List.length_set]; have := HLT.out; omega
          have hz8 : w.heap.size ≤ (wc.setCell ⟨g6, 3, none⟩ (.int .u8 (G : Int))).heap.size := L8.out.size
          clear hcell hfz hor0 hgt OQ LQ HKK
          simp only [hne, Bool.not_false]
          go_wp2_with (first | (at_builtin; refine wpList_append_str _ rfl (.tmp 62) (.tmp 63) rfl w.heap.size (.slice (some ⟨g6, 0, none⟩) HK.length c6) (HK.set 3 G) nt rfl O8.out rfl hl8 hz8 ?_; intro v9 w9 ho9 hg9; have O9 := Bx.mk ho9; have L9 := Bx.mk (bapp_end O8.out L8.out (Nat.le_refl _) hg9); have R9 := Bx.mk (RB.lit w9 5 [0] #[.int .u8 0] rfl (by decide) (by decide)); have hba9 := below_alloc1 w9 (.cells #[.int .u8 0] 5); have O9' := Bx.mk (O9.out.kept hba9); have L9' := Bx.mk (below_then L9.out L9.out.size hba9); have hl9 : (HK.set 3 G ++ sb nt).length + [0].length ≤ 140737492549632 := (by rw [List.length_append, List.length_set, sb_len]; have := HLT.out; simp only [List.length_singleton]; omega); have hz9 : w.heap.size ≤ (w9.alloc (.cells #[.int .u8 0] 5)).heap.size := L9'.out.size; clear ho9 hg9 hba9 O8 L8 O9 L9) | (at_builtin; refine wpList_append_bytes _ rfl (.tmp 64) (.tmp 65) rfl w.heap.size v9 (HK.set 3 G ++ sb nt) [0] rfl O9'.out (some ⟨w9.heap.size, 0, none⟩) 1 rfl R9.out hl9 hz9 ?_; intro v10 w10 ho10 hg10 _; have O10 : Bx (OB w10 w.heap.size v10 (hdK ex (sb nm) (sb nt) 2)) := ⟨by rw [← HS.out]; exact ho10⟩; have L10 := Bx.mk (bapp_end O9'.out L9'.out (Nat.le_refl _) hg10); clear ho10 hg10 O9' L9' R9; obtain ⟨A10, c10, hv10⟩ := O10.out.form; subst hv10) | fail)
          go_meet
          exact ⟨A10, c10, _, rfl, ⟨rfl⟩, O10, L10⟩
      case rest =>
        obtain ⟨A6, c6, HK, rfl, HKK, OQ, LQ⟩ := hcut
        go_upto_if 67 with fail
        go_cut [12] (fun s12 wx => ∃ (A6 : Option Addr) (c6 : Nat) (HD : List Nat), s12 = .slice A6 HD.length c6 ∧ Bx (HD = hdB ex (sb nm) (sb nt) sum) ∧ Bx (OB wx w.heap.size (.slice A6 HD.length c6) HD) ∧ Bx (Below w.heap.size w wx))
        case first =>
          cases sum
          case false =>
            have HK8 : Bx (HK = hdB ex (sb nm) (sb nt) false) := ⟨by rw [HKK.out, hdK_all]; rfl⟩
            go_wp2
            go_meet
            exact ⟨A6, c6, HK, rfl, HK8, OQ, LQ⟩
          case true =>
            have hF := flK_lt ex (sb nm) (sb nt) 2
            have hor0 : flK ex (sb nm) (sb nt) 2 + 2 = flK ex (sb nm) (sb nt) 2 ||| 2 := flK_add2 ex (sb nm) (sb nt)
            have hgt : HK.getD 3 0 = flK ex (sb nm) (sb nt) 2 := by rw [HKK.out]; rfl
            have HS : Bx (HK.set 3 (flK ex (sb nm) (sb nt) 2 ||| 2) = hdA ex (sb nm) (sb nt) true) := ⟨by rw [HKK.out]; exact hdK_sum ex (sb nm) (sb nt)⟩
            have HLT : Bx (∀ x ∈ hdA ex (sb nm) (sb nt) true, x < 256) := ⟨hdA_lt ex (sb nm) (sb nt) true HE.out.1 (sb_byte nm) (sb_byte nt)⟩
            have hlk : 10 ≤ HK.length ∧ HK.length ≤ ex.length + (sb nm).length + (sb nt).length + 14 := by rw [HKK.out]; exact hdK_len ex (sb nm) (sb nt) 2
            have hsz1 := sb_len nm
            have hsz2 := sb_len nt
            generalize flK ex (sb nm) (sb nt) 2 ||| 2 = G at *
            generalize flK ex (sb nm) (sb nt) 2 = F at *
            have hor : IntKind.u8.wrap ((F : Int) + 2) = (G : Int) := by rw [IntWalk.u8_in _ (by omega)]; omega
            obtain ⟨g6, hg6, -, -, hgl, hcell, hfz⟩ := OQ.out.opened (by omega)
            subst hg6
            have c3 : wc.cell? ⟨g6, 3, none⟩ = some (.int .u8 (F : Int)) := by have := hcell 3 (by omega); rw [hgt] at this; exact this
            have f3 := hfz 3
            have h3n : 3 < HK.length := by omega
            have h3z : (3 : Int) < (HK.length : Int) := by omega
            have O8 := Bx.mk (OQ.out.put 3 G)
            have L8 := Bx.mk (LQ.out.setCell (p := ⟨g6, 3, none⟩) (own_block OQ.out g6 (by simp [Value.ownBlock])) (.int .u8 (G : Int)))
            have hlen8 : (HK.set 3 G).length = HK.length := List.length_set
            have R8 := Bx.mk (O8.out.rb' (by rw [HS.out]; exact HLT.out) (by rw [hlen8]; omega))
            have CB := Bx.mk (fun W hr => Bytes_calls (some ⟨g6, 0, none⟩) (HK.set 3 G) c6 W hr)
            rw [hlen8] at CB
            clear hcell hfz hgt OQ LQ HKK hor0
            go_wp2_with (go_at_call 15; fail)
            generalize wc.setCell ⟨g6, 3, none⟩ (.int .u8 (G : Int)) = w8 at *
            refine (CB.out w8 R8.out).mono ?_
            rintro e wb ⟨vb, rfl, hob, hbb⟩
            obtain ⟨Ab, cb, hvb⟩ := hob.form
            subst hvb
            have O8b := Bx.mk (O8.out.below hbb)
            have L8b := Bx.mk (below_then L8.out L8.out.size hbb)
            have RS := Bx.mk (rSum_calls Ab (HK.set 3 G) cb wb (hob.rb' R8.out.1 (by rw [hlen8]; omega)))
            rw [← moreS_rmoreS, hlen8] at RS
            have hXl : moreS 0 (HK.set 3 G) < 4294967296 := moreS_lt 0 _ (by decide) R8.out.1
            have HXX : Bx (hdB ex (sb nm) (sb nt) true = HK.set 3 G ++ le 2 (moreS 0 (HK.set 3 G) % 65536)) := ⟨by rw [HS.out]; rfl⟩
            have hlA : HK.length ≤ ex.length + nm.size + nt.size + 14 := by omega
            rw [hlen8]
            generalize moreS 0 (HK.set 3 G) = X at *
            clear hob hbb O8 L8 CB R8 c3 f3 HS HLT
            go_wp2_with (go_at_call 45; fail)
            refine RS.out.mono ?_
            rintro e w9 ⟨rfl, rfl⟩
            have d1 : (X : Int).tmod 65536 = ((X % 65536 : Nat) : Int) := by rw [Int.tmod_eq_emod_of_nonneg (by omega)]; omega
            have hu : IntKind.u32.wrap ((X % 65536 : Nat) : Int) = ((X % 65536 : Nat) : Int) := by simp [IntKind.wrap, IntKind.bits, IntKind.signed]; omega
            have hi : IntKind.i64.wrap ((X % 65536 : Nat) : Int) = ((X % 65536 : Nat) : Int) := IntWalk.i64_in _ (by omega)
            have hY : X % 65536 < 256 ^ 2 := Nat.mod_lt _ (by decide)
            generalize X % 65536 = Y at *
            clear RS hlk hsz1 hsz2
            go_wp2_with (go_at_call 44; fail)
            refine (rnumber_calls Y 2 wb (by decide) (by decide) hY).mono ?_
            rintro e w9 ⟨v9, rfl, ho9, hb9⟩
            obtain ⟨A9, c9, hv9⟩ := ho9.form
            rw [le_len] at hv9
            subst hv9
            have HLE9 : Bx ((le 2 Y).length = 2) := ⟨le_len 2 _⟩
            have N9 := Bx.mk (ho9.rb' (le_lt 2 _) (by rw [le_len]; decide))
            have O9 := Bx.mk (O8b.out.below hb9)
            have L9 := Bx.mk (below_then L8b.out L8b.out.size hb9)
            have hz9 : w.heap.size ≤ w9.heap.size := L9.out.size
            have hl9 : (HK.set 3 G).length + (le 2 Y).length ≤ 140737492549632 := by rw [le_len]; omega
            clear ho9 hb9 O8b L8b
            go_wp2_with (first | (at_builtin; refine wpList_append_bytes w9 rfl (.tmp 74) (.tmp 80) rfl w.heap.size (.slice (some ⟨g6, 0, none⟩) HK.length c6) (HK.set 3 G) (le 2 Y) rfl O9.out A9 c9 (by rw [HLE9.out]; rfl) N9.out hl9 hz9 ?_; intro v12 w12 ho12 hg12 _; have O12 : Bx (OB w12 w.heap.size v12 (hdB ex (sb nm) (sb nt) true)) := ⟨by rw [HXX.out]; exact ho12⟩; have L12 := Bx.mk (bapp_end O9.out L9.out (Nat.le_refl _) hg12); clear ho12 hg12 O9 L9 N9) | fail)
            obtain ⟨A12, c12, hv12⟩ := O12.out.form
            subst hv12
            go_meet
            exact ⟨A12, c12, _, rfl, ⟨rfl⟩, O12, L12⟩
        case rest =>
          obtain ⟨A12, c12, HD, rfl, HDD, O12, L12⟩ := hcut
          have HHD : Bx (gzF ex (sb nm) (sb nt) sum = fun l b => HD ++ (l ++ tlB b)) := ⟨by funext l b; unfold gzF; rw [HDD.out]⟩
          have hHD : HD.length ≤ 4000000 := by
            have h1 := (gzF_len ex (sb nm) (sb nt) sum [] []).2
            have h2 : HD.length ≤ (gzF ex (sb nm) (sb nt) sum [] []).length := by rw [HHD.out, List.length_append]; omega
            rw [sb_len, sb_len] at h1
            simp only [List.length_nil] at h1
            omega
          clear HDD
          have RC := Bx.mk (fun W h => rRuns_calls A b c W h hbl)
          go_wp2_with (go_at_call 46; fail)
          refine (RC.out wc (HB.out.below L12.out)).mono ?_
          rintro e w13 ⟨l, v13, hbts, rfl, ho13, hb13⟩
          obtain ⟨A13, c13, hv13⟩ := ho13.form
          subst hv13
          have hll := (gz_len b l HB.out.1 hbts).2
          have N13 := Bx.mk (ho13.rb' hbts.byte (by omega))
          have HBTS := Bx.mk hbts
          have O13 := Bx.mk (O12.out.below hb13)
          have L13 := Bx.mk (below_then L12.out L12.out.size hb13)
          have hz13 : w.heap.size ≤ w13.heap.size := L13.out.size
          have hl13 : HD.length + l.length ≤ 140737492549632 := by omega
          clear ho13 hb13 O12 L12 hbts RC
          go_wp2_with (first | (at_builtin; refine wpList_append_bytes w13 rfl (.tmp 82) (.tmp 84) rfl w.heap.size (.slice A12 HD.length c12) HD l rfl O13.out A13 c13 rfl N13.out hl13 hz13 ?_; intro v14 w14 ho14 hg14 _; have O14 := Bx.mk ho14; have L14 := Bx.mk (bapp_end O13.out L13.out (Nat.le_refl _) hg14); clear ho14 hg14 O13 L13 N13 hz13) | (go_at_call 45; fail) | fail)
          refine (rSum_calls A b c w14 (HB.out.below L14.out)).mono ?_
          rintro e w15 ⟨rfl, rfl⟩
          rw [← moreS_rmoreS]
          have hZ : moreS 0 b < 4294967296 := moreS_lt 0 _ (by decide) HB.out.1
          have HTL : Bx (tlB b = le 4 (moreS 0 b) ++ le 4 b.length) := ⟨rfl⟩
          generalize moreS 0 b = Z at *
          have hiZ : IntKind.i64.wrap (Z : Int) = (Z : Int) := IntWalk.i64_in _ (by omega)
          have hlA : (HD ++ l).length + 8 ≤ 140737492549632 := by rw [List.length_append]; omega
          go_wp2_with (go_at_call 44; fail)
          refine (rnumber_calls Z 4 w14 (by decide) (by decide) hZ).mono ?_
          rintro e w16 ⟨v16, rfl, ho16, hb16⟩
          obtain ⟨A16, c16, hv16⟩ := ho16.form
          rw [le_len] at hv16
          subst hv16
          have HLE16 : Bx ((le 4 Z).length = 4) := ⟨le_len 4 _⟩
          have N16 := Bx.mk (ho16.rb' (le_lt 4 _) (by rw [le_len]; decide))
          have O16 := Bx.mk (O14.out.below hb16)
          have L16 := Bx.mk (below_then L14.out L14.out.size hb16)
          have hz16 : w.heap.size ≤ w16.heap.size := L16.out.size
          have hl16 : (HD ++ l).length + (le 4 Z).length ≤ 140737492549632 := by rw [le_len]; omega
          clear ho16 hb16 O14 L14 hZ
          go_wp2_with (first | (at_builtin; refine wpList_append_bytes w16 rfl (.tmp 86) (.tmp 90) rfl w.heap.size v14 (HD ++ l) (le 4 Z) rfl O16.out A16 c16 (by rw [HLE16.out]; rfl) N16.out hl16 hz16 ?_; intro v17 w17 ho17 hg17 _; have O17 := Bx.mk ho17; have L17 := Bx.mk (bapp_end O16.out L16.out (Nat.le_refl _) hg17); clear ho17 hg17 O16 L16 N16 hz16) | (go_at_call 44; fail) | fail)
          refine (rnumber_calls b.length 4 w17 (by decide) (by decide) (by omega)).mono ?_
          rintro e w18 ⟨v18, rfl, ho18, hb18⟩
          obtain ⟨A18, c18, hv18⟩ := ho18.form
          rw [le_len] at hv18
          subst hv18
          have HLE18 : Bx ((le 4 b.length).length = 4) := ⟨le_len 4 _⟩
          have N18 := Bx.mk (ho18.rb' (le_lt 4 _) (by rw [le_len]; decide))
          have O18 := Bx.mk (O17.out.below hb18)
          have L18 := Bx.mk (below_then L17.out L17.out.size hb18)
          have hz18 : w.heap.size ≤ w18.heap.size := L18.out.size
          have hl18 : (HD ++ l ++ le 4 Z).length + (le 4 b.length).length ≤ 140737492549632 := by rw [le_len, List.length_append, le_len]; omega
          clear ho18 hb18 O17 L17
          go_wp2_with (first | (at_builtin; refine wpList_append_bytes w18 rfl (.tmp 92) (.tmp 95) rfl w.heap.size v17 (HD ++ l ++ le 4 Z) (le 4 b.length) rfl O18.out A18 c18 (by rw [HLE18.out]; rfl) N18.out hl18 hz18 ?_; intro v19 w19 ho19 hg19 _; have O19 := Bx.mk ho19; have L19 := Bx.mk (bapp_end O18.out L18.out (Nat.le_refl _) hg19); clear ho19 hg19 O18 L18 N18 hz18) | fail)
          go_ret2
          refine ⟨l, v19, HBTS.out, rfl, ?_, L19.out⟩
          rw [HHD.out]
          show OB w19 w.heap.size v19 (HD ++ (l ++ tlB b))
          rw [HTL.out]
          have := O19.out
          rw [List.append_assoc, List.append_assoc] at this
          exact this
end Go.Proofs.YtoekecopfmohiaaDoor
