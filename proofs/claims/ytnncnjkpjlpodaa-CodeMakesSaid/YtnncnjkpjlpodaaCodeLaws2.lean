import Derived.Test.YtnncnjkpjlpodaaCodeLaws1
/-
  The law CodeFull: its walk.
-/
namespace Go.Proofs.Ytnncnjkpjlpodaa
open Go.RowKit

theorem rdC_adv (L l : List Nat) (a : Nat) (h : a + 1 ≤ 8 * l.length) : a + 1 ≤ (rdC L l a).2.2 := by
  have hp : 1 ≤ mostC L := mst_pos _ _
  unfold rdC
  obtain ⟨k, hk⟩ : ∃ k, mostC L = k + 1 := ⟨mostC L - 1, by omega⟩
  rw [hk]
  simp only [rdS]
  rw [if_pos h]
  split
  · exact Nat.le_refl _
  · exact (rdS_at L l k _ _ (a + 1) h).1
set_option maxRecDepth 100000 in
set_option maxHeartbeats 4000000 in
theorem CodeFull_calls (A : Option Addr) (l : List Int) (c : Nat) (B : Option Addr) (m : List Nat) (d : Nat) (w : World) (hl : RI w A l) (hm : RB w B m) :
    Calls Try.prog 9 #[.slice A l.length c, .slice B m.length d] w fun e w' => e = .returned (.bool true) ∧ Below w.heap.size w w' := by
  have HL : Bx (IR w A l) := ⟨hl.2.2⟩
  have hn := hl.2.1
  have HM := Bx.mk hm
  have hmlen := hm.2.1
  clear hl hm
  by_cases hok : ∃ L, l = zl L ∧ okL L
  · obtain ⟨L, rfl, hL⟩ := hok
    rw [zl_length] at hn ⊢
    have OK := Bx.mk hL
    clear hL
    go_enter Try.func9, Try.ntmps9
    go_wp2_with fail
    refine (cworks_calls w).mono ?_
    rintro e w1 ⟨rfl, hb⟩
    have B1 := Bx.mk hb
    clear hb
    go_wp2_with fail
    refine (CNew_yes A L c w1 (HL.out.below B1.out) OK.out).mono ?_
    rintro e w2 ⟨g, O, Ln, rfl, -, hC, hb⟩
    have B2 := Bx.mk (below_then B1.out B1.out.size hb)
    have C2 := Bx.mk hC
    clear hb hC B1
    have rm := Room_calls A (zl L) c w2 (HL.out.below B2.out) (by rw [zl_length]; exact hn)
    rw [zl_length, krI_zl] at rm
    by_cases hfull : kr L = 32768
    · rw [hfull] at rm
      have RM := Bx.mk rm
      have FU := Bx.mk (rdC_full L m hfull)
      clear rm hfull
      go_wp2_with fail
      refine RM.out.mono ?_
      rintro e w3 ⟨rfl, rfl⟩
      go_wp2_with fail
      refine (New_calls B m.length d w2).mono ?_
      rintro e w3 ⟨rfl, hw3⟩
      have D3 : Bx (Blk w3 w2.heap.size 60 #[.slice B m.length d, .int .i64 ((0 : Nat) : Int), .bool true]) := ⟨by rw [hw3]; exact Blk.new _ _ _⟩
      have C3 : Bx (Cd w3 g O Ln L) := ⟨by rw [hw3]; exact C2.out.below (below_alloc1 _ _)⟩
      have R3 : Bx (Reads w3 w2.heap.size 1 B m.length (bs m)) := ⟨by rw [hw3]; exact ((HM.out.below B2.out).reads).alloc (Nat.le_refl _) _⟩
      have B3 : Bx (Below w.heap.size w w3) := ⟨by rw [hw3]; exact B2.out.alloc B2.out.size _⟩
      have hr : w.heap.size ≤ w2.heap.size := B2.out.size
      have hr3 : w2.heap.size ≤ w3.heap.size := by rw [hw3]; simp
      generalize w2.heap.size = r at D3 R3 hr hr3 ⊢
      clear hw3 C2 B2 RM
      go_wp2
      go_loopw [8, 9] (fun _ _ wr => ∃ a : Nat, a ≤ 8 * m.length ∧ Bx (Blk wr r 60 #[.slice B m.length d, .int .i64 (a : Int), .bool true]) ∧ Bx (Only r w3 wr)) (fun _ _ wr => 8 * m.length - (intOf ((wr.cell? ⟨r, 1, none⟩).getD undef)).toNat)
      case atStart => exact ⟨0, Nat.zero_le _, D3, ⟨Only.refl _ _⟩⟩
      case round =>
        obtain ⟨a, ha, HD, HO⟩ := hrel
        have h1 : wr.cell? ⟨r, 1, none⟩ = some (.int .i64 (a : Int)) := HD.out.cell 1
        have HC1 := Bx.mk h1
        have LF := Bx.mk (rLeft_calls r B m.length d a wr HD.out hmlen ha)
        have hat := rdS_at L m (mostC L) 1 0 a ha
        rw [show rdS L m (mostC L) 1 0 a = rdC L m a from rfl] at hat
        have RDF := Bx.mk fun w4 (hD : Blk w4 r 60 #[.slice B m.length d, .int .i64 (a : Int), .bool true]) (hO : Only r w3 w4) =>
          Read_calls g O Ln L r B m d a w4 (C3.out.only D3.out hO (by decide) (by decide)) OK.out.1 OK.out.2.2.1 hD (fun w' ho => RB.of_reads (R3.out.only (hO.trans ho) (Nat.le_refl _) hr3) HM.out.1 hmlen) ha
        clear h1
        by_cases h15 : a + 15 ≤ 8 * m.length
        · have hadv := rdC_adv L m a (by omega)
          have hat2 := hat.2.1
          have FU2 := Bx.mk (FU.out a h15)
          have hD : 15 ≤ 8 * m.length - a := by omega
          have hDm : 8 * m.length - a ≤ 1125899906809856 := by omega
          generalize hDD : 8 * m.length - a = D at LF hD hDm
          have HDD := Bx.mk hDD
          clear hat hDD
          go_wp2_with fail
          refine LF.out.mono ?_
          rintro e w4 ⟨rfl, q, hw4⟩
          have D4 : Blk w4 r 60 #[.slice B m.length d, .int .i64 (a : Int), .bool true] := by rw [hw4]; exact HD.out
          have O4 : Only r w3 w4 := by rw [hw4]; exact HO.out.trans (Only.drewN _ _ _)
          have RD := RDF.out w4 D4 O4
          rw [FU2.out] at RD
          generalize (rdC L m a).1 = S at RD
          generalize (rdC L m a).2.2 = a2 at RD hadv hat2
          have RDX := Bx.mk RD
          have OX := Bx.mk O4
          clear RD D4 O4 hw4
          go_wp2_with fail
          refine RDX.out.mono ?_
          rintro e w5 ⟨rfl, hd5, ho5⟩
          have D5 := Bx.mk hd5
          have O5 := Bx.mk (OX.out.trans ho5)
          have HC2 : Bx (w5.cell? ⟨r, 1, none⟩ = some (.int .i64 (a2 : Int))) := ⟨hd5.cell 1⟩
          clear hd5 ho5
          go_wp2
          go_roundw
          case rel => exact ⟨a2, hat2, D5, O5⟩
          case measure =>
            rw [HC1.out, HC2.out]
            simp [intOf]; have := HDD.out; omega
        · have hD : 8 * m.length - a < 15 := by omega
          generalize 8 * m.length - a = D at LF hD
          clear hat
          go_wp2_with fail
          refine LF.out.mono ?_
          rintro e w4 ⟨rfl, q, hw4⟩
          have B4 : Bx (Below w.heap.size w w4) := ⟨by rw [hw4]; exact below_drewN (B3.out.trans (HO.out.below _ hr B3.out.size)) q⟩
          clear hw4
          go_wp2
          go_ret
          exact ⟨rfl, B4.out⟩
    · have RM := Bx.mk rm
      have hne : ((32768 : Int) - (kr L : Int) != 0) = true := by rw [bne_iff_ne]; omega
      generalize (32768 : Int) - (kr L : Int) = K at RM hne
      clear rm hfull
      go_wp2_with fail
      refine RM.out.mono ?_
      rintro e w3 ⟨rfl, rfl⟩
      go_wp2
      go_ret
      exact ⟨rfl, B2.out⟩
  · have HN := Bx.mk hok
    clear hok
    go_enter Try.func9, Try.ntmps9
    go_wp2_with fail
    refine (cworks_calls w).mono ?_
    rintro e w1 ⟨rfl, hb⟩
    have B1 := Bx.mk hb
    clear hb
    go_wp2_with fail
    refine (CNew_no A l c w1 (HL.out.below B1.out) hn HN.out).mono ?_
    rintro e w2 ⟨rfl, hb⟩
    have B2 := Bx.mk (below_then B1.out B1.out.size hb)
    clear hb
    go_wp2
    go_ret
    exact ⟨rfl, B2.out⟩
end Go.Proofs.Ytnncnjkpjlpodaa
