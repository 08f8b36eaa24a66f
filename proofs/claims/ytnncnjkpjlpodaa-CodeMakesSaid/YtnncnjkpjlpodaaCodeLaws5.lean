import Derived.Test.YtnncnjkpjlpodaaCodeRef6
import Derived.Test.YtnncnjkpjlpodaaCodeRef2
import Derived.Test.YtnncnjkpjlpodaaCodeLaws2
/-
  The law CodeReads: its walk.
-/
namespace Go.Proofs.Ytnncnjkpjlpodaa
open Go.RowKit

theorem rdC_ok_adv (L l : List Nat) (a : Nat) (_ha : a ≤ 8 * l.length) (h : (rdC L l a).2.1 = 0) : a + 1 ≤ (rdC L l a).2.2 := by
  by_cases h1 : a + 1 ≤ 8 * l.length
  · exact rdC_adv L l a h1
  · exfalso
    have hp : 1 ≤ mostC L := mst_pos _ _
    unfold rdC at h
    obtain ⟨k, hk⟩ : ∃ k, mostC L = k + 1 := ⟨mostC L - 1, by omega⟩
    rw [hk] at h
    simp only [rdS] at h
    rw [if_neg h1] at h
    simp at h
theorem Cd.stepY {w w' : World} {g y : Nat} {O Ln : Value} {L : List Nat} {cs : Array Value} (h : Cd w g O Ln L) (hb : Blk w y 53 cs) (hs : WStep y (.slice none 0 0) w (.slice none 0 0) w') : Cd w' g O Ln L := by
  obtain ⟨b, h3⟩ := h.len
  exact ⟨(hs.blk h.blk (h.blk.ne_ hb (by decide)) (by simp [Value.ownBlock])).1, h.ord.stepY hb hs, b, h3.stepY hb hs⟩
theorem WO.onlyR {w w' : World} {q n r : Nat} {f : Nat → List Nat} {cs : Array Value} (h : WO w q n f) (hb : Blk w r 60 cs) (ho : Only r w w') : WO w' q n f := by
  obtain ⟨cs', h1, h2, h3⟩ := h
  exact ⟨cs', h1.only ho (h1.ne_ hb (by decide)), h2, fun i hi => let ⟨v, a, b⟩ := h3 i hi; ⟨v, a, own_keep b fun q' hq => ho.keep q' fun hc => own_blk_ne b hb (show 3 ≠ 60 by decide) (by rw [hq, hc])⟩⟩
/-- all that the law's loop keeps -/
structure RS2 (w : World) (g q r y b2 : Nat) (O Ln : Value) (L : List Nat) (B A2 : Option Addr) (d c2 : Nat) (l : List Nat) (a a' : Nat) (wr : World) : Prop where
  cd : Cd wr g O Ln L
  wo : WO wr q L.length (wordF L)
  rd : Blk wr r 60 #[.slice B l.length d, .int .i64 (a : Int), .bool true]
  yd : Blk wr y 53 #[.slice A2 (8 * l.length) c2, .int .i64 (a' : Int)]
  bt : OI wr b2 (.slice A2 (8 * l.length) c2) (zl (bitsL l))
  be : Below w.heap.size w wr
section
variable {w wr w1 : World} {g q r y b2 : Nat} {O Ln : Value} {L : List Nat} {B A2 : Option Addr} {d c2 : Nat} {l : List Nat} {a a' : Nat}
theorem RS2.onlyR (h : RS2 w g q r y b2 O Ln L B A2 d c2 l a a' wr) (ho : Only r wr w1) (hr : w.heap.size ≤ r) {x : Nat} (hb : Blk w1 r 60 #[.slice B l.length d, .int .i64 (x : Int), .bool true]) : RS2 w g q r y b2 O Ln L B A2 d c2 l x a' w1 :=
  ⟨h.cd.only h.rd ho (by decide) (by decide), h.wo.onlyR h.rd ho, hb, h.yd.only ho (h.yd.ne_ h.rd (by decide)), own_keep h.bt fun q' hq => ho.keep q' fun hc => own_blk_ne h.bt h.rd (show 3 ≠ 60 by decide) (by rw [hq, hc]), h.be.trans (ho.below _ hr h.be.size)⟩
theorem RS2.stepY (h : RS2 w g q r y b2 O Ln L B A2 d c2 l a a' wr) (hs : WStep y (.slice none 0 0) wr (.slice none 0 0) w1) (hy : w.heap.size ≤ y) {x : Nat} (hb : Blk w1 y 53 #[.slice A2 (8 * l.length) c2, .int .i64 (x : Int)]) : RS2 w g q r y b2 O Ln L B A2 d c2 l a x w1 :=
  ⟨h.cd.stepY h.yd hs, h.wo.stepY h.yd hs, (hs.blk h.rd (h.rd.ne_ h.yd (by decide)) (by simp [Value.ownBlock])).1, hb, h.bt.stepY h.yd hs, h.be.trans (hs.below _ hy h.be.size)⟩
theorem RS2.drewN (h : RS2 w g q r y b2 O Ln L B A2 d c2 l a a' wr) (k : Nat) : RS2 w g q r y b2 O Ln L B A2 d c2 l a a' (wr.drewN k) :=
  ⟨h.cd.below (below_drewN (Below.refl _ _) k), h.wo.below (below_drewN (Below.refl _ _) k), h.rd, h.yd, h.bt, below_drewN h.be k⟩
end
set_option maxRecDepth 100000 in
set_option maxHeartbeats 8000000 in
theorem CodeReads_calls (A : Option Addr) (ls : List Int) (c : Nat) (B : Option Addr) (l0 : List Nat) (d : Nat) (w : World) (hl : RI w A ls) (hm : RB w B l0) (hc0 : l0.length ≤ d) :
    Calls Try.prog 10 #[.slice A ls.length c, .slice B l0.length d] w fun e w' => e = .returned (.bool true) ∧ Below w.heap.size w w' := by
  have HL : Bx (IR w A ls) := ⟨hl.2.2⟩
  have hn := hl.2.1
  have R0 := Bx.mk hm
  have hlen0 := hm.2.1
  clear hl hm
  go_enter Try.func10, Try.ntmps10
  go_upto_if 17 with fail
  go_cut [1] (fun s1 wx => wx = w ∧ ∃ (l : List Nat), s1 = .slice B l.length d ∧ l.length ≤ 100 ∧ Bx (RB w B l))
  case first =>
    by_cases h3 : 100 < l0.length
    · have ct := cut_to_bytes B l0.length d 100 (by omega) hc0
      have hl3 : (l0.take 100).length = 100 := by rw [List.length_take]; omega
      have HL3 := Bx.mk hl3
      clear hl3
      go_wp2
      go_meet
      exact ⟨rfl, l0.take 100, by rw [HL3.out], by rw [HL3.out]; exact Nat.le_refl _, ⟨R0.out.take 100⟩⟩
    · go_wp2
      go_meet
      exact ⟨rfl, l0, rfl, by omega, R0⟩
  case rest =>
    obtain ⟨hw0, l, rfl, hl3, RL⟩ := hcut
    obtain rfl : w = wc := hw0.symm
    clear R0 hlen0 hc0
    have BY := Bx.mk RL.out.1
    by_cases hok : ∃ L, ls = zl L ∧ okL L
    · obtain ⟨L, rfl, hL⟩ := hok
      rw [zl_length] at hn ⊢
      have OK := Bx.mk hL
      have hL288 := hL.1
      clear hL
      go_wp2_with fail
      refine (CNew_yes A L c w HL.out OK.out).mono ?_
      rintro e w2 ⟨g, O, Ln, rfl, -, hC, hb⟩
      have C2 := Bx.mk hC
      have B2 := Bx.mk hb
      clear hC hb
      go_wp2_with fail
      refine (Words_calls A L c w2 (HL.out.below B2.out) hL288 OK.out.2.1 OK.out.2.2.1).mono ?_
      rintro e w3 ⟨q, rfl, hW, -, hb⟩
      have C3 := Bx.mk (C2.out.below hb)
      have W3 := Bx.mk hW
      have B3 := Bx.mk (below_then B2.out B2.out.size hb)
      clear hW hb C2 B2
      go_wp2_with fail
      refine (New_calls B l.length d w3).mono ?_
      rintro e w4 ⟨rfl, hw4⟩
      have D4 : Bx (Blk w4 w3.heap.size 60 #[.slice B l.length d, .int .i64 ((0 : Nat) : Int), .bool true]) := ⟨by rw [hw4]; exact Blk.new _ _ _⟩
      have C4 : Bx (Cd w4 g O Ln L) := ⟨by rw [hw4]; exact C3.out.below (below_alloc1 _ _)⟩
      have W4 : Bx (WO w4 q L.length (wordF L)) := ⟨by rw [hw4]; exact W3.out.below (below_alloc1 _ _)⟩
      have B4 : Bx (Below w.heap.size w w4) := ⟨by rw [hw4]; exact B3.out.alloc B3.out.size _⟩
      have hr : w.heap.size ≤ w3.heap.size := B3.out.size
      generalize w3.heap.size = r at D4 hr ⊢
      clear hw4 C3 W3 B3
      go_wp2_with fail
      refine (Bits_calls B l d w4 (RL.out.below B4.out) (by omega)).mono ?_
      rintro e w5 ⟨v5, rfl, ho5, hb5⟩
      obtain ⟨A2, c2, hv5, hc2⟩ := ho5.form'
      have hz : (zl (bitsL l)).length = 8 * l.length := by rw [zl_length, bitsL_length]
      rw [hz] at hv5 hc2
      subst hv5
      have D5 := Bx.mk (D4.out.below hb5 D4.out.lt)
      have C5 := Bx.mk (C4.out.below hb5)
      have W5 := Bx.mk (W4.out.below hb5)
      have I5 := Bx.mk ho5
      have B5 := Bx.mk (below_then B4.out B4.out.size hb5)
      clear hz ho5 hb5 D4 C4 W4 B4
      generalize w4.heap.size = b2 at I5
      have S6 : Bx (RS2 w g q r w5.heap.size b2 O Ln L B A2 d c2 l 0 0 (w5.alloc (.cells #[.slice A2 (8 * l.length) c2, .int .i64 ((0 : Nat) : Int)] 53))) :=
        ⟨⟨C5.out.below (below_alloc1 _ _), W5.out.below (below_alloc1 _ _), D5.out.alloc _, Blk.new _ _ _, I5.out.below (below_alloc1 _ _), B5.out.alloc B5.out.size _⟩⟩
      have hy : w.heap.size ≤ w5.heap.size := B5.out.size
      clear D5 C5 W5 I5 B5
      go_wp2
      generalize w5.heap.size = y at S6 hy ⊢
      generalize w5.alloc (.cells #[.slice A2 (8 * l.length) c2, .int .i64 0] 53) = w6 at S6 ⊢
      have WORKS := Bx.mk fun W => cworks_calls W
      go_loopw [10] (fun i wr => ∃ (k a : Nat), k ≤ a ∧ a ≤ 8 * l.length ∧ i = .int .i64 (k : Nat) ∧ Bx (RS2 w g q r y b2 O Ln L B A2 d c2 l a a wr)) (fun i _ => 900 - (intOf i).toNat)
      case atStart => exact ⟨0, 0, Nat.le_refl _, Nat.zero_le _, rfl, S6⟩
      case round =>
        obtain ⟨k, a, hka, ha, rfl, HS⟩ := hrel
        have hk9 : k < 900 := by omega
        have T1 := Read_calls g O Ln L r B l d a wr HS.out.cd hL288 OK.out.2.2.1 HS.out.rd (fun w' ho => RL.out.below (HS.out.be.trans (ho.below _ hr HS.out.be.size))) ha
        have T2 := fun W (h : RS2 w g q r y b2 O Ln L B A2 d c2 l (rdC L l a).2.2 a W) => yRead_calls q L y b2 A2 l c2 a W h.wo hL288 (getD15 OK.out.2.1) OK.out.2.2.1 h.yd h.bt BY.out (by omega) hc2 ha
        have hat := (rdS_at L l (mostC L) 1 0 a ha).2.1
        have hadv := rdC_ok_adv L l a ha
        rw [show rdS L l (mostC L) 1 0 a = rdC L l a from rfl] at hat
        generalize (rdC L l a).1 = V at T1 T2
        generalize (rdC L l a).2.1 = E at T1 T2 hadv
        generalize (rdC L l a).2.2 = x at T1 T2 hat hadv
        have TT1 := Bx.mk T1; have TT2 := Bx.mk T2; have HADV := Bx.mk hadv
        clear T1 T2 S6 hadv
        go_wp2_with fail
        refine TT1.out.mono ?_
        rintro e w7 ⟨rfl, h7, o7⟩
        have S7 := Bx.mk (HS.out.onlyR o7 hr h7)
        clear h7 o7 HS
        go_wp2_with fail
        refine (TT2.out w7 S7.out).mono ?_
        rintro e w8 ⟨rfl, h8, s8⟩
        have S8 := Bx.mk (S7.out.stepY s8 hy h8)
        clear h8 s8 S7
        have P1 := Bx.mk fun z => Calls.quiet_of_same ((rAt_calls r _ x (w8.drewN z) S8.out.rd).mono fun e w' h => ⟨h.1, h.2.symm⟩)
        have e1 := S8.out.yd.cell 1
        simp at e1
        go_wp2
        go_quiet ((go_at_call 22; with_reducible exact P1.out _))
        by_cases hE : E = 0
        · subst hE
          have hx := HADV.out rfl
          go_wp2
          go_roundw
          case rel => exact ⟨k + 1, x, by omega, hat, by go_num, ⟨S8.out.drewN _⟩⟩
          case measure => simp [intOf]; omega
        · have hne : ((E : Int) != 0) = true := by rw [bne_iff_ne]; omega
          have BE := Bx.mk fun z => below_drewN S8.out.be z
          clear hE HADV P1
          go_wp2_with fail
          refine (WORKS.out _).mono ?_
          rintro e w9 ⟨rfl, hb9⟩
          have B9 := Bx.mk (below_then (BE.out nq) (BE.out nq).size hb9)
          clear hb9
          go_wp2
          go_ret
          exact ⟨rfl, B9.out⟩
    · have HN := Bx.mk hok
      have hcv := checkV_no hok
      clear hok
      go_wp2_with fail
      refine (CNew_no A ls c w HL.out hn HN.out).mono ?_
      rintro e w2 ⟨rfl, hb⟩
      have ck := yCheck_calls A ls c w2 (HL.out.below hb) hn
      rw [hcv] at ck
      have CK := Bx.mk ck
      have B2 := Bx.mk hb
      clear hb ck hcv
      go_wp2_with fail
      refine CK.out.mono ?_
      rintro e w3 ⟨rfl, rfl⟩
      go_wp2
      go_ret
      exact ⟨rfl, B2.out⟩
end Go.Proofs.Ytnncnjkpjlpodaa
