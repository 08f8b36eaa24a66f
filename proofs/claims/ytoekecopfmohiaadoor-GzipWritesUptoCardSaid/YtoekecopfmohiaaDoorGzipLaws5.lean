import Derived.Test.YtoekecopfmohiaaDoorGzipLaws1
import Derived.Test.YtoekecopfmohiaaDoorRefGz6
/-
  GzipWrites: its walk.
-/
namespace Go.Proofs.YtoekecopfmohiaaDoor
open Go.RowKit

theorem lsum_le : ∀ l : List Nat, lsum l = leN l
  | [] => rfl
  | x :: r => by simp only [lsum, leN, lsum_le r]
/-- the bits of the whole stand in bytes -/
theorem whole_some (b : List Nat) (hb : ∀ x ∈ b, x < 256) : ∃ l, Bts l (fN (wholeF copF b)) (fA (wholeF copF b)) := by
  have hok : fOk (wholeF copF b) := blkF_ok (runs_dec copF (fun c n o hc hn => cop_dec c n o hc hn) (b.length + 1) b [] (Nat.lt_succ_self _) hb).1
  have hlt := fN_lt _ hok
  generalize fN (wholeF copF b) = N at *
  generalize fA (wholeF copF b) = a at *
  refine ⟨le ((a + 7) / 8) N, le_lt _ _, le_len _ _, ?_, hlt⟩
  rw [lsum_le, leN_le]
  refine Nat.mod_eq_of_lt (Nat.lt_of_lt_of_le hlt ?_)
  rw [show (256 : Nat) = 2 ^ 8 from rfl, ← Nat.pow_mul]
  exact Nat.pow_le_pow_right (by decide) (by omega)
set_option maxRecDepth 100000 in
set_option maxHeartbeats 4000000 in
theorem GzipWrites_calls (A : Option Addr) (b : List Nat) (c : Nat) (nm nt : ByteArray) (E : Option Addr) (ex : List Nat) (ce : Nat) (sum : Bool) (w : World) (hb : RB w A b) (hc : b.length ≤ c) (_hbu : b.length ≤ 1048576) (hn : nm.size ≤ 1048576) (ht : nt.size ≤ 1048576)
    (he : RB w E ex) (_hce : ex.length ≤ ce) (heu : ex.length ≤ 1048576) (hg : Gz w) :
    Calls Tryd.prog 9 #[.slice A b.length c, .string nm, .string nt, .slice E ex.length ce, .bool sum] w fun e w' => e = .returned (.bool true) ∧ Below w.heap.size w w' := by
  have HG := Bx.mk hg
  have HB := Bx.mk hb
  have HE := Bx.mk he
  have hlen := hb.2.1
  clear hb hg he
  go_enter Tryd.func9, Tryd.ntmps9
  by_cases h3 : 2000 < b.length
  case' pos =>
    obtain ⟨L, hL⟩ : ∃ L, L = b.take 2000 := ⟨_, rfl⟩
    have hLl : L.length = 2000 := by rw [hL, List.length_take]; omega
    have k1 : ∀ W, (Instr.slice 22 (.slice A b.length c) none (some (.int .i64 2000)) none).run Tryd.prog W = .ok (.slice A L.length c) W := fun W => by
      rw [hLl]; exact cut_to_bytes A b.length c 2000 (by omega) hc W
    have HL : Bx (RB w A L) := ⟨by rw [hL]; exact HB.out.take 2000⟩
    have HLc : L.length ≤ c := by omega
    have h3i : (2000 : Int) < (b.length : Int) := by omega
    have hLn : L.length ≤ 2000 := by omega
    clear hL hLl
    go_wp2_with (go_at_call 15; fail)
  case' neg =>
    obtain ⟨L, rfl⟩ : ∃ L, L = b := ⟨_, rfl⟩
    have h3i : decide ((2000 : Int) < (L.length : Int)) = false := decide_eq_false (by omega)
    have HL : Bx (RB w A L) := ⟨HB.out⟩
    have HLc : L.length ≤ c := hc
    have hLn : L.length ≤ 2000 := by omega
    go_wp2_with (go_at_call 15; fail)
  all_goals
    clear h3i h3
    refine (Bytes_calls A L c w HL.out).mono ?_
    rintro e w1 ⟨v1, rfl, ho1, hb1⟩
    obtain ⟨A1, c1, rfl, hc1⟩ := ho1.form'
    have B1 := Bx.mk hb1
    have P1 := Bx.mk (ho1.rb' HL.out.1 (by omega))
    have HL1 := Bx.mk (HL.out.below hb1)
    have E1 := Bx.mk (HE.out.below hb1)
    clear ho1 hb1 HB HL HE
    go_wp2_with (go_at_call 15; fail)
    refine (Bytes_calls E ex ce w1 E1.out).mono ?_
    rintro e w2 ⟨v2, rfl, ho2, hb2⟩
    obtain ⟨A2, c2, rfl, hc2⟩ := ho2.form'
    have B2 := Bx.mk (below_then B1.out B1.out.size hb2)
    have P2 := Bx.mk (P1.out.below hb2)
    have HL2 := Bx.mk (HL1.out.below hb2)
    have E2 := Bx.mk (E1.out.below hb2)
    have X2 := Bx.mk (ho2.rb' E1.out.1 (by omega))
    clear ho2 hb2 B1 P1 HL1 E1
    have HG2 := Bx.mk (HG.out.below B2.out)
    -- the two answers, alike whatever they are
    obtain ⟨R, ER, hE1, hE2, hRb, hRl⟩ : ∃ (R : List Nat) (ER : Nat), (Calls Tryd.prog 21 #[.slice A1 L.length c1, .string nm, .string nt, .slice A2 ex.length c2, .bool sum] w2 fun e w' => ∃ A3 c3, e = .returned (.tuple #[.slice A3 R.length c3, .int .i64 (ER : Int)]) ∧ RB w' A3 R ∧ Below w2.heap.size w2 w')
        ∧ (∀ W, RB W A L → RB W E ex → Calls Tryd.prog 24 #[.slice A L.length c, .string nm, .string nt, .slice E ex.length ce, .bool sum] W fun e w' => ∃ A3 c3, e = .returned (.tuple #[.slice A3 R.length c3, .int .i64 (ER : Int)]) ∧ RB w' A3 R ∧ Below W.heap.size W w') ∧ (∀ x ∈ R, x < 256) ∧ R.length ≤ 100000000 := by
      by_cases hok : DrsOk (sb nm) (sb nt) ex
      · -- the stream is one
        have hu : ∀ l, Bts l (fN (wholeF copF L)) (fA (wholeF copF L)) → (∀ x ∈ gzF ex (sb nm) (sb nt) sum l L, x < 256) ∧ (gzF ex (sb nm) (sb nt) sum l L).length ≤ 100000000 := fun l hbts => by
          have h1 := (gz_len L l P2.out.1 hbts).2
          have h2 := (gzF_len ex (sb nm) (sb nt) sum l L).2
          rw [sb_len, sb_len] at h2
          exact ⟨gzF_lt ex (sb nm) (sb nt) sum l L X2.out.1 (sb_byte nm) (sb_byte nt) hbts.byte, by omega⟩
        obtain ⟨l0, hl0⟩ := whole_some L P2.out.1
        refine ⟨gzF ex (sb nm) (sb nt) sum l0 L, 0, ?_, ?_, (hu l0 hl0).1, (hu l0 hl0).2⟩
        · refine (Dress_yes A1 L c1 nm nt A2 ex c2 sum w2 P2.out hc1 X2.out HG2.out (by omega) (by omega) hok).mono ?_
          rintro e w3 ⟨l, v3, hbts, rfl, ho3, hb3⟩
          obtain rfl := hbts.unique hl0
          obtain ⟨A3, c3, rfl⟩ := ho3.form
          exact ⟨A3, c3, rfl, ho3.rb' (hu _ hl0).1 (by have := (hu _ hl0).2; omega), hb3⟩
        · intro W h1 h2
          refine (rDress_yes A L c nm nt E ex ce sum W h1 h2 hn ht (by omega) hok).mono ?_
          rintro e w3 ⟨l, v3, hbts, rfl, ho3, hb3⟩
          obtain rfl := hbts.unique hl0
          obtain ⟨A3, c3, rfl⟩ := ho3.form
          exact ⟨A3, c3, rfl, ho3.rb' (hu _ hl0).1 (by have := (hu _ hl0).2; omega), hb3⟩
      · refine ⟨[], 2, ?_, ?_, by simp, by simp⟩
        · refine (Dress_no (.slice A1 L.length c1) nm nt A2 ex c2 sum w2 hok).mono ?_
          rintro e w3 ⟨rfl, rfl⟩
          exact ⟨none, 0, rfl, RB.nil _ _, Below.refl _ _⟩
        · intro W h1 h2
          refine (rDress_no (.slice A L.length c) nm nt E ex ce sum W hn ht hok).mono ?_
          rintro e w3 ⟨rfl, rfl⟩
          exact ⟨none, 0, rfl, RB.nil _ _, Below.refl _ _⟩
    have C1 := Bx.mk hE1
    have C2 := Bx.mk hE2
    clear hE1 hE2 X2
    go_wp2_with (go_at_call 21; fail)
    refine C1.out.mono ?_
    rintro e w3 ⟨A3, c3, rfl, hr3, hb3⟩
    have B3 := Bx.mk (below_then B2.out B2.out.size hb3)
    have P3 := Bx.mk (P2.out.below hb3)
    have HL3 := Bx.mk (HL2.out.below hb3)
    have E3 := Bx.mk (E2.out.below hb3)
    have X3 := Bx.mk hr3
    clear hr3 hb3 B2 P2 HL2 E2 C1
    go_wp2_with (go_at_call 24; fail)
    refine (C2.out w3 HL3.out E3.out).mono ?_
    rintro e w4 ⟨A4, c4, rfl, hr4, hb4⟩
    have B4 := Bx.mk (below_then B3.out B3.out.size hb4)
    have P4 := Bx.mk (P3.out.below hb4)
    have HL4 := Bx.mk (HL3.out.below hb4)
    have X4 := Bx.mk (X3.out.below hb4)
    have Y4 := Bx.mk hr4
    clear hr4 hb4 B3 P3 HL3 E3 X3 C2
    obtain ⟨l0, hl0⟩ := whole_some L P4.out.1
    have HL0 := Bx.mk hl0
    have hz1 := gzF_len [] [] [] false l0 L
    have hz2 := (gz_len L l0 P4.out.1 hl0).2
    simp only [List.length_nil] at hz1
    have HZB := Bx.mk (gzF_lt [] [] [] false l0 L (by simp) (by simp) (by simp) hl0.byte)
    have D : Calls Tryd.prog 24 #[.slice A L.length c, .string { data := #[] }, .string { data := #[] }, .slice none 0 0, .bool false] w4 (fun e w' => ∃ l v, Bts l (fN (wholeF copF L)) (fA (wholeF copF L)) ∧ e = .returned (.tuple #[v, .int .i64 0]) ∧ OB w' w4.heap.size v (gzF [] [] [] false l L) ∧ Below w4.heap.size w4 w') :=
      rDress_yes A L c { data := #[] } { data := #[] } none [] 0 false w4 HL4.out (RB.nil _ _) (by decide) (by decide) (by omega) (by decide)
    have DB := Bx.mk D
    clear D hl0
    go_wp2_with (go_at_call 24; fail)
    refine DB.out.mono ?_
    rintro e w5 ⟨l5, v5, hbt5, rfl, ho5, hb5⟩
    obtain rfl := hbt5.unique HL0.out
    obtain ⟨A5, c5, hv5⟩ := ho5.form
    subst hv5
    have B5 := Bx.mk (below_then B4.out B4.out.size hb5)
    have P5 := Bx.mk (P4.out.below hb5)
    have HL5 := Bx.mk (HL4.out.below hb5)
    have X5 := Bx.mk (X4.out.below hb5)
    have Y5 := Bx.mk (Y4.out.below hb5)
    have Z5 := Bx.mk (ho5.rb' HZB.out (by omega))
    have SB := SameBytes_calls A3 A4 R R c3 c4 w5 X5.out Y5.out
    rw [show decide (R = R) = true by simp] at SB
    have SBB := Bx.mk SB
    clear SB ho5 hb5 hbt5 DB B4 P4 HL4 X4 Y4 X5 Y5
    go_wp2_with (go_at_call 16; fail)
    refine SBB.out.mono ?_
    rintro e w6 ⟨rfl, k6, rfl⟩
    have B6 := Bx.mk (below_drewN B5.out k6)
    have b56 := below_drewN (Below.refl w5.heap.size w5) k6
    have P6 := Bx.mk (P5.out.below b56)
    have HL6 := Bx.mk (HL5.out.below b56)
    have Z6 := Bx.mk (Z5.out.below b56)
    clear b56 SBB B5 P5 HL5 Z5
    generalize w5.drewN k6 = w6 at *
    go_wp2_with (go_at_call 25; fail)
    refine (Wrap_calls A1 L c1 w6 P6.out hc1 (HG.out.below B6.out) (by omega)).mono ?_
    rintro e w7 ⟨l7, v7, hbt7, rfl, ho7, hb7⟩
    obtain rfl := hbt7.unique HL0.out
    obtain ⟨A7, c7, hv7⟩ := ho7.form
    subst hv7
    have B7 := Bx.mk (below_then B6.out B6.out.size hb7)
    have P7 := Bx.mk (P6.out.below hb7)
    have HL7 := Bx.mk (HL6.out.below hb7)
    have SB := SameBytes_calls A7 A5 (gzF [] [] [] false l7 L) (gzF [] [] [] false l7 L) c7 c5 w7 (ho7.rb' HZB.out (by omega)) (Z6.out.below hb7)
    rw [show decide (gzF [] [] [] false l7 L = gzF [] [] [] false l7 L) = true by simp] at SB
    have SBB := Bx.mk SB
    clear SB ho7 hb7 hbt7 B6 P6 HL6 Z6
    go_wp2_with (go_at_call 16; fail)
    refine SBB.out.mono ?_
    rintro e w8 ⟨rfl, k8, rfl⟩
    have B8 := Bx.mk (below_drewN B7.out k8)
    have b78 := below_drewN (Below.refl w7.heap.size w7) k8
    have SB := SameBytes_calls A1 A L L c1 c (w7.drewN k8) (P7.out.below b78) (HL7.out.below b78)
    rw [show decide (L = L) = true by simp] at SB
    have SBC := Bx.mk SB
    clear SB SBB B7 P7 HL7 b78
    generalize w7.drewN k8 = w8 at *
    go_wp2_with (go_at_call 16; fail)
    refine SBC.out.mono ?_
    rintro e w9 ⟨rfl, k9, rfl⟩
    have B9 := Bx.mk (below_drewN B8.out k9)
    have W9 := Bx.mk (gworks_calls (w8.drewN k9) (HG.out.below B9.out))
    clear B8 SBC
    generalize w8.drewN k9 = w9 at *
    go_wp2_with (go_at_call 20; fail)
    refine W9.out.mono ?_
    rintro e w10 ⟨rfl, hb10⟩
    have B10 := Bx.mk (below_then B9.out B9.out.size hb10)
    go_wp2
    go_ret
    exact ⟨rfl, B10.out⟩
end Go.Proofs.YtoekecopfmohiaaDoor
