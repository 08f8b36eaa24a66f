import Derived.Test.YtoekecopfmohiaaDoorGzipLaws1
/-
  GzipBack: its walk.
-/
namespace Go.Proofs.YtoekecopfmohiaaDoor
open Go.RowKit

theorem Header_ok (A : Option Addr) (l : List Nat) (c : Nat) (w : World) {a : Nat} (hl : RB w A l) (hc : l.length ≤ c) (hg : Gz w) (h : hdrN l = .ok a) :
    Calls Tryd.prog 26 #[.slice A l.length c] w fun e w' => e = .returned (.tuple #[.int .i64 (a : Int), .int .i64 0]) ∧ Below w.heap.size w w' :=
  (Header_calls A l c w hl hc hg).mono fun e w' hp => by unfold HdrPost at hp; rw [h] at hp; exact ⟨hp.2, hp.1⟩
set_option maxRecDepth 100000 in
set_option maxHeartbeats 4000000 in
theorem GzipBack_calls (A : Option Addr) (b : List Nat) (c : Nat) (nm nt : ByteArray) (E : Option Addr) (ex : List Nat) (ce : Nat) (sum : Bool) (w : World) (hb : RB w A b) (hc : b.length ≤ c) (_hbu : b.length ≤ 1048576) (hn : nm.size ≤ 1048576) (ht : nt.size ≤ 1048576)
    (he : RB w E ex) (_hce : ex.length ≤ ce) (heu : ex.length ≤ 1048576) (hg : Gz w) :
    Calls Tryd.prog 10 #[.slice A b.length c, .string nm, .string nt, .slice E ex.length ce, .bool sum] w fun e w' => e = .returned (.bool true) ∧ Below w.heap.size w w' := by
  have HG := Bx.mk hg
  have HB := Bx.mk hb
  have HE := Bx.mk he
  have hlen := hb.2.1
  have W1 := Bx.mk (gworks_calls w hg)
  clear hb hg he
  go_enter Tryd.func10, Tryd.ntmps10
  go_wp2_with (go_at_call 20; fail)
  refine W1.out.mono ?_
  rintro e w1 ⟨rfl, hb1⟩
  have B1 := Bx.mk hb1
  have E1 := Bx.mk (HE.out.below hb1)
  clear hb1 W1 HE
  by_cases h3 : 20000 < b.length
  case' pos =>
    obtain ⟨L, hL⟩ : ∃ L, L = b.take 20000 := ⟨_, rfl⟩
    have hLl : L.length = 20000 := by rw [hL, List.length_take]; omega
    have k1 : ∀ W, (Instr.slice 22 (.slice A b.length c) none (some (.int .i64 20000)) none).run Tryd.prog W = .ok (.slice A L.length c) W := fun W => by
      rw [hLl]; exact cut_to_bytes A b.length c 20000 (by omega) hc W
    have HL : Bx (RB w1 A L) := ⟨by rw [hL]; exact (HB.out.below B1.out).take 20000⟩
    have HLc : L.length ≤ c := by omega
    have h3i : (20000 : Int) < (b.length : Int) := by omega
    have hLn : L.length ≤ 20000 := by omega
    clear hL hLl
    go_wp2_with (go_at_call 25; fail)
  case' neg =>
    obtain ⟨L, rfl⟩ : ∃ L, L = b := ⟨_, rfl⟩
    have h3i : decide ((20000 : Int) < (L.length : Int)) = false := decide_eq_false (by omega)
    have HL : Bx (RB w1 A L) := ⟨HB.out.below B1.out⟩
    have HLc : L.length ≤ c := hc
    have hLn : L.length ≤ 20000 := by omega
    go_wp2_with (go_at_call 25; fail)
  all_goals
    clear h3i h3
    have HG1 := Bx.mk (HG.out.below B1.out)
    refine (Wrap_calls A L c w1 HL.out HLc HG1.out (by omega)).mono ?_
    rintro e w2 ⟨l, v2, hbts, rfl, ho2, hb2⟩
    have hzb := gzF_lt [] [] [] false l L (by simp) (by simp) (by simp) hbts.byte
    have hi := inf_gz L l L.length HL.out.1 (Nat.le_refl _) (by omega) hbts
    have hll := gz_len L l HL.out.1 hbts
    have hzl := gzF_len [] [] [] false l L
    have HF := opn_back (sum := false) (ex := []) (nm := []) (nt := []) (by simp) (by simp) (by simp) hi HL.out.1 (by omega)
    simp only [List.length_nil] at hzl
    have B2 := Bx.mk (below_then B1.out B1.out.size hb2)
    have HL2 := Bx.mk (HL.out.below hb2)
    have E2 := Bx.mk (E1.out.below hb2)
    generalize gzF [] [] [] false l L = Z0 at *
    obtain ⟨A2, c2, rfl, hc2⟩ := ho2.form'
    have Z2 := Bx.mk (ho2.rb' hzb (by omega))
    have C2 := Bx.mk (Open_ok A2 Z0 c2 L.length w2 Z2.out hc2 (by omega) (HG.out.below B2.out) HF)
    clear ho2 hb2 hbts hi HF hzb HL E1 HB hzl hll B1 HG1
    go_wp2_with (go_at_call 22; fail)
    refine C2.out.mono ?_
    rintro e w3 ⟨v3, rfl, ho3, -, hb3⟩
    have B3 := Bx.mk (below_then B2.out B2.out.size hb3)
    have HL3 := Bx.mk (HL2.out.below hb3)
    have E3 := Bx.mk (E2.out.below hb3)
    obtain ⟨A3, c3, rfl⟩ := ho3.form
    have SB := SameBytes_calls A3 A L L c3 c w3 (ho3.rb' HL3.out.1 (by omega)) HL3.out
    rw [show decide (L = L) = true by simp] at SB
    have SBB := Bx.mk SB
    clear SB ho3 hb3 C2 HL2 E2 B2 Z2
    go_wp2_with (go_at_call 16; fail)
    refine SBB.out.mono ?_
    rintro e w4 ⟨rfl, k4, rfl⟩
    have B4 := Bx.mk (below_drewN B3.out k4)
    have HL4 := Bx.mk (HL3.out.below (below_drewN (Below.refl _ _) k4))
    have E4 := Bx.mk (E3.out.below (below_drewN (Below.refl _ _) k4))
    clear SBB B3 HL3 E3
    generalize w3.drewN k4 = w4 at *
    go_wp2_with (go_at_call 21; fail)
    have HG4 := Bx.mk (HG.out.below B4.out)
    by_cases hok : DrsOk (sb nm) (sb nt) ex
    · refine (Dress_yes A L c nm nt E ex ce sum w4 HL4.out HLc E4.out HG4.out (by omega) (by omega) hok).mono ?_
      rintro e w5 ⟨l2, v5, hbts, rfl, ho5, hb5⟩
      have hn1 := nulN_full hok.1
      have hn2 := nulN_full hok.2.1
      have hll := gz_len L l2 HL4.out.1 hbts
      have hzl := gzF_len ex (sb nm) (sb nt) sum l2 L
      have hzb := gzF_lt ex (sb nm) (sb nt) sum l2 L E4.out.1 (sb_byte nm) (sb_byte nt) hbts.byte
      have hi := inf_gz L l2 L.length HL4.out.1 (Nat.le_refl _) (by omega) hbts
      have HF := opn_back (sum := sum) hok.2.2 hn1 hn2 hi HL4.out.1 (by omega)
      have HH := hdrN_made ex (sb nm) (sb nt) (l2 ++ tlB L) sum hok.2.2 hn1 hn2
      change hdrN (gzF ex (sb nm) (sb nt) sum l2 L) = _ at HH
      have hH1 := hdB_len ex (sb nm) (sb nt) sum
      have hH2 : (hdB ex (sb nm) (sb nt) sum).length < (gzF ex (sb nm) (sb nt) sum l2 L).length := by
        unfold gzF tlB
        simp only [List.length_append, le_len]
        omega
      rw [sb_len, sb_len] at hzl
      generalize (hdB ex (sb nm) (sb nt) sum).length = HN at *
      generalize gzF ex (sb nm) (sb nt) sum l2 L = Z at *
      have B5 := Bx.mk (below_then B4.out B4.out.size hb5)
      have HL5 := Bx.mk (HL4.out.below hb5)
      obtain ⟨A5, c5, rfl, hc5⟩ := ho5.form'
      have Z5 := Bx.mk (ho5.rb' hzb (by omega))
      have G5 := Bx.mk (HG.out.below B5.out)
      have CH := Bx.mk (Header_ok A5 Z c5 w5 Z5.out hc5 G5.out HH)
      clear ho5 hb5 hbts hi hzb HH B4 HL4 E4 HG4 hok hn1 hn2
      go_wp2_with (go_at_call 26; fail)
      refine CH.out.mono ?_
      rintro e w6 ⟨rfl, hb6⟩
      have B6 := Bx.mk (below_then B5.out B5.out.size hb6)
      have HL6 := Bx.mk (HL5.out.below hb6)
      have C6 := Bx.mk (Open_ok A5 Z c5 L.length w6 (Z5.out.below hb6) hc5 (by omega) (HG.out.below B6.out) HF)
      clear hb6 CH HL5 Z5 G5 B5 HF
      go_wp2_with (go_at_call 22; fail)
      refine C6.out.mono ?_
      rintro e w7 ⟨v7, rfl, ho7, -, hb7⟩
      have B7 := Bx.mk (below_then B6.out B6.out.size hb7)
      have HL7 := Bx.mk (HL6.out.below hb7)
      obtain ⟨A7, c7, rfl⟩ := ho7.form
      have SB := SameBytes_calls A7 A L L c7 c w7 (ho7.rb' HL7.out.1 (by omega)) HL7.out
      rw [show decide (L = L) = true by simp] at SB
      have SBB := Bx.mk SB
      have hn10 : (10 : Int) ≤ (HN : Int) := by omega
      have hnz : (HN : Int) < (Z.length : Int) := by omega
      clear SB ho7 hb7 C6 HL6 B6
      go_wp2_with (go_at_call 16; fail)
      refine SBB.out.mono ?_
      rintro e w8 ⟨rfl, k8, rfl⟩
      go_wp2
      go_ret
      exact ⟨rfl, below_drewN B7.out k8⟩
    · have D := Dress_no (.slice A L.length c) nm nt E ex ce sum w4 hok
      refine D.mono ?_
      rintro e w5 ⟨rfl, rfl⟩
      clear D
      go_wp2
      go_ret
      exact ⟨rfl, B4.out⟩
end Go.Proofs.YtoekecopfmohiaaDoor
