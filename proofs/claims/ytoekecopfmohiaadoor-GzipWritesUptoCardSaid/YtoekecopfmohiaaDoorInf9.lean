import Derived.Test.YtoekecopfmohiaaDoorInf8
/-
  The inflater: block.
-/
namespace Go.Proofs.YtoekecopfmohiaaDoor
open Go.RowKit

theorem block_run (m : Nat) (l : List Nat) (R : Except Nat SS) : run (blockP m l) 0 R = run (bd (kindP m l (run (numP l 2) 0 (run (numP l 1) 0 R).2).1) fun _ => ret (run (numP l 1) 0 R).1) 0 (run (numP l 2) 0 (run (numP l 1) 0 R).2).2 := by
  unfold blockP
  rw [run_bd (numP l 1) _ 0 0, run_bd (numP l 2) _ 0 0]
theorem kind_run (m : Nat) (l : List Nat) (k V : Nat) (R : Except Nat SS) : (run (bd (kindP m l k) fun _ => ret V) 0 R).2 = (run (kindP m l k) () R).2 ∧ (okR (run (bd (kindP m l k) fun _ => ret V) 0 R).2 = true → (run (bd (kindP m l k) fun _ => ret V) 0 R).1 = V) := by
  rw [run_bd (kindP m l k) _ () 0]
  obtain ⟨h1, h2⟩ := run_ret V 0 (run (kindP m l k) () R).2
  exact ⟨h1, fun h => h2 (by rw [h1] at h; exact h)⟩
theorem kind_2 (m : Nat) (l : List Nat) (R : Except Nat SS) : (run (kindP m l 2) () R).2 = (run (symsP m l (run (toldP l) ([], []) R).1.1 (run (toldP l) ([], []) R).1.2 K0) () (run (toldP l) ([], []) R).2).2 := by
  show (run (bd (toldP l) fun c => symsP m l c.1 c.2 K0) () R).2 = _
  rw [run_bd (toldP l) _ ([], []) ()]
theorem fixLn_ok : okL fixLn := by decide +kernel
theorem fixDs_ok : okL fixDs := by decide +kernel
theorem fixL_Ln : fixL = fixLn := by decide +kernel
theorem fixL_len : fixL.length = 288 := by decide +kernel
theorem fixDs_len : fixDs.length = 32 := by decide
theorem reads_litI (w : World) (t : TypeId) (l : List Int) (cs : Array Value) (h : cs.toList = is l) : Reads (w.alloc (.cells cs t)) (w.alloc (.cells cs t)).heap.size 1 (some ⟨w.heap.size, 0, none⟩) l.length (is l) :=
  ⟨by rw [is_length, Nat.mul_one], fun _ => ⟨_, rfl, by simp, fun j u hu => by rw [add_plain, World.cell?_alloc_at _ _ _ _ rfl, ← Array.getElem?_toList, h]; exact hu⟩⟩
set_option maxRecDepth 100000 in
set_option maxHeartbeats 4000000 in
theorem block_calls (w0 : World) (x r : Nat) (A : Option Addr) (l : List Nat) (c m : Nat) (hm : m ≤ 262144) (hg : Gf w0) (hlc : l.length ≤ c) (s : SS) (w : World) (h : At w0 x r A l c m (.ok s) w) :
    Calls Tryd.prog 28 #[.pointer (some ⟨x, 0, none⟩)] w fun e w' => ∃ b : Bool, e = .returned (.bool b) ∧ At w0 x r A l c m (run (blockP m l) 0 (.ok s)).2 w' ∧ IStep w w' ∧
      (okR (run (blockP m l) 0 (.ok s)).2 = true → b = ((((run (blockP m l) 0 (.ok s)).1 : Nat) : Int) == 1)) := by
  have HA := Bx.mk h
  have HG := Bx.mk hg
  have HW0 : Bx (w0.heap.size ≤ w.heap.size) := ⟨h.be.size⟩
  obtain ⟨RF, hRF⟩ : ∃ RF, RF = run (blockP m l) 0 (.ok s) := ⟨_, rfl⟩
  rw [← hRF]
  rw [block_run] at hRF
  have HRF := Bx.mk hRF
  clear hRF h hg
  have N1 := Bx.mk (fun W hW => number_calls w0 x r A l c m 1 (by decide) (.ok s) W hW)
  generalize run (numP l 1) 0 (.ok s) = P1 at *
  obtain ⟨V1, R1⟩ := P1
  simp only at N1 HRF
  have N2 := Bx.mk (fun W hW => number_calls w0 x r A l c m 2 (by decide) R1 W hW)
  have HV2 := num_val l 2 R1
  generalize run (numP l 2) 0 R1 = P2 at *
  obtain ⟨V2, R2⟩ := P2
  simp only at N2 HRF HV2
  go_enter Tryd.func28, Tryd.ntmps28
  go_wp2_with (go_at_call 51; fail)
  refine (N1.out w HA.out).mono ?_
  rintro e w1 ⟨rfl, ha1, hs1⟩
  have A1 := Bx.mk ha1; have S1 := Bx.mk hs1
  clear ha1 hs1 N1 HA
  obtain ⟨LB1, hLB1⟩ : ∃ b, b = ((V1 : Int) == 1) := ⟨_, rfl⟩
  rw [← hLB1] at *
  have HLB := Bx.mk hLB1
  clear hLB1
  go_wp2_with (go_at_call 51; fail)
  refine (N2.out w1 A1.out).mono ?_
  rintro e w2 ⟨rfl, ha2, hs2⟩
  have S2 := Bx.mk (S1.out.trans hs2)
  clear hs2 N2 A1 S1
  cases R2 with
  | error e2 =>
    obtain ⟨h3, hne, hne2, -⟩ := ha2.no
    have A2 := Bx.mk ha2
    have HF : Bx (RF = (0, .error e2)) := ⟨HRF.out⟩
    clear ha2 HRF
    go_wp2
    go_ret
    exact ⟨_, rfl, by rw [HF.out]; exact A2.out, S2.out, fun hc => by rw [HF.out] at hc; cases hc⟩
  | ok s2 =>
    have h3 : w2.cell? ⟨x, 3, none⟩ = some (.int .i64 ((0 : Nat) : Int)) := by obtain ⟨O, I⟩ := ha2; exact I.xb.cell 3
    have A2 := Bx.mk ha2
    have FX := Bx.mk (Fixed_calls w2)
    obtain ⟨hk1, hk2⟩ := kind_run m l V2 V1 (.ok s2)
    rw [← HRF.out] at hk1 hk2
    have F1 := Bx.mk hk1
    have F2 := Bx.mk (fun h => hk2 h)
    clear ha2 HRF hk1 hk2
    go_wp2_with (go_at_call 53; fail)
    refine FX.out.mono ?_
    rintro e w3 ⟨v3, rfl, ho3, hb3⟩
    obtain ⟨A3x, c3, rfl, hc3⟩ := ho3.form'
    rw [zl_length]
    have A3 := Bx.mk (A2.out.below hb3)
    have S3 := Bx.mk (S2.out.trans (IStep.below hb3))
    have NC := Bx.mk (CNew_yes A3x fixL c3 w3 ho3.ir (by rw [fixL_Ln]; exact fixLn_ok))
    clear hc3 ho3 hb3 A2 S2 FX h3
    go_wp2_with (go_at_call 52; fail)
    refine NC.out.mono ?_
    rintro e w4 ⟨g4, O4, Ln4, rfl, -, hc4, hb4⟩
    have A4 := Bx.mk (A3.out.below hb4)
    have S4 := Bx.mk (S3.out.trans (IStep.below hb4))
    rw [fixL_Ln] at hc4
    have C4 := Bx.mk (okL_has fixLn_ok hc4)
    clear hc4 hb4 A3 S3 NC
    have rp := Repeat_calls (some ⟨w4.heap.size, 0, none⟩) 5 1 30 _ (IR.lit w4 3 [5] #[.int .i64 5] rfl) (by decide)
    have RP := Bx.mk rp
    have B5 : Bx (Below w4.heap.size w4 (w4.alloc (.cells #[.int .i64 5] 3))) := ⟨below_alloc1 _ _⟩
    clear rp
    go_wp2_with (go_at_call 54; fail)
    refine RP.out.mono ?_
    rintro e w6 ⟨rfl, ho6, hb6⟩
    have hz5 : w4.heap.size ≤ (w4.alloc (.cells #[.int .i64 5] 3)).heap.size := B5.out.size
    have B6 := Bx.mk (below_then B5.out hz5 hb6)
    have hz6 := hb6.size
    generalize (w4.alloc (.cells #[.int .i64 5] 3)).heap.size = z9 at *
    have O7 := Bx.mk (ho6.below (below_alloc1 w6 (.cells #[.int .i64 5, .int .i64 5] 3)))
    have R7 := Bx.mk (reads_litI w6 3 [5, 5] #[.int .i64 5, .int .i64 5] rfl)
    have B7 := Bx.mk (B6.out.alloc B6.out.size (.cells #[.int .i64 5, .int .i64 5] 3))
    have HZ7 : Bx (z9 ≤ (w6.alloc (.cells #[.int .i64 5, .int .i64 5] 3)).heap.size) := ⟨by simp; omega⟩
    have HL7 : Bx (((List.replicate 30 (5 : Int)).length + 2) * 8 ≤ 140737492549632) := ⟨by rw [List.length_replicate]; omega⟩
    have HZ5 := Bx.mk hz5
    clear RP B5 B6 ho6 hb6 hz6 hz5
    go_wp2_with (at_builtin; refine wpList_append_ints _ rfl (.tmp 26) (.tmp 27) rfl z9 (.slice (some ⟨z9, 0, none⟩) 30 30) (List.replicate 30 5) [5, 5] 2 rfl rfl O7.out _ _ rfl R7.out HL7.out HZ7.out ?_; intro v8 w8 ho8 hg8 _; have T8 : Bx (OI w8 z9 v8 (zl fixDs)) := ⟨ho8⟩; have B8 := Bx.mk (app_end O7.out B7.out HZ5.out hg8); clear ho8 hg8; obtain ⟨OA8, OD8, hv8⟩ := T8.out.form; rw [zl_length, fixDs_len] at hv8; subst hv8)
    have nc := CNew_yes OA8 fixDs OD8 w8 T8.out.ir fixDs_ok
    rw [fixDs_len] at nc
    have NC := Bx.mk nc
    have A8 := Bx.mk (A4.out.below B8.out)
    have S8 := Bx.mk (S4.out.trans (IStep.below B8.out))
    have C8 := Bx.mk (C4.out.istep (IStep.below B8.out))
    clear nc T8 B8 A4 S4 C4 B7 O7 R7
    refine NC.out.mono ?_
    rintro e w9 ⟨g9, O9, Ln9, rfl, -, hc9, hb9⟩
    have A9 := Bx.mk (A8.out.below hb9)
    have S9 := Bx.mk (S8.out.trans (IStep.below hb9))
    have C9 := Bx.mk (C8.out.istep (IStep.below hb9))
    have D9 := Bx.mk (okL_has fixDs_ok hc9)
    clear hc9 hb9 A8 S8 C8 NC
    by_cases h0 : V2 = 0
    · have PC := Bx.mk (plain_calls w0 x r A l c m hm hlc s2 w9 A9.out)
      have F3 : Bx (RF.2 = (run (plainP m l) () (.ok s2)).2) := ⟨F1.out.trans (congrArg (fun v => (run (kindP m l v) () (.ok s2)).2) h0)⟩
      have hv0 : ((V2 : Int) == 0) = true := by rw [h0]; rfl
      clear F1
      go_wp2_with (go_at_call 55; fail)
      refine PC.out.mono ?_
      rintro e w10 ⟨rfl, ha10, hs10⟩
      have A10 := Bx.mk ha10
      have S10 := Bx.mk (S9.out.trans hs10)
      clear ha10 hs10 PC A9 S9
      go_wp2
      go_ret
      exact ⟨_, rfl, by rw [F3.out]; exact A10.out, S10.out, fun hc => by rw [F2.out hc]⟩
    have hv0 : ((V2 : Int) == 0) = false := beq_false_of_ne (by omega)
    by_cases h2 : V2 = 2
    · have TC := Bx.mk (told_calls w0 x r A l c m HG.out s2 w9 A9.out)
      have F3 := Bx.mk (F1.out.trans ((congrArg (fun v => (run (kindP m l v) () (.ok s2)).2) h2).trans (kind_2 m l (.ok s2))))
      have hv2 : ((V2 : Int) == 2) = true := by rw [h2]; rfl
      clear F1
      generalize run (toldP l) ([], []) (.ok s2) = PT at *
      obtain ⟨⟨T1, T2⟩, RT⟩ := PT
      simp only at TC F3
      go_wp2_with (go_at_call 56; fail)
      refine TC.out.mono ?_
      rintro e w10 ⟨p10, q10, rfl, ha10, hs10, hc10⟩
      have A10 := Bx.mk ha10
      have S10 := Bx.mk (S9.out.trans hs10)
      have SC := Bx.mk (symbols_calls w0 x r A l c m hm HG.out p10 q10 T1 T2 RT w10 ha10 hc10)
      clear ha10 hs10 hc10 TC A9 S9 C9 D9
      go_wp2_with (go_at_call 57; fail)
      refine SC.out.mono ?_
      rintro e w11 ⟨rfl, ha11, hs11⟩
      have A11 := Bx.mk ha11
      have S11 := Bx.mk (S10.out.trans hs11)
      clear ha11 hs11 SC A10 S10
      go_wp2
      go_ret
      exact ⟨_, rfl, by rw [F3.out]; exact A11.out, S11.out, fun hc => by rw [F2.out hc]⟩
    have hv2 : ((V2 : Int) == 2) = false := beq_false_of_ne (by omega)
    by_cases h1 : V2 = 1
    · have SC := Bx.mk (symbols_calls w0 x r A l c m hm HG.out _ _ fixLn fixDs (.ok s2) w9 A9.out (fun _ => ⟨C9.out, D9.out⟩))
      have F3 : Bx (RF.2 = (run (symsP m l fixLn fixDs K0) () (.ok s2)).2) := ⟨F1.out.trans (congrArg (fun v => (run (kindP m l v) () (.ok s2)).2) h1)⟩
      have hv1 : ((V2 : Int) == 1) = true := by rw [h1]; rfl
      clear F1
      go_wp2_with (go_at_call 57; fail)
      refine SC.out.mono ?_
      rintro e w11 ⟨rfl, ha11, hs11⟩
      have A11 := Bx.mk ha11
      have S11 := Bx.mk (S9.out.trans hs11)
      clear ha11 hs11 SC A9 S9
      go_wp2
      go_ret
      exact ⟨_, rfl, by rw [F3.out]; exact A11.out, S11.out, fun hc => by rw [F2.out hc]⟩
    have hv1 : ((V2 : Int) == 1) = false := beq_false_of_ne (by omega)
    have F3 : Bx (RF.2 = .error 110) := ⟨by rw [F1.out]; unfold kindP; rw [if_neg h0, if_neg h1, if_neg h2]; rfl⟩
    have FC := Bx.mk (fail_bool w0 x r A l c m 110 (by decide) true (bad 110) (.ok s2) w9 A9.out (fun s' _ => by unfold chk; rw [if_neg (by decide)]; rfl))
    clear F1
    go_wp2_with (go_at_call 58; fail)
    refine FC.out.mono ?_
    rintro e w10 ⟨rfl, ha10, hs10⟩
    have A10 := Bx.mk ha10
    have S10 := Bx.mk (S9.out.trans hs10)
    clear ha10 hs10 FC A9 S9
    go_wp2
    go_ret
    exact ⟨_, rfl, by rw [F3.out]; exact A10.out, S10.out, fun hc => by rw [F2.out hc]⟩
end Go.Proofs.YtoekecopfmohiaaDoor
