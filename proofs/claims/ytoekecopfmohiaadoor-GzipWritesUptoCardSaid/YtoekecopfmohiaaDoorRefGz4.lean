import Derived.Test.YtoekecopfmohiaaDoorRefGz3
/-
  The reference of deflate: Runs: its walk.
-/
namespace Go.Proofs.YtoekecopfmohiaaDoor
open Go.RowKit

set_option maxRecDepth 100000 in
set_option maxHeartbeats 8000000 in
theorem rRuns_calls (A : Option Addr) (b : List Nat) (c : Nat) (w : World) (hb : RB w A b) (hbl : b.length ≤ 20000) :
    Calls Tryd.prog 46 #[.slice A b.length c] w fun e w' => ∃ m v, Bts m (fN (wholeF copF b)) (fA (wholeF copF b)) ∧ e = .returned v ∧ OB w' w.heap.size v m ∧ Below w.heap.size w w' := by
  have HB := Bx.mk hb
  have WA := Bx.mk (whole_A b hb.1)
  obtain ⟨WH, hWH⟩ : ∃ x, x = wholeF copF b := ⟨_, rfl⟩
  rw [← hWH] at WA ⊢
  have HWH : Bx (WH = [(3, 3)] ++ (runsF copF (b.length + 1) (b.drop 0) ++ [litF 256])) := ⟨by rw [hWH]; rfl⟩
  have YF := Bx.mk (yFixed_calls w)
  clear hb hWH
  go_enter Tryd.func46, Tryd.ntmps46
  go_wp2_with (go_at_call 76; fail)
  refine YF.out.mono ?_
  rintro e w1 ⟨v1, rfl, ho1, hb1⟩
  obtain ⟨A1, c1, hv1⟩ := ho1.form
  rw [zl_length, fixLn_len] at hv1
  subst hv1
  have B1 := Bx.mk hb1
  have WC := Words_calls A1 fixLn c1 w1 ho1.ir (by rw [fixLn_len]; decide) (by decide +kernel) fixLn_ok.2.2.1
  rw [fixLn_len] at WC
  have WCB := Bx.mk WC
  clear ho1 hb1 YF WC
  go_wp2_with (go_at_call 75; fail)
  refine WCB.out.mono ?_
  rintro e W2 ⟨q, rfl, hWO, -, hb2⟩
  have HWO := Bx.mk hWO
  have B2 := Bx.mk (below_then B1.out B1.out.size hb2)
  have HB2 := Bx.mk (HB.out.below B2.out)
  have S0 := Bx.mk (sr_head W2)
  clear hWO hb2 WCB B1
  go_wp2
  generalize W2.alloc (.cells #[.int .i64 1, .int .i64 1, .int .i64 0] 3) = w3 at *
  generalize hv3 : Value.slice (some ⟨W2.heap.size, 0, none⟩) 3 3 = v3 at *
  clear hv3
  go_loopw [4, 5] (fun s4 s5 wr => ∃ (i K : Nat) (fs : List Fd), i ≤ b.length ∧ b.length < i + K ∧ s5 = .int .i64 (i : Nat) ∧ Bx (Sr W2 s4 fs wr) ∧ Bx (WH = fs ++ (runsF copF K (b.drop i) ++ [litF 256]))) (fun _ s5 _ => b.length - (intOf s5).toNat)
  case atStart => exact ⟨0, b.length + 1, [(3, 3)], Nat.zero_le _, by omega, rfl, S0, HWH⟩
  case round =>
    obtain ⟨i, K, fs, hi, hiK, rfl, SQ, FQ⟩ := hrel
    clear S0 HWH
    by_cases hlt : i < b.length
    · obtain ⟨K', rfl⟩ : ∃ K', K = K' + 1 := ⟨K - 1, by omega⟩
      obtain ⟨R, hR⟩ : ∃ R, R = b.drop i := ⟨_, rfl⟩
      have hRl : R.length = b.length - i := by rw [hR, List.length_drop]
      have hRg : ∀ j, R.getD j 0 = b.getD (i + j) 0 := fun j => by rw [hR, List.getD_eq_getElem?_getD, List.getElem?_drop, ← List.getD_eq_getElem?_getD]
      have hRb : ∀ x ∈ R, x < 256 := by rw [hR]; exact fun x hx => HB.out.1 x (List.mem_of_mem_drop hx)
      have F2 : WH = fs ++ (copF (R.getD 0 0) (runN R) ++ (runsF copF K' (b.drop (i + runN R)) ++ [litF 256])) := by rw [FQ.out, ← hR, runsF_step copF K' R (by omega), List.append_assoc, hR, List.drop_drop]
      have hRL := runN_le R
      have hRP := runN_pos (l := R) (by omega)
      have RA := Bx.mk (fun j (h : j < runN R) => runN_all R j h)
      have RS := Bx.mk (runN_stop R)
      have hX := mem_getD (show 0 < R.length by omega) hRb
      obtain ⟨ad, rfl, hcell⟩ := HB2.out.2.2 (by omega)
      have HCL : Bx (∀ W, Below W2.heap.size W2 W → ∀ j, i + j < b.length → W.cell? (ad.add (i + j)) = some (.int .u8 ((R.getD j 0 : Nat) : Int))) := ⟨fun W hW j hj => by rw [hRg]; exact cell_below hW (hcell (i + j) hj)⟩
      have HF2 := Bx.mk F2
      have HRB := Bx.mk hRb
      clear hcell F2 hRb hRg hR FQ
      have HX0 : Bx (R.getD 0 0 < 256) := ⟨hX⟩
      obtain ⟨X, hXe⟩ : ∃ X, X = R.getD 0 0 := ⟨_, rfl⟩
      rw [← hXe] at hX HF2 HX0 RA RS
      generalize hN : runN R = N at *
      clear hN
      have HXE := Bx.mk hXe
      clear hXe
      have hxi : (i : Int) < (b.length : Int) := by omega
      go_wp2
      go_loopw [6] (fun s6 wq => ∃ k p : Nat, 1 ≤ k ∧ k ≤ N ∧ s6 = .int .i64 (k : Nat) ∧ wq = wr.drewN p) (fun s6 _ => N - (intOf s6).toNat)
      case atStart => exact ⟨1, 0, Nat.le_refl _, hRP, rfl, rfl⟩
      case round =>
        obtain ⟨k, p, hk1, hkN, rfl, rfl⟩ := hrel
        have SP := Bx.mk (SQ.out.drewN p)
        have ci : wr.cell? (ad.add i) = some (.int .u8 (X : Int)) := by rw [HXE.out]; exact HCL.out _ SQ.out.be 0 (by omega)
        have hik : IntKind.i64.wrap ((i : Int) + (k : Int)) = ((i + k : Nat) : Int) := by rw [IntWalk.i64_in _ (by omega)]; omega
        by_cases hkN2 : k < N
        · have ck : wr.cell? (ad.add (i + k)) = some (.int .u8 (X : Int)) := by have := HCL.out _ SQ.out.be k (by omega); rw [RA.out k hkN2] at this; exact this
          obtain ⟨IK, hIK⟩ : ∃ IK, IK = i + k := ⟨_, rfl⟩
          rw [← hIK] at ck hik
          have hIl : IK < b.length := by omega
          have hIi : (IK : Int) < (b.length : Int) := by omega
          clear hIK
          go_wp2
          go_quiet (fail)
          go_wp2
          go_roundw
          case rel => exact ⟨k + 1, _, by omega, by omega, by go_num, rfl⟩
          case measure => simp [intOf]; omega
        · obtain rfl : k = N := by omega
          have HN0 := Bx.mk hk1
          obtain ⟨wA, cA, HWC⟩ := word_cell HWO.out X (by omega)
          have HWD := Bx.mk HWC
          clear HWC
          have BL := Bx.mk (Bd.lit X (by omega))
          have HLN : Bx ((wordF fixLn X).length ≤ 9) := ⟨word_len X (by omega)⟩
          have hfs : fA fs ≤ 9 * b.length + 10 := by have h1 := WA.out; rw [HF2.out, fA_app] at h1; omega
          have HFS := Bx.mk hfs
          clear hfs
          generalize wordF fixLn X = WX at *
          have hXi : (X : Int) < 288 := by omega
          have cw : wr.cell? ⟨q, X, none⟩ = some (.slice wA WX.length cA) := (HWD.out wr SQ.out.be).1
          have hlen : (fA fs + WX.length) * 8 ≤ 140737492549632 := by have := HFS.out; have := HLN.out; omega
          obtain ⟨L0, hL0⟩ : ∃ L0, L0 = k - 1 := ⟨_, rfl⟩
          have hkm : IntKind.i64.wrap ((k : Int) - 1) = (L0 : Int) := by rw [IntWalk.i64_in _ (by omega)]; omega
          have HLZ := Bx.mk hL0
          clear hL0
          obtain ⟨RST, hRST⟩ : ∃ x, x = runsF copF K' (b.drop (i + k)) ++ [litF 256] := ⟨_, rfl⟩
          rw [← hRST] at HF2
          have HRST := Bx.mk hRST
          clear hRST
          by_cases hIl : i + k < b.length
          case' pos =>
            have hne := RS.out (by omega)
            have ck : wr.cell? (ad.add (i + k)) = some (.int .u8 ((R.getD k 0 : Nat) : Int)) := HCL.out _ SQ.out.be k hIl
            generalize R.getD k 0 = Y at *
            have hneq : ((Y : Int) == (X : Int)) = false := beq_false_of_ne (by omega)
            obtain ⟨IK, hIK⟩ : ∃ IK, IK = i + k := ⟨_, rfl⟩
            rw [← hIK] at ck hik hIl
            have hIi : (IK : Int) < (b.length : Int) := by omega
            have HIK := Bx.mk hIK
            clear hIK hne
            go_wp2
            go_quiet (fail)
            go_wp2_with (first | (at_builtin; refine sr_app _ rfl (.tmp 38) (.tmp 45) rfl W2 _ fs [litF X] (SQ.out.drewN _) WX BL.out wA cA rfl rfl (HWD.out _ (below_drewN SQ.out.be _)).2 hlen ?_; intro v5 w5 hs5; have S5 := Bx.mk hs5; clear hs5) | fail)
          case' neg =>
            obtain ⟨IK, hIK⟩ : ∃ IK, IK = i + k := ⟨_, rfl⟩
            rw [← hIK] at hik hIl
            have hIi : decide ((IK : Int) < (b.length : Int)) = false := decide_eq_false (by omega)
            have HIK := Bx.mk hIK
            clear hIK
            go_wp2
            go_quiet (fail)
            go_wp2_with (first | (at_builtin; refine sr_app _ rfl (.tmp 38) (.tmp 45) rfl W2 _ fs [litF X] (SQ.out.drewN _) WX BL.out wA cA rfl rfl (HWD.out _ (below_drewN SQ.out.be _)).2 hlen ?_; intro v5 w5 hs5; have S5 := Bx.mk hs5; clear hs5) | fail)
          all_goals
            have HFA5 : Bx (WH = (fs ++ [litF X]) ++ (copG X k L0 ++ RST)) := ⟨by rw [HF2.out, HLZ.out]; simp [copF]⟩
            have HL0 : Bx (L0 + 1 = k) := ⟨by rw [HLZ.out]; have := HN0.out; omega⟩
            clear HF2 SQ SP hik HLZ
            go_loopw [4, 7] (fun s4 s7 wq => ∃ (lf K2 : Nat) (f2 : List Fd), lf ≤ L0 ∧ lf ≤ K2 ∧ s7 = .int .i64 (lf : Nat) ∧ Bx (Sr W2 s4 f2 wq) ∧ Bx (WH = f2 ++ (copG X K2 lf ++ RST))) (fun _ s7 _ => (intOf s7).toNat)
            case atStart => exact ⟨L0, k, _, Nat.le_refl _, by have := HL0.out; omega, rfl, S5, HFA5⟩
            case round =>
              obtain ⟨lf, K2, f2, hlf, hlK, rfl, S2, F3⟩ := hrel
              clear S5 HFA5
              have hlf2 : lf ≤ 20000 := by have := HL0.out; omega
              have hf2 : fA f2 ≤ 9 * b.length + 10 := by have h1 := WA.out; rw [F3.out, fA_app] at h1; omega
              by_cases hl3 : 3 ≤ lf
              · obtain ⟨K3, rfl⟩ : ∃ K3, K2 = K3 + 1 := ⟨K2 - 1, by omega⟩
                have F4 := Bx.mk (F3.out.trans (by rw [copG_ge X K3 lf hl3, List.append_assoc, ← List.append_assoc]))
                have hl3i : (3 : Int) ≤ (lf : Int) := by omega
                have hk4 : (4 : Int) ≤ (k : Int) := by have := HL0.out; omega
                clear F3
                by_cases h258 : lf ≤ 258
                case' pos =>
                  have hmi : (lf : Int) ≤ 258 := by omega
                  have hm2 : decide ((258 : Int) < (lf : Int)) = false := decide_eq_false (by omega)
                  rw [Nat.min_eq_left h258] at F4
                  have hM3 : 3 ≤ lf := hl3
                  have hM258 : lf < 259 := by omega
                  go_wp2_with (go_at_call 77; fail)
                  refine (again_calls lf q wr (HWO.out.below S2.out.be) hM3 hM258).mono ?_
                  rintro e w7 ⟨v7, l7, hbd7, rfl, ho7, hb7⟩
                  obtain ⟨A7, c7, hv7⟩ := ho7.form
                  rw [zl_length] at hv7
                  subst hv7
                  have r7 := ho7.reads
                  rw [zl_length] at r7
                  have R7 := Bx.mk r7
                  have S7 := Bx.mk (S2.out.below hb7)
                  have BL7 := Bx.mk hbd7
                  have hll7 := cpy_len hbd7 hM3 hM258
                  have hlen7 : (fA f2 + l7.length) * 8 ≤ 140737492549632 := by omega
                  clear ho7 hb7 hbd7 r7 S2
                  go_wp2_with (first | (at_builtin; refine sr_app w7 rfl (.tmp 57) (.tmp 60) rfl W2 _ f2 (cpyF (atN lf) lf) S7.out l7 BL7.out A7 c7 rfl rfl R7.out hlen7 ?_; intro v8 w8 hs8; have S8 := Bx.mk hs8; clear hs8 S7) | fail)
                  go_roundw
                  case rel => exact ⟨0, K3, _, by omega, by omega, by go_num, S8, ⟨by rw [F4.out, Nat.sub_self]⟩⟩
                  case measure => simp [intOf]; omega
                case' neg =>
                  have hmi : decide ((lf : Int) ≤ 258) = false := decide_eq_false (by omega)
                  have hm2 : (258 : Int) < (lf : Int) := by omega
                  rw [Nat.min_eq_right (by omega)] at F4
                  have hM3 : 3 ≤ 258 := by decide
                  have hM258 : 258 < 259 := by decide
                  have hsb : IntKind.i64.wrap ((lf : Int) - 258) = ((lf - 258 : Nat) : Int) := by rw [IntWalk.i64_in _ (by omega)]; omega
                  go_wp2_with (go_at_call 77; fail)
                  refine (again_calls 258 q wr (HWO.out.below S2.out.be) hM3 hM258).mono ?_
                  rintro e w7 ⟨v7, l7, hbd7, rfl, ho7, hb7⟩
                  obtain ⟨A7, c7, hv7⟩ := ho7.form
                  rw [zl_length] at hv7
                  subst hv7
                  have r7 := ho7.reads
                  rw [zl_length] at r7
                  have R7 := Bx.mk r7
                  have S7 := Bx.mk (S2.out.below hb7)
                  have BL7 := Bx.mk hbd7
                  have hll7 := cpy_len hbd7 hM3 hM258
                  have hlen7 : (fA f2 + l7.length) * 8 ≤ 140737492549632 := by omega
                  clear ho7 hb7 hbd7 r7 S2
                  go_wp2_with (first | (at_builtin; refine sr_app w7 rfl (.tmp 57) (.tmp 60) rfl W2 _ f2 (cpyF (atN 258) 258) S7.out l7 BL7.out A7 c7 rfl rfl R7.out hlen7 ?_; intro v8 w8 hs8; have S8 := Bx.mk hs8; clear hs8 S7) | fail)
                  go_roundw
                  case rel => exact ⟨lf - 258, K3, _, by omega, by omega, by go_num, S8, F4⟩
                  case measure => simp [intOf]; omega
              · have hl3i : decide ((3 : Int) ≤ (lf : Int)) = false := decide_eq_false (by omega)
                have F4 : Bx (WH = f2 ++ (List.replicate (lf - 0) (litF X) ++ RST)) := ⟨by rw [F3.out, copG_lt X K2 lf (by omega), Nat.sub_zero]⟩
                clear F3
                by_cases hk4 : 4 ≤ k
                case' pos =>
                  have hk4i : (4 : Int) ≤ (k : Int) := by omega
                  go_wp2
                case' neg =>
                  have hk4i : decide ((4 : Int) ≤ (k : Int)) = false := decide_eq_false (by omega)
                  go_wp2
                all_goals
                  clear hk4i hk4
                  go_loopw [4, 9] (fun s4 s9 wq => ∃ (j : Nat) (f4 : List Fd), j ≤ lf ∧ s9 = .int .i64 (j : Nat) ∧ Bx (Sr W2 s4 f4 wq) ∧ Bx (WH = f4 ++ (List.replicate (lf - j) (litF X) ++ RST))) (fun _ s9 _ => lf - (intOf s9).toNat)
                  case atStart => exact ⟨0, f2, Nat.zero_le _, rfl, S2, F4⟩
                  case round =>
                    obtain ⟨j, f4, hj, rfl, S4, F5⟩ := hrel
                    clear S2 F4
                    by_cases hjl : j < lf
                    · have hji : (j : Int) < (lf : Int) := by omega
                      have hf4 : fA f4 ≤ 9 * b.length + 10 := by have h1 := WA.out; rw [F5.out, fA_app] at h1; omega
                      have hlen4 : (fA f4 + WX.length) * 8 ≤ 140737492549632 := by have := HLN.out; omega
                      have cw4 := (HWD.out wr S4.out.be).1
                      have RW4 := Bx.mk (HWD.out wr S4.out.be).2
                      have ci4 : wr.cell? (ad.add i) = some (.int .u8 (X : Int)) := by rw [HXE.out]; exact HCL.out _ S4.out.be 0 (by omega)
                      have F6 : Bx (WH = (f4 ++ [litF X]) ++ (List.replicate (lf - (j + 1)) (litF X) ++ RST)) := ⟨by rw [F5.out, show lf - j = lf - (j + 1) + 1 by omega, List.replicate_succ]; simp⟩
                      clear F5
                      go_wp2_with (first | (at_builtin; refine sr_app wr rfl (.tmp 70) (.tmp 77) rfl W2 _ f4 [litF X] S4.out WX BL.out wA cA rfl rfl RW4.out hlen4 ?_; intro v9 w9 hs9; have S9 := Bx.mk hs9; clear hs9 S4) | fail)
                      go_roundw
                      case rel => exact ⟨j + 1, _, by omega, by go_num, S9, F6⟩
                      case measure => simp [intOf]; omega
                    · obtain rfl : j = lf := by omega
                      have hji : decide ((j : Int) < (j : Int)) = false := decide_eq_false (by omega)
                      have hik2 : IntKind.i64.wrap ((i : Int) + (k : Int)) = (IK : Int) := by rw [IntWalk.i64_in _ (by omega), HIK.out]; omega
                      have F6 : Bx (WH = f4 ++ (runsF copF K' (b.drop IK) ++ [litF 256])) := ⟨by rw [F5.out, HRST.out, HIK.out, Nat.sub_self]; rfl⟩
                      have hIKl : IK ≤ b.length ∧ b.length < IK + K' ∧ i < IK := by have := HIK.out; omega
                      clear F5
                      go_wp2
                      go_roundw
                      case rel => exact ⟨IK, K', _, hIKl.1, hIKl.2.1, by go_num, S4, F6⟩
                      case measure => simp [intOf]; omega
    · obtain rfl : i = b.length := by omega
      have hfs : fA fs ≤ 9 * b.length + 10 := by have h1 := WA.out; rw [FQ.out, fA_app] at h1; omega
      have F6 : Bx (WH = fs ++ [litF 256]) := ⟨by rw [FQ.out, runsF_end copF K _ (by rw [List.length_drop]; omega)]; rfl⟩
      obtain ⟨wA, cA, HWC⟩ := word_cell HWO.out 256 (by decide)
      have cw := (HWC wr SQ.out.be).1
      have RW := Bx.mk (HWC wr SQ.out.be).2
      have BL := Bx.mk (Bd.lit 256 (by decide))
      have hwl := word_len 256 (by decide)
      generalize wordF fixLn 256 = WX at *
      have hlen : (fA fs + WX.length) * 8 ≤ 140737492549632 := by omega
      have hii : decide ((b.length : Int) < (b.length : Int)) = false := decide_eq_false (by omega)
      clear HWC FQ
      go_wp2_with (first | (at_builtin; refine sr_app wr rfl (.tmp 82) (.tmp 85) rfl W2 _ fs [litF 256] SQ.out WX BL.out wA cA rfl rfl RW.out hlen ?_; intro v9 w9 hs9; rw [← F6.out] at hs9; obtain ⟨l9, ho9, hbd9⟩ := hs9.own; obtain ⟨A9, c9, hv9⟩ := ho9.form; rw [zl_length] at hv9; subst hv9; have PC := Bx.mk (Pack_calls A9 l9 c9 w9 ho9.ir hbd9.bit (by rw [hbd9.len]; have := WA.out; omega)); have BD9 := Bx.mk hbd9; have B9 := Bx.mk (below_then B2.out B2.out.size hs9.be); clear hs9 ho9 hbd9) | (go_at_call 78; fail) | fail)
      refine PC.out.mono ?_
      rintro e w10 ⟨v10, m10, hbt, rfl, ho10, hb10⟩
      have H := Bx.mk (And.intro (BD9.out.bts hbt) (And.intro (ho10.le B9.out.size) (below_then B9.out B9.out.size hb10)))
      clear hbt ho10 hb10 PC
      go_wp2
      go_ret
      exact ⟨m10, _, H.out.1, rfl, H.out.2.1, H.out.2.2⟩
end Go.Proofs.YtoekecopfmohiaaDoor
