import Derived.Test.YtnncnjkpjlpodaaFlowReadSt
/-
  The law FlowReads: its walk.
-/
namespace Go.Proofs.Ytnncnjkpjlpodaa
open Go.RowKit

set_option maxRecDepth 100000 in
set_option maxHeartbeats 8000000 in
theorem FlowReads_calls (A : Option Addr) (l0 : List Nat) (c : Nat) (B : Option Addr) (L : List AV) (d0 : Nat) (w : World) (hl : RB w A l0) (hc0 : l0.length ≤ c) (hA : AR w B L) (hm : L.length ≤ 9223372036854775807) :
    Calls Try.prog 6 #[.slice A l0.length c, .slice B L.length d0] w fun e w' => e = .returned (.bool true) ∧ Below w.heap.size w w' := by
  have HL := Bx.mk hA
  have R0 := Bx.mk hl
  have hlen0 := hl.2.1
  clear hl hA
  go_enter Try.func6, Try.ntmps6
  go_upto_if 25 with fail
  go_cut [0] (fun s0 wx => wx = w ∧ ∃ (l : List Nat), s0 = .slice A l.length c ∧ l.length ≤ 3000 ∧ Bx (RB w A l))
  case first =>
    by_cases h3 : 3000 < l0.length
    · have ct := cut_to_bytes A l0.length c 3000 (by omega) hc0
      have hl3 : (l0.take 3000).length = 3000 := by rw [List.length_take]; omega
      have HL3 := Bx.mk hl3
      clear hl3
      go_wp2
      go_meet
      exact ⟨rfl, l0.take 3000, by rw [HL3.out], by rw [HL3.out]; exact Nat.le_refl _, ⟨R0.out.take 3000⟩⟩
    · go_wp2
      go_meet
      exact ⟨rfl, l0, rfl, by omega, R0⟩
  case rest =>
    obtain ⟨hw0, l, rfl, hl3, RL⟩ := hcut
    obtain rfl : w = wc := hw0.symm
    clear R0 hlen0 hc0
    have hbytes := RL.out.1
    have BY := Bx.mk hbytes
    clear hbytes
    go_wp2_with fail
    refine (Bytes_calls A l c w RL.out).mono ?_
    rintro e w1 ⟨v1, rfl, ho1, hb1⟩
    obtain ⟨A1, c1, rfl, hc1⟩ := ho1.form'
    have O1 := Bx.mk ho1
    have B1 := Bx.mk hb1
    clear ho1 hb1
    go_wp2_with fail
    refine (New_calls A1 l.length c1 w1).mono ?_
    rintro e w2 ⟨rfl, hw2⟩
    have D2 : Bx (Blk w2 w1.heap.size 60 #[.slice A1 l.length c1, .int .i64 ((0 : Nat) : Int), .bool true]) := ⟨by rw [hw2]; exact Blk.new _ _ _⟩
    have O2 : Bx (OB w2 w.heap.size (.slice A1 l.length c1) l) := ⟨by rw [hw2]; exact O1.out.below (below_alloc1 _ _)⟩
    have B2 : Bx (Below w.heap.size w w2) := ⟨by rw [hw2]; exact B1.out.alloc B1.out.size _⟩
    have hr : w.heap.size ≤ w1.heap.size := B1.out.size
    generalize w1.heap.size = r at D2 hr ⊢
    clear hw2 O1 B1
    go_wp2_with fail
    refine (Bits_calls A l c w2 (RL.out.below B2.out) (by omega)).mono ?_
    rintro e w3 ⟨v3, rfl, ho3, hb3⟩
    obtain ⟨A2, c2, hv3, hc2⟩ := ho3.form'
    have hz : (zl (bitsL l)).length = 8 * l.length := by rw [zl_length, bitsL_length]
    rw [hz] at hv3 hc2
    subst hv3
    have D3 := Bx.mk (D2.out.below hb3 D2.out.lt)
    have O3 := Bx.mk (O2.out.below hb3)
    have I3 := Bx.mk ho3
    have B3 := Bx.mk (below_then B2.out B2.out.size hb3)
    clear hz ho3 hb3 D2 O2 B2
    generalize w2.heap.size = b2 at I3
    have S4 : Bx (RSt w r w3.heap.size w.heap.size b2 A1 A2 c1 c2 l 0 0 (w3.alloc (.cells #[.slice A2 (8 * l.length) c2, .int .i64 ((0 : Nat) : Int)] 53))) :=
      ⟨⟨D3.out.alloc _, Blk.new _ _ _, O3.out.below (below_alloc1 _ _), I3.out.below (below_alloc1 _ _), B3.out.alloc B3.out.size _⟩⟩
    have hy : w.heap.size ≤ w3.heap.size := B3.out.size
    clear D3 O3 I3 B3
    go_wp2
    generalize w3.heap.size = y at S4 hy ⊢
    generalize w3.alloc (.cells #[.slice A2 (8 * l.length) c2, .int .i64 0] 53) = w4 at S4 ⊢
    go_loopw [8] (fun i wr => ∃ (k a : Nat), k ≤ L.length ∧ i = .int .i64 (k : Nat) ∧ a ≤ 8 * l.length ∧ Bx (RSt w r y w.heap.size b2 A1 A2 c1 c2 l a a wr)) (fun i _ => L.length - (intOf i).toNat)
    case atStart => exact ⟨0, 0, Nat.zero_le _, rfl, Nat.zero_le _, S4⟩
    case round =>
      obtain ⟨k, a, hk, rfl, ha, HS⟩ := hrel
      by_cases hlt : k < L.length ∧ k < 200
      · obtain ⟨hlt1, hlt2⟩ := hlt
        obtain ⟨ad, rfl, hd⟩ := (HL.out.below HS.out.be) (by omega)
        have hx := hd k _ (List.getElem?_eq_getElem hlt1)
        clear hd
        generalize L[k] = x at hx
        obtain ⟨d, n, m, D, len, cap, dl⟩ := x
        obtain ⟨k0, k1, k2, k3, nb, -, -, -, -, -⟩ := hx
        simp only at k0 k1 k2 k3 nb
        obtain ⟨nb1, nb2⟩ := nb
        have SA := Bx.mk (HS.out.below (below_alloc1 wr (.cells #[.int .i64 d, .int .i64 n, .int .i64 m, .slice D len cap] 28)))
        have AAA := Bx.mk (Blk.new wr 28 #[.int .i64 d, .int .i64 n, .int .i64 m, .slice D len cap])
        clear HS S4
        go_wp2_with fail
        refine (Among_calls d 6 _ (by decide) (by decide)).mono ?_
        rintro e w5 ⟨rfl, rfl⟩
        have hrlt := amg_lt d 6 (by decide)
        generalize amg d 6 = z at hrlt ⊢
        go_upto_block 2 with fail
        generalize (wr.alloc (.cells #[.int .i64 d, .int .i64 n, .int .i64 m, .slice D len cap] 28)) = wA at SA AAA ⊢
        have hqa : wr.heap.size ≠ r ∧ wr.heap.size ≠ y := ⟨fun h => (AAA.out.ne_ (h ▸ SA.out.rd) (by decide)) rfl, fun h => (AAA.out.ne_ (h ▸ SA.out.yd) (by decide)) rfl⟩
        generalize wr.heap.size = q at AAA hqa ⊢
        have hqr := hqa.1
        have hqy := hqa.2
        clear hqa
        go_cut [10] (fun s10 wx => s10 = .bool true ∧ ∃ x : Nat, x ≤ 8 * l.length ∧ Bx (RSt w r y w.heap.size b2 A1 A2 c1 c2 l x x wx))
        case first =>
          have d1 := AAA.out.cell 1
          simp at d1
          have RA1 := Bx.mk (SA.out.far BY.out (by omega) wA (Only.refl _ _))
          obtain h01 | rfl | rfl | rfl | rfl : (z = 0 ∨ z = 1) ∨ z = 2 ∨ z = 3 ∨ z = 4 ∨ z = 5 := by omega
          · have T1 := rTake_calls r A1 l c1 a n wA SA.out.rd RA1.out ha
            have T2 := fun W h1 h2 => yTake_calls y A2 l c2 a n W h1 BY.out h2 (by omega) ha hc2
            have hle := at_le (n := n) ha
            generalize (if skipE l.length a n = 0 then pkN l a n.toNat else 0) = V at T1 T2
            generalize (if skipE l.length a n = 0 then a + n.toNat else a) = x at T1 T2 hle
            generalize skipE l.length a n = E at T1 T2
            have TT1 := Bx.mk T1; have TT2 := Bx.mk T2
            clear T1 T2
            rcases h01 with rfl | rfl
            all_goals
              go_wp2_with fail
              refine TT1.out.mono ?_
              rintro e w6 ⟨rfl, h6, o6⟩
              have S6 := Bx.mk (SA.out.onlyR o6 hr h6)
              have d6 := (AAA.out.only o6 hqr).cell 1
              simp at d6
              clear h6 o6
              go_wp2_with fail
              refine (TT2.out w6 S6.out.yd S6.out.ir).mono ?_
              rintro e w7 ⟨rfl, h7, o7⟩
              have S7 := Bx.mk (S6.out.onlyY o7 hy h7)
              clear h7 o7
              go_wp2
              go_meet
              exact ⟨rfl, x, hle, S7⟩
          · have P1 := Bx.mk fun q => Calls.quiet_of (rPeek_calls r A1 l c1 a n (wA.drewN q) SA.out.rd RA1.out ha)
            have P2 := Bx.mk fun q => Calls.quiet_of (yPeek_calls y A2 l c2 a n (wA.drewN q) SA.out.yd BY.out (SA.out.ir wA (Only.refl _ _)) (by omega) ha hc2)
            generalize (if n < 0 ∨ 24 < n then 0 else pkN l a n.toNat) = V at P1 P2
            go_wp2
            go_quiet ((first | (go_at_call 25; with_reducible exact P1.out _) | (go_at_call 35; with_reducible exact P2.out _)))
            go_wp2
            go_meet
            exact ⟨rfl, a, ha, ⟨SA.out.below (below_drewN (Below.refl _ _) _)⟩⟩
          · have T1 := rSkip_calls r A1 l.length c1 a n wA SA.out.rd (by omega) ha
            have T2 := fun W h1 h2 => yTake_calls y A2 l c2 a n W h1 BY.out h2 (by omega) ha hc2
            have hle := at_le (n := n) ha
            generalize (if skipE l.length a n = 0 then pkN l a n.toNat else 0) = V at T1 T2
            generalize (if skipE l.length a n = 0 then a + n.toNat else a) = x at T1 T2 hle
            generalize skipE l.length a n = E at T1 T2
            have TT1 := Bx.mk T1; have TT2 := Bx.mk T2
            clear T1 T2
            go_wp2_with fail
            refine TT1.out.mono ?_
            rintro e w6 ⟨rfl, h6, o6⟩
            have S6 := Bx.mk (SA.out.onlyR o6 hr h6)
            have d6 := (AAA.out.only o6 hqr).cell 1
            simp at d6
            clear h6 o6
            go_wp2_with fail
            refine (TT2.out w6 S6.out.yd S6.out.ir).mono ?_
            rintro e w7 ⟨rfl, h7, o7⟩
            have S7 := Bx.mk (S6.out.onlyY o7 hy h7)
            clear h7 o7
            go_wp2
            go_meet
            exact ⟨rfl, x, hle, S7⟩
          · have T1 := rAlign_calls r _ a wA SA.out.rd (by omega)
            have T2 := fun W h1 => yAlign_calls y (.slice A2 (8 * l.length) c2) a W h1 (by omega)
            have hle : (a + 7) / 8 * 8 ≤ 8 * l.length := by omega
            generalize (a + 7) / 8 * 8 = x at T1 T2 hle
            have TT1 := Bx.mk T1; have TT2 := Bx.mk T2
            clear T1 T2 d1
            go_wp2_with fail
            refine TT1.out.mono ?_
            rintro e w6 ⟨rfl, h6, o6⟩
            have S6 := Bx.mk (SA.out.onlyR o6 hr h6)
            clear h6 o6
            go_wp2_with fail
            refine (TT2.out w6 S6.out.yd).mono ?_
            rintro e w7 ⟨rfl, h7, o7⟩
            have S7 := Bx.mk (S6.out.onlyY o7 hy h7)
            clear h7 o7
            go_wp2
            go_meet
            exact ⟨rfl, x, hle, S7⟩
          · by_cases hE : byE l.length a n = 0
            · obtain ⟨p, m', rfl, rfl, hpm⟩ := byE_ok ha hE
              have T1 := rBytes_yes r A1 l c1 p m' wA SA.out.rd RA1.out hc1 hpm (SA.out.far BY.out (by omega))
              have T2 := fun W h1 h2 => yBytes_yes y A2 l c2 p m' W h1 BY.out h2 (by omega) hc2 hpm
              have hle : 8 * (p + m') ≤ 8 * l.length := by omega
              have hM : (l.drop p).take m' = (l.drop p).take m' ∧ ∀ x ∈ (l.drop p).take m', x < 256 := ⟨rfl, fun x hx => BY.out x (List.mem_of_mem_drop (List.mem_of_mem_take hx))⟩
              have hM2 : ((l.drop p).take m').length ≤ 3000 := by rw [List.length_take, List.length_drop]; omega
              have MB := Bx.mk hM.2
              generalize (l.drop p).take m' = M at T1 T2 MB hM2
              generalize 8 * (p + m') = x at T1 T2 hle
              have TT1 := Bx.mk T1; have TT2 := Bx.mk T2
              clear T1 T2 hM hE
              go_wp2_with fail
              refine TT1.out.mono ?_
              rintro e w6 ⟨v6, rfl, ho6, h6, s6⟩
              obtain ⟨A6, c6, rfl⟩ := ho6.form
              have S6 := Bx.mk (SA.out.stepR s6 hr h6)
              have O6 := Bx.mk ho6
              have d6 := (s6.blk AAA.out hqr (by simp [Value.ownBlock])).1.cell 1
              simp at d6
              clear h6 s6 ho6
              go_wp2_with fail
              refine (TT2.out w6 S6.out.yd S6.out.ir).mono ?_
              rintro e w7 ⟨v7, rfl, ho7, h7, s7⟩
              obtain ⟨A7, c7, rfl⟩ := ho7.form
              have S7 := Bx.mk (S6.out.stepY s7 hy h7)
              have O7 : Bx (OB w7 wA.heap.size (.slice A6 M.length c6) M) := ⟨own_keep O6.out fun q hq => s7.keep q (own_block' O6.out q hq).2 (fun hc => own_blk_ne O6.out S6.out.yd (by decide) (by rw [hq, hc])) (by simp [Value.ownBlock])⟩
              have sm := SameBytes_calls A6 A7 M M c6 c7 w7 (O7.out.rb MB.out (by omega)) (ho7.rb MB.out (by omega))
              rw [decide_eq_true rfl] at sm
              have SM := Bx.mk sm
              clear h7 s7 ho7 sm O6
              go_wp2_with fail
              refine SM.out.mono ?_
              rintro e w8 ⟨rfl, q8, hw8⟩
              have S8 : Bx (RSt w r y w.heap.size b2 A1 A2 c1 c2 l x x w8) := ⟨by rw [hw8]; exact S7.out.below (below_drewN (Below.refl _ _) _)⟩
              have O8 : Bx (OB w8 wA.heap.size (.slice A6 M.length c6) M) := ⟨by rw [hw8]; exact O7.out⟩
              clear hw8 SM S7 O7
              go_wp2
              go_loopw [22] (fun i wr => ∃ (j : Nat) (lx : List Nat), j ≤ M.length ∧ i = .int .i64 (j : Nat) ∧ lx.length = M.length ∧ Bx (OB wr wA.heap.size (.slice A6 M.length c6) lx) ∧ Bx (Below wA.heap.size w8 wr)) (fun i _ => M.length - (intOf i).toNat)
              case atStart => exact ⟨0, M, Nat.zero_le _, rfl, rfl, O8, ⟨Below.refl _ _⟩⟩
              case round =>
                obtain ⟨j, lx, hj, rfl, hlx, HO9, HB9⟩ := hrel
                have HLX := Bx.mk hlx
                by_cases hjl : j < M.length
                · obtain ⟨ga, rfl, -, hga, -, hcell, hfz⟩ := HO9.out.opened (by omega)
                  have hcj := hcell j (by omega)
                  have hfj := hfz j
                  have HP := Bx.mk (HO9.out.put j 255)
                  have HBP := Bx.mk (HB9.out.setCell (p := ⟨ga, j, none⟩) hga (.int .u8 255))
                  clear hcell hfz hlx
                  generalize lx.getD j 0 = X at hcj
                  go_wp2
                  go_roundw
                  case rel => exact ⟨j + 1, lx.set j 255, by omega, by go_num, by rw [List.length_set]; exact HLX.out, HP, HBP⟩
                  case measure => simp [intOf]; omega
                · have S9 := Bx.mk (SA.out.belowB S8.out HB9.out)
                  clear hlx
                  go_wp2
                  go_meet
                  exact ⟨rfl, x, hle, S9⟩
            · have T1 := rBytes_no r A1 l.length c1 a n wA SA.out.rd (by omega) ha hE
              have T2 := fun W h1 => yBytes_no y A2 l.length c2 a n W h1 (by omega) ha hE
              generalize byE l.length a n = E at T1 T2
              have TT1 := Bx.mk T1; have TT2 := Bx.mk T2
              have SM : Bx (∀ W, Calls Try.prog 31 #[.slice none 0 0, .slice none 0 0] W fun e w' => e = .returned (.bool true) ∧ ∃ k, w' = W.drewN k) := ⟨fun W => SameBytes_calls none none [] [] 0 0 W (RB.nil _ _) (RB.nil _ _)⟩
              clear T1 T2 hE
              go_wp2_with fail
              refine TT1.out.mono ?_
              rintro e w6 ⟨rfl, q6, hw6⟩
              have S6 : Bx (RSt w r y w.heap.size b2 A1 A2 c1 c2 l a a w6) := ⟨by rw [hw6]; exact SA.out.below (below_drewN (Below.refl _ _) _)⟩
              have d6 : w6.cell? ⟨q, 1, none⟩ = some (.int .i64 n) := by rw [hw6]; exact d1
              clear hw6
              go_wp2_with fail
              refine (TT2.out w6 S6.out.yd).mono ?_
              rintro e w7 ⟨rfl, q7, hw7⟩
              have S7 : Bx (RSt w r y w.heap.size b2 A1 A2 c1 c2 l a a w7) := ⟨by rw [hw7]; exact S6.out.below (below_drewN (Below.refl _ _) _)⟩
              clear hw7 d6
              go_wp2_with fail
              refine (SM.out w7).mono ?_
              rintro e w8 ⟨rfl, q8, hw8⟩
              have S8 : Bx (RSt w r y w.heap.size b2 A1 A2 c1 c2 l a a w8) := ⟨by rw [hw8]; exact S7.out.below (below_drewN (Below.refl _ _) _)⟩
              clear hw8
              go_wp2
              go_loopw [22] (fun i wr => i = .int .i64 0 ∧ wr = w8) (fun i _ => 0)
              case atStart => exact ⟨rfl, rfl⟩
              case round =>
                obtain ⟨rfl, rfl⟩ := hrel
                go_wp2
                go_meet
                exact ⟨rfl, a, ha, S8⟩
        case rest =>
          obtain ⟨rfl, x, hx8, SX⟩ := hcut
          have P1 := Bx.mk fun q => Calls.quiet_of_same ((rAt_calls r _ x (wc.drewN q) SX.out.rd).mono fun e w' h => ⟨h.1, h.2.symm⟩)
          have P2 := Bx.mk fun q => Calls.quiet_of (rLeft_calls r A1 l.length c1 x (wc.drewN q) SX.out.rd (by omega) hx8)
          have e0 := SX.out.yd.cell 0
          have e1 := SX.out.yd.cell 1
          simp at e0 e1
          have hw : IntKind.i64.wrap (8 * (l.length : Int) - (x : Int)) = ((8 * l.length - x : Nat) : Int) := by rw [IntKind.wrap_i64]; omega
          generalize 8 * l.length - x = D9 at P2 hw
          clear SA AAA
          go_wp2
          go_quiet ((first | (go_at_call 22; with_reducible exact P1.out _) | (go_at_call 40; with_reducible exact P2.out _)))
          go_wp2
          go_roundw
          case rel => exact ⟨k + 1, x, by omega, by go_num, hx8, ⟨SX.out.below (below_drewN (Below.refl _ _) _)⟩⟩
          case measure => simp [intOf]; omega
      · have R1 := Bx.mk (HS.out.far BY.out (by omega) wr (Only.refl _ _))
        have sm := SameBytes_calls A1 A l l c1 c wr R1.out (RL.out.below HS.out.be)
        rw [decide_eq_true rfl] at sm
        have SM := Bx.mk sm
        have BE := Bx.mk HS.out.be
        have WORKS := Bx.mk fun W => works_calls W
        clear sm S4 HS
        by_cases hltk : k < L.length
        all_goals
          go_wp2_with fail
          refine SM.out.mono ?_
          rintro e w8 ⟨rfl, q8, hw8⟩
          have B8 : Bx (Below w.heap.size w w8) := ⟨by rw [hw8]; exact below_drewN BE.out q8⟩
          clear hw8
          go_wp2_with fail
          refine (WORKS.out w8).mono ?_
          rintro e w9 ⟨rfl, hb9⟩
          have B9 := Bx.mk (below_then B8.out B8.out.size hb9)
          clear hb9
          go_wp2
          go_ret
          exact ⟨rfl, B9.out⟩
end Go.Proofs.Ytnncnjkpjlpodaa
