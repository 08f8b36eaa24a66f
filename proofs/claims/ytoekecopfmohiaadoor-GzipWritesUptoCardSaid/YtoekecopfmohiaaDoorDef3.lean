import Derived.Test.YtoekecopfmohiaaDoorDef2
/-
  The fixed code's writers: copies.
-/
namespace Go.Proofs.YtoekecopfmohiaaDoor
open Go.RowKit

theorem takeH' {ops : Array Oper} {Q : Exit → Act → World → Prop} {md : Region.Mode} {S : World → Prop} {P : Program} {i s : Nat} {oi : Oper} {v : Value} {fuel : Nat} {listed : Array Bool} {tmps : Array Value} {dfs : List Deferred} {w : World} (hi : ops[i]? = some oi) (hd : oi.dst = some s)
    (hs : Region.noSelect ops = true) (hf : Region.free md ops listed i = true) (hr : (Region.ready md ops listed).contains i = true)
    (hQ : ∀ c a w, Q (.panic c) (a.put oi.dst v) w → Q (.panic c) a w) (hy : YieldsIf P ops S oi v ⟨tmps, dfs⟩) (hS : S w)
    (h : wpAnyH P md ops Q S fuel (listed.setIfInBounds i true) ⟨tmps.setIfInBounds s v, dfs⟩ w) : wpAnyH P md ops Q S (fuel + 1) listed ⟨tmps, dfs⟩ w := takeH hi hd hs hf hr hQ hy hS h
theorem DStep.drew1 (w : World) : DStep w w.drew := ⟨fun _ _ _ _ h _ _ => h, Nat.le_refl _⟩
theorem Ev.drew {w0 w : World} {qc qw g : Nat} {fs : List Fd} (h : Ev w0 w qc qw g fs) : Ev w0 w.drew qc qw g fs := h.below (Below.refl _ _).drew
theorem copG_small (c left : Nat) (h : left < 3) : ∀ j, copG c j left = eachF c left
  | 0 => rfl
  | j + 1 => by simp only [copG]; rw [if_neg (by omega)]
theorem copG_step (c j left : Nat) (h : 3 ≤ left) : copG c (j + 1) left = cpyF (atN (min left 258)) (min left 258) ++ copG c j (left - min left 258) := by simp only [copG]; rw [if_pos h]
theorem atG_le (k : Nat) : ∀ a, atG k a ≤ a
  | 0 => Nat.le_refl _
  | a + 1 => by
    simp only [atG]
    split
    · exact Nat.le_succ_of_le (atG_le k a)
    · exact Nat.le_refl _
/-- the loop's step -/
theorem atG_go (k a : Nat) (hk : 3 ≤ k) (ha : a ≤ 28) : (k < LB.getD a 0 → 1 ≤ a ∧ atG k a = atG k (a - 1)) ∧ (a = 28 → k < 258 → atG k a = atG k (a - 1)) ∧ (¬ k < LB.getD a 0 → ¬ (a = 28 ∧ k < 258) → atG k a = a) := by
  cases a with
  | zero => exact ⟨fun h => absurd h (by show ¬ k < 3; omega), fun h => by omega, fun _ _ => rfl⟩
  | succ a =>
    refine ⟨fun h => ⟨by omega, ?_⟩, fun h1 h2 => ?_, fun h1 h2 => ?_⟩
    · simp only [atG]; rw [if_pos (.inl h)]; rfl
    · simp only [atG]; rw [if_pos (.inr ⟨h1, h2⟩)]; rfl
    · simp only [atG]; rw [if_neg (fun h => h.elim h1 h2)]
set_option maxRecDepth 100000 in
set_option maxHeartbeats 8000000 in
theorem copies_calls (w0 : World) (hg : Gf w0) (qc qw g : Nat) (fs : List Fd) (c n : Nat) (w : World) (h : Ev w0 w qc qw g fs) (hc : c < 256) (hn : 1 ≤ n) (ha : fA fs + 9 * n ≤ 1125899906800000) :
    Calls Tryd.prog 31 #[pv qc qw, .pointer (some ⟨g, 0, none⟩), .int .u8 (c : Int), .int .i64 (n : Int)] w fun e w' => e = .returned (.tuple #[]) ∧ Ev w0 w' qc qw g (fs ++ copF c n) ∧ DStep w w' := by
  have HG := Bx.mk hg
  have PC := Bx.mk (fun fs' s W h' hs ha' => put_calls w0 qc qw g fs' s W h' hs ha')
  have PP := Bx.mk (fun fs' v b W h' hb hv ha' => ev_put w0 qc qw g fs' v b W h' hb hv ha')
  have EC := Bx.mk (fun fs' k W h' ha' => eachw_calls w0 qc qw g fs' c k W h' hc ha')
  have P1 := Bx.mk (PC.out fs c w h (by omega) (by omega))
  obtain ⟨WH, hWH⟩ : ∃ WH, WH = fs ++ copF c n := ⟨_, rfl⟩
  rw [← hWH]
  have HWH := Bx.mk hWH
  clear hWH h hg
  have hnl : n ≤ 1125899906800000 := by omega
  unfold pv at *
  go_enter Tryd.func31, Tryd.ntmps31
  go_wp2_with (go_at_call 60; fail)
  refine P1.out.mono ?_
  rintro e w1 ⟨rfl, h1, hd1⟩
  have H1 := Bx.mk h1; have D1 := Bx.mk hd1
  clear h1 hd1 P1
  have hw1 : IntKind.i64.wrap ((n : Int) - 1) = ((n - 1 : Nat) : Int) := by rw [IntWalk.i64_in _ (by omega)]; omega
  have F1 : Bx (WH = (fs ++ [litF c]) ++ copG c n (n - 1)) := ⟨by rw [HWH.out, copF, List.append_assoc]; rfl⟩
  have M1 : Bx (fA (fs ++ [litF c]) + 9 * (n - 1) ≤ 1125899906809000) := ⟨by rw [fA_app]; have := (litF_le c (by omega)).1; simp only [fA]; omega⟩
  clear HWH ha
  go_wp2
  go_loopw [8, 9, 10] (fun s8 _ _ wr => ∃ (left j : Nat) (fs' : List Fd), s8 = .int .i64 (left : Nat) ∧ left + 1 ≤ n ∧ left ≤ j ∧ Bx (Ev w0 wr qc qw g fs') ∧ Bx (DStep w wr) ∧ Bx (WH = fs' ++ copG c j left) ∧ Bx (fA fs' + 9 * left ≤ 1125899906809000)) (fun s8 _ _ _ => (intOf s8).toNat)
  case atStart => exact ⟨n - 1, n, _, rfl, by omega, by omega, H1, D1, F1, M1⟩
  case round =>
    obtain ⟨left, j, fs', rfl, hln, hlj, HQ, DQ, FQ, MQ⟩ := hrel
    clear H1 D1 F1 M1
    by_cases h3 : 3 ≤ left
    · obtain ⟨j', rfl⟩ : ∃ j', j = j' + 1 := ⟨j - 1, by omega⟩
      have F2 := Bx.mk (FQ.out.trans (by rw [copG_step c j' left h3]))
      have h4i : (4 : Int) ≤ (n : Int) := by omega
      have h3i : (3 : Int) ≤ (left : Int) := by omega
      clear FQ
      by_cases h258 : left ≤ 258
      · -- 'left' bytes
        have hmin : min left 258 = left := by omega
        rw [hmin] at F2
        obtain ⟨a1, a2, a3, a4, a5, a6⟩ := atN_ok left (by omega) (by omega)
        have HCA := Bx.mk (cpyF_A left (by omega) (by omega)).1
        have hleft : IntKind.i64.wrap ((left : Int) - (left : Int)) = ((0 : Nat) : Int) := by rw [IntWalk.i64_in _ (by omega)]; omega
        go_wp2
        go_loop [10] (fun s10 => ∃ a : Nat, s10 = .int .i64 (a : Nat) ∧ a ≤ 28 ∧ Bx (atN left = atG left a)) (fun s10 => (intOf s10).toNat)
        case atStart => exact ⟨28, rfl, by omega, ⟨rfl⟩⟩
        case round =>
          obtain ⟨a, rfl, ha28, hat'⟩ := hrel
          have hat := hat'.out
          clear hat'
          have hgl : wr.cell? ⟨1, a * 2, none⟩ = some (.int .i64 ((LB.getD a 0 : Nat) : Int)) := cell_below HQ.out.be (HG.out.len a (by omega)).1
          have hai : (a : Int) < 29 := by omega
          obtain ⟨g1, g2, g3⟩ := atG_go left a (by omega) ha28
          have G1 := Bx.mk g1; have G2 := Bx.mk g2; have G3 := Bx.mk g3
          clear g1 g2 g3
          by_cases hlt : left < LB.getD a 0
          · obtain ⟨ha1, hae⟩ := G1.out hlt
            have hcmp : (left : Int) < ((LB.getD a 0 : Nat) : Int) := by omega
            have hdec : IntKind.i64.wrap ((a : Int) - 1) = ((a - 1 : Nat) : Int) := by rw [IntWalk.i64_in _ (by omega)]; omega
            have hat2 : Bx (atN left = atG left (a - 1)) := ⟨hat.trans hae⟩
            clear hat hae
            generalize LB.getD a 0 = B at *
            go_wp2
            go_round
            case rel => exact ⟨a - 1, rfl, by omega, hat2⟩
            case measure => simp [intOf]; omega
          · have hcmp : decide ((left : Int) < ((LB.getD a 0 : Nat) : Int)) = false := decide_eq_false (by omega)
            by_cases h28 : a = 28 ∧ left < 258
            · obtain ⟨rfl, hk8⟩ := h28
              have hae := G2.out rfl hk8
              have hat2 : Bx (atN left = atG left 27) := ⟨hat.trans hae⟩
              have hk8i : (left : Int) < 258 := by omega
              clear hat hae
              generalize LB.getD 28 0 = B at *
              go_wp2
              go_round
              case rel => exact ⟨27, rfl, by omega, hat2⟩
              case measure => simp [intOf]
            · have hae := hat.trans (G3.out hlt h28)
              have HAE := Bx.mk hae
              have hb1 : a < 29 := by omega
              rw [hae] at a1 a2 a3 a4 a5 a6
              have HCF : Bx (cpyF (atN left) left = [litF (257 + a)] ++ ([(left - LB.getD a 0, LX.getD a 0)] ++ [(0, 5)])) := ⟨by rw [hae]; rfl⟩
              have HL0 : Bx (∀ W, Below w0.heap.size w0 W → W.cell? ⟨1, a * 2, none⟩ = some (.int .i64 ((LB.getD a 0 : Nat) : Int))) := ⟨fun W hW => cell_below hW (HG.out.len a hb1).1⟩
              have HL1 : Bx (∀ W, Below w0.heap.size w0 W → W.cell? ⟨1, a * 2 + 1, none⟩ = some (.int .i64 ((LX.getD a 0 : Nat) : Int))) := ⟨fun W hW => cell_below hW (HG.out.len a hb1).2⟩
              have HA29 := Bx.mk hai
              have hne : ¬ (a = 28 ∧ left < 258) := h28
              clear hae hat G1 G2 G3 h28
              generalize LB.getD a 0 = B at *
              generalize LX.getD a 0 = X at *
              have HSUB : Bx (IntKind.i64.wrap ((left : Int) - (B : Int)) = ((left - B : Nat) : Int)) := ⟨by rw [IntWalk.i64_in _ (by omega)]; omega⟩
              have hadd : IntKind.i64.wrap (257 + (a : Int)) = ((257 + a : Nat) : Int) := by rw [IntWalk.i64_in _ (by omega)]; omega
              by_cases h28 : a = 28
              all_goals
                first | (have hk8 : decide ((left : Int) < 258) = false := decide_eq_false (by omega); have hk7 : ((a : Int) == 28) = true := by rw [h28]; rfl) | (have hk7 : ((a : Int) == 28) = false := beq_false_of_ne (by omega))
                clear h28 hne
                go_wp2_with (go_at_call 60; fail)
                refine (PC.out fs' (257 + a) wr HQ.out (by omega) (by have := MQ.out; omega)).mono ?_
                rintro e w4 ⟨rfl, h4, hd4⟩
                have H4 := Bx.mk h4
                have D4 := Bx.mk (DQ.out.trans hd4)
                clear h4 hd4
                have M4 : Bx (fA (fs' ++ [litF (257 + a)]) ≤ fA fs' + 9) := ⟨by rw [fA_app]; have := (litF_le (257 + a) (by omega)).1; simp only [fA]; omega⟩
                have P5 := Bx.mk (PP.out (fs' ++ [litF (257 + a)]) (left - B) X w4.drew H4.out.drew (by omega) a3 (by have := MQ.out; have := M4.out; omega))
                go_wp2_with fail
                refine wp_region_noPanic ?_
                refine wp_region_held_drew (S := fun W => Below w0.heap.size w0 W) (by kernel_rfl) H4.out.be.drew (fun _ => ?_)
                refine takeH (i := 0) (v := ?_) rfl rfl (by kernel_rfl) (by kernel_rfl) (by kernel_rfl) (fun _ _ _ h => h) (Or.inl ⟨by rfl, ?_⟩) (by assumption) ?_
                rotate_left
                · (intro w hSw; have d0 := HL0.out w hSw; have d1 := HL1.out w hSw; have ha29 := HA29.out; have hsub := HSUB.out; go_simp; first | done | with_reducible rfl)
                simp only [List.setIfInBounds_toArray, List.set_cons_zero, List.set_cons_succ]
                refine takeH (i := 1) (v := ?_) rfl rfl (by kernel_rfl) (by kernel_rfl) (by kernel_rfl) (fun _ _ _ h => h) (Or.inl ⟨by rfl, ?_⟩) (by assumption) ?_
                rotate_left
                · (intro w hSw; have d0 := HL0.out w hSw; have d1 := HL1.out w hSw; have ha29 := HA29.out; have hsub := HSUB.out; go_simp; first | done | with_reducible rfl)
                simp only [List.setIfInBounds_toArray, List.set_cons_zero, List.set_cons_succ]
                refine takeH (i := 2) (v := ?_) rfl rfl (by kernel_rfl) (by kernel_rfl) (by kernel_rfl) (fun _ _ _ h => h) (Or.inl ⟨by rfl, ?_⟩) (by assumption) ?_
                rotate_left
                · (intro w hSw; have d0 := HL0.out w hSw; have d1 := HL1.out w hSw; have ha29 := HA29.out; have hsub := HSUB.out; go_simp; first | done | with_reducible rfl)
                simp only [List.setIfInBounds_toArray, List.set_cons_zero, List.set_cons_succ]
                refine takeH (i := 3) (v := ?_) rfl rfl (by kernel_rfl) (by kernel_rfl) (by kernel_rfl) (fun _ _ _ h => h) (Or.inl ⟨by rfl, ?_⟩) (by assumption) ?_
                rotate_left
                · (intro w hSw; have d0 := HL0.out w hSw; have d1 := HL1.out w hSw; have ha29 := HA29.out; have hsub := HSUB.out; go_simp; first | done | with_reducible rfl)
                simp only [List.setIfInBounds_toArray, List.set_cons_zero, List.set_cons_succ]
                refine takeH (i := 4) (v := ?_) rfl rfl (by kernel_rfl) (by kernel_rfl) (by kernel_rfl) (fun _ _ _ h => h) (Or.inl ⟨by rfl, ?_⟩) (by assumption) ?_
                rotate_left
                · (intro w hSw; have d0 := HL0.out w hSw; have d1 := HL1.out w hSw; have ha29 := HA29.out; have hsub := HSUB.out; go_simp; first | done | with_reducible rfl)
                simp only [List.setIfInBounds_toArray, List.set_cons_zero, List.set_cons_succ]
                refine takeH (i := 5) (v := ?_) rfl rfl (by kernel_rfl) (by kernel_rfl) (by kernel_rfl) (fun _ _ _ h => h) (Or.inl ⟨by rfl, ?_⟩) (by assumption) ?_
                rotate_left
                · (intro w hSw; have d0 := HL0.out w hSw; have d1 := HL1.out w hSw; have ha29 := HA29.out; have hsub := HSUB.out; go_simp; first | done | with_reducible rfl)
                simp only [List.setIfInBounds_toArray, List.set_cons_zero, List.set_cons_succ]
                refine takeH (i := 6) (v := ?_) rfl rfl (by kernel_rfl) (by kernel_rfl) (by kernel_rfl) (fun _ _ _ h => h) (Or.inl ⟨by rfl, ?_⟩) (by assumption) ?_
                rotate_left
                · (intro w hSw; have d0 := HL0.out w hSw; have d1 := HL1.out w hSw; have ha29 := HA29.out; have hsub := HSUB.out; go_simp; first | done | with_reducible rfl)
                simp only [List.setIfInBounds_toArray, List.set_cons_zero, List.set_cons_succ]
                refine takeH (i := 7) (v := ?_) rfl rfl (by kernel_rfl) (by kernel_rfl) (by kernel_rfl) (fun _ _ _ h => h) (Or.inl ⟨by rfl, ?_⟩) (by assumption) ?_
                rotate_left
                · (intro w hSw; have d0 := HL0.out w hSw; have d1 := HL1.out w hSw; have ha29 := HA29.out; have hsub := HSUB.out; go_simp; first | done | with_reducible rfl)
                simp only [List.setIfInBounds_toArray, List.set_cons_zero, List.set_cons_succ]
                refine takeH (i := 8) (v := ?_) rfl rfl (by kernel_rfl) (by kernel_rfl) (by kernel_rfl) (fun _ _ _ h => h) (Or.inl ⟨by rfl, ?_⟩) (by assumption) ?_
                rotate_left
                · (intro w hSw; have d0 := HL0.out w hSw; have d1 := HL1.out w hSw; have ha29 := HA29.out; have hsub := HSUB.out; go_simp; first | done | with_reducible rfl)
                simp only [List.setIfInBounds_toArray, List.set_cons_zero, List.set_cons_succ]
                refine takeH (i := 9) (v := ?_) rfl rfl (by kernel_rfl) (by kernel_rfl) (by kernel_rfl) (fun _ _ _ h => h) (Or.inl ⟨by rfl, ?_⟩) (by assumption) ?_
                rotate_left
                · (intro w hSw; have d0 := HL0.out w hSw; have d1 := HL1.out w hSw; have ha29 := HA29.out; have hsub := HSUB.out; go_simp; first | done | with_reducible rfl)
                simp only [List.setIfInBounds_toArray, List.set_cons_zero, List.set_cons_succ]
                refine takeH (i := 10) (v := ?_) rfl rfl (by kernel_rfl) (by kernel_rfl) (by kernel_rfl) (fun _ _ _ h => h) (Or.inl ⟨by rfl, ?_⟩) (by assumption) ?_
                rotate_left
                · (intro w hSw; have d0 := HL0.out w hSw; have d1 := HL1.out w hSw; have ha29 := HA29.out; have hsub := HSUB.out; go_simp; first | done | with_reducible rfl)
                simp only [List.setIfInBounds_toArray, List.set_cons_zero, List.set_cons_succ]
                refine wpAnyH_ready (rs := [11]) (by kernel_rfl) (by simp) ?_
                refine AllReadyH.cons rfl (fun K hK => ?_) AllReadyH.nil
                go_simp
                refine P5.out.mono ?_
                rintro e wN ⟨rfl, h5, hd5⟩
                rw [List.append_assoc] at h5
                have H5 := Bx.mk h5
                have D5 := Bx.mk (D4.out.trans ((DStep.drew1 w4).trans hd5))
                have S5 := h5.be
                clear h5 hd5 D4 P5
                go_wp2_with fail
                refine hK.out _ _ S5 (fun _ => ?_)
                clear hK K S5
                refine wpAnyH_done (by kernel_rfl) ?_ _
                refine NoPanic.normal ?_
                have M5 : Bx (fA (fs' ++ ([litF (257 + a)] ++ [(left - B, X)])) ≤ fA fs' + 18) := ⟨by rw [← List.append_assoc, fA_snoc]; have := M4.out; omega⟩
                go_wp2_with (go_at_call 33; fail)
                refine (PP.out _ 0 5 wN H5.out (by decide) (by decide) (by have := MQ.out; have := M5.out; omega)).mono ?_
                rintro e w6 ⟨rfl, h6, hd6⟩
                rw [List.append_assoc, List.append_assoc, ← HCF.out] at h6
                have H6 := Bx.mk h6
                have D6 := Bx.mk (D5.out.trans hd6)
                have F6 : Bx (WH = (fs' ++ cpyF (atN left) left) ++ copG c j' 0) := ⟨by rw [F2.out, List.append_assoc, Nat.sub_self]⟩
                have m6 : fA (fs' ++ cpyF (atN left) left) + 9 * 0 ≤ 1125899906809000 := by rw [fA_app]; have := MQ.out; have := HCA.out; omega
                have M6 := Bx.mk m6
                clear m6
                clear h6 hd6 H5 D5 M5 M4 H4
                go_wp2
                go_roundw
                case rel => exact ⟨0, j', _, rfl, by omega, by omega, H6, D6, F6, M6⟩
                case measure => simp [intOf]; omega
      · -- 258 bytes
        have hmin : min left 258 = 258 := by omega
        rw [hmin] at F2
        obtain ⟨a1, a2, a3, a4, a5, a6⟩ := atN_ok 258 (by omega) (by omega)
        have HCA := Bx.mk (cpyF_A 258 (by omega) (by omega)).1
        have hleft : IntKind.i64.wrap ((left : Int) - (258 : Int)) = (((left - 258) : Nat) : Int) := by rw [IntWalk.i64_in _ (by omega)]; omega
        go_wp2
        go_loop [10] (fun s10 => ∃ a : Nat, s10 = .int .i64 (a : Nat) ∧ a ≤ 28 ∧ Bx (atN 258 = atG 258 a)) (fun s10 => (intOf s10).toNat)
        case atStart => exact ⟨28, rfl, by omega, ⟨rfl⟩⟩
        case round =>
          obtain ⟨a, rfl, ha28, hat'⟩ := hrel
          have hat := hat'.out
          clear hat'
          have hgl : wr.cell? ⟨1, a * 2, none⟩ = some (.int .i64 ((LB.getD a 0 : Nat) : Int)) := cell_below HQ.out.be (HG.out.len a (by omega)).1
          have hai : (a : Int) < 29 := by omega
          obtain ⟨g1, g2, g3⟩ := atG_go 258 a (by omega) ha28
          have G1 := Bx.mk g1; have G2 := Bx.mk g2; have G3 := Bx.mk g3
          clear g1 g2 g3
          by_cases hlt : 258 < LB.getD a 0
          · obtain ⟨ha1, hae⟩ := G1.out hlt
            have hcmp : (258 : Int) < ((LB.getD a 0 : Nat) : Int) := by omega
            have hdec : IntKind.i64.wrap ((a : Int) - 1) = ((a - 1 : Nat) : Int) := by rw [IntWalk.i64_in _ (by omega)]; omega
            have hat2 : Bx (atN 258 = atG 258 (a - 1)) := ⟨hat.trans hae⟩
            clear hat hae
            generalize LB.getD a 0 = B at *
            go_wp2
            go_round
            case rel => exact ⟨a - 1, rfl, by omega, hat2⟩
            case measure => simp [intOf]; omega
          · have hcmp : decide ((258 : Int) < ((LB.getD a 0 : Nat) : Int)) = false := decide_eq_false (by omega)
            by_cases h28 : a = 28 ∧ 258 < 258
            · exact absurd h28.2 (by omega)
            · have hae := hat.trans (G3.out hlt h28)
              have HAE := Bx.mk hae
              have hb1 : a < 29 := by omega
              rw [hae] at a1 a2 a3 a4 a5 a6
              have HCF : Bx (cpyF (atN 258) 258 = [litF (257 + a)] ++ ([(258 - LB.getD a 0, LX.getD a 0)] ++ [(0, 5)])) := ⟨by rw [hae]; rfl⟩
              have HL0 : Bx (∀ W, Below w0.heap.size w0 W → W.cell? ⟨1, a * 2, none⟩ = some (.int .i64 ((LB.getD a 0 : Nat) : Int))) := ⟨fun W hW => cell_below hW (HG.out.len a hb1).1⟩
              have HL1 : Bx (∀ W, Below w0.heap.size w0 W → W.cell? ⟨1, a * 2 + 1, none⟩ = some (.int .i64 ((LX.getD a 0 : Nat) : Int))) := ⟨fun W hW => cell_below hW (HG.out.len a hb1).2⟩
              have HA29 := Bx.mk hai
              have hne : ¬ (a = 28 ∧ 258 < 258) := h28
              clear hae hat G1 G2 G3 h28
              generalize LB.getD a 0 = B at *
              generalize LX.getD a 0 = X at *
              have HSUB : Bx (IntKind.i64.wrap ((258 : Int) - (B : Int)) = ((258 - B : Nat) : Int)) := ⟨by rw [IntWalk.i64_in _ (by omega)]; omega⟩
              have hadd : IntKind.i64.wrap (257 + (a : Int)) = ((257 + a : Nat) : Int) := by rw [IntWalk.i64_in _ (by omega)]; omega
              by_cases h28 : a = 28
              all_goals
                first | (have hk8 : decide ((258 : Int) < 258) = false := decide_eq_false (by omega); have hk7 : ((a : Int) == 28) = true := by rw [h28]; rfl) | (have hk7 : ((a : Int) == 28) = false := beq_false_of_ne (by omega))
                clear h28 hne
                go_wp2_with (go_at_call 60; fail)
                refine (PC.out fs' (257 + a) wr HQ.out (by omega) (by have := MQ.out; omega)).mono ?_
                rintro e w4 ⟨rfl, h4, hd4⟩
                have H4 := Bx.mk h4
                have D4 := Bx.mk (DQ.out.trans hd4)
                clear h4 hd4
                have M4 : Bx (fA (fs' ++ [litF (257 + a)]) ≤ fA fs' + 9) := ⟨by rw [fA_app]; have := (litF_le (257 + a) (by omega)).1; simp only [fA]; omega⟩
                have P5 := Bx.mk (PP.out (fs' ++ [litF (257 + a)]) (258 - B) X w4.drew H4.out.drew (by omega) a3 (by have := MQ.out; have := M4.out; omega))
                go_wp2_with fail
                refine wp_region_noPanic ?_
                refine wp_region_held_drew (S := fun W => Below w0.heap.size w0 W) (by kernel_rfl) H4.out.be.drew (fun _ => ?_)
                refine takeH (i := 0) (v := ?_) rfl rfl (by kernel_rfl) (by kernel_rfl) (by kernel_rfl) (fun _ _ _ h => h) (Or.inl ⟨by rfl, ?_⟩) (by assumption) ?_
                rotate_left
                · (intro w hSw; have d0 := HL0.out w hSw; have d1 := HL1.out w hSw; have ha29 := HA29.out; have hsub := HSUB.out; go_simp; first | done | with_reducible rfl)
                simp only [List.setIfInBounds_toArray, List.set_cons_zero, List.set_cons_succ]
                refine takeH (i := 1) (v := ?_) rfl rfl (by kernel_rfl) (by kernel_rfl) (by kernel_rfl) (fun _ _ _ h => h) (Or.inl ⟨by rfl, ?_⟩) (by assumption) ?_
                rotate_left
                · (intro w hSw; have d0 := HL0.out w hSw; have d1 := HL1.out w hSw; have ha29 := HA29.out; have hsub := HSUB.out; go_simp; first | done | with_reducible rfl)
                simp only [List.setIfInBounds_toArray, List.set_cons_zero, List.set_cons_succ]
                refine takeH (i := 2) (v := ?_) rfl rfl (by kernel_rfl) (by kernel_rfl) (by kernel_rfl) (fun _ _ _ h => h) (Or.inl ⟨by rfl, ?_⟩) (by assumption) ?_
                rotate_left
                · (intro w hSw; have d0 := HL0.out w hSw; have d1 := HL1.out w hSw; have ha29 := HA29.out; have hsub := HSUB.out; go_simp; first | done | with_reducible rfl)
                simp only [List.setIfInBounds_toArray, List.set_cons_zero, List.set_cons_succ]
                refine takeH (i := 3) (v := ?_) rfl rfl (by kernel_rfl) (by kernel_rfl) (by kernel_rfl) (fun _ _ _ h => h) (Or.inl ⟨by rfl, ?_⟩) (by assumption) ?_
                rotate_left
                · (intro w hSw; have d0 := HL0.out w hSw; have d1 := HL1.out w hSw; have ha29 := HA29.out; have hsub := HSUB.out; go_simp; first | done | with_reducible rfl)
                simp only [List.setIfInBounds_toArray, List.set_cons_zero, List.set_cons_succ]
                refine takeH (i := 4) (v := ?_) rfl rfl (by kernel_rfl) (by kernel_rfl) (by kernel_rfl) (fun _ _ _ h => h) (Or.inl ⟨by rfl, ?_⟩) (by assumption) ?_
                rotate_left
                · (intro w hSw; have d0 := HL0.out w hSw; have d1 := HL1.out w hSw; have ha29 := HA29.out; have hsub := HSUB.out; go_simp; first | done | with_reducible rfl)
                simp only [List.setIfInBounds_toArray, List.set_cons_zero, List.set_cons_succ]
                refine takeH (i := 5) (v := ?_) rfl rfl (by kernel_rfl) (by kernel_rfl) (by kernel_rfl) (fun _ _ _ h => h) (Or.inl ⟨by rfl, ?_⟩) (by assumption) ?_
                rotate_left
                · (intro w hSw; have d0 := HL0.out w hSw; have d1 := HL1.out w hSw; have ha29 := HA29.out; have hsub := HSUB.out; go_simp; first | done | with_reducible rfl)
                simp only [List.setIfInBounds_toArray, List.set_cons_zero, List.set_cons_succ]
                refine takeH (i := 6) (v := ?_) rfl rfl (by kernel_rfl) (by kernel_rfl) (by kernel_rfl) (fun _ _ _ h => h) (Or.inl ⟨by rfl, ?_⟩) (by assumption) ?_
                rotate_left
                · (intro w hSw; have d0 := HL0.out w hSw; have d1 := HL1.out w hSw; have ha29 := HA29.out; have hsub := HSUB.out; go_simp; first | done | with_reducible rfl)
                simp only [List.setIfInBounds_toArray, List.set_cons_zero, List.set_cons_succ]
                refine takeH (i := 7) (v := ?_) rfl rfl (by kernel_rfl) (by kernel_rfl) (by kernel_rfl) (fun _ _ _ h => h) (Or.inl ⟨by rfl, ?_⟩) (by assumption) ?_
                rotate_left
                · (intro w hSw; have d0 := HL0.out w hSw; have d1 := HL1.out w hSw; have ha29 := HA29.out; have hsub := HSUB.out; go_simp; first | done | with_reducible rfl)
                simp only [List.setIfInBounds_toArray, List.set_cons_zero, List.set_cons_succ]
                refine takeH (i := 8) (v := ?_) rfl rfl (by kernel_rfl) (by kernel_rfl) (by kernel_rfl) (fun _ _ _ h => h) (Or.inl ⟨by rfl, ?_⟩) (by assumption) ?_
                rotate_left
                · (intro w hSw; have d0 := HL0.out w hSw; have d1 := HL1.out w hSw; have ha29 := HA29.out; have hsub := HSUB.out; go_simp; first | done | with_reducible rfl)
                simp only [List.setIfInBounds_toArray, List.set_cons_zero, List.set_cons_succ]
                refine takeH (i := 9) (v := ?_) rfl rfl (by kernel_rfl) (by kernel_rfl) (by kernel_rfl) (fun _ _ _ h => h) (Or.inl ⟨by rfl, ?_⟩) (by assumption) ?_
                rotate_left
                · (intro w hSw; have d0 := HL0.out w hSw; have d1 := HL1.out w hSw; have ha29 := HA29.out; have hsub := HSUB.out; go_simp; first | done | with_reducible rfl)
                simp only [List.setIfInBounds_toArray, List.set_cons_zero, List.set_cons_succ]
                refine takeH (i := 10) (v := ?_) rfl rfl (by kernel_rfl) (by kernel_rfl) (by kernel_rfl) (fun _ _ _ h => h) (Or.inl ⟨by rfl, ?_⟩) (by assumption) ?_
                rotate_left
                · (intro w hSw; have d0 := HL0.out w hSw; have d1 := HL1.out w hSw; have ha29 := HA29.out; have hsub := HSUB.out; go_simp; first | done | with_reducible rfl)
                simp only [List.setIfInBounds_toArray, List.set_cons_zero, List.set_cons_succ]
                refine wpAnyH_ready (rs := [11]) (by kernel_rfl) (by simp) ?_
                refine AllReadyH.cons rfl (fun K hK => ?_) AllReadyH.nil
                go_simp
                refine P5.out.mono ?_
                rintro e wN ⟨rfl, h5, hd5⟩
                rw [List.append_assoc] at h5
                have H5 := Bx.mk h5
                have D5 := Bx.mk (D4.out.trans ((DStep.drew1 w4).trans hd5))
                have S5 := h5.be
                clear h5 hd5 D4 P5
                go_wp2_with fail
                refine hK.out _ _ S5 (fun _ => ?_)
                clear hK K S5
                refine wpAnyH_done (by kernel_rfl) ?_ _
                refine NoPanic.normal ?_
                have M5 : Bx (fA (fs' ++ ([litF (257 + a)] ++ [(258 - B, X)])) ≤ fA fs' + 18) := ⟨by rw [← List.append_assoc, fA_snoc]; have := M4.out; omega⟩
                go_wp2_with (go_at_call 33; fail)
                refine (PP.out _ 0 5 wN H5.out (by decide) (by decide) (by have := MQ.out; have := M5.out; omega)).mono ?_
                rintro e w6 ⟨rfl, h6, hd6⟩
                rw [List.append_assoc, List.append_assoc, ← HCF.out] at h6
                have H6 := Bx.mk h6
                have D6 := Bx.mk (D5.out.trans hd6)
                have F6 : Bx (WH = (fs' ++ cpyF (atN 258) 258) ++ copG c j' (left - 258)) := ⟨by rw [F2.out, List.append_assoc]⟩
                have m6 : fA (fs' ++ cpyF (atN 258) 258) + 9 * (left - 258) ≤ 1125899906809000 := by rw [fA_app]; have := MQ.out; have := HCA.out; omega
                have M6 := Bx.mk m6
                clear m6
                clear h6 hd6 H5 D5 M5 M4 H4
                go_wp2
                go_roundw
                case rel => exact ⟨(left - 258), j', _, rfl, by omega, by omega, H6, D6, F6, M6⟩
                case measure => simp [intOf]; omega
    · have F2 := Bx.mk (FQ.out.trans (by rw [copG_small c left (by omega) j]))
      have E1 := Bx.mk (EC.out fs' left wr HQ.out MQ.out)
      have h3i : decide ((3 : Int) ≤ (left : Int)) = false := decide_eq_false (by omega)
      clear FQ
      by_cases h4 : 4 ≤ n
      all_goals
        first | (have h4i : (4 : Int) ≤ (n : Int) := by omega) | (have h4i : decide ((4 : Int) ≤ (n : Int)) = false := decide_eq_false (by omega))
        go_wp2_with (go_at_call 37; fail)
        refine E1.out.mono ?_
        rintro e w6 ⟨rfl, h6, hd6⟩
        rw [← F2.out] at h6
        have H6 := Bx.mk h6
        have D6 := Bx.mk (DQ.out.trans hd6)
        clear h6 hd6 E1
        go_wp2
        (try simp only [Exit.inBlock, Exit.then]); first | refine bodyPost_end (results_none rfl _ _ _) rfl ?_ | refine bodyPost_ret (results_none rfl _ _ _) rfl ?_
        exact ⟨rfl, H6.out, D6.out⟩
end Go.Proofs.YtoekecopfmohiaaDoor
