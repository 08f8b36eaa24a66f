import Derived.Test.YtoekecopfmohiaaDoorDef4
/-
  Fixed and Runs: their walks.
-/
namespace Go.Proofs.YtoekecopfmohiaaDoor
open Go.RowKit

theorem copF_A' (c n : Nat) (hc : c < 256) (hn : 1 ≤ n) : fA (copF c n) ≤ 9 * n := (copF_A c n (by omega) hn).1
theorem eachF_A' (c n : Nat) (hc : c < 256) (_hn : 1 ≤ n) : fA (eachF c n) ≤ 9 * n := (eachF_A c n (by omega)).1
theorem runsF_step (RF : Nat → Nat → List Fd) (k : Nat) (b : List Nat) (h : 0 < b.length) : runsF RF (k + 1) b = RF (b.getD 0 0) (runN b) ++ runsF RF k (b.drop (runN b)) := by simp only [runsF]; rw [if_pos h]
theorem runsF_end (RF : Nat → Nat → List Fd) (k : Nat) (b : List Nat) (h : ¬ 0 < b.length) : runsF RF k b = [] := by
  cases k with
  | zero => rfl
  | succ k => simp only [runsF]; rw [if_neg h]
theorem Ev.set {w0 w : World} {qc qw g q : Nat} {fs : List Fd} {cs : Array Value} (h : Ev w0 w qc qw g fs) (hq : Blk w q 22 cs) (hb : w0.heap.size ≤ q) (u : Value) : Ev w0 (w.setCell ⟨q, 0, none⟩ u) qc qw g fs := by
  have key : ∀ (k : Nat) (cs' : Array Value) (t : TypeId), Blk w k t cs' → t ≠ 22 → Blk (w.setCell ⟨q, 0, none⟩ u) k t cs' := fun k cs' t hk ht => hk.far (hk.ne_ hq ht) u
  have keyI : ∀ (base : Nat) (v : Value) (l : List Int), OI w base v l → OI (w.setCell ⟨q, 0, none⟩ u) base v l := fun base v l ho =>
    ⟨ho.1, ho.2.imp id fun ⟨g, cap, cur, hv, hg, hh, r⟩ => ⟨g, cap, cur, hv, hg, key g cur 3 hh (by decide), r⟩⟩
  exact {
    bc := let ⟨gC, O, Ln, h1, h2⟩ := h.bc; ⟨gC, O, Ln, key _ _ _ h1 (by decide), ⟨key _ _ _ h2.blk (by decide), keyI _ _ _ h2.ord, h2.len.elim fun b hb => ⟨b, keyI _ _ _ hb⟩⟩⟩
    bw := key _ _ _ h.bw (by decide)
    wf := let ⟨v, hv⟩ := h.wf; ⟨v, hv.heap fun k hk => Below.heap_setCell w ⟨q, 0, none⟩ u k (by
      show k ≠ q
      rcases hk with rfl | hk
      · exact hv.blk.ne_ hq (by decide)
      · rintro rfl
        obtain ⟨l, -, ho⟩ := hv.own
        exact own_blk_ne ho hq (by decide) hk)⟩
    lg := h.lg
    be := h.be.setCell (p := ⟨q, 0, none⟩) hb u }
/-- what the region of the call reads -/
structure Sx (w W : World) (q2 qw g : Nat) (A : Option Addr) (n c : Nat) : Prop where
  bb : Blk W q2 22 #[.slice A n c]
  bw : Blk W qw 54 #[.pointer (some ⟨g, 0, none⟩)]
  bl : Below w.heap.size w W
theorem Sx.drew {w W : World} {q2 qw g : Nat} {A : Option Addr} {n c : Nat} (h : Sx w W q2 qw g A n c) : Sx w W.drew q2 qw g A n c := ⟨h.bb, h.bw, h.bl.drew⟩
set_option maxRecDepth 100000 in
set_option maxHeartbeats 2000000 in
theorem fixed_cop_calls (A : Option Addr) (b : List Nat) (c : Nat) (w : World) (hb : RB w A b) (hc : b.length ≤ c) (hg : Gf w) (hl : b.length ≤ 100000000000000) :
    Calls Tryd.prog 30 #[.slice A b.length c, .func (.func 31) #[] #[]] w fun e w' => ∃ l v', Bts l (fN (wholeF copF b)) (fA (wholeF copF b)) ∧ e = .returned v' ∧ OB w' w.heap.size v' l ∧ Below w.heap.size w w' := by
  have HB := Bx.mk hb
  have HG := Bx.mk hg
  obtain ⟨WH, hWH⟩ : ∃ WH, WH = wholeF copF b := ⟨_, rfl⟩
  rw [← hWH]
  have HWH := Bx.mk hWH
  clear hb hg hWH
  have B1 : Bx (Blk (w.alloc (.cells #[.slice A b.length c] 22)) w.heap.size 22 #[.slice A b.length c]) := ⟨Blk.new _ _ _⟩
  have L1 := Bx.mk (below_alloc1 w (.cells #[.slice A b.length c] 22))
  go_enter Tryd.func30, Tryd.ntmps30
  go_wp2_with (go_at_call 32; fail)
  have HQ : Bx (w.heap.size < (w.alloc (.cells #[.slice A b.length c] 22)).heap.size) := ⟨by simp⟩
  generalize w.alloc (.cells #[.slice A b.length c] 22) = w1 at *
  obtain ⟨q2, hq2⟩ : ∃ q2, q2 = w.heap.size := ⟨_, rfl⟩
  rw [← hq2] at B1 ⊢
  have LQ : Bx (w.heap.size ≤ q2) := ⟨by omega⟩
  rw [← hq2] at HQ
  clear hq2
  refine (Write_calls w1).mono ?_
  rintro e w2 ⟨rfl, hw2, hb2⟩
  obtain ⟨g, hgg⟩ : ∃ g, g = w1.heap.size := ⟨_, rfl⟩
  rw [← hgg] at hw2 ⊢
  have LG : Bx (w.heap.size ≤ g) := ⟨by rw [hgg]; exact L1.out.size⟩
  have hbl : Below w1.heap.size w1 w2 := by rw [hb2]; exact below_alloc1 _ _
  have L2 := Bx.mk (below_then L1.out L1.out.size hbl)
  have B2 := Bx.mk (B1.out.below hbl HQ.out)
  have W2 : Bx (WF w2 g []) := ⟨_, hw2⟩
  clear hw2 hb2 hgg hbl B1 L1 HQ
  go_wp2_with (go_at_call 53; fail)
  have hba := below_alloc1 w2 (.cells #[.pointer (some ⟨g, 0, none⟩)] 54)
  have QW : Bx (Blk (w2.alloc (.cells #[.pointer (some ⟨g, 0, none⟩)] 54)) w2.heap.size 54 #[.pointer (some ⟨g, 0, none⟩)]) := ⟨Blk.new _ _ _⟩
  have L3 := Bx.mk (below_then L2.out L2.out.size hba)
  have B3 := Bx.mk (B2.out.below hba B2.out.lt)
  have W3 := Bx.mk (W2.out.below hba)
  clear hba L2 B2 W2
  generalize w2.alloc (.cells #[.pointer (some ⟨g, 0, none⟩)] 54) = w3 at *
  generalize w2.heap.size = qw at *
  refine (Fixed_calls w3).mono ?_
  rintro e w4 ⟨v4, rfl, ho4, hb4⟩
  obtain ⟨A4, c4, rfl, -⟩ := ho4.form'
  rw [zl_length]
  have L4 := Bx.mk (below_then L3.out L3.out.size hb4)
  have B4 := Bx.mk (B3.out.below hb4 B3.out.lt)
  have W4 := Bx.mk (W3.out.below hb4)
  have QW4 := Bx.mk (QW.out.below hb4 QW.out.lt)
  have NC := Bx.mk (CNew_yes A4 fixL c4 w4 ho4.ir (by rw [fixL_Ln]; exact fixLn_ok))
  clear ho4 hb4 L3 B3 W3 QW
  go_wp2_with (go_at_call 52; fail)
  refine NC.out.mono ?_
  rintro e w5 ⟨gC, O5, Ln5, rfl, -, hC5, hb5⟩
  rw [fixL_Ln] at hC5
  have hba := below_then (below_then (Below.refl _ w4) (Nat.le_refl _) hb5) hb5.size (below_alloc1 w5 (.cells #[.pointer (some ⟨gC, 0, none⟩)] 77))
  have L6 := Bx.mk (below_then L4.out L4.out.size hba)
  have B6 := Bx.mk (B4.out.below hba B4.out.lt)
  have E6 : Bx (Ev w (w5.alloc (.cells #[.pointer (some ⟨gC, 0, none⟩)] 77)) w5.heap.size qw g []) := ⟨{
    bc := ⟨gC, O5, Ln5, Blk.new _ _ _, hC5.below (below_alloc1 _ _)⟩
    bw := QW4.out.below hba QW4.out.lt
    wf := W4.out.below hba
    lg := LG.out
    be := L6.out }⟩
  clear hba hb5 hC5 L4 B4 W4 QW4 NC L6
  have cw : (w5.alloc (.cells #[.pointer (some ⟨gC, 0, none⟩)] 77)).cell? ⟨qw, 0, none⟩ = some (.pointer (some ⟨g, 0, none⟩)) := E6.out.bw.cell 0
  go_wp2_with (go_at_call 33; fail)
  clear cw
  generalize w5.alloc (.cells #[.pointer (some ⟨gC, 0, none⟩)] 77) = w6 at *
  generalize w5.heap.size = qc at *
  refine (ev_put w qc qw g [] 3 3 w6 E6.out (by decide) (by decide) (by decide)).mono ?_
  rintro e w7 ⟨rfl, h7, hd7⟩
  have E7 : Bx (Ev w w7 qc qw g [(3, 3)]) := ⟨h7⟩
  have B7 := Bx.mk (B6.out.dstep hd7 (by decide) (by decide))
  clear h7 hd7 E6 B6
  go_wp2
  go_loopg [9] (b.length + 1) (fun k _ wr => ∃ (fs : List Fd) (A' : Option Addr) (R : List Nat) (c' : Nat), R.length ≤ c' ∧ R.length < k ∧ Bx (Blk wr q2 22 #[.slice A' R.length c']) ∧ Bx (Ev w wr qc qw g fs) ∧ Bx (RB w A' R) ∧ Bx (WH = fs ++ (runsF copF k R ++ [litF 256])) ∧ Bx (fA fs + 9 * R.length ≤ 900000000000010))
  case atStart => exact ⟨[(3, 3)], A, b, c, hc, Nat.lt_succ_self _, B7, E7, HB, ⟨HWH.out⟩, ⟨by simp only [fA]; omega⟩⟩
  case round =>
    obtain ⟨fs, A', R, c', hRc, hRk, BQ, EQ, RQ, FQ, MQ⟩ := hrel
    clear B7 E7 HB HWH
    obtain ⟨k', rfl⟩ : ∃ k', gk = k' + 1 := ⟨gk - 1, by omega⟩
    have c2 : wr.cell? ⟨q2, 0, none⟩ = some (.slice A' R.length c') := BQ.out.cell 0
    by_cases h0 : 0 < R.length
    · have h0i : (0 : Int) < (R.length : Int) := by omega
      have IC := Bx.mk (IndexB_calls q2 A' R c' wr BQ.out (RQ.out.below EQ.out.be) h0)
      have F2 := Bx.mk (FQ.out.trans (by rw [runsF_step copF k' R h0, List.append_assoc]))
      have hRL := runN_le R
      have hRP := runN_pos h0
      have HX0 := Bx.mk (mem_getD h0 RQ.out.1)
      have hA := copF_A' (R.getD 0 0) (runN R) HX0.out hRP
      have HFA := Bx.mk hA
      obtain ⟨ad, hAd, hcell⟩ := RQ.out.2.2 h0
      have HCL : Bx (∀ W, Below w.heap.size w W → W.cell? ad = some (.int .u8 ((R.getD 0 0 : Nat) : Int))) := ⟨fun W hW => by
        have := cell_below hW (hcell 0 h0)
        rwa [show ad.add 0 = ad from by simp [Addr.add]] at this⟩
      have HA0 : Bx (ad.add 0 = ad) := ⟨by simp [Addr.add]⟩
      have RD := Bx.mk (RQ.out.drop (runN R) c' hRc)
      obtain ⟨A2, hA2⟩ : ∃ A2, A2 = if c' = runN R then A' else A'.map (·.add (runN R)) := ⟨_, rfl⟩
      rw [← hA2] at RD
      obtain ⟨R2, hR2⟩ : ∃ R2, R2 = R.drop (runN R) := ⟨_, rfl⟩
      have hR2l : R2.length = R.length - runN R := by rw [hR2, List.length_drop]
      obtain ⟨C2, hC2⟩ : ∃ C2, C2 = c' - runN R := ⟨_, rfl⟩
      have HC2 : Bx (R2.length ≤ C2) := ⟨by omega⟩
      have k2 : ∀ W, (Instr.slice 22 (.slice A' R.length c') (some (.int .i64 ((runN R : Nat) : Int))) none none).run Tryd.prog W = .ok (.slice A2 R2.length C2) W := fun W => by
        rw [hA2, hR2l, hC2]; exact cut_from_bytes A' R.length c' (runN R) hRL W
      rw [← hR2] at RD F2
      have HR2 := Bx.mk hR2l
      have RC := Bx.mk (fun W (h : Ev w W qc qw g fs) => copies_calls w HG.out qc qw g fs (R.getD 0 0) (runN R) W h HX0.out hRP (by have := MQ.out; omega))
      clear hA hcell hA2 hR2 hR2l hC2 FQ
      subst hAd
      generalize R.getD 0 0 = X0 at *
      have hmn : fA (fs ++ copF X0 (runN R)) + 9 * R2.length ≤ 900000000000010 := by rw [fA_app, HR2.out]; have := MQ.out; have := HFA.out; omega
      have MN := Bx.mk hmn
      clear hmn
      by_cases hend : runN R < R.length
      case' pos =>
        rw [if_pos hend] at IC
        generalize runN R = M at *
        have hneg : decide ((M : Int) < 0) = false := decide_eq_false (by omega)
        go_wp2_with (go_at_call 62; fail)
      case' neg =>
        rw [if_neg hend] at IC
        generalize runN R = M at *
        obtain rfl : M = R.length := by omega
        go_wp2_with (go_at_call 62; fail)
      all_goals
        refine IC.out.mono ?_
        rintro e w1 ⟨rfl, rfl⟩
        go_wp2_with fail
        have S1d : Sx w wr.drew q2 qw g (some ad) R.length c' := ⟨BQ.out, EQ.out.bw, EQ.out.be.drew⟩
        have RC1 := Bx.mk (RC.out wr.drew EQ.out.drew)
        have H0I := Bx.mk h0i
        refine wp_region_noPanic ?_
        refine wp_region_held_drew (S := fun W => Sx w W q2 qw g (some ad) R.length c') (by kernel_rfl) S1d (fun _ => ?_)
        refine takeH (i := 0) (v := ?_) rfl rfl (by kernel_rfl) (by kernel_rfl) (by kernel_rfl) (fun _ _ _ h => h) (Or.inl ⟨by rfl, ?_⟩) (by assumption) ?_
        rotate_left
        · (intro w hSw; have d0 := hSw.bb.cell 0; have d1 := hSw.bw.cell 0; have d2 := HCL.out w hSw.bl; have ha0 := HA0.out; have h0i := H0I.out; go_simp; first | done | with_reducible rfl)
        simp only [List.setIfInBounds_toArray, List.set_cons_zero, List.set_cons_succ]
        refine takeH (i := 1) (v := ?_) rfl rfl (by kernel_rfl) (by kernel_rfl) (by kernel_rfl) (fun _ _ _ h => h) (Or.inl ⟨by rfl, ?_⟩) (by assumption) ?_
        rotate_left
        · (intro w hSw; have d0 := hSw.bb.cell 0; have d1 := hSw.bw.cell 0; have d2 := HCL.out w hSw.bl; have ha0 := HA0.out; have h0i := H0I.out; go_simp; first | done | with_reducible rfl)
        simp only [List.setIfInBounds_toArray, List.set_cons_zero, List.set_cons_succ]
        refine takeH (i := 2) (v := ?_) rfl rfl (by kernel_rfl) (by kernel_rfl) (by kernel_rfl) (fun _ _ _ h => h) (Or.inl ⟨by rfl, ?_⟩) (by assumption) ?_
        rotate_left
        · (intro w hSw; have d0 := hSw.bb.cell 0; have d1 := hSw.bw.cell 0; have d2 := HCL.out w hSw.bl; have ha0 := HA0.out; have h0i := H0I.out; go_simp; first | done | with_reducible rfl)
        simp only [List.setIfInBounds_toArray, List.set_cons_zero, List.set_cons_succ]
        refine takeH (i := 3) (v := ?_) rfl rfl (by kernel_rfl) (by kernel_rfl) (by kernel_rfl) (fun _ _ _ h => h) (Or.inl ⟨by rfl, ?_⟩) (by assumption) ?_
        rotate_left
        · (intro w hSw; have d0 := hSw.bb.cell 0; have d1 := hSw.bw.cell 0; have d2 := HCL.out w hSw.bl; have ha0 := HA0.out; have h0i := H0I.out; go_simp; first | done | with_reducible rfl)
        simp only [List.setIfInBounds_toArray, List.set_cons_zero, List.set_cons_succ]
        refine takeH (i := 4) (v := ?_) rfl rfl (by kernel_rfl) (by kernel_rfl) (by kernel_rfl) (fun _ _ _ h => h) (Or.inl ⟨by rfl, ?_⟩) (by assumption) ?_
        rotate_left
        · (intro w hSw; have d0 := hSw.bb.cell 0; have d1 := hSw.bw.cell 0; have d2 := HCL.out w hSw.bl; have ha0 := HA0.out; have h0i := H0I.out; go_simp; first | done | with_reducible rfl)
        simp only [List.setIfInBounds_toArray, List.set_cons_zero, List.set_cons_succ]
        refine takeH (i := 5) (v := ?_) rfl rfl (by kernel_rfl) (by kernel_rfl) (by kernel_rfl) (fun _ _ _ h => h) (Or.inl ⟨by rfl, ?_⟩) (by assumption) ?_
        rotate_left
        · (intro w hSw; have d0 := hSw.bb.cell 0; have d1 := hSw.bw.cell 0; have d2 := HCL.out w hSw.bl; have ha0 := HA0.out; have h0i := H0I.out; go_simp; first | done | with_reducible rfl)
        simp only [List.setIfInBounds_toArray, List.set_cons_zero, List.set_cons_succ]
        refine takeH (i := 6) (v := ?_) rfl rfl (by kernel_rfl) (by kernel_rfl) (by kernel_rfl) (fun _ _ _ h => h) (Or.inl ⟨by rfl, ?_⟩) (by assumption) ?_
        rotate_left
        · (intro w hSw; have d0 := hSw.bb.cell 0; have d1 := hSw.bw.cell 0; have d2 := HCL.out w hSw.bl; have ha0 := HA0.out; have h0i := H0I.out; go_simp; first | done | with_reducible rfl)
        simp only [List.setIfInBounds_toArray, List.set_cons_zero, List.set_cons_succ]
        refine wpAnyH_ready (rs := [7]) (by kernel_rfl) (by simp) ?_
        refine AllReadyH.cons rfl (fun K hK => ?_) AllReadyH.nil
        go_simp
        refine RC1.out.mono ?_
        rintro e wN ⟨rfl, h5, hd5⟩
        have E5 := Bx.mk h5
        have B5 := Bx.mk (BQ.out.dstep ((DStep.drew1 wr).trans hd5) (by decide) (by decide))
        have S5 : Sx w wN q2 qw g (some ad) R.length c' := ⟨B5.out, h5.bw, h5.be⟩
        clear h5 hd5 RC1 S1d
        go_wp2_with fail
        refine hK.out _ _ S5 (fun _ => ?_)
        clear hK K S5
        refine wpAnyH_done (by kernel_rfl) ?_ _
        refine NoPanic.normal ?_
        have cb : wN.cell? ⟨q2, 0, none⟩ = some (.slice (some ad) R.length c') := B5.out.cell 0
        have fb := B5.out.frozen 0
        have EN := Bx.mk (E5.out.set B5.out LQ.out (.slice A2 R2.length C2))
        have BN := Bx.mk (B5.out.set_ 0 (.slice A2 R2.length C2))
        have F6 := Bx.mk (F2.out.trans (List.append_assoc _ _ _).symm)
        have RK : Bx (R2.length < k') := ⟨by rw [HR2.out]; omega⟩
        have RD2 := Bx.mk RD.out
        go_wp2
        go_roundg k'
        case measure => omega
        case rel => exact ⟨_, A2, R2, C2, HC2.out, RK.out, BN, EN, RD2, F6, MN⟩
    · have F2 : Bx (WH = fs ++ [litF 256]) := ⟨by rw [FQ.out, runsF_end copF _ R h0]; rfl⟩
      have h0i : decide ((0 : Int) < (R.length : Int)) = false := decide_eq_false (by omega)
      have PC := Bx.mk (put_calls w qc qw g fs 256 wr EQ.out (by decide) (by have := MQ.out; omega))
      rw [← F2.out] at PC
      have MW : Bx (fA WH ≤ 1125899906809000) := ⟨by rw [F2.out, fA_app]; have := MQ.out; have := (litF_le 256 (by decide)).1; simp only [fA]; omega⟩
      clear FQ F2
      go_wp2_with (go_at_call 60; fail)
      refine PC.out.mono ?_
      rintro e w2 ⟨rfl, h2, hd2⟩
      have E2 := Bx.mk h2
      have cw : w2.cell? ⟨qw, 0, none⟩ = some (.pointer (some ⟨g, 0, none⟩)) := h2.bw.cell 0
      have AL := Bx.mk (all_fields g WH w2 h2.wf MW.out)
      clear h2 hd2 PC
      go_wp2_with (go_at_call 36; fail)
      refine AL.out.mono ?_
      rintro e w7 ⟨l7, v7, ht7, rfl, ho7, hb7⟩
      have T7 := Bx.mk ht7
      have O7 := Bx.mk (OB.le ho7 E2.out.be.size)
      have B7 := Bx.mk (below_then E2.out.be E2.out.be.size hb7)
      clear ht7 ho7 hb7 AL cw
      go_wp2
      go_ret
      exact ⟨l7, _, T7.out, rfl, O7.out, B7.out⟩
theorem flRuns_calls (A : Option Addr) (b : List Nat) (c : Nat) (w : World) (hb : RB w A b) (hc : b.length ≤ c) (hg : Gf w) (hl : b.length ≤ 100000000000000) :
    Calls Tryd.prog 17 #[.slice A b.length c] w fun e w' => ∃ l v', Bts l (fN (wholeF copF b)) (fA (wholeF copF b)) ∧ e = .returned v' ∧ OB w' w.heap.size v' l ∧ Below w.heap.size w w' := by
  have FC := Bx.mk (fixed_cop_calls A b c w hb hc hg hl)
  clear hb hg
  go_enter Tryd.func17, Tryd.ntmps17
  go_wp2_with (go_at_call 30; fail)
  refine FC.out.mono ?_
  rintro e w7 ⟨l7, v7, ht7, rfl, ho7, hb7⟩
  have T7 := Bx.mk ht7
  have O7 := Bx.mk ho7
  have B7 := Bx.mk hb7
  clear ht7 ho7 hb7 FC
  go_wp2
  go_ret
  exact ⟨l7, _, T7.out, rfl, O7.out, B7.out⟩
set_option maxRecDepth 100000 in
set_option maxHeartbeats 2000000 in
theorem fixed_each_calls (A : Option Addr) (b : List Nat) (c : Nat) (w : World) (hb : RB w A b) (hc : b.length ≤ c) (hg : Gf w) (hl : b.length ≤ 100000000000000) :
    Calls Tryd.prog 30 #[.slice A b.length c, .func (.func 37) #[] #[]] w fun e w' => ∃ l v', Bts l (fN (wholeF eachF b)) (fA (wholeF eachF b)) ∧ e = .returned v' ∧ OB w' w.heap.size v' l ∧ Below w.heap.size w w' := by
  have HB := Bx.mk hb
  have HG := Bx.mk hg
  obtain ⟨WH, hWH⟩ : ∃ WH, WH = wholeF eachF b := ⟨_, rfl⟩
  rw [← hWH]
  have HWH := Bx.mk hWH
  clear hb hg hWH
  have B1 : Bx (Blk (w.alloc (.cells #[.slice A b.length c] 22)) w.heap.size 22 #[.slice A b.length c]) := ⟨Blk.new _ _ _⟩
  have L1 := Bx.mk (below_alloc1 w (.cells #[.slice A b.length c] 22))
  go_enter Tryd.func30, Tryd.ntmps30
  go_wp2_with (go_at_call 32; fail)
  have HQ : Bx (w.heap.size < (w.alloc (.cells #[.slice A b.length c] 22)).heap.size) := ⟨by simp⟩
  generalize w.alloc (.cells #[.slice A b.length c] 22) = w1 at *
  obtain ⟨q2, hq2⟩ : ∃ q2, q2 = w.heap.size := ⟨_, rfl⟩
  rw [← hq2] at B1 ⊢
  have LQ : Bx (w.heap.size ≤ q2) := ⟨by omega⟩
  rw [← hq2] at HQ
  clear hq2
  refine (Write_calls w1).mono ?_
  rintro e w2 ⟨rfl, hw2, hb2⟩
  obtain ⟨g, hgg⟩ : ∃ g, g = w1.heap.size := ⟨_, rfl⟩
  rw [← hgg] at hw2 ⊢
  have LG : Bx (w.heap.size ≤ g) := ⟨by rw [hgg]; exact L1.out.size⟩
  have hbl : Below w1.heap.size w1 w2 := by rw [hb2]; exact below_alloc1 _ _
  have L2 := Bx.mk (below_then L1.out L1.out.size hbl)
  have B2 := Bx.mk (B1.out.below hbl HQ.out)
  have W2 : Bx (WF w2 g []) := ⟨_, hw2⟩
  clear hw2 hb2 hgg hbl B1 L1 HQ
  go_wp2_with (go_at_call 53; fail)
  have hba := below_alloc1 w2 (.cells #[.pointer (some ⟨g, 0, none⟩)] 54)
  have QW : Bx (Blk (w2.alloc (.cells #[.pointer (some ⟨g, 0, none⟩)] 54)) w2.heap.size 54 #[.pointer (some ⟨g, 0, none⟩)]) := ⟨Blk.new _ _ _⟩
  have L3 := Bx.mk (below_then L2.out L2.out.size hba)
  have B3 := Bx.mk (B2.out.below hba B2.out.lt)
  have W3 := Bx.mk (W2.out.below hba)
  clear hba L2 B2 W2
  generalize w2.alloc (.cells #[.pointer (some ⟨g, 0, none⟩)] 54) = w3 at *
  generalize w2.heap.size = qw at *
  refine (Fixed_calls w3).mono ?_
  rintro e w4 ⟨v4, rfl, ho4, hb4⟩
  obtain ⟨A4, c4, rfl, -⟩ := ho4.form'
  rw [zl_length]
  have L4 := Bx.mk (below_then L3.out L3.out.size hb4)
  have B4 := Bx.mk (B3.out.below hb4 B3.out.lt)
  have W4 := Bx.mk (W3.out.below hb4)
  have QW4 := Bx.mk (QW.out.below hb4 QW.out.lt)
  have NC := Bx.mk (CNew_yes A4 fixL c4 w4 ho4.ir (by rw [fixL_Ln]; exact fixLn_ok))
  clear ho4 hb4 L3 B3 W3 QW
  go_wp2_with (go_at_call 52; fail)
  refine NC.out.mono ?_
  rintro e w5 ⟨gC, O5, Ln5, rfl, -, hC5, hb5⟩
  rw [fixL_Ln] at hC5
  have hba := below_then (below_then (Below.refl _ w4) (Nat.le_refl _) hb5) hb5.size (below_alloc1 w5 (.cells #[.pointer (some ⟨gC, 0, none⟩)] 77))
  have L6 := Bx.mk (below_then L4.out L4.out.size hba)
  have B6 := Bx.mk (B4.out.below hba B4.out.lt)
  have E6 : Bx (Ev w (w5.alloc (.cells #[.pointer (some ⟨gC, 0, none⟩)] 77)) w5.heap.size qw g []) := ⟨{
    bc := ⟨gC, O5, Ln5, Blk.new _ _ _, hC5.below (below_alloc1 _ _)⟩
    bw := QW4.out.below hba QW4.out.lt
    wf := W4.out.below hba
    lg := LG.out
    be := L6.out }⟩
  clear hba hb5 hC5 L4 B4 W4 QW4 NC L6
  have cw : (w5.alloc (.cells #[.pointer (some ⟨gC, 0, none⟩)] 77)).cell? ⟨qw, 0, none⟩ = some (.pointer (some ⟨g, 0, none⟩)) := E6.out.bw.cell 0
  go_wp2_with (go_at_call 33; fail)
  clear cw
  generalize w5.alloc (.cells #[.pointer (some ⟨gC, 0, none⟩)] 77) = w6 at *
  generalize w5.heap.size = qc at *
  refine (ev_put w qc qw g [] 3 3 w6 E6.out (by decide) (by decide) (by decide)).mono ?_
  rintro e w7 ⟨rfl, h7, hd7⟩
  have E7 : Bx (Ev w w7 qc qw g [(3, 3)]) := ⟨h7⟩
  have B7 := Bx.mk (B6.out.dstep hd7 (by decide) (by decide))
  clear h7 hd7 E6 B6
  go_wp2
  go_loopg [9] (b.length + 1) (fun k _ wr => ∃ (fs : List Fd) (A' : Option Addr) (R : List Nat) (c' : Nat), R.length ≤ c' ∧ R.length < k ∧ Bx (Blk wr q2 22 #[.slice A' R.length c']) ∧ Bx (Ev w wr qc qw g fs) ∧ Bx (RB w A' R) ∧ Bx (WH = fs ++ (runsF eachF k R ++ [litF 256])) ∧ Bx (fA fs + 9 * R.length ≤ 900000000000010))
  case atStart => exact ⟨[(3, 3)], A, b, c, hc, Nat.lt_succ_self _, B7, E7, HB, ⟨HWH.out⟩, ⟨by simp only [fA]; omega⟩⟩
  case round =>
    obtain ⟨fs, A', R, c', hRc, hRk, BQ, EQ, RQ, FQ, MQ⟩ := hrel
    clear B7 E7 HB HWH
    obtain ⟨k', rfl⟩ : ∃ k', gk = k' + 1 := ⟨gk - 1, by omega⟩
    have c2 : wr.cell? ⟨q2, 0, none⟩ = some (.slice A' R.length c') := BQ.out.cell 0
    by_cases h0 : 0 < R.length
    · have h0i : (0 : Int) < (R.length : Int) := by omega
      have IC := Bx.mk (IndexB_calls q2 A' R c' wr BQ.out (RQ.out.below EQ.out.be) h0)
      have F2 := Bx.mk (FQ.out.trans (by rw [runsF_step eachF k' R h0, List.append_assoc]))
      have hRL := runN_le R
      have hRP := runN_pos h0
      have HX0 := Bx.mk (mem_getD h0 RQ.out.1)
      have hA := eachF_A' (R.getD 0 0) (runN R) HX0.out hRP
      have HFA := Bx.mk hA
      obtain ⟨ad, hAd, hcell⟩ := RQ.out.2.2 h0
      have HCL : Bx (∀ W, Below w.heap.size w W → W.cell? ad = some (.int .u8 ((R.getD 0 0 : Nat) : Int))) := ⟨fun W hW => by
        have := cell_below hW (hcell 0 h0)
        rwa [show ad.add 0 = ad from by simp [Addr.add]] at this⟩
      have HA0 : Bx (ad.add 0 = ad) := ⟨by simp [Addr.add]⟩
      have RD := Bx.mk (RQ.out.drop (runN R) c' hRc)
      obtain ⟨A2, hA2⟩ : ∃ A2, A2 = if c' = runN R then A' else A'.map (·.add (runN R)) := ⟨_, rfl⟩
      rw [← hA2] at RD
      obtain ⟨R2, hR2⟩ : ∃ R2, R2 = R.drop (runN R) := ⟨_, rfl⟩
      have hR2l : R2.length = R.length - runN R := by rw [hR2, List.length_drop]
      obtain ⟨C2, hC2⟩ : ∃ C2, C2 = c' - runN R := ⟨_, rfl⟩
      have HC2 : Bx (R2.length ≤ C2) := ⟨by omega⟩
      have k2 : ∀ W, (Instr.slice 22 (.slice A' R.length c') (some (.int .i64 ((runN R : Nat) : Int))) none none).run Tryd.prog W = .ok (.slice A2 R2.length C2) W := fun W => by
        rw [hA2, hR2l, hC2]; exact cut_from_bytes A' R.length c' (runN R) hRL W
      rw [← hR2] at RD F2
      have HR2 := Bx.mk hR2l
      have RC := Bx.mk (fun W (h : Ev w W qc qw g fs) => eachw_calls w qc qw g fs (R.getD 0 0) (runN R) W h HX0.out (by have := MQ.out; omega))
      clear hA hcell hA2 hR2 hR2l hC2 FQ
      subst hAd
      generalize R.getD 0 0 = X0 at *
      have hmn : fA (fs ++ eachF X0 (runN R)) + 9 * R2.length ≤ 900000000000010 := by rw [fA_app, HR2.out]; have := MQ.out; have := HFA.out; omega
      have MN := Bx.mk hmn
      clear hmn
      by_cases hend : runN R < R.length
      case' pos =>
        rw [if_pos hend] at IC
        generalize runN R = M at *
        have hneg : decide ((M : Int) < 0) = false := decide_eq_false (by omega)
        go_wp2_with (go_at_call 62; fail)
      case' neg =>
        rw [if_neg hend] at IC
        generalize runN R = M at *
        obtain rfl : M = R.length := by omega
        go_wp2_with (go_at_call 62; fail)
      all_goals
        refine IC.out.mono ?_
        rintro e w1 ⟨rfl, rfl⟩
        go_wp2_with fail
        have S1d : Sx w wr.drew q2 qw g (some ad) R.length c' := ⟨BQ.out, EQ.out.bw, EQ.out.be.drew⟩
        have RC1 := Bx.mk (RC.out wr.drew EQ.out.drew)
        have H0I := Bx.mk h0i
        refine wp_region_noPanic ?_
        refine wp_region_held_drew (S := fun W => Sx w W q2 qw g (some ad) R.length c') (by kernel_rfl) S1d (fun _ => ?_)
        refine takeH (i := 0) (v := ?_) rfl rfl (by kernel_rfl) (by kernel_rfl) (by kernel_rfl) (fun _ _ _ h => h) (Or.inl ⟨by rfl, ?_⟩) (by assumption) ?_
        rotate_left
        · (intro w hSw; have d0 := hSw.bb.cell 0; have d1 := hSw.bw.cell 0; have d2 := HCL.out w hSw.bl; have ha0 := HA0.out; have h0i := H0I.out; go_simp; first | done | with_reducible rfl)
        simp only [List.setIfInBounds_toArray, List.set_cons_zero, List.set_cons_succ]
        refine takeH (i := 1) (v := ?_) rfl rfl (by kernel_rfl) (by kernel_rfl) (by kernel_rfl) (fun _ _ _ h => h) (Or.inl ⟨by rfl, ?_⟩) (by assumption) ?_
        rotate_left
        · (intro w hSw; have d0 := hSw.bb.cell 0; have d1 := hSw.bw.cell 0; have d2 := HCL.out w hSw.bl; have ha0 := HA0.out; have h0i := H0I.out; go_simp; first | done | with_reducible rfl)
        simp only [List.setIfInBounds_toArray, List.set_cons_zero, List.set_cons_succ]
        refine takeH (i := 2) (v := ?_) rfl rfl (by kernel_rfl) (by kernel_rfl) (by kernel_rfl) (fun _ _ _ h => h) (Or.inl ⟨by rfl, ?_⟩) (by assumption) ?_
        rotate_left
        · (intro w hSw; have d0 := hSw.bb.cell 0; have d1 := hSw.bw.cell 0; have d2 := HCL.out w hSw.bl; have ha0 := HA0.out; have h0i := H0I.out; go_simp; first | done | with_reducible rfl)
        simp only [List.setIfInBounds_toArray, List.set_cons_zero, List.set_cons_succ]
        refine takeH (i := 3) (v := ?_) rfl rfl (by kernel_rfl) (by kernel_rfl) (by kernel_rfl) (fun _ _ _ h => h) (Or.inl ⟨by rfl, ?_⟩) (by assumption) ?_
        rotate_left
        · (intro w hSw; have d0 := hSw.bb.cell 0; have d1 := hSw.bw.cell 0; have d2 := HCL.out w hSw.bl; have ha0 := HA0.out; have h0i := H0I.out; go_simp; first | done | with_reducible rfl)
        simp only [List.setIfInBounds_toArray, List.set_cons_zero, List.set_cons_succ]
        refine takeH (i := 4) (v := ?_) rfl rfl (by kernel_rfl) (by kernel_rfl) (by kernel_rfl) (fun _ _ _ h => h) (Or.inl ⟨by rfl, ?_⟩) (by assumption) ?_
        rotate_left
        · (intro w hSw; have d0 := hSw.bb.cell 0; have d1 := hSw.bw.cell 0; have d2 := HCL.out w hSw.bl; have ha0 := HA0.out; have h0i := H0I.out; go_simp; first | done | with_reducible rfl)
        simp only [List.setIfInBounds_toArray, List.set_cons_zero, List.set_cons_succ]
        refine takeH (i := 5) (v := ?_) rfl rfl (by kernel_rfl) (by kernel_rfl) (by kernel_rfl) (fun _ _ _ h => h) (Or.inl ⟨by rfl, ?_⟩) (by assumption) ?_
        rotate_left
        · (intro w hSw; have d0 := hSw.bb.cell 0; have d1 := hSw.bw.cell 0; have d2 := HCL.out w hSw.bl; have ha0 := HA0.out; have h0i := H0I.out; go_simp; first | done | with_reducible rfl)
        simp only [List.setIfInBounds_toArray, List.set_cons_zero, List.set_cons_succ]
        refine takeH (i := 6) (v := ?_) rfl rfl (by kernel_rfl) (by kernel_rfl) (by kernel_rfl) (fun _ _ _ h => h) (Or.inl ⟨by rfl, ?_⟩) (by assumption) ?_
        rotate_left
        · (intro w hSw; have d0 := hSw.bb.cell 0; have d1 := hSw.bw.cell 0; have d2 := HCL.out w hSw.bl; have ha0 := HA0.out; have h0i := H0I.out; go_simp; first | done | with_reducible rfl)
        simp only [List.setIfInBounds_toArray, List.set_cons_zero, List.set_cons_succ]
        refine wpAnyH_ready (rs := [7]) (by kernel_rfl) (by simp) ?_
        refine AllReadyH.cons rfl (fun K hK => ?_) AllReadyH.nil
        go_simp
        refine RC1.out.mono ?_
        rintro e wN ⟨rfl, h5, hd5⟩
        have E5 := Bx.mk h5
        have B5 := Bx.mk (BQ.out.dstep ((DStep.drew1 wr).trans hd5) (by decide) (by decide))
        have S5 : Sx w wN q2 qw g (some ad) R.length c' := ⟨B5.out, h5.bw, h5.be⟩
        clear h5 hd5 RC1 S1d
        go_wp2_with fail
        refine hK.out _ _ S5 (fun _ => ?_)
        clear hK K S5
        refine wpAnyH_done (by kernel_rfl) ?_ _
        refine NoPanic.normal ?_
        have cb : wN.cell? ⟨q2, 0, none⟩ = some (.slice (some ad) R.length c') := B5.out.cell 0
        have fb := B5.out.frozen 0
        have EN := Bx.mk (E5.out.set B5.out LQ.out (.slice A2 R2.length C2))
        have BN := Bx.mk (B5.out.set_ 0 (.slice A2 R2.length C2))
        have F6 := Bx.mk (F2.out.trans (List.append_assoc _ _ _).symm)
        have RK : Bx (R2.length < k') := ⟨by rw [HR2.out]; omega⟩
        have RD2 := Bx.mk RD.out
        go_wp2
        go_roundg k'
        case measure => omega
        case rel => exact ⟨_, A2, R2, C2, HC2.out, RK.out, BN, EN, RD2, F6, MN⟩
    · have F2 : Bx (WH = fs ++ [litF 256]) := ⟨by rw [FQ.out, runsF_end eachF _ R h0]; rfl⟩
      have h0i : decide ((0 : Int) < (R.length : Int)) = false := decide_eq_false (by omega)
      have PC := Bx.mk (put_calls w qc qw g fs 256 wr EQ.out (by decide) (by have := MQ.out; omega))
      rw [← F2.out] at PC
      have MW : Bx (fA WH ≤ 1125899906809000) := ⟨by rw [F2.out, fA_app]; have := MQ.out; have := (litF_le 256 (by decide)).1; simp only [fA]; omega⟩
      clear FQ F2
      go_wp2_with (go_at_call 60; fail)
      refine PC.out.mono ?_
      rintro e w2 ⟨rfl, h2, hd2⟩
      have E2 := Bx.mk h2
      have cw : w2.cell? ⟨qw, 0, none⟩ = some (.pointer (some ⟨g, 0, none⟩)) := h2.bw.cell 0
      have AL := Bx.mk (all_fields g WH w2 h2.wf MW.out)
      clear h2 hd2 PC
      go_wp2_with (go_at_call 36; fail)
      refine AL.out.mono ?_
      rintro e w7 ⟨l7, v7, ht7, rfl, ho7, hb7⟩
      have T7 := Bx.mk ht7
      have O7 := Bx.mk (OB.le ho7 E2.out.be.size)
      have B7 := Bx.mk (below_then E2.out.be E2.out.be.size hb7)
      clear ht7 ho7 hb7 AL cw
      go_wp2
      go_ret
      exact ⟨l7, _, T7.out, rfl, O7.out, B7.out⟩
theorem flFixed_calls (A : Option Addr) (b : List Nat) (c : Nat) (w : World) (hb : RB w A b) (hc : b.length ≤ c) (hg : Gf w) (hl : b.length ≤ 100000000000000) :
    Calls Tryd.prog 19 #[.slice A b.length c] w fun e w' => ∃ l v', Bts l (fN (wholeF eachF b)) (fA (wholeF eachF b)) ∧ e = .returned v' ∧ OB w' w.heap.size v' l ∧ Below w.heap.size w w' := by
  have FC := Bx.mk (fixed_each_calls A b c w hb hc hg hl)
  clear hb hg
  go_enter Tryd.func19, Tryd.ntmps19
  go_wp2_with (go_at_call 30; fail)
  refine FC.out.mono ?_
  rintro e w7 ⟨l7, v7, ht7, rfl, ho7, hb7⟩
  have T7 := Bx.mk ht7
  have O7 := Bx.mk ho7
  have B7 := Bx.mk hb7
  clear ht7 ho7 hb7 FC
  go_wp2
  go_ret
  exact ⟨l7, _, T7.out, rfl, O7.out, B7.out⟩
end Go.Proofs.YtoekecopfmohiaaDoor
