import Derived.Test.YtoekecopfmohiaaDoorInf6
import Derived.Test.YtoekecopfmohiaaDoorCodeMk
/-
  The inflater: list.
-/
namespace Go.Proofs.YtoekecopfmohiaaDoor
open Go.RowKit

theorem list_end (l C : List Nat) (n k : Nat) (o : List Nat) (h : ¬ o.length < n) : listP l C n k o = ret o := by
  cases k with
  | zero => rfl
  | succ k => simp only [listP]; rw [if_neg h]
theorem run_ret {α : Type} (v d : α) (R : Except Nat SS) : (run (ret v) d R).2 = R ∧ (okR R = true → (run (ret v) d R).1 = v) := by
  cases R with
  | error e => exact ⟨rfl, fun h => by cases h⟩
  | ok s => exact ⟨rfl, fun _ => rfl⟩
theorem list_step (l C : List Nat) (n k : Nat) (o : List Nat) (h : o.length < n) (R : Except Nat SS) : run (listP l C n (k + 1) o) [] R = run (bd (whatP l o (run (symP l C) 0 R).1) fun wt => bd (chk 110 (wt.2 ≤ n - o.length)) fun _ => listP l C n k (o ++ List.replicate wt.2 wt.1)) [] (run (symP l C) 0 R).2 := by
  simp only [listP]
  rw [if_pos h, run_bd (symP l C) _ 0 []]
theorem bd_bd {α β γ : Type} (p : Px α) (g : α → Px β) (f : β → Px γ) : bd (bd p g) f = bd p fun x => bd (g x) f := by
  funext s
  unfold bd
  cases p s with
  | error e => rfl
  | ok u => rfl
theorem bd_ret {α β : Type} (v : α) (f : α → Px β) : bd (ret v) f = f v := rfl
theorem run_num_ret (l : List Nat) (b W q : Nat) (f : Nat × Nat → Px (List Nat)) (R : Except Nat SS) : run (bd (bd (numP l b) fun x => ret (W, q + x)) f) [] R = run (f (W, q + (run (numP l b) 0 R).1)) [] (run (numP l b) 0 R).2 := by
  rw [bd_bd, run_bd (numP l b) _ 0 []]; rfl
theorem IS.grownI {w0 w w' : World} {x r : Nat} {A : Option Addr} {l : List Nat} {c m a e : Nat} {out : List Nat} {O : Value} (h : IS w0 x r A l c m a out O e w) {base : Nat} {v : Value} {xs : List Int} (hv : OI w base v xs) (hb : w0.heap.size ≤ base) (hg : w.grownBy w' v.ownBlock) : IS w0 x r A l c m a out O e w' where
  xb := h.xb.grown hg (fun hc => own_blk_ne hv h.xb (by decide) hc.symm)
  rb := h.rb.grown hg (fun hc => own_blk_ne hv h.rb (by decide) hc.symm)
  ow := h.ow.keep fun q hq => by
    rcases h.ow.2 with ⟨rfl, _⟩ | ⟨g', cap, cur, rfl, _, hh, _⟩
    · simp [Value.ownBlock] at hq
    · have : g' = q := by simpa [Value.ownBlock] using hq
      subst this
      have hB : Blk w g' 5 cur := hh
      exact hg.block g' hB.lt (fun hc => own_blk_ne hv hB (by decide) hc.symm)
  pos := h.pos
  lx := h.lx
  lr := h.lr
  src := h.src
  len := h.len
  byt := h.byt
  be := h.be.trans ((Below.refl _ _).grown hg h.be.size (fun k hk => Nat.le_trans hb (OI.block hv k hk)))
theorem At.grownI {w0 w w' : World} {x r : Nat} {A : Option Addr} {l : List Nat} {c m : Nat} {R : Except Nat SS} (h : At w0 x r A l c m R w) {base : Nat} {v : Value} {xs : List Int} (hv : OI w base v xs) (hb : w0.heap.size ≤ base) (hg : w.grownBy w' v.ownBlock) : At w0 x r A l c m R w' := by
  cases R with
  | ok s => obtain ⟨O, h⟩ := h; exact ⟨O, h.grownI hv hb hg⟩
  | error e => obtain ⟨h0, a, out, O, h⟩ := h; exact ⟨h0, a, out, O, h.grownI hv hb hg⟩
theorem IStep.grownI {w w1 w2 : World} (h : IStep w w1) {v : Value} {xs : List Int} (hv : OI w1 w.heap.size v xs) (hg : w1.grownBy w2 v.ownBlock) : IStep w w2 :=
  ⟨fun q cs t fr hq h1 h2 h3 => by
    have hlt : q < w.heap.size := (Array.getElem?_eq_some_iff.1 hq).1
    exact (hg.block q (Nat.lt_of_lt_of_le hlt h.size) (fun hc => by have := OI.block hv q hc.symm; omega)).trans (h.keep q cs t fr hq h1 h2 h3), Nat.le_trans h.size hg.size⟩
theorem what_17 (l o : List Nat) : whatP l o 17 = bd (numP l 3) fun x => ret (0, 3 + x) := by unfold whatP; rw [if_neg (by decide), if_pos rfl]
theorem what_18 (l o : List Nat) : whatP l o 18 = bd (numP l 7) fun x => ret (0, 11 + x) := by unfold whatP; rw [if_neg (by decide), if_neg (by decide), if_pos rfl]
theorem what_16 (l o : List Nat) : whatP l o 16 = bd (chk 110 (o.length ≠ 0)) fun _ => bd (numP l 2) fun x => ret (o.getD (o.length - 1) 0, 3 + x) := by unfold whatP; rw [if_pos rfl]
theorem what_else (l o : List Nat) (s : Nat) (h1 : s ≠ 16) (h2 : s ≠ 17) (h3 : s ≠ 18) : whatP l o s = ret (s, 1) := by unfold whatP; rw [if_neg h1, if_neg h2, if_neg h3]
set_option maxRecDepth 100000 in
set_option maxHeartbeats 4000000 in
theorem list_calls (w0 : World) (x r : Nat) (A : Option Addr) (l : List Nat) (c m : Nat) (p : Value) (C : List Nat) (n K : Nat) (hn : n ≤ 1000) (hK : n ≤ K) (R : Except Nat SS) (w : World) (h : At w0 x r A l c m R w) (hp : okR R = true → HasC w p C) :
    Calls Tryd.prog 89 #[.pointer (some ⟨x, 0, none⟩), p, .int .i64 (n : Int)] w fun e w' => ∃ v, e = .returned v ∧ At w0 x r A l c m (run (listP l C n K []) [] R).2 w' ∧ IStep w w' ∧
      (okR (run (listP l C n K []) [] R).2 = true → OI w' w.heap.size v (zl (run (listP l C n K []) [] R).1)) := by
  have HA := Bx.mk h
  have HP := Bx.mk hp
  have HW0 : Bx (w0.heap.size ≤ w.heap.size) := ⟨h.be.size⟩
  obtain ⟨RF, hRF⟩ : ∃ RF, RF = run (listP l C n K []) [] R := ⟨_, rfl⟩
  rw [← hRF]
  have HRF := Bx.mk hRF
  clear hRF h hp
  go_enter Tryd.func89, Tryd.ntmps89
  go_wp2
  go_loopg [7] K (fun k s7 wr => ∃ (R' : Except Nat SS) (o : List Nat), Bx (At w0 x r A l c m R' wr) ∧ Bx (IStep w wr) ∧ Bx (okR R' = true → HasC w p C) ∧ Bx (OI wr w.heap.size s7 (zl o)) ∧ Bx (RF = run (listP l C n k o) [] R') ∧ Bx (o.length ≤ n ∧ (okR R' = true → n ≤ k + o.length)))
  case atStart => exact ⟨R, [], HA, ⟨IStep.refl _⟩, HP, ⟨OI.nil _ _⟩, HRF, ⟨Nat.zero_le _, fun _ => by simpa using hK⟩⟩
  case round =>
    obtain ⟨R', o, A1, S1, P1, O1, F1, M1⟩ := hrel
    clear HA HP HRF
    obtain ⟨OA, OD, rfl⟩ := O1.out.form
    rw [zl_length] at *
    by_cases hlt : o.length < n
    · cases R' with
      | error e =>
        obtain ⟨h3, hne, hne2, -⟩ := A1.out.no
        have HF : Bx (RF = ([], .error e)) := ⟨F1.out⟩
        clear F1 M1 P1
        go_wp2
        go_ret
        exact ⟨_, rfl, by rw [HF.out]; exact A1.out, S1.out, fun hc => by rw [HF.out] at hc; cases hc⟩
      | ok s =>
        have h3 : wr.cell? ⟨x, 3, none⟩ = some (.int .i64 ((0 : Nat) : Int)) := by obtain ⟨O, I⟩ := A1.out; exact I.xb.cell 3
        obtain ⟨k', rfl⟩ : ∃ k', gk = k' + 1 := ⟨gk - 1, by have := M1.out.2 rfl; omega⟩
        have SC := Bx.mk (symbol_calls w0 x r A l c m p C (.ok s) wr A1.out (fun h => (P1.out h).istep S1.out))
        have HC1 := Bx.mk (P1.out rfl)
        have F2 : Bx (RF = _) := ⟨F1.out.trans (list_step l C n k' o hlt _)⟩
        clear F1 P1
        generalize run (symP l C) 0 (.ok s) = PS at *
        obtain ⟨V, RS⟩ := PS
        simp only at SC F2
        go_wp2_with (go_at_call 91; fail)
        refine SC.out.mono ?_
        rintro e w2 ⟨rfl, ha2, hs2⟩
        have A2 := Bx.mk ha2
        have S2 := Bx.mk (S1.out.trans hs2)
        have O2 := Bx.mk (O1.out.istep hs2)
        clear ha2 hs2 SC A1 S1 h3 O1
        have S22 := Bx.mk (IStep.refl w2)
        go_upto_block 2 with fail
        go_cut [9, 10] from 11 to 67 (fun s9 s10 wx => ∃ (W T : Nat) (R4 : Except Nat SS), s9 = .int .i64 (W : Nat) ∧ s10 = .int .i64 (T : Nat) ∧ (1 ≤ T ∧ T ≤ 138) ∧ Bx (At w0 x r A l c m R4 wx) ∧ Bx (IStep w wx) ∧ Bx (OI wx w.heap.size (.slice OA o.length OD) (zl o)) ∧
          Bx (RF = run (bd (chk 110 (T ≤ n - o.length)) fun _ => listP l C n k' (o ++ List.replicate T W)) [] R4))
        case first =>
          by_cases h16 : V = 16
          · subst h16
            have F3 : Bx (RF = _) := ⟨F2.out.trans (by rw [what_16, bd_bd, run_bd (chk 110 _) _ () [], run_num_ret])⟩
            have FC := Bx.mk (fun W hW => fail_bool w0 x r A l c m 110 (by decide) ((o.length : Int) == 0) (chk 110 (o.length ≠ 0)) RS W hW (fun s' _ => by
              unfold chk
              by_cases hh : o.length = 0
              · rw [if_neg (by omega), if_neg (by rw [hh]; decide)]
              · rw [if_pos hh, if_pos (beq_false_of_ne (by omega))]))
            have HK3 := Bx.mk (@run_chk 110 (o.length ≠ 0) _ RS)
            clear F2
            generalize (run (chk 110 (o.length ≠ 0)) () RS).2 = R3 at *
            go_wp2_with (go_at_call 58; fail)
            refine (FC.out w2 A2.out).mono ?_
            rintro e w3 ⟨rfl, ha3, hs3⟩
            have S3 := Bx.mk (S2.out.trans hs3)
            have O3 := Bx.mk (O2.out.istep hs3)
            clear hs3 A2 S2 O2 FC
            cases R3 with
            | error e3 =>
              have A3 := Bx.mk ha3
              have HF : Bx (RF = ([], .error e3)) := ⟨F3.out⟩
              rw [show okR (.error e3) = false from rfl]
              clear ha3 HK3 F3
              go_wp2
              go_ret
              exact ⟨_, rfl, by rw [HF.out]; exact A3.out, S3.out, fun hc => by rw [HF.out] at hc; cases hc⟩
            | ok s3 =>
              have A3 := Bx.mk ha3
              have hne0 := (HK3.out rfl).2
              rw [show okR (.ok s3) = true from rfl]
              clear ha3 HK3
              obtain ⟨g, hOA, -, -, -, -, -⟩ := O3.out.opened (by rw [zl_length]; omega)
              subst hOA
              have HCL : Bx (∀ W, OI W w.heap.size (.slice (some ⟨g, 0, none⟩) o.length OD) (zl o) → W.cell? ⟨g, o.length - 1, none⟩ = some (.int .i64 ((o.getD (o.length - 1) 0 : Nat) : Int))) := ⟨fun W hW => by
                obtain ⟨g', hg', -, -, -, hcell, -⟩ := hW.opened (by rw [zl_length]; omega)
                injection hg' with hg'
                injection hg' with hg'
                subst hg'
                have := hcell (o.length - 1) (by rw [zl_length]; omega)
                rw [this]
                congr 2
                unfold zl
                rw [List.getD_eq_getElem?_getD, List.getD_eq_getElem?_getD, List.getElem?_map, List.getElem?_eq_getElem (by omega)]; rfl⟩
              have HWS : Bx (IntKind.i64.wrap ((o.length : Int) - 1) = ((o.length - 1 : Nat) : Int)) := ⟨by rw [IntWalk.i64_in _ (by omega)]; omega⟩
              have HIX : Bx (((o.length - 1 : Nat) : Int) < (o.length : Int)) := ⟨by omega⟩
              have HIX0 : Bx (0 < o.length) := ⟨by omega⟩
              have NC := Bx.mk (number_calls w0 x r A l c m 2 (by decide) (.ok s3) w3.drew A3.out.drew)
              have hX := num_val l 2 (.ok s3)
              generalize run (numP l 2) 0 (.ok s3) = PN at *
              obtain ⟨X, R4⟩ := PN
              simp only at NC hX F3
              have hwx : IntKind.i64.wrap (3 + (X : Int)) = ((3 + X : Nat) : Int) := by rw [IntWalk.i64_in _ (by omega)]; omega
              have hT : 1 ≤ 3 + X ∧ 3 + X ≤ 138 := by omega
              generalize 3 + X = T at *
              generalize o.getD (o.length - 1) 0 = WH at *
              generalize o.length - 1 = J at *
              go_wp2_with fail
              have O3d : OI w3.drew w.heap.size (.slice (some ⟨g, 0, none⟩) o.length OD) (zl o) := O3.out
              refine wp_region_noPanic ?_
              refine wp_region_held_drew (S := fun W => OI W w.heap.size (.slice (some ⟨g, 0, none⟩) o.length OD) (zl o)) (by kernel_rfl) O3d (fun _ => ?_)
              refine takeH (i := 0) (v := ?_) rfl rfl (by kernel_rfl) (by kernel_rfl) (by kernel_rfl) (fun _ _ _ h => h) (Or.inl ⟨by rfl, ?_⟩) (by assumption) ?_
              rotate_left
              · (intro w hSw; have d0 := HCL.out w hSw; have hws1 := HWS.out; have hix := HIX.out; have hix0 := HIX0.out; go_simp; first | done | with_reducible rfl)
              simp only [List.setIfInBounds_toArray, List.set_cons_zero, List.set_cons_succ]
              refine takeH (i := 1) (v := ?_) rfl rfl (by kernel_rfl) (by kernel_rfl) (by kernel_rfl) (fun _ _ _ h => h) (Or.inl ⟨by rfl, ?_⟩) (by assumption) ?_
              rotate_left
              · (intro w hSw; have d0 := HCL.out w hSw; have hws1 := HWS.out; have hix := HIX.out; have hix0 := HIX0.out; go_simp; first | done | with_reducible rfl)
              simp only [List.setIfInBounds_toArray, List.set_cons_zero, List.set_cons_succ]
              refine takeH (i := 2) (v := ?_) rfl rfl (by kernel_rfl) (by kernel_rfl) (by kernel_rfl) (fun _ _ _ h => h) (Or.inl ⟨by rfl, ?_⟩) (by assumption) ?_
              rotate_left
              · (intro w hSw; have d0 := HCL.out w hSw; have hws1 := HWS.out; have hix := HIX.out; have hix0 := HIX0.out; go_simp; first | done | with_reducible rfl)
              simp only [List.setIfInBounds_toArray, List.set_cons_zero, List.set_cons_succ]
              refine takeH (i := 3) (v := ?_) rfl rfl (by kernel_rfl) (by kernel_rfl) (by kernel_rfl) (fun _ _ _ h => h) (Or.inl ⟨by rfl, ?_⟩) (by assumption) ?_
              rotate_left
              · (intro w hSw; have d0 := HCL.out w hSw; have hws1 := HWS.out; have hix := HIX.out; have hix0 := HIX0.out; go_simp; first | done | with_reducible rfl)
              simp only [List.setIfInBounds_toArray, List.set_cons_zero, List.set_cons_succ]
              refine takeH (i := 4) (v := ?_) rfl rfl (by kernel_rfl) (by kernel_rfl) (by kernel_rfl) (fun _ _ _ h => h) (Or.inl ⟨by rfl, ?_⟩) (by assumption) ?_
              rotate_left
              · (intro w hSw; have d0 := HCL.out w hSw; have hws1 := HWS.out; have hix := HIX.out; have hix0 := HIX0.out; go_simp; first | done | with_reducible rfl)
              simp only [List.setIfInBounds_toArray, List.set_cons_zero, List.set_cons_succ]
              refine takeH (i := 5) (v := ?_) rfl rfl (by kernel_rfl) (by kernel_rfl) (by kernel_rfl) (fun _ _ _ h => h) (Or.inl ⟨by rfl, ?_⟩) (by assumption) ?_
              rotate_left
              · (intro w hSw; have d0 := HCL.out w hSw; have hws1 := HWS.out; have hix := HIX.out; have hix0 := HIX0.out; go_simp; first | done | with_reducible rfl)
              simp only [List.setIfInBounds_toArray, List.set_cons_zero, List.set_cons_succ]
              refine takeH (i := 6) (v := ?_) rfl rfl (by kernel_rfl) (by kernel_rfl) (by kernel_rfl) (fun _ _ _ h => h) (Or.inl ⟨by rfl, ?_⟩) (by assumption) ?_
              rotate_left
              · (intro w hSw; have d0 := HCL.out w hSw; have hws1 := HWS.out; have hix := HIX.out; have hix0 := HIX0.out; go_simp; first | done | with_reducible rfl)
              simp only [List.setIfInBounds_toArray, List.set_cons_zero, List.set_cons_succ]
              refine wpAnyH_ready (rs := [7]) (by kernel_rfl) (by simp) ?_
              refine AllReadyH.cons rfl (fun K hK => ?_) AllReadyH.nil
              go_simp
              refine (NC.out).mono ?_
              rintro e wN ⟨rfl, ha4, hs4⟩
              have O4 := O3.out.istep ((IStep.drewN w3 1).trans hs4)
              have A4 := Bx.mk ha4
              have S4 := Bx.mk (S3.out.trans ((IStep.drewN w3 1).trans hs4))
              clear ha4 hs4 O3 O3d A3 S3
              go_wp2_with fail
              refine hK.out _ _ O4 (fun _ => ?_)
              clear hK K
              refine takeH (i := 8) (v := ?_) rfl rfl (by kernel_rfl) (by kernel_rfl) (by kernel_rfl) (fun _ _ _ h => h) (Or.inl ⟨by rfl, ?_⟩) (by assumption) ?_
              rotate_left
              · (intro w hSw; have d0 := HCL.out w hSw; have hws1 := HWS.out; have hix := HIX.out; have hix0 := HIX0.out; go_simp; first | done | with_reducible rfl)
              simp only [List.setIfInBounds_toArray, List.set_cons_zero, List.set_cons_succ]
              refine takeH (i := 9) (v := ?_) rfl rfl (by kernel_rfl) (by kernel_rfl) (by kernel_rfl) (fun _ _ _ h => h) (Or.inl ⟨by rfl, ?_⟩) (by assumption) ?_
              rotate_left
              · (intro w hSw; have d0 := HCL.out w hSw; have hws1 := HWS.out; have hix := HIX.out; have hix0 := HIX0.out; go_simp; first | done | with_reducible rfl)
              simp only [List.setIfInBounds_toArray, List.set_cons_zero, List.set_cons_succ]
              refine takeH (i := 10) (v := ?_) rfl rfl (by kernel_rfl) (by kernel_rfl) (by kernel_rfl) (fun _ _ _ h => h) (Or.inl ⟨by rfl, ?_⟩) (by assumption) ?_
              rotate_left
              · (intro w hSw; have d0 := HCL.out w hSw; have hws1 := HWS.out; have hix := HIX.out; have hix0 := HIX0.out; go_simp; first | done | with_reducible rfl)
              simp only [List.setIfInBounds_toArray, List.set_cons_zero, List.set_cons_succ]
              refine wpAnyH_done (by kernel_rfl) ?_ _
              refine NoPanic.normal ?_
              have O4' := Bx.mk O4
              clear O4
              go_wp2
              go_meet
              exact ⟨WH, T, R4, rfl, rfl, hT, A4, S4, O4', F3⟩
          by_cases h17 : V = 17
          · subst h17
            have F3 : Bx (RF = _) := ⟨F2.out.trans (by rw [what_17, run_num_ret])⟩
            have NC := Bx.mk (number_calls w0 x r A l c m 3 (by decide) RS w2 A2.out)
            have hX := num_val l 3 RS
            clear F2
            generalize run (numP l 3) 0 RS = PN at *
            obtain ⟨X, R4⟩ := PN
            simp only at NC hX F3
            have hwx : IntKind.i64.wrap (3 + (X : Int)) = ((3 + X : Nat) : Int) := by rw [IntWalk.i64_in _ (by omega)]; omega
            have hT : 1 ≤ 3 + X ∧ 3 + X ≤ 138 := by omega
            generalize 3 + X = T at *
            go_wp2_with (go_at_call 51; fail)
            refine NC.out.mono ?_
            rintro e w3 ⟨rfl, ha3, hs3⟩
            have A3 := Bx.mk ha3
            have S3 := Bx.mk (S2.out.trans hs3)
            have O3 := Bx.mk (O2.out.istep hs3)
            clear ha3 hs3 NC A2 S2 O2
            go_wp2
            go_meet
            exact ⟨0, T, R4, rfl, rfl, hT, A3, S3, O3, F3⟩
          by_cases h18 : V = 18
          · subst h18
            have F3 : Bx (RF = _) := ⟨F2.out.trans (by rw [what_18, run_num_ret])⟩
            have NC := Bx.mk (number_calls w0 x r A l c m 7 (by decide) RS w2 A2.out)
            have hX := num_val l 7 RS
            clear F2
            generalize run (numP l 7) 0 RS = PN at *
            obtain ⟨X, R4⟩ := PN
            simp only at NC hX F3
            have hwx : IntKind.i64.wrap (11 + (X : Int)) = ((11 + X : Nat) : Int) := by rw [IntWalk.i64_in _ (by omega)]; omega
            have hT : 1 ≤ 11 + X ∧ 11 + X ≤ 138 := by omega
            generalize 11 + X = T at *
            go_wp2_with (go_at_call 51; fail)
            refine NC.out.mono ?_
            rintro e w3 ⟨rfl, ha3, hs3⟩
            have A3 := Bx.mk ha3
            have S3 := Bx.mk (S2.out.trans hs3)
            have O3 := Bx.mk (O2.out.istep hs3)
            clear ha3 hs3 NC A2 S2 O2
            go_wp2
            go_meet
            exact ⟨0, T, R4, rfl, rfl, hT, A3, S3, O3, F3⟩
          have v16 : ((V : Int) == 16) = false := beq_false_of_ne (by omega)
          have v17 : ((V : Int) == 17) = false := beq_false_of_ne (by omega)
          have v18 : ((V : Int) == 18) = false := beq_false_of_ne (by omega)
          have F3 : Bx (RF = _) := ⟨F2.out.trans (by rw [what_else l o V h16 h17 h18, bd_ret])⟩
          clear F2
          go_wp2
          go_meet
          exact ⟨V, 1, RS, rfl, rfl, by omega, A2, S2, O2, F3⟩
        case rest =>
          obtain ⟨W, T, R4, rfl, rfl, hT, A4, S4, O4, F4⟩ := hcut
          clear F2 A2 S2 O2
          have F5 : Bx (RF = run (listP l C n k' (o ++ List.replicate T W)) [] (run (chk 110 (T ≤ n - o.length)) () R4).2) := ⟨F4.out.trans (run_bd _ _ () [] _)⟩
          have FC := Bx.mk (fun W' hW => fail_bool w0 x r A l c m 110 (by decide) (decide ((n : Int) - (o.length : Int) < (T : Int))) (chk 110 (T ≤ n - o.length)) R4 W' hW (fun s' _ => by
            unfold chk
            by_cases hh : T ≤ n - o.length
            · rw [if_pos hh, if_pos (by simp; omega)]
            · rw [if_neg hh, if_neg (by simp; omega)]))
          have HK5 := Bx.mk (@run_chk 110 (T ≤ n - o.length) _ R4)
          have hws : IntKind.i64.wrap ((n : Int) - (o.length : Int)) = (n : Int) - (o.length : Int) := IntWalk.i64_in _ (by omega)
          clear F4
          generalize (run (chk 110 (T ≤ n - o.length)) () R4).2 = R5 at *
          go_wp2_with (go_at_call 58; fail)
          refine (FC.out wc A4.out).mono ?_
          rintro e w5 ⟨rfl, ha5, hs5⟩
          have S5 := Bx.mk (S4.out.trans hs5)
          have O5 := Bx.mk (O4.out.istep hs5)
          clear hs5 A4 S4 O4 FC
          cases R5 with
          | error e5 =>
            have A5 := Bx.mk ha5
            have F6 : Bx (RF = run (listP l C n k' o) [] (.error e5)) := ⟨F5.out⟩
            have M6 : Bx (o.length ≤ n) := ⟨M1.out.1⟩
            rw [show okR (.error e5) = false from rfl]
            clear ha5 F5 HK5 M1
            go_wp2
            go_roundg k'
            case measure => omega
            case rel => exact ⟨.error e5, o, A5, S5, ⟨fun _ => HC1.out⟩, O5, F6, ⟨M6.out, fun hc => by cases hc⟩⟩
          | ok s5 =>
            have A5 := Bx.mk ha5
            have hfit := (HK5.out rfl).2
            rw [show okR (.ok s5) = true from rfl]
            clear ha5 HK5
            have rp := Repeat_calls (some ⟨w5.heap.size, 0, none⟩) (W : Int) 1 T _ (IR.lit w5 3 [(W : Int)] #[.int .i64 (W : Int)] rfl) (by omega)
            have RP := Bx.mk rp
            have HBA : Bx (Below w5.heap.size w5 (w5.alloc (.cells #[.int .i64 (W : Int)] 3))) := ⟨below_alloc1 _ _⟩
            have A5a := Bx.mk (A5.out.below HBA.out)
            have S5a := Bx.mk (S5.out.trans (IStep.below HBA.out))
            have O5a := Bx.mk (O5.out.below HBA.out)
            clear rp A5 S5 O5 HBA
            go_wp2_with (go_at_call 54; fail)
            refine RP.out.mono ?_
            rintro e w6 ⟨rfl, ho6, hb6⟩
            have R6 := Bx.mk ho6.reads
            have A6 := Bx.mk (A5a.out.below hb6)
            have S6 := Bx.mk (S5a.out.trans (IStep.below hb6))
            have O6 := Bx.mk (O5a.out.below hb6)
            have hz6 : w.heap.size ≤ w6.heap.size := S6.out.size
            have hlen : ((zl o).length + T) * 8 ≤ 140737492549632 := by rw [zl_length]; omega
            generalize (w5.alloc (.cells #[.int .i64 (W : Int)] 3)).heap.size = z9 at *
            clear ho6 hb6 A5a S5a O5a RP
            go_wp2_with (at_builtin; refine wpList_append_ints w6 rfl (.tmp 62) (.tmp 66) rfl w.heap.size (.slice OA o.length OD) (zl o) (List.replicate T (W : Int)) T List.length_replicate rfl O6.out _ _ rfl (by have := R6.out; rw [List.length_replicate] at this; exact this) hlen hz6 ?_; intro v7 w7 ho7 hg7 _; have T7 : Bx (OI w7 w.heap.size v7 (zl (o ++ List.replicate T W))) := ⟨by rw [zl_app, zl_replicate]; exact ho7⟩; have A7 := Bx.mk (A6.out.grownI O6.out HW0.out hg7); have S7 := Bx.mk (S6.out.grownI O6.out hg7); clear ho7 hg7)
            have M7 : Bx ((o ++ List.replicate T W).length ≤ n ∧ (okR (.ok s5) = true → n ≤ k' + (o ++ List.replicate T W).length)) := ⟨by
              rw [List.length_append, List.length_replicate]
              have := M1.out.2 rfl
              exact ⟨by omega, fun _ => by omega⟩⟩
            go_wp2
            go_roundg k'
            case measure => omega
            case rel => exact ⟨.ok s5, o ++ List.replicate T W, A7, S7, ⟨fun _ => HC1.out⟩, T7, F5, M7⟩
    · have hge : decide ((o.length : Int) < (n : Int)) = false := by simp; omega
      have HF := Bx.mk (F1.out.trans (by rw [list_end l C n gk o hlt]))
      obtain ⟨hr1, hr2⟩ := run_ret o [] R'
      have HR1 := Bx.mk hr1; have HR2 := Bx.mk hr2
      clear F1 M1 P1 hr1 hr2
      go_wp2
      go_ret
      exact ⟨_, rfl, by rw [HF.out, HR1.out]; exact A1.out, S1.out, fun hc => by rw [HF.out] at hc ⊢; rw [HR1.out] at hc; rw [HR2.out hc]; exact O1.out⟩
end Go.Proofs.YtoekecopfmohiaaDoor
