import Derived.Test.YtoekecopfmohiaaDoorInf7
/-
  The inflater: told.
-/
namespace Go.Proofs.YtoekecopfmohiaaDoor
open Go.RowKit

/-- what is behind the lengths of the code of lengths -/
def toldT (l : List Nat) (n m : Nat) (C : List Nat) : Px (List Nat × List Nat) :=
  bd (chk 110 (okL C)) fun _ => bd (listP l C (n + m) 316 []) fun o =>
    bd (chk 110 (o.getD 256 0 ≠ 0)) fun _ => bd (chk 110 (okL (o.take n))) fun _ => bd (chk 110 (okL (o.drop n))) fun _ => ret (o.take n, o.drop n)
theorem told_run (l : List Nat) (d : List Nat × List Nat) (R : Except Nat SS) : run (toldP l) d R = run (bd (firstP l (ORD.take (4 + (run (numP l 4) 0 (run (numP l 5) 0 (run (numP l 5) 0 R).2).2).1)) (List.replicate 19 0))
      (toldT l (257 + (run (numP l 5) 0 R).1) (1 + (run (numP l 5) 0 (run (numP l 5) 0 R).2).1))) d
    (run (chk 110 (257 + (run (numP l 5) 0 R).1 ≤ 286 ∧ 1 + (run (numP l 5) 0 (run (numP l 5) 0 R).2).1 ≤ 30)) () (run (numP l 4) 0 (run (numP l 5) 0 (run (numP l 5) 0 R).2).2).2).2 := by
  unfold toldP
  rw [run_bd (numP l 5) _ 0 d, run_bd (numP l 5) _ 0 d, run_bd (numP l 4) _ 0 d, run_bd (chk 110 _) _ () d]
  rfl
/-- ints in an array -/
def zi (l : List Nat) : Array Value := (l.map fun (x : Nat) => Value.int .i64 (x : Int)).toArray
theorem zi_get (l : List Nat) (i : Nat) (h : i < l.length) : (zi l)[i]? = some (.int .i64 ((l.getD i 0 : Nat) : Int)) := by
  unfold zi
  rw [List.getElem?_toArray, List.getElem?_map, List.getD_eq_getElem?_getD, List.getElem?_eq_getElem h]; rfl
theorem zi_set (l : List Nat) (i x : Nat) : (zi l).setIfInBounds i (.int .i64 (x : Int)) = zi (l.set i x) := by
  unfold zi
  rw [List.setIfInBounds_toArray, ← List.map_set (f := fun (x : Nat) => Value.int .i64 (x : Int))]
theorem ord_bound : ∀ i, i < 19 → ORD.getD i 0 < 19 := by decide
theorem ord_step (l : List Nat) (K i : Nat) (hi : i < K) (hK : K ≤ 19) (cur : List Nat) (f : List Nat → Px (List Nat × List Nat)) (d : List Nat × List Nat) (R : Except Nat SS) :
    run (bd (firstP l ((ORD.take K).drop i) cur) f) d R = run (bd (firstP l ((ORD.take K).drop (i + 1)) (cur.set (ORD.getD i 0) (run (numP l 3) 0 R).1)) f) d (run (numP l 3) 0 R).2 := by
  have hl : ORD.length = 19 := rfl
  have e : (ORD.take K).drop i = ORD.getD i 0 :: (ORD.take K).drop (i + 1) := by
    rw [List.drop_eq_getElem_cons (by rw [List.length_take]; omega), List.getElem_take, List.getD_eq_getElem?_getD, List.getElem?_eq_getElem (by omega)]; rfl
  rw [e]
  simp only [firstP]
  rw [bd_bd, run_bd (numP l 3) _ 0 d]
theorem At.other {w0 w : World} {x r : Nat} {A : Option Addr} {l : List Nat} {c m : Nat} {R : Except Nat SS} (h : At w0 x r A l c m R w) {g j : Nat} {t : TypeId} {cs : Array Value} (hb : Blk w g t cs) (h1 : t ≠ 50) (h2 : t ≠ 75) (h3 : t ≠ 5) (hg : w0.heap.size ≤ g) (u : Value) :
    At w0 x r A l c m R (w.setCell ⟨g, j, none⟩ u) := by
  have key : ∀ a out O e, IS w0 x r A l c m a out O e w → IS w0 x r A l c m a out O e (w.setCell ⟨g, j, none⟩ u) := fun a out O e I => {
    xb := I.xb.far (fun hc => by subst hc; exact (I.xb.ne_ hb (fun hc => h1 hc.symm)) rfl) _
    rb := I.rb.far (fun hc => by subst hc; exact (I.rb.ne_ hb (fun hc => h2 hc.symm)) rfl) _
    ow := I.ow.keep fun q hq => Below.heap_setCell w ⟨g, j, none⟩ u q (fun hc => by subst hc; exact own_blk_ne I.ow hb (fun hc => h3 hc.symm) hq)
    pos := I.pos
    lx := I.lx
    lr := I.lr
    src := I.src
    len := I.len
    byt := I.byt
    be := I.be.setCell (p := ⟨g, j, none⟩) hg _ }
  cases R with
  | ok s => obtain ⟨O, h⟩ := h; exact ⟨O, key _ _ _ _ h⟩
  | error e => obtain ⟨h0, a, out, O, h⟩ := h; exact ⟨h0, a, out, O, key _ _ _ _ h⟩
theorem IStep.setNew {w w1 : World} (h : IStep w w1) {g j : Nat} (hg : w.heap.size ≤ g) (u : Value) : IStep w (w1.setCell ⟨g, j, none⟩ u) :=
  ⟨fun q cs t fr hq h1 h2 h3 => by
    have hlt : q < w.heap.size := (Array.getElem?_eq_some_iff.1 hq).1
    exact (Below.heap_setCell w1 ⟨g, j, none⟩ u q (by show q ≠ g; omega)).trans (h.keep q cs t fr hq h1 h2 h3), by simpa [World.setCell] using h.size⟩
theorem list_len (l C : List Nat) (n : Nat) : ∀ k o s v s', o.length ≤ n → n ≤ k + o.length → listP l C n k o s = .ok (v, s') → v.length = n
  | 0, o, s, v, s', h1, h2, h => by
    cases h; omega
  | k + 1, o, s, v, s', h1, h2, h => by
    simp only [listP] at h
    by_cases hlt : o.length < n
    · rw [if_pos hlt] at h
      obtain ⟨u, t, _, h⟩ := bd_ok h
      obtain ⟨wt, t2, hw, h⟩ := bd_ok h
      obtain ⟨_, t3, hc, h⟩ := bd_ok h
      have hT1 : 1 ≤ wt.2 := by
        unfold whatP at hw
        split at hw
        · obtain ⟨_, _, _, hw⟩ := bd_ok hw
          obtain ⟨_, _, _, hw⟩ := bd_ok hw
          cases hw; simp only; omega
        · split at hw
          · obtain ⟨_, _, _, hw⟩ := bd_ok hw
            cases hw; simp only; omega
          · split at hw
            · obtain ⟨_, _, _, hw⟩ := bd_ok hw
              cases hw; simp only; omega
            · cases hw; exact Nat.le_refl _
      have hT2 : wt.2 ≤ n - o.length := by
        unfold chk at hc
        split at hc
        · assumption
        · cases hc
      exact list_len l C n k _ _ _ _ (by rw [List.length_append, List.length_replicate]; omega) (by rw [List.length_append, List.length_replicate]; omega) h
    · rw [if_neg hlt] at h
      cases h; omega
theorem list_run_len {l C : List Nat} {n : Nat} {R : Except Nat SS} {s : SS} (hn : n ≤ 316) (h : (run (listP l C n 316 []) [] R).2 = .ok s) : (run (listP l C n 316 []) [] R).1.length = n := by
  cases R with
  | error e => cases h
  | ok t =>
    unfold run at h ⊢
    simp only at h ⊢
    cases hp : listP l C n 316 [] t with
    | error e => rw [hp] at h; cases h
    | ok u => exact list_len l C n 316 [] t u.1 u.2 (Nat.zero_le _) (by simpa using hn) (by rw [hp])
theorem ord_cut (K : Nat) (hK : K ≤ 19) (W : World) : (Instr.sliceAt 115 (.pointer (some ⟨2, 0, none⟩)) none (some (.int .i64 (K : Int))) none).run Tryd.prog W = .ok (.slice (some ⟨2, 0, none⟩) K 19) W := by
  obtain rfl | rfl | rfl | rfl | rfl | rfl | rfl | rfl | rfl | rfl | rfl | rfl | rfl | rfl | rfl | rfl | rfl | rfl | rfl | rfl : K = 0 ∨ K = 1 ∨ K = 2 ∨ K = 3 ∨ K = 4 ∨ K = 5 ∨ K = 6 ∨ K = 7 ∨ K = 8 ∨ K = 9 ∨ K = 10 ∨ K = 11 ∨ K = 12 ∨ K = 13 ∨ K = 14 ∨ K = 15 ∨ K = 16 ∨ K = 17 ∨ K = 18 ∨ K = 19 := by omega
  all_goals kernel_rfl
set_option maxRecDepth 100000 in
set_option maxHeartbeats 4000000 in
theorem told_calls (w0 : World) (x r : Nat) (A : Option Addr) (l : List Nat) (c m : Nat) (hg : Gf w0) (s : SS) (w : World) (h : At w0 x r A l c m (.ok s) w) :
    Calls Tryd.prog 56 #[.pointer (some ⟨x, 0, none⟩)] w fun e w' => ∃ p q, e = .returned (.tuple #[p, q]) ∧ At w0 x r A l c m (run (toldP l) ([], []) (.ok s)).2 w' ∧ IStep w w' ∧
      (okR (run (toldP l) ([], []) (.ok s)).2 = true → HasC w' p (run (toldP l) ([], []) (.ok s)).1.1 ∧ HasC w' q (run (toldP l) ([], []) (.ok s)).1.2) := by
  have HG := Bx.mk hg
  have HA := Bx.mk h
  have HW0 : Bx (w0.heap.size ≤ w.heap.size) := ⟨h.be.size⟩
  obtain ⟨RF, hRF⟩ : ∃ RF, RF = run (toldP l) ([], []) (.ok s) := ⟨_, rfl⟩
  rw [← hRF]
  rw [told_run] at hRF
  have HRF := Bx.mk hRF
  clear hRF h hg
  have N1 := Bx.mk (fun W hW => number_calls w0 x r A l c m 5 (by decide) (.ok s) W hW)
  have V1 := num_val l 5 (.ok s)
  generalize run (numP l 5) 0 (.ok s) = P1 at *
  obtain ⟨X, R1⟩ := P1
  simp only at N1 V1 HRF
  have N2 := Bx.mk (fun W hW => number_calls w0 x r A l c m 5 (by decide) R1 W hW)
  have V2 := num_val l 5 R1
  generalize run (numP l 5) 0 R1 = P2 at *
  obtain ⟨Y, R2⟩ := P2
  simp only at N2 V2 HRF
  have N3 := Bx.mk (fun W hW => number_calls w0 x r A l c m 4 (by decide) R2 W hW)
  have V3 := num_val l 4 R2
  generalize run (numP l 4) 0 R2 = P3 at *
  obtain ⟨Z, R3⟩ := P3
  simp only at N3 V3 HRF
  have e1 : IntKind.i64.wrap (257 + (X : Int)) = ((257 + X : Nat) : Int) := by rw [IntWalk.i64_in _ (by omega)]; omega
  have e2 : IntKind.i64.wrap (1 + (Y : Int)) = ((1 + Y : Nat) : Int) := by rw [IntWalk.i64_in _ (by omega)]; omega
  have e3 : IntKind.i64.wrap (4 + (Z : Int)) = ((4 + Z : Nat) : Int) := by rw [IntWalk.i64_in _ (by omega)]; omega
  have FC := Bx.mk (fun W hW => fail_bool w0 x r A l c m 110 (by decide) (decide (286 < 257 + X ∨ 30 < 1 + Y)) (chk 110 (257 + X ≤ 286 ∧ 1 + Y ≤ 30)) R3 W hW (fun s' _ => by
    unfold chk
    by_cases hh : 257 + X ≤ 286 ∧ 1 + Y ≤ 30
    · rw [if_pos hh, if_pos (by simp; omega)]
    · rw [if_neg hh, if_neg (by simp; omega)]))
  have HK4 := Bx.mk (@run_chk 110 (257 + X ≤ 286 ∧ 1 + Y ≤ 30) _ R3)
  generalize (run (chk 110 (257 + X ≤ 286 ∧ 1 + Y ≤ 30)) () R3).2 = R4 at *
  have hk19 : 4 + Z ≤ 19 := by omega
  have hnm : 257 + X + (1 + Y) ≤ 320 := by omega
  have hnn : 257 ≤ 257 + X := by omega
  have hm1 : 1 ≤ 1 + Y := by omega
  clear V1 V2 V3
  generalize 257 + X = NN at *
  generalize 1 + Y = MM at *
  generalize 4 + Z = KK at *
  go_enter Tryd.func56, Tryd.ntmps56
  go_wp2_with (go_at_call 51; fail)
  refine (N1.out w HA.out).mono ?_
  rintro e w1 ⟨rfl, ha1, hs1⟩
  have A1 := Bx.mk ha1; have S1 := Bx.mk hs1
  clear ha1 hs1 N1 HA
  go_wp2_with (go_at_call 51; fail)
  refine (N2.out w1 A1.out).mono ?_
  rintro e w2 ⟨rfl, ha2, hs2⟩
  have A2 := Bx.mk ha2; have S2 := Bx.mk (S1.out.trans hs2)
  clear ha2 hs2 N2 A1 S1
  go_wp2_with (go_at_call 51; fail)
  refine (N3.out w2 A2.out).mono ?_
  rintro e w3 ⟨rfl, ha3, hs3⟩
  have A3 := Bx.mk ha3; have S3 := Bx.mk (S2.out.trans hs3)
  clear ha3 hs3 N3 A2 S2
  by_cases h1 : 286 < NN
  · have hd1 : (286 : Int) < (NN : Int) := by omega
    rw [decide_eq_true (show 286 < NN ∨ 30 < MM from .inl h1)] at FC
    go_wp2_with (go_at_call 58; fail)
    refine (FC.out w3 A3.out).mono ?_
    rintro e w4 ⟨rfl, ha4, hs4⟩
    have S4 := Bx.mk (S3.out.trans hs4)
    clear hs4 A3 S3 FC
    cases R4 with
    | ok s4 => exact absurd (HK4.out rfl).2 (by omega)
    | error e4 =>
      have A4 := Bx.mk ha4
      have HF : Bx (RF = (([], []), .error e4)) := ⟨HRF.out⟩
      rw [show okR (.error e4) = false from rfl]
      clear ha4 HK4 HRF
      go_wp2
      go_ret2
      exact ⟨_, _, rfl, by rw [HF.out]; exact A4.out, S4.out, fun hc => by rw [HF.out] at hc; cases hc⟩
  by_cases h2 : 30 < MM
  · have hd1 : decide ((286 : Int) < (NN : Int)) = false := by simp; omega
    have hd2 : (30 : Int) < (MM : Int) := by omega
    rw [decide_eq_true (show 286 < NN ∨ 30 < MM from .inr h2)] at FC
    go_wp2_with (go_at_call 58; fail)
    refine (FC.out w3 A3.out).mono ?_
    rintro e w4 ⟨rfl, ha4, hs4⟩
    have S4 := Bx.mk (S3.out.trans hs4)
    clear hs4 A3 S3 FC
    cases R4 with
    | ok s4 => exact absurd (HK4.out rfl).2 (by omega)
    | error e4 =>
      have A4 := Bx.mk ha4
      have HF : Bx (RF = (([], []), .error e4)) := ⟨HRF.out⟩
      rw [show okR (.error e4) = false from rfl]
      clear ha4 HK4 HRF
      go_wp2
      go_ret2
      exact ⟨_, _, rfl, by rw [HF.out]; exact A4.out, S4.out, fun hc => by rw [HF.out] at hc; cases hc⟩
  have hd1 : decide ((286 : Int) < (NN : Int)) = false := by simp; omega
  have hd2 : decide ((30 : Int) < (MM : Int)) = false := by simp; omega
  rw [decide_eq_false (show ¬ (286 < NN ∨ 30 < MM) by omega)] at FC
  go_wp2_with (go_at_call 58; fail)
  refine (FC.out w3 A3.out).mono ?_
  rintro e w4 ⟨rfl, ha4, hs4⟩
  have S4 := Bx.mk (S3.out.trans hs4)
  clear hs4 A3 S3 FC
  cases R4 with
  | error e4 =>
    have A4 := Bx.mk ha4
    have HF : Bx (RF = (([], []), .error e4)) := ⟨HRF.out⟩
    rw [show okR (.error e4) = false from rfl]
    clear ha4 HK4 HRF
    go_wp2
    go_ret2
    exact ⟨_, _, rfl, by rw [HF.out]; exact A4.out, S4.out, fun hc => by rw [HF.out] at hc; cases hc⟩
  | ok s4 =>
    have A4 := Bx.mk ha4
    rw [show okR (.ok s4) = true from rfl]
    clear ha4 HK4
    have hoc := ord_cut KK hk19
    go_wp2
    have B5 : Bx (Blk (w4.alloc (Obj.cells (zi (List.replicate 19 0)) 115)) w4.heap.size 115 (zi (List.replicate 19 0))) := ⟨Blk.new w4 _ _⟩
    have A5 := Bx.mk (A4.out.below (below_alloc1 w4 (Obj.cells (zi (List.replicate 19 0)) 115)))
    have S5 := Bx.mk (S4.out.trans (IStep.below (below_alloc1 w4 (Obj.cells (zi (List.replicate 19 0)) 115))))
    change Code.wp _ _ _ _ (w4.alloc (Obj.cells (zi (List.replicate 19 0)) 115))
    have HQ : Bx (w.heap.size ≤ w4.heap.size) := ⟨S4.out.size⟩
    generalize w4.alloc (Obj.cells (zi (List.replicate 19 0)) 115) = w5 at *
    generalize w4.heap.size = q7 at *
    clear A4 S4 hoc
    go_loopw [9, 33] (fun _ s33 wr => ∃ (i : Nat) (R' : Except Nat SS) (cur : List Nat), i ≤ KK ∧ s33 = .int .i64 (i : Nat) ∧ cur.length = 19 ∧ Bx (Blk wr q7 115 (zi cur)) ∧ Bx (At w0 x r A l c m R' wr) ∧ Bx (IStep w wr) ∧
      Bx (RF = run (bd (firstP l ((ORD.take KK).drop i) cur) (toldT l NN MM)) ([], []) R')) (fun _ i _ => KK - (intOf i).toNat)
    case atStart => exact ⟨0, .ok s4, _, Nat.zero_le _, rfl, List.length_replicate, B5, A5, S5, HRF⟩
    case round =>
      obtain ⟨i, R', cur, hi, rfl, hc19, BQ, AQ, SQ, FQ⟩ := hrel
      clear HRF B5 A5 S5
      by_cases hlt : i < KK
      · have F6 := Bx.mk (FQ.out.trans (ord_step l KK i hlt hk19 cur _ _ R'))
        have co : wr.cell? ⟨2, i, none⟩ = some (.int .i64 ((ORD.getD i 0 : Nat) : Int)) := cell_below AQ.out.be (HG.out.ord i (by omega))
        have hob := ord_bound i (by omega)
        have NC := Bx.mk (number_calls w0 x r A l c m 3 (by decide) R' wr AQ.out)
        clear FQ
        generalize run (numP l 3) 0 R' = PN at *
        obtain ⟨V, R6⟩ := PN
        simp only at NC F6
        generalize ORD.getD i 0 = J at *
        have hobi : (J : Int) < 19 := by omega
        have hik : (i : Int) < (KK : Int) := by omega
        go_wp2_with (go_at_call 51; fail)
        refine NC.out.mono ?_
        rintro e w6 ⟨rfl, ha6, hs6⟩
        have B6 := BQ.out.istep hs6 (by decide) (by decide) (by decide)
        have S6 := Bx.mk (SQ.out.trans hs6)
        have cJ : w6.cell? ⟨q7, J, none⟩ = some (.int .i64 ((cur.getD J 0 : Nat) : Int)) := (B6.cell J).trans (zi_get cur J (by omega))
        have fJ := B6.frozen J
        have AN := Bx.mk (ha6.other (j := J) B6 (by decide) (by decide) (by decide) (Nat.le_trans HW0.out HQ.out) (.int .i64 (V : Int)))
        have SN := Bx.mk (S6.out.setNew (j := J) HQ.out (.int .i64 (V : Int)))
        have b7 := B6.set_ J (.int .i64 (V : Int))
        rw [zi_set] at b7
        have BN := Bx.mk b7
        have hcl : (cur.set J V).length = 19 := by rw [List.length_set]; exact hc19
        have HCL := Bx.mk hcl
        clear ha6 hs6 B6 b7 NC AQ SQ BQ co S6 hcl
        go_wp2
        go_roundw
        case rel => exact ⟨i + 1, R6, cur.set J V, by omega, by go_num, HCL.out, BN, AN, SN, F6⟩
        case measure => simp [intOf]; omega
      · obtain rfl : i = KK := by omega
        have F6 : Bx (RF = run (toldT l NN MM cur) ([], []) R') := ⟨FQ.out.trans (by rw [List.drop_eq_nil_of_le (by rw [List.length_take]; omega)]; rfl)⟩
        clear FQ
        have IRQ : IR wr (some ⟨q7, 0, none⟩) (zl cur) := fun _ => ⟨_, rfl, fun j hj => by
          rw [zl_length] at hj
          rw [add_plain]
          refine (BQ.out.cell j).trans ((zi_get cur j hj).trans ?_)
          congr 2
          unfold zl
          rw [List.getD_eq_getElem?_getD, List.getD_eq_getElem?_getD, List.getElem?_map, List.getElem?_eq_getElem hj]; rfl⟩
        have CC := Bx.mk (coded_calls w0 x r A l c m (.slice (some ⟨q7, 0, none⟩) 19 19) cur R' wr AQ.out (fun _ => ⟨_, 19, by rw [hc19], IRQ, by omega⟩))
        have F7 : Bx (RF = _) := ⟨F6.out.trans (by unfold toldT; rw [run_bd (chk 110 (okL cur)) _ () ([], [])])⟩
        clear F6 IRQ
        generalize (run (chk 110 (okL cur)) () R').2 = R7 at *
        have LC := Bx.mk (fun W p' hW hP => list_calls w0 x r A l c m p' cur (NN + MM) 316 (by omega) (by omega) R7 W hW hP)
        have HLN := Bx.mk (@list_run_len l cur (NN + MM) R7 · (by omega))
        have F8 : Bx (RF = _) := ⟨F7.out.trans (run_bd (listP l cur (NN + MM) 316 []) _ [] ([], []) R7)⟩
        clear F7
        generalize run (listP l cur (NN + MM) 316 []) [] R7 = PL at *
        obtain ⟨o, R8⟩ := PL
        simp only at LC HLN F8
        have hsum : IntKind.i64.wrap ((NN : Int) + (MM : Int)) = ((NN + MM : Nat) : Int) := by rw [IntWalk.i64_in _ (by omega)]; omega
        go_wp2_with (go_at_call 90; fail)
        refine CC.out.mono ?_
        rintro e w6 ⟨p6, rfl, ha6, hs6, hc6⟩
        have A6 := Bx.mk ha6
        have S6 := Bx.mk (SQ.out.trans hs6)
        have C6 := Bx.mk hc6
        clear ha6 hs6 hc6 CC AQ SQ BQ
        go_wp2_with (go_at_call 89; fail)
        refine (LC.out w6 p6 A6.out C6.out).mono ?_
        rintro e w8 ⟨v8, rfl, ha8, hs8, ho8⟩
        have S8 := Bx.mk (S6.out.trans hs8)
        clear hs8 LC A6 S6 C6
        cases R8 with
        | error e8 =>
          obtain ⟨h3, hne, hne2, -⟩ := ha8.no
          have A8 := Bx.mk ha8
          have HF : Bx (RF = (([], []), .error e8)) := ⟨F8.out⟩
          clear ha8 HLN F8 ho8
          go_wp2
          go_ret2
          exact ⟨_, _, rfl, by rw [HF.out]; exact A8.out, S8.out, fun hc => by rw [HF.out] at hc; cases hc⟩
        | ok s8 =>
          have h3 : w8.cell? ⟨x, 3, none⟩ = some (.int .i64 ((0 : Nat) : Int)) := by obtain ⟨O, I⟩ := ha8; exact I.xb.cell 3
          have A8 := Bx.mk ha8
          have hlo := HLN.out s8 rfl
          have O8 := Bx.mk (ho8 rfl)
          clear ha8 HLN ho8
          obtain ⟨OA, OD, hv8, hod⟩ := O8.out.form'
          rw [zl_length] at hv8 hod
          subst hv8
          obtain ⟨g8, hOA, -, -, -, hcell, -⟩ := O8.out.opened (by rw [zl_length]; omega)
          subst hOA
          have c256 : w8.cell? ⟨g8, 256, none⟩ = some (.int .i64 ((o.getD 256 0 : Nat) : Int)) := by
            rw [hcell 256 (by rw [zl_length]; omega)]
            congr 2
            unfold zl
            rw [List.getD_eq_getElem?_getD, List.getD_eq_getElem?_getD, List.getElem?_map, List.getElem?_eq_getElem (by omega)]; rfl
          clear hcell
          have hi256 : (256 : Int) < (o.length : Int) := by omega
          have FC := Bx.mk (fun W hW => fail_bool w0 x r A l c m 110 (by decide) (((o.getD 256 0 : Nat) : Int) == 0) (chk 110 (o.getD 256 0 ≠ 0)) (.ok s8) W hW (fun s' _ => by
            unfold chk
            by_cases hh : o.getD 256 0 = 0
            · rw [if_neg (by omega), if_neg (by rw [hh]; decide)]
            · rw [if_pos hh, if_pos (beq_false_of_ne (by omega))]))
          have HK9 := Bx.mk (@run_chk 110 (o.getD 256 0 ≠ 0) _ (.ok s8))
          have F9 : Bx (RF = _) := ⟨F8.out.trans (run_bd (chk 110 (o.getD 256 0 ≠ 0)) _ () ([], []) (.ok s8))⟩
          clear F8
          generalize (run (chk 110 (o.getD 256 0 ≠ 0)) () (.ok s8)).2 = R9 at *
          generalize o.getD 256 0 = V256 at *
          go_wp2_with (go_at_call 58; fail)
          refine (FC.out w8 A8.out).mono ?_
          rintro e w9 ⟨rfl, ha9, hs9⟩
          have S9 := Bx.mk (S8.out.trans hs9)
          have O9 := Bx.mk (O8.out.istep hs9)
          clear hs9 A8 S8 FC c256 O8 h3
          cases R9 with
          | error e9 =>
            have A9 := Bx.mk ha9
            have HF : Bx (RF = (([], []), .error e9)) := ⟨F9.out⟩
            rw [show okR (.error e9) = false from rfl]
            clear ha9 HK9 F9
            go_wp2
            go_ret2
            exact ⟨_, _, rfl, by rw [HF.out]; exact A9.out, S9.out, fun hc => by rw [HF.out] at hc; cases hc⟩
          | ok s9 =>
            have A9 := Bx.mk ha9
            rw [show okR (.ok s9) = true from rfl]
            clear ha9 HK9
            have hne' : ¬ OD = NN := by omega
            have k1 := cut_to_ints (some ⟨g8, 0, none⟩) (NN + MM) OD NN (by omega) (by omega)
            have k2 : ∀ W, (Instr.slice 65 (.slice (some ⟨g8, 0, none⟩) (NN + MM) OD) (some (.int .i64 (NN : Int))) none none).run Tryd.prog W = .ok (.slice (some ⟨g8, NN, none⟩) MM (OD - NN)) W := fun W => by
              rw [cut_from_ints (some ⟨g8, 0, none⟩) (NN + MM) OD NN (by omega) W, if_neg hne', Option.map_some, add_plain, show NN + MM - NN = MM by omega]
            have L1 : (o.take NN).length = NN := by rw [List.length_take]; omega
            have L2 : (o.drop NN).length = MM := by rw [List.length_drop]; omega
            have I2 : ∀ W, OI W w6.heap.size (.slice (some ⟨g8, 0, none⟩) o.length OD) (zl o) → IR W (some ⟨g8, NN, none⟩) (zl (o.drop NN)) := fun W hW => by
              have := hW.ir.drop NN OD (by rw [zl_length]; omega)
              rw [if_neg hne', Option.map_some, add_plain] at this
              unfold zl at this ⊢
              rw [List.map_drop]; exact this
            have I1 : ∀ W, OI W w6.heap.size (.slice (some ⟨g8, 0, none⟩) o.length OD) (zl o) → IR W (some ⟨g8, 0, none⟩) (zl (o.take NN)) := fun W hW => by
              have := hW.ir.take NN
              unfold zl at this ⊢
              rw [List.map_take]; exact this
            have CA := Bx.mk (coded_calls w0 x r A l c m (.slice (some ⟨g8, 0, none⟩) NN OD) (o.take NN) (.ok s9) w9 A9.out (fun _ => ⟨_, OD, by rw [L1], I1 _ O9.out, by rw [L1]; omega⟩))
            have F10 : Bx (RF = _) := ⟨F9.out.trans (run_bd (chk 110 (okL (o.take NN))) _ () ([], []) (.ok s9))⟩
            clear F9
            generalize (run (chk 110 (okL (o.take NN))) () (.ok s9)).2 = R10 at *
            have CB := Bx.mk (fun W hW (hO : OI W w6.heap.size (.slice (some ⟨g8, 0, none⟩) o.length OD) (zl o)) => coded_calls w0 x r A l c m (.slice (some ⟨g8, NN, none⟩) MM (OD - NN)) (o.drop NN) R10 W hW (fun _ => ⟨_, OD - NN, by rw [L2], I2 _ hO, by rw [L2]; omega⟩))
            have F11 : Bx (RF = _) := ⟨F10.out.trans (run_bd (chk 110 (okL (o.drop NN))) _ () ([], []) R10)⟩
            have HK11 := Bx.mk (@run_chk 110 (okL (o.drop NN)) _ R10)
            clear F10
            generalize (run (chk 110 (okL (o.drop NN))) () R10).2 = R11 at *
            have K1 := Bx.mk k1
            have hlo' := Bx.mk hlo
            clear I1 I2 L1 L2 hlo
            go_wp2_with (go_at_call 90; fail)
            refine CA.out.mono ?_
            rintro e w10 ⟨p10, rfl, ha10, hs10, hc10⟩
            have A10 := Bx.mk ha10
            have S10 := Bx.mk (S9.out.trans hs10)
            have O10 := Bx.mk (O9.out.istep hs10)
            have C10 := Bx.mk hc10
            clear ha10 hs10 hc10 CA A9 S9 O9
            go_wp2_with (go_at_call 90; fail)
            refine (CB.out w10 A10.out O10.out).mono ?_
            rintro e w11 ⟨p11, rfl, ha11, hs11, hc11⟩
            have A11 := Bx.mk ha11
            have S11 := Bx.mk (S10.out.trans hs11)
            have C11 := Bx.mk (fun h : okR R11 = true => And.intro ((C10.out (by
              cases R11 with
              | error e => cases h
              | ok s => rw [(HK11.out rfl).1]; rfl)).istep hs11) (hc11 h))
            clear ha11 hs11 hc11 CB A10 S10 O10
            go_wp2
            go_ret2
            obtain ⟨hr1, hr2⟩ := run_ret (o.take NN, o.drop NN) ([], []) R11
            exact ⟨_, _, rfl, by rw [F11.out, hr1]; exact A11.out, S11.out, fun hc => by rw [F11.out, hr1] at hc; rw [F11.out, hr2 hc]; exact C11.out hc⟩
end Go.Proofs.YtoekecopfmohiaaDoor
