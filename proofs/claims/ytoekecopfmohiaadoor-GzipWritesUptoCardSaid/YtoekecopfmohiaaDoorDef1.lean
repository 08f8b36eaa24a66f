import Derived.Test.YtoekecopfmohiaaDoorStoPure
import Derived.Test.YtoekecopfmohiaaDoorInf10
/-
  Store: its walk.
-/
namespace Go.Proofs.YtoekecopfmohiaaDoor
open Go.RowKit

theorem fN_snoc (fs : List Fd) (n b : Nat) : fN (fs ++ [(n, b)]) = fN fs + 2 ^ fA fs * n := by rw [fN_app]; simp [fN]
theorem fA_snoc (fs : List Fd) (n b : Nat) : fA (fs ++ [(n, b)]) = fA fs + b := by rw [fA_app]; simp [fA]
/-- a writer that holds fields -/
def WF (w : World) (g : Nat) (fs : List Fd) : Prop := ∃ v, Wr w g v (fN fs) (fA fs)
theorem WF.below {w w' : World} {g : Nat} {fs : List Fd} (h : WF w g fs) (hb : Below w.heap.size w w') : WF w' g fs := let ⟨v, h⟩ := h; ⟨v, h.below hb⟩
theorem put_field (g : Nat) (fs : List Fd) (n b : Nat) (w : World) (h : WF w g fs) (hb : b ≤ 24) (hn : n < 2 ^ b) (ha : fA fs ≤ 1125899906809000) (w0 : World) (hg : w0.heap.size ≤ g) (hw : Below w0.heap.size w0 w) :
    Calls Tryd.prog 33 #[.pointer (some ⟨g, 0, none⟩), .int .i64 (n : Int), .int .i64 (b : Int)] w fun e w' => e = .returned (.int .i64 0) ∧ WF w' g (fs ++ [(n, b)]) ∧ Below w0.heap.size w0 w' := by
  obtain ⟨v, h⟩ := h
  refine (Put_yes g v _ _ n b w h hb hn ha).mono ?_
  rintro e w' ⟨rfl, v', h', hs⟩
  exact ⟨rfl, ⟨v', by rw [fN_snoc, fA_snoc]; exact h'⟩, hw.trans (hs.below _ hg hw.size)⟩
theorem align_field (g : Nat) (fs : List Fd) (k : Nat) (w : World) (h : WF w g fs) (hk : (fA fs + 7) / 8 * 8 = fA fs + k) (ha : fA fs ≤ 1125899906809000) (w0 : World) (hg : w0.heap.size ≤ g) (hw : Below w0.heap.size w0 w) :
    Calls Tryd.prog 34 #[.pointer (some ⟨g, 0, none⟩)] w fun e w' => e = .returned (.int .i64 0) ∧ WF w' g (fs ++ [(0, k)]) ∧ Below w0.heap.size w0 w' := by
  obtain ⟨v, h⟩ := h
  refine (wAlign_calls g v _ _ w h (by omega)).mono ?_
  rintro e w' ⟨rfl, h', hs⟩
  rw [hk] at h'
  exact ⟨rfl, ⟨v, by rw [fN_snoc, fA_snoc, Nat.mul_zero, Nat.add_zero]; exact h'⟩, hw.trans (hs.below _ hg hw.size)⟩
theorem bytes_field (g : Nat) (fs : List Fd) (B : Option Addr) (m : List Nat) (c : Nat) (w : World) (h : WF w g fs) (hm : RB w B m) (h8 : fA fs % 8 = 0) (ha : fA fs + 8 * m.length ≤ 1125899906809000) (w0 : World) (hg : w0.heap.size ≤ g) (hw : Below w0.heap.size w0 w) :
    Calls Tryd.prog 35 #[.pointer (some ⟨g, 0, none⟩), .slice B m.length c] w fun e w' => e = .returned (.int .i64 0) ∧ WF w' g (fs ++ [(lsum m, 8 * m.length)]) ∧ Below w0.heap.size w0 w' := by
  obtain ⟨v, h⟩ := h
  refine (wBytes_yes g v _ _ B m c w h hm h8 (by omega)).mono ?_
  rintro e w' ⟨rfl, v', h', hs⟩
  exact ⟨rfl, ⟨v', by rw [fN_snoc, fA_snoc]; exact h'⟩, hw.trans (hs.below _ hg hw.size)⟩
theorem all_fields (g : Nat) (fs : List Fd) (w : World) (h : WF w g fs) (ha : fA fs ≤ 1125899906809000) :
    Calls Tryd.prog 36 #[.pointer (some ⟨g, 0, none⟩)] w fun e w' => ∃ l v', Bts l (fN fs) (fA fs) ∧ e = .returned v' ∧ OB w' w.heap.size v' l ∧ Below w.heap.size w w' := by
  obtain ⟨v, h⟩ := h
  exact wAll_calls g v _ _ w h (by omega)
theorem ownsRow_le' {w : World} {base base' size n : Nat} {e : TypeId} {v : Value} {xs : List Value} (h : w.ownsRow base e size v n xs) (hb : base' ≤ base) : w.ownsRow base' e size v n xs :=
  ⟨h.1, h.2.imp id fun ⟨g, cap, cur, a, b, r⟩ => ⟨g, cap, cur, a, Nat.le_trans hb b, r⟩⟩
theorem OB.le {w : World} {base base' : Nat} {v : Value} {l : List Nat} (h : OB w base v l) (hb : base' ≤ base) : OB w base' v l := ownsRow_le' h hb
theorem stoF_last (k : Nat) (R : List Nat) (h : R.length ≤ 65535) : stoF (k + 1) R = stoB R R.length 1 := by simp only [stoF]; rw [if_pos (by omega), Nat.min_eq_left h]
theorem stoF_more (k : Nat) (R : List Nat) (h : ¬ R.length ≤ 65535) : stoF (k + 1) R = stoB R 65535 0 ++ stoF k (R.drop 65535) := by simp only [stoF]; rw [if_neg (by omega), Nat.min_eq_right (by omega)]
set_option maxRecDepth 100000 in
set_option maxHeartbeats 4000000 in
theorem Store_calls (A : Option Addr) (b : List Nat) (c : Nat) (w : World) (hb : RB w A b) (hc : b.length ≤ c) (hl : b.length ≤ 262144) :
    Calls Tryd.prog 18 #[.slice A b.length c] w fun e w' => ∃ l v', Bts l (fN (stoF 262145 b)) (fA (stoF 262145 b)) ∧ e = .returned v' ∧ OB w' w.heap.size v' l ∧ Below w.heap.size w w' := by
  have HB := Bx.mk hb
  have HW := Bx.mk (Write_calls w)
  obtain ⟨WH, hWH⟩ : ∃ WH, WH = stoF 262145 b := ⟨_, rfl⟩
  rw [← hWH]
  have HWH := Bx.mk hWH
  clear hb hWH
  go_enter Tryd.func18, Tryd.ntmps18
  go_wp2_with (go_at_call 32; fail)
  refine HW.out.mono ?_
  rintro e w1 ⟨rfl, hw1, hb1⟩
  have W1 : Bx (WF w1 w.heap.size []) := ⟨_, hw1⟩
  have B1 : Bx (Below w.heap.size w w1) := ⟨by rw [hb1]; exact below_alloc1 _ _⟩
  obtain ⟨g, hgg⟩ : ∃ g, g = w.heap.size := ⟨_, rfl⟩
  rw [← hgg] at W1 ⊢
  have HG : Bx (w.heap.size ≤ g) := ⟨by omega⟩
  clear hw1 hb1 HW hgg
  go_wp2
  go_loopg [0] 262145 (fun k s0 wr => ∃ (fs : List Fd) (A' : Option Addr) (R : List Nat) (c' : Nat), s0 = .slice A' R.length c' ∧ R.length ≤ c' ∧ R.length < k ∧ Bx (WF wr g fs) ∧ Bx (RB w A' R) ∧ Bx (Below w.heap.size w wr) ∧ Bx (WH = fs ++ stoF k R) ∧ Bx (fA fs % 8 = 0 ∧ fA fs + 48 * R.length ≤ 12582912))
  case atStart => exact ⟨[], A, b, c, rfl, hc, by omega, W1, HB, B1, ⟨HWH.out⟩, ⟨rfl, by simp only [fA]; omega⟩⟩
  case round =>
    obtain ⟨fs, A', R, c', rfl, hRc, hRk, WQ, RQ, BQ, FQ, MQ⟩ := hrel
    clear HB W1 B1 HWH
    obtain ⟨k', rfl⟩ : ∃ k', gk = k' + 1 := ⟨gk - 1, by omega⟩
    have PN := Bx.mk (fun (fs : List Fd) n bb W => fun (h : WF W g fs) hb hn ha hw => put_field g fs n bb W h hb hn ha w HG.out hw)
    have AN := Bx.mk (fun (fs : List Fd) k W => fun (h : WF W g fs) hk ha hw => align_field g fs k W h hk ha w HG.out hw)
    have BN := Bx.mk (fun (fs : List Fd) B m cc W => fun (h : WF W g fs) hm h8 ha hw => bytes_field g fs B m cc W h hm h8 ha w HG.out hw)
    by_cases h1 : R.length ≤ 65535
    · have hmin : min (R.length : Int) 65535 = (R.length : Int) := by omega
      have hx : bits .xor .i64 (R.length : Int) 65535 = ((R.length ^^^ 65535 : Nat) : Int) := i64_xor_nat R.length 65535 (by omega) (by omega)
      have HXL : Bx (R.length ^^^ 65535 < 2 ^ 16) := ⟨Nat.xor_lt_two_pow (by omega) (by omega)⟩
      have k1 := cut_to_bytes A' R.length c' R.length (Nat.le_refl _) hRc
      obtain ⟨A2, hA2⟩ : ∃ A2, A2 = if c' = R.length then A' else A'.map (·.add R.length) := ⟨_, rfl⟩
      have k2 : ∀ W, (Instr.slice 22 (.slice A' R.length c') (some (.int .i64 (R.length : Int))) none none).run Tryd.prog W = .ok (.slice A2 0 (c' - R.length)) W := fun W => by
        rw [hA2]; have := cut_from_bytes A' R.length c' R.length (Nat.le_refl _) W; rw [Nat.sub_self] at this; exact this
      clear hA2
      have RT : Bx (RB w A' (R.take R.length)) := ⟨RQ.out.take _⟩
      have HTL : Bx ((R.take R.length).length = R.length) := ⟨by rw [List.length_take, Nat.min_self]⟩
      go_wp2_with (go_at_call 33; fail)
      refine (PN.out fs 1 3 wr WQ.out (by decide) (by decide) (by have := MQ.out; omega) BQ.out).mono ?_
      rintro e w2 ⟨rfl, h2, hb2⟩
      have W2 := Bx.mk h2; have B2 := Bx.mk hb2
      have M2 : Bx (fA (fs ++ [(1, 3)]) = fA fs + 3) := ⟨fA_snoc _ _ _⟩
      clear h2 hb2 WQ BQ
      go_wp2_with (go_at_call 34; fail)
      refine (AN.out _ 5 w2 W2.out (by rw [M2.out]; have := MQ.out; omega) (by rw [M2.out]; have := MQ.out; omega) B2.out).mono ?_
      rintro e w3 ⟨rfl, h3, hb3⟩
      rw [List.append_assoc] at h3
      have W3 := Bx.mk h3; have B3 := Bx.mk hb3
      have M3 : Bx (fA (fs ++ ([(1, 3)] ++ [(0, 5)])) = fA fs + 8) := ⟨by rw [fA_app]; rfl⟩
      clear h3 hb3 W2 B2 M2
      go_wp2_with (go_at_call 33; fail)
      refine (PN.out _ R.length 16 w3 W3.out (by decide) (by first | decide | omega) (by rw [M3.out]; have := MQ.out; omega) B3.out).mono ?_
      rintro e w4 ⟨rfl, h4, hb4⟩
      rw [List.append_assoc] at h4
      have W4 := Bx.mk h4; have B4 := Bx.mk hb4
      have M4 : Bx (fA (fs ++ ([(1, 3)] ++ [(0, 5)] ++ [(R.length, 16)])) = fA fs + 24) := ⟨by rw [fA_app]; rfl⟩
      clear h4 hb4 W3 B3 M3
      go_wp2_with (go_at_call 33; fail)
      refine (PN.out _ (R.length ^^^ 65535) 16 w4 W4.out (by decide) (by first | exact HXL.out | decide) (by rw [M4.out]; have := MQ.out; omega) B4.out).mono ?_
      rintro e w5 ⟨rfl, h5, hb5⟩
      rw [List.append_assoc] at h5
      have W5 := Bx.mk h5; have B5 := Bx.mk hb5
      have M5 : Bx (fA (fs ++ ([(1, 3)] ++ [(0, 5)] ++ [(R.length, 16)] ++ [((R.length ^^^ 65535), 16)])) = fA fs + 40) := ⟨by rw [fA_app]; rfl⟩
      clear h5 hb5 W4 B4 M4
      have hby := BN.out _ A' (R.take R.length) c' w5 W5.out (RT.out.below B5.out) (by rw [M5.out]; have := MQ.out; omega) (by rw [M5.out, HTL.out]; have := MQ.out; omega) B5.out
      rw [HTL.out] at hby
      have HBY := Bx.mk hby
      clear hby
      go_wp2_with (go_at_call 35; fail)
      refine HBY.out.mono ?_
      rintro e w6 ⟨rfl, h6, hb6⟩
      rw [List.append_assoc] at h6
      have W6 := Bx.mk h6; have B6 := Bx.mk hb6
      clear h6 hb6 W5 B5 M5 HBY
      have F6 : Bx (WH = fs ++ ([(1, 3)] ++ [(0, 5)] ++ [(R.length, 16)] ++ [(R.length ^^^ 65535, 16)] ++ [(lsum (R.take R.length), 8 * R.length)])) := ⟨by rw [FQ.out, stoF_last k' R h1]; rfl⟩
      rw [← F6.out] at W6
      have ML : Bx (fA WH ≤ 1125899906809000) := ⟨by rw [FQ.out, stoF_last k' R h1, fA_app, stoB_A]; have := MQ.out; omega⟩
      have AL := Bx.mk (all_fields g WH w6 W6.out ML.out)
      clear F6 W6
      go_wp2_with (go_at_call 36; fail)
      refine AL.out.mono ?_
      rintro e w7 ⟨l7, v7, ht7, rfl, ho7, hb7⟩
      have T7 := Bx.mk ht7
      have O7 := Bx.mk (OB.le ho7 B6.out.size)
      have B7 := Bx.mk (below_then B6.out B6.out.size hb7)
      clear ht7 ho7 hb7 AL
      go_wp2
      go_ret
      exact ⟨l7, _, T7.out, rfl, O7.out, B7.out⟩
    · have hmin : min (R.length : Int) 65535 = 65535 := by omega
      have hne : ((65535 : Int) == (R.length : Int)) = false := beq_false_of_ne (by omega)
      have hx : bits .xor .i64 65535 65535 = 0 := by decide
      have HXL : Bx (0 < 2 ^ 16) := ⟨by decide⟩
      have k1 : ∀ W, (Instr.slice 22 (.slice A' R.length c') none (some (.int .i64 65535)) none).run Tryd.prog W = .ok (.slice A' 65535 c') W := cut_to_bytes A' R.length c' 65535 (by omega) hRc
      obtain ⟨A2, hA2⟩ : ∃ A2, A2 = if c' = 65535 then A' else A'.map (·.add 65535) := ⟨_, rfl⟩
      obtain ⟨R2, hR2⟩ : ∃ R2, R2 = R.drop 65535 := ⟨_, rfl⟩
      have hR2l : R2.length = R.length - 65535 := by rw [hR2, List.length_drop]
      have k2 : ∀ W, (Instr.slice 22 (.slice A' R.length c') (some (.int .i64 65535)) none none).run Tryd.prog W = .ok (.slice A2 R2.length (c' - 65535)) W := fun W => by
        rw [hA2, hR2l]; exact cut_from_bytes A' R.length c' 65535 (by omega) W
      have RQ2 : Bx (RB w A2 R2) := ⟨by rw [hA2, hR2]; exact RQ.out.drop 65535 c' hRc⟩
      have F2 : Bx (WH = fs ++ (stoB R 65535 0 ++ stoF k' R2)) := ⟨by rw [FQ.out, stoF_more k' R h1, hR2]⟩
      have RT : Bx (RB w A' (R.take 65535)) := ⟨RQ.out.take _⟩
      have HTL : Bx ((R.take 65535).length = 65535) := ⟨by rw [List.length_take]; omega⟩
      have HR2 := Bx.mk hR2l
      clear hA2 hR2 hR2l FQ
      go_wp2_with (go_at_call 33; fail)
      refine (PN.out fs 0 3 wr WQ.out (by decide) (by decide) (by have := MQ.out; omega) BQ.out).mono ?_
      rintro e w2 ⟨rfl, h2, hb2⟩
      have W2 := Bx.mk h2; have B2 := Bx.mk hb2
      have M2 : Bx (fA (fs ++ [(0, 3)]) = fA fs + 3) := ⟨fA_snoc _ _ _⟩
      clear h2 hb2 WQ BQ
      go_wp2_with (go_at_call 34; fail)
      refine (AN.out _ 5 w2 W2.out (by rw [M2.out]; have := MQ.out; omega) (by rw [M2.out]; have := MQ.out; omega) B2.out).mono ?_
      rintro e w3 ⟨rfl, h3, hb3⟩
      rw [List.append_assoc] at h3
      have W3 := Bx.mk h3; have B3 := Bx.mk hb3
      have M3 : Bx (fA (fs ++ ([(0, 3)] ++ [(0, 5)])) = fA fs + 8) := ⟨by rw [fA_app]; rfl⟩
      clear h3 hb3 W2 B2 M2
      go_wp2_with (go_at_call 33; fail)
      refine (PN.out _ 65535 16 w3 W3.out (by decide) (by first | decide | omega) (by rw [M3.out]; have := MQ.out; omega) B3.out).mono ?_
      rintro e w4 ⟨rfl, h4, hb4⟩
      rw [List.append_assoc] at h4
      have W4 := Bx.mk h4; have B4 := Bx.mk hb4
      have M4 : Bx (fA (fs ++ ([(0, 3)] ++ [(0, 5)] ++ [(65535, 16)])) = fA fs + 24) := ⟨by rw [fA_app]; rfl⟩
      clear h4 hb4 W3 B3 M3
      go_wp2_with (go_at_call 33; fail)
      refine (PN.out _ 0 16 w4 W4.out (by decide) (by first | exact HXL.out | decide) (by rw [M4.out]; have := MQ.out; omega) B4.out).mono ?_
      rintro e w5 ⟨rfl, h5, hb5⟩
      rw [List.append_assoc] at h5
      have W5 := Bx.mk h5; have B5 := Bx.mk hb5
      have M5 : Bx (fA (fs ++ ([(0, 3)] ++ [(0, 5)] ++ [(65535, 16)] ++ [(0, 16)])) = fA fs + 40) := ⟨by rw [fA_app]; rfl⟩
      clear h5 hb5 W4 B4 M4
      have hby := BN.out _ A' (R.take 65535) c' w5 W5.out (RT.out.below B5.out) (by rw [M5.out]; have := MQ.out; omega) (by rw [M5.out, HTL.out]; have := MQ.out; omega) B5.out
      rw [HTL.out] at hby
      have HBY := Bx.mk hby
      clear hby
      go_wp2_with (go_at_call 35; fail)
      refine HBY.out.mono ?_
      rintro e w6 ⟨rfl, h6, hb6⟩
      rw [List.append_assoc] at h6
      have W6 := Bx.mk h6; have B6 := Bx.mk hb6
      clear h6 hb6 W5 B5 M5 HBY
      have F6 : Bx (WH = (fs ++ ([(0, 3)] ++ [(0, 5)] ++ [(65535, 16)] ++ [(0, 16)] ++ [(lsum (R.take 65535), 8 * 65535)])) ++ stoF k' R2) := ⟨by rw [F2.out, List.append_assoc]; rfl⟩
      have M6 : Bx (fA (fs ++ ([(0, 3)] ++ [(0, 5)] ++ [(65535, 16)] ++ [(0, 16)] ++ [(lsum (R.take 65535), 8 * 65535)])) = fA fs + 524320) := ⟨by rw [fA_app]; rfl⟩
      have MN : Bx (fA (fs ++ ([(0, 3)] ++ [(0, 5)] ++ [(65535, 16)] ++ [(0, 16)] ++ [(lsum (R.take 65535), 8 * 65535)])) % 8 = 0 ∧ fA (fs ++ ([(0, 3)] ++ [(0, 5)] ++ [(65535, 16)] ++ [(0, 16)] ++ [(lsum (R.take 65535), 8 * 65535)])) + 48 * R2.length ≤ 12582912) := ⟨by
        rw [M6.out, HR2.out]; have := MQ.out; omega⟩
      have HRc2 : Bx (R2.length ≤ c' - 65535) := ⟨by rw [HR2.out]; omega⟩
      have HRk2 : Bx (R2.length < k') := ⟨by rw [HR2.out]; omega⟩
      go_wp2
      go_roundg k'
      case measure => omega
      case rel => exact ⟨_, A2, R2, c' - 65535, rfl, HRc2.out, HRk2.out, W6, RQ2, B6, F6, MN⟩
end Go.Proofs.YtoekecopfmohiaaDoor
