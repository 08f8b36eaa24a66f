import Derived.Test.YtoekecopfmohiaaDoorRefGz1
/-
  The reference of deflate: again.
-/
namespace Go.Proofs.YtoekecopfmohiaaDoor
open Go.RowKit

theorem bapp_endI {w w1 w2 : World} {base : Nat} {T : Value} {l : List Int} (hT : OI w1 base T l) (hb : Below w.heap.size w w1) (hz : w.heap.size ≤ base) (hg : w1.grownBy w2 T.ownBlock) : Below w.heap.size w w2 :=
  hb.grown hg hb.size fun k hk => Nat.le_trans hz (own_block' hT k hk).1
theorem OI.fives (w : World) : OI (w.alloc (.cells #[.int .i64 0, .int .i64 0, .int .i64 0, .int .i64 0, .int .i64 0] 3)) w.heap.size (.slice (some ⟨w.heap.size, 0, none⟩) 5 5) (zl [0, 0, 0, 0, 0]) :=
  ⟨rfl, .inr ⟨w.heap.size, 5, #[.int .i64 0, .int .i64 0, .int .i64 0, .int .i64 0, .int .i64 0], rfl, Nat.le_refl _, heap_alloc_new w _, by decide, by decide, rfl, rfl⟩⟩
theorem at_good : ∀ n, n < 259 → 3 ≤ n → LB.getD (atN n) 0 ≤ n ∧ (atN n = 28 ∨ n ≠ 258) := by decide +kernel
theorem at_last0 : ∀ n, n < 259 → ((List.range 29).all fun k => decide (3 ≤ n → atN n < k → (n < LB.getD k 0 ∨ (k ≠ 28 ∧ n = 258)))) = true := by decide +kernel
theorem at_last (n : Nat) (hn : n < 259) (k : Nat) (hk : k < 29) (h3 : 3 ≤ n) (h : atN n < k) : n < LB.getD k 0 ∨ (k ≠ 28 ∧ n = 258) :=
  of_decide_eq_true (List.all_eq_true.1 (at_last0 n hn) k (List.mem_range.2 hk)) h3 h
theorem lbx_le : ∀ k, k < 29 → LB.getD k 0 ≤ 258 ∧ LX.getD k 0 ≤ 5 := by decide
theorem word_len (s : Nat) (hs : s < 288) : (wordF fixLn s).length ≤ 9 := by
  rw [(Bd.lit s hs).len]
  have := (litF_le s hs).1
  simp only [fA]; omega
set_option maxRecDepth 100000 in
set_option maxHeartbeats 4000000 in
theorem again_calls (n q : Nat) (w : World) (hW : WO w q 288 (wordF fixLn)) (h3 : 3 ≤ n) (hn : n < 259) :
    Calls Tryd.prog 77 #[.int .i64 (n : Int), .slice (some ⟨q, 0, none⟩) 288 288] w fun e w' => ∃ v l, Bd l (cpyF (atN n) n) ∧ e = .returned v ∧ OI w' w.heap.size v (zl l) ∧ Below w.heap.size w w' := by
  have HW := Bx.mk hW
  obtain ⟨g1, g2⟩ := at_good n hn h3
  have g3 := fun k hk => at_last n hn k hk h3
  obtain ⟨a1, a2, a3, a4, -, -⟩ := atN_ok n hn h3
  have BD := Bx.mk ((Bd.lit (257 + atN n) (by omega)).app ((Bd.low (n - LB.getD (atN n) 0) (LX.getD (atN n) 0) a3).app Bd.five))
  have BD2 : Bx (Bd (wordF fixLn (257 + atN n) ++ (lowL (n - LB.getD (atN n) 0) (LX.getD (atN n) 0) ++ [0, 0, 0, 0, 0])) (cpyF (atN n) n)) := ⟨BD.out⟩
  have hwl := word_len (257 + atN n) (by omega)
  clear hW BD a3
  generalize hcp : cpyF (atN n) n = CP at *
  clear hcp
  generalize hat : atN n = T at *
  clear hat
  have G3 := Bx.mk g3
  clear g3
  go_enter Tryd.func77, Tryd.ntmps77
  go_wp2
  go_loopw [5] (fun s5 wr => ∃ k : Nat, k < 29 ∧ T ≤ k ∧ s5 = .int .i64 (k : Nat) ∧ wr = w) (fun s5 _ => (intOf s5).toNat)
  case atStart => exact ⟨28, by decide, by omega, rfl, rfl⟩
  case round =>
    obtain ⟨k, hk, hTk, rfl, rfl⟩ := hrel
    have hk0 : (0 : Int) ≤ (k : Int) := by omega
    have SC := Bx.mk (span_calls k wr hk)
    have hlb := lbx_le k hk
    by_cases hT : T = k
    · subst hT
      generalize LB.getD T 0 = B at *
      generalize LX.getD T 0 = X at *
      have hge : (B : Int) ≤ (n : Int) := by omega
      have h257 : IntKind.i64.wrap (257 + (T : Int)) = ((257 + T : Nat) : Int) := by rw [IntWalk.i64_in _ (by omega)]; omega
      have hnb : IntKind.i64.wrap ((n : Int) - (B : Int)) = ((n - B : Nat) : Int) := by rw [IntWalk.i64_in _ (by omega)]; omega
      have hba := below_alloc1 wr (.cells #[] 3)
      have HW1 := Bx.mk (HW.out.below hba)
      have E1 := Bx.mk (OI.empty wr)
      have B1 := Bx.mk hba
      have hK : 257 + T < 288 := by omega
      obtain ⟨K, hKe⟩ : ∃ K, K = 257 + T := ⟨_, rfl⟩
      rw [← hKe] at h257 hK hwl BD2
      have HKE := Bx.mk hKe
      clear hKe
      obtain ⟨v0, hcell, hov, -⟩ := HW1.out.cell K hK
      obtain ⟨A0, c0, hv0⟩ := hov.form
      subst hv0
      rw [zl_length] at hcell
      have OV := Bx.mk hov
      have hKi : (K : Int) < 288 := by omega
      generalize wordF fixLn K = WL at *
      have LC := Bx.mk (fun W => low_calls (n - B) X W (by omega) (by omega))
      have hll : (lowL (n - B) X).length = X := lowL_length _ _
      generalize lowL (n - B) X = LL at *
      generalize n - B = NB at *
      clear hov hba
      by_cases h28 : T = 28
      case' pos =>
        have c28 : ((T : Int) == 28) = true := by rw [h28]; rfl
        clear h28
        go_wp2_with (go_at_call 99; fail)
        refine SC.out.mono ?_
        rintro e w0 ⟨rfl, rfl⟩
      case' neg =>
        have c28 : ((T : Int) == 28) = false := beq_false_of_ne (by omega)
        have c258 : ((n : Int) != 258) = true := by rw [bne_iff_ne]; have := g2.resolve_left h28; omega
        clear h28
        go_wp2_with (go_at_call 99; fail)
        refine SC.out.mono ?_
        rintro e w0 ⟨rfl, rfl⟩
      all_goals
        have hl1 : ((zl [] : List Int).length + WL.length) * 8 ≤ 140737492549632 := by simp [zl]; omega
        have hz1 : wr.heap.size ≤ (wr.alloc (.cells #[] 3)).heap.size := by simp
        go_wp2_with (first | (at_builtin; refine wpList_append_ints (wr.alloc (.cells #[] 3)) rfl (.tmp 28) (.tmp 33) rfl wr.heap.size _ (zl []) (zl WL) WL.length (zl_length _) rfl E1.out A0 c0 rfl (by have := OV.out.reads; rw [zl_length] at this; exact this) hl1 hz1 ?_; intro v2 w2 ho2 hg2 _; have O2 := Bx.mk ho2; have B2 := Bx.mk (bapp_endI E1.out B1.out (Nat.le_refl _) hg2); clear ho2 hg2 E1 B1) | (go_at_call 100; fail) | fail)
        refine (LC.out w2).mono ?_
        rintro e w3 ⟨v3, rfl, ho3, hb3⟩
        obtain ⟨A3, c3, hv3⟩ := ho3.form
        have r3 := ho3
        rw [hv3] at r3
        rw [zl_length, hll] at hv3
        subst hv3
        have O3 := Bx.mk (O2.out.below hb3)
        have B3 := Bx.mk (below_then B2.out B2.out.size hb3)
        have R3 := Bx.mk r3.reads
        rw [zl_length, hll] at R3
        have hl3 : ((zl [] : List Int) ++ zl WL).length * 8 + X * 8 ≤ 140737492549632 := by rw [← zl_app, List.nil_append, zl_length]; omega
        have hl3' : (((zl [] : List Int) ++ zl WL).length + X) * 8 ≤ 140737492549632 := by omega
        have hz3 : wr.heap.size ≤ w3.heap.size := B3.out.size
        have hzX : (zl LL).length = X := by rw [zl_length, hll]
        clear ho3 hb3 O2 B2 hl1 hz1 r3
        go_wp2_with (first | (at_builtin; refine wpList_append_ints w3 rfl (.tmp 34) (.tmp 39) rfl wr.heap.size v2 (zl [] ++ zl WL) (zl LL) X hzX rfl O3.out A3 c3 rfl R3.out hl3' hz3 ?_; intro v4 w4 ho4 hg4 _; have hba4 := below_alloc1 w4 (.cells #[.int .i64 0, .int .i64 0, .int .i64 0, .int .i64 0, .int .i64 0] 3); have O4 := Bx.mk (ho4.kept hba4); have b4 := bapp_endI O3.out B3.out (Nat.le_refl _) hg4; have B4 := Bx.mk (below_then b4 b4.size hba4); have F4 := Bx.mk (OI.fives w4).reads; have hl4 : ((zl [] ++ zl WL ++ zl LL).length + 5) * 8 ≤ 140737492549632 := (by rw [← zl_app, ← zl_app, List.nil_append, zl_length, List.length_append]; omega); have hz4 : wr.heap.size ≤ (w4.alloc (.cells #[.int .i64 0, .int .i64 0, .int .i64 0, .int .i64 0, .int .i64 0] 3)).heap.size := B4.out.size; clear ho4 hg4 hba4 b4 O3 B3 R3) | (at_builtin; refine wpList_append_ints _ rfl (.tmp 40) (.tmp 41) rfl wr.heap.size v4 (zl [] ++ zl WL ++ zl LL) (zl [0, 0, 0, 0, 0]) 5 rfl rfl O4.out (some ⟨w4.heap.size, 0, none⟩) 5 rfl F4.out hl4 hz4 ?_; intro v5 w5 ho5 hg5 _; have O5 := Bx.mk ho5; have B5 := Bx.mk (bapp_endI O4.out B4.out (Nat.le_refl _) hg5); clear ho5 hg5 O4 B4 F4) | fail)
        go_ret
        refine ⟨v5, _, BD2.out, rfl, ?_, B5.out⟩
        have := O5.out
        rw [← zl_app, ← zl_app, ← zl_app, List.nil_append, List.append_assoc] at this
        exact this
    · have hno := G3.out k hk (by omega)
      generalize LB.getD k 0 = B at *
      generalize LX.getD k 0 = X at *
      clear hwl
      by_cases hge : B ≤ n
      · have hgi : (B : Int) ≤ (n : Int) := by omega
        have hq := hno.resolve_left (by omega)
        have c28 : ((k : Int) == 28) = false := beq_false_of_ne (by omega)
        have c258 : ((n : Int) != 258) = false := by rw [hq.2]; rfl
        clear hno hq
        go_wp2_with (go_at_call 99; fail)
        refine SC.out.mono ?_
        rintro e w0 ⟨rfl, rfl⟩
        go_wp2
        exact ⟨⟨k - 1, by omega, by omega, by go_num, trivial⟩, by simp [intOf]; omega⟩
      · have hgi : decide ((B : Int) ≤ (n : Int)) = false := decide_eq_false (by omega)
        clear hno
        go_wp2_with (go_at_call 99; fail)
        refine SC.out.mono ?_
        rintro e w0 ⟨rfl, rfl⟩
        go_wp2
        exact ⟨⟨k - 1, by omega, by omega, by go_num, trivial⟩, by simp [intOf]; omega⟩
end Go.Proofs.YtoekecopfmohiaaDoor
