import Derived.Test.YtnncnjkpjlpodaaCodeWorks
import Derived.Test.YtnncnjkpjlpodaaRowBase
/-
  The laws CodeApart, CodeFull: their walks.
-/
namespace Go.Proofs.Ytnncnjkpjlpodaa
open Go.RowKit

set_option maxRecDepth 100000 in
set_option maxHeartbeats 4000000 in
theorem CodeApart_calls (A : Option Addr) (l : List Int) (c : Nat) (a b : Int) (w : World) (hl : RI w A l) :
    Calls Try.prog 8 #[.slice A l.length c, .int .i64 a, .int .i64 b] w fun e w' => e = .returned (.bool true) ∧ Below w.heap.size w w' := by
  have HL : Bx (IR w A l) := ⟨hl.2.2⟩
  have hn := hl.2.1
  clear hl
  by_cases hok : ∃ L, l = zl L ∧ okL L
  · obtain ⟨L, rfl, hL⟩ := hok
    rw [zl_length] at hn ⊢
    have OK := Bx.mk hL
    have h288 := hL.1
    clear hL
    go_enter Try.func8, Try.ntmps8
    go_wp2_with fail
    refine (cworks_calls w).mono ?_
    rintro e w1 ⟨rfl, hb⟩
    have B1 := Bx.mk hb
    clear hb
    go_wp2_with fail
    refine (CNew_yes A L c w1 (HL.out.below B1.out) OK.out).mono ?_
    rintro e w2 ⟨g, O, Ln, rfl, -, hC, hb⟩
    have B2 := Bx.mk (below_then B1.out B1.out.size hb)
    have C2 := Bx.mk hC
    clear hb hC B1
    by_cases h0 : L.length = 0
    · have h00 : ((L.length : Int) == 0) = true := by rw [h0]; rfl
      clear h0
      go_wp2
      go_ret
      exact ⟨rfl, B2.out⟩
    · have h00 : ((L.length : Int) == 0) = false := beq_false_of_ne (by omega)
      have A1 := Bx.mk fun w => Among_calls a L.length w (by omega) (by omega)
      have A2 := Bx.mk fun w => Among_calls b L.length w (by omega) (by omega)
      have hx := amg_lt a L.length (by omega)
      have hy := amg_lt b L.length (by omega)
      generalize amg a L.length = x at A1 hx
      generalize amg b L.length = y at A2 hy
      clear h0
      go_wp2_with fail
      refine (A1.out _).mono ?_
      rintro e w3 ⟨rfl, rfl⟩
      go_wp2_with fail
      refine (A2.out _).mono ?_
      rintro e w3 ⟨rfl, rfl⟩
      have WN := Bx.mk fun (s : Nat) h => Word_no g O Ln L (s : Int) w2 C2.out h
      have WY := Bx.mk fun (s : Nat) h h0 h15 => Word_yes g O Ln L s w2 C2.out OK.out.2.2.1 OK.out.1 h h0 h15
      have L15 : Bx (∀ s, L.getD s 0 ≤ 15) := ⟨fun s => by
        rcases Nat.lt_or_ge s L.length with h | h
        · rw [List.getD_eq_getElem?_getD, List.getElem?_eq_getElem h]; exact OK.out.2.1 _ (List.getElem_mem h)
        · rw [List.getD_eq_getElem?_getD, List.getElem?_eq_none h]; exact Nat.zero_le _⟩
      by_cases hx0 : L.getD x 0 = 0
      · have W1 := Bx.mk (WN.out x (fun h => h.2.2 (by rw [Int.toNat_natCast]; exact hx0)))
        clear hx0
        obtain ⟨V1, V2, V3, hV⟩ : ∃ V1 V2 V3 : Nat, Calls Try.prog 43 #[.pointer (some ⟨g, 0, none⟩), .int .i64 (y : Int)] w2 fun e w' => e = .returned (.tuple #[.int .i64 (V1 : Int), .int .i64 (V2 : Int), .int .i64 (V3 : Int)]) ∧ w2 = w' := by
          by_cases hy0 : L.getD y 0 = 0
          · exact ⟨0, 0, 5, WN.out y (fun h => h.2.2 (by rw [Int.toNat_natCast]; exact hy0))⟩
          · exact ⟨_, _, 0, WY.out y hy hy0 (L15.out y)⟩
        have HV := Bx.mk hV
        clear hV
        go_wp2_with fail
        refine W1.out.mono ?_
        rintro e w3 ⟨rfl, rfl⟩
        go_wp2_with fail
        refine HV.out.mono ?_
        rintro e w3 ⟨rfl, rfl⟩
        go_wp2
        go_ret
        exact ⟨rfl, B2.out⟩
      · have W1 := Bx.mk (WY.out x hx hx0 (L15.out x))
        by_cases hy0 : L.getD y 0 = 0
        · have W2 := Bx.mk (WN.out y (fun h => h.2.2 (by rw [Int.toNat_natCast]; exact hy0)))
          clear hy0 hx0
          generalize wrd L x = V at W1
          generalize L.getD x 0 = n at W1
          go_wp2_with fail
          refine W1.out.mono ?_
          rintro e w3 ⟨rfl, rfl⟩
          go_wp2_with fail
          refine W2.out.mono ?_
          rintro e w3 ⟨rfl, rfl⟩
          go_wp2
          go_ret
          exact ⟨rfl, B2.out⟩
        · have W2 := Bx.mk (WY.out y hy hy0 (L15.out y))
          by_cases hxy : x = y
          · subst hxy
            clear hy0 hx0
            generalize wrd L x = V at W1 W2
            generalize L.getD x 0 = n at W1 W2
            go_wp2_with fail
            refine W1.out.mono ?_
            rintro e w3 ⟨rfl, rfl⟩
            go_wp2_with fail
            refine W2.out.mono ?_
            rintro e w3 ⟨rfl, rfl⟩
            go_wp2
            go_ret
            exact ⟨rfl, B2.out⟩
          · have hne : ((x : Int) == (y : Int)) = false := beq_false_of_ne (by omega)
            have AP : Bx (L.getD x 0 ≤ L.getD y 0 → wrd L x ≠ wrd L y / 2 ^ (L.getD y 0 - L.getD x 0)) := ⟨fun h => wrd_apart L x y hx hy hx0 hy0 h hxy⟩
            have hVb := wrd_fit L OK.out.2.2.1 y hy hy0 (L15.out y)
            have hp15 : 2 ^ L.getD y 0 ≤ 32768 := Nat.le_trans (Nat.pow_le_pow_right (by decide) (L15.out y)) (by decide)
            have hV32 : wrd L y ≤ 32768 := by omega
            have hm15 := L15.out y
            have hn15 := L15.out x
            clear hy0 hx0 hxy hVb hp15
            generalize wrd L x = V at W1 AP
            generalize L.getD x 0 = n at W1 AP hn15
            generalize wrd L y = U at W2 AP hV32
            generalize L.getD y 0 = m at W2 AP hm15
            go_wp2_with fail
            refine W1.out.mono ?_
            rintro e w3 ⟨rfl, rfl⟩
            go_wp2_with fail
            refine W2.out.mono ?_
            rintro e w3 ⟨rfl, rfl⟩
            go_wp2
            go_loop [12, 13] (fun u k => ∃ d : Nat, d ≤ m ∧ (n ≤ m → n ≤ m - d) ∧ (m < n → d = 0) ∧ k = .int .i64 ((m - d : Nat) : Int) ∧ u = .int .i64 ((U / 2 ^ d : Nat) : Int)) (fun _ k => (intOf k).toNat)
            case atStart => exact ⟨0, Nat.zero_le _, fun h => h, fun _ => rfl, rfl, by simp⟩
            case round =>
              obtain ⟨d, hd, hd1, hd2, rfl, rfl⟩ := hrel
              have hdv : U / 2 ^ (d + 1) = U / 2 ^ d / 2 := by rw [Nat.pow_succ, Nat.div_div_eq_div_mul]
              have hle : U / 2 ^ d ≤ U := Nat.div_le_self _ _
              have HDV := Bx.mk hdv
              by_cases hlt : n < m - d
              · have HMD : Bx ((m - d : Nat) - 1 = m - (d + 1)) := ⟨by omega⟩
                have h1 : 1 ≤ m - d := by omega
                have h15 : m - d ≤ 15 := by omega
                generalize hz : m - d = z at *
                have HZ := Bx.mk hz
                clear hdv hz hd1 hd2
                generalize U / 2 ^ d = Q at *
                go_wp2
                go_round
                case rel => exact ⟨d + 1, by have := HZ.out; omega, fun h => by have := HZ.out; omega, fun h => by have := HZ.out; omega, by rw [← HMD.out]; first | (congr 1; done) | (congr 1; omega), by rw [HDV.out]; first | (congr 1; done) | (congr 1; omega)⟩
                case measure => simp [intOf]; omega
              · by_cases hmn : m < n
                · obtain rfl : d = 0 := hd2 hmn
                  clear hdv hd1 hd2 HDV
                  generalize U / 2 ^ 0 = Q at *
                  rw [Nat.sub_zero] at hlt ⊢
                  go_wp2
                  go_ret
                  exact ⟨rfl, B2.out⟩
                · have hnm : n ≤ m := by omega
                  have h3 := hd1 hnm
                  have h4 : m - d = n := by omega
                  have h5 : m - n = d := by omega
                  have hne2 := AP.out hnm
                  rw [h5] at hne2
                  rw [h4]
                  clear hdv hd1 hd2 HDV h3 h4 h5
                  generalize U / 2 ^ d = Q at *
                  have hne3 : ((V : Int) != (Q : Int)) = true := by rw [bne_iff_ne]; omega
                  clear hne2 hlt
                  go_wp2
                  go_ret
                  exact ⟨rfl, B2.out⟩
  · have HN := Bx.mk hok
    clear hok
    go_enter Try.func8, Try.ntmps8
    go_wp2_with fail
    refine (cworks_calls w).mono ?_
    rintro e w1 ⟨rfl, hb⟩
    have B1 := Bx.mk hb
    clear hb
    go_wp2_with fail
    refine (CNew_no A l c w1 (HL.out.below B1.out) hn HN.out).mono ?_
    rintro e w2 ⟨rfl, hb⟩
    have B2 := Bx.mk (below_then B1.out B1.out.size hb)
    clear hb
    go_wp2
    go_ret
    exact ⟨rfl, B2.out⟩
end Go.Proofs.Ytnncnjkpjlpodaa
