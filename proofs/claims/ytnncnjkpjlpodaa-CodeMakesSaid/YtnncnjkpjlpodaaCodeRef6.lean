import Derived.Test.YtnncnjkpjlpodaaCodeRef5
/-
  The reference: Read.
-/
namespace Go.Proofs.Ytnncnjkpjlpodaa
open Go.RowKit

theorem OI.stepY {w w' : World} {base y : Nat} {T : Value} {l : List Int} {cs : Array Value} (h : OI w base T l) (hb : Blk w y 53 cs) (hs : WStep y (.slice none 0 0) w (.slice none 0 0) w') : OI w' base T l :=
  own_keep h fun q hq => hs.keep q (own_block' h q hq).2 (fun hc => own_blk_ne h hb (by decide) (by rw [hq, hc])) (by simp [Value.ownBlock])
theorem WO.stepY {w w' : World} {q n y : Nat} {f : Nat → List Nat} {cs : Array Value} (h : WO w q n f) (hb : Blk w y 53 cs) (hs : WStep y (.slice none 0 0) w (.slice none 0 0) w') : WO w' q n f := by
  obtain ⟨cs', h1, h2, h3⟩ := h
  exact ⟨cs', (hs.blk h1 (h1.ne_ hb (by decide)) (by simp [Value.ownBlock])).1, h2, fun i hi => let ⟨v, a, b⟩ := h3 i hi; ⟨v, a, b.stepY hb hs⟩⟩
theorem WStep.below0 {y : Nat} {w w' : World} (h : Below w.heap.size w w') : WStep y (.slice none 0 0) w (.slice none 0 0) w' := ⟨fun _ _ h2 => h.mono h2, h.size, fun q hq _ _ => h.block q hq, fun _ h => .inl h⟩
theorem WStep.drewN {g : Nat} {v : Value} {w : World} (k : Nat) : WStep g v w v (w.drewN k) := WStep.only (Only.drewN g w k)
theorem WStep.grow {y : Nat} {w w1 w2 : World} {T : Value} {o : Obj} (h : WStep y (.slice none 0 0) w (.slice none 0 0) w1) (hg : (w1.alloc o).grownBy w2 T.ownBlock) (hT : ∀ k, T.ownBlock = some k → w.heap.size ≤ k) : WStep y (.slice none 0 0) w (.slice none 0 0) w2 :=
  ⟨fun B h1 h2 => ((h.below B h1 h2).alloc (Nat.le_trans h2 h.size) o).grown hg (Nat.le_trans h2 (Nat.le_trans h.size (by simp))) (fun k hk => Nat.le_trans h2 (hT k hk)), Nat.le_trans h.size (Nat.le_trans (by simp) hg.size),
   fun q hq hgq ho => (hg.block q (Nat.lt_of_lt_of_le hq (Nat.le_trans h.size (by simp))) (fun hc => by have := hT q hc.symm; omega)).trans ((Below.heap_alloc w1 o q (Nat.lt_of_lt_of_le hq h.size)).trans (h.keep q hq hgq ho)),
   fun _ h => .inl h⟩
set_option maxRecDepth 100000 in
set_option maxHeartbeats 4000000 in
theorem yRead_calls (q : Nat) (L : List Nat) (y b2 : Nat) (A2 : Option Addr) (l : List Nat) (c2 a : Nat) (w : World) (hW : WO w q L.length (wordF L)) (hL : L.length ≤ 288) (h15 : ∀ i, L.getD i 0 ≤ 15) (hk : kr L ≤ 32768)
    (hy : Blk w y 53 #[.slice A2 (8 * l.length) c2, .int .i64 (a : Int)]) (hI : OI w b2 (.slice A2 (8 * l.length) c2) (zl (bitsL l))) (hlb : ∀ x ∈ l, x < 256) (hlen : l.length ≤ 1048576) (hc2 : 8 * l.length ≤ c2) (ha : a ≤ 8 * l.length) :
    Calls Try.prog 48 #[.slice (some ⟨q, 0, none⟩) L.length L.length, .pointer (some ⟨y, 0, none⟩)] w fun e w' =>
      e = .returned (.tuple #[.int .i64 ((rdC L l a).1 : Int), .int .i64 ((rdC L l a).2.1 : Int)]) ∧ Blk w' y 53 #[.slice A2 (8 * l.length) c2, .int .i64 ((rdC L l a).2.2 : Int)] ∧ WStep y (.slice none 0 0) w (.slice none 0 0) w' := by
  have HW := Bx.mk hW
  have HY := Bx.mk hy
  have HI := Bx.mk hI
  have HLB := Bx.mk hlb
  have H15 := Bx.mk h15
  have HK := Bx.mk hk
  have hmost : mostC L ≤ 15 := mst_le _ _ (by omega)
  have hmx := lng_most L h15
  obtain ⟨⟨R1, R2, R3⟩, hR⟩ : ∃ R, R = rdC L l a := ⟨_, rfl⟩
  rw [← hR]
  have HR : Bx (rdS L l (mostC L) 1 0 a = (R1, R2, R3)) := ⟨hR.symm⟩
  simp only
  have LG := Bx.mk fun W (h : WO W q L.length (wordF L)) => longest_calls q L.length (wordF L) W h (by omega) (fun i => by rw [wordF_length]; have := h15 i; omega)
  clear hW hy hI hlb hR h15 hk
  go_enter Try.func48, Try.ntmps48
  have HW1 := Bx.mk (HW.out.below (below_alloc1 w (.cells #[] 3)))
  go_wp2_with fail
  refine (LG.out _ HW1.out).mono ?_
  rintro e w1 ⟨rfl, rfl⟩
  generalize hM : lng (wordF L) L.length = M at *
  have HM := Bx.mk hM
  have HMX := Bx.mk hmx
  have hMb : M ≤ 15 := by omega
  clear hM LG hmx
  have T0 := Bx.mk (OI.empty w)
  have S0 : Bx (WStep y (.slice none 0 0) w (.slice none 0 0) (w.alloc (.cells #[] 3))) := ⟨WStep.alloc _⟩
  have hz0 : w.heap.size ≤ (w.alloc (.cells #[] 3)).heap.size := by simp
  have Y0 := Bx.mk (HY.out.alloc (.cells #[] 3))
  go_wp2
  obtain ⟨base, hbase⟩ : ∃ b, b = w.heap.size := ⟨_, rfl⟩
  have HBASE := Bx.mk hbase
  rw [← hbase] at T0 hz0 ⊢
  generalize w.alloc (.cells #[] 3) = w1 at T0 S0 Y0 hz0 ⊢
  clear hbase HW1
  go_loopw [6, 8, 9] (fun t _ _ wr => ∃ (p k G x : Nat), p + k = mostC L ∧ G < 2 ^ p ∧ fc L (p + 1) ≤ 2 * G ∧ x ≤ 8 * l.length ∧ Bx (rdS L l k (p + 1) G x = (R1, R2, R3)) ∧ (∃ (TA : Option Addr) (tc : Nat), t = .slice TA p tc ∧ Bx (OI wr base (.slice TA p tc) (zl (hiL G p)))) ∧ Bx (base ≤ wr.heap.size) ∧
    Bx (Blk wr y 53 #[.slice A2 (8 * l.length) c2, .int .i64 (x : Int)]) ∧ Bx (WStep y (.slice none 0 0) w (.slice none 0 0) wr)) (fun t _ _ _ => 16 - (match t with | .slice _ n _ => n | _ => 0))
  case atStart => exact ⟨0, mostC L, 0, a, by omega, by decide, Nat.zero_le _, ha, HR, ⟨_, _, rfl, T0⟩, ⟨hz0⟩, Y0, S0⟩
  case round =>
    obtain ⟨p, k, G, x, hpk, hG, hfg, hx, HD, ⟨TA, tc, rfl, HT⟩, HZ, HYr, HS⟩ := hrel
    by_cases hk0 : k = 0
    · subst hk0
      have HRR : Bx ((R1, R2, R3) = (0, 110, x)) := ⟨HD.out.symm⟩
      have hp : p = max 1 M := by have := HMX.out; omega
      by_cases hM1 : 1 < M
      · obtain rfl : p = M := by omega
        clear hp
        go_wp2
        go_ret2
        obtain ⟨z1, z2, z3⟩ : R1 = 0 ∧ R2 = 110 ∧ R3 = x := by have := HRR.out; simpa using this
        exact ⟨ret_two (by rw [z1]; rfl) (by rw [z2]; rfl), by rw [z3]; exact HYr.out, HS.out⟩
      · obtain rfl : p = 1 := by omega
        clear hp
        go_wp2
        go_ret2
        obtain ⟨z1, z2, z3⟩ : R1 = 0 ∧ R2 = 110 ∧ R3 = x := by have := HRR.out; simpa using this
        exact ⟨ret_two (by rw [z1]; rfl) (by rw [z2]; rfl), by rw [z3]; exact HYr.out, HS.out⟩
    · obtain ⟨k, rfl⟩ : ∃ k', k = k' + 1 := ⟨k - 1, by omega⟩
      have hp15 : p < 15 := by omega
      have hmm : p < max 1 M := by have := HMX.out; omega
      have hlm : (p : Int) < (if (1 : Int) < (M : Int) then (M : Int) else 1) := by split <;> omega
      have I9 : ∀ w', Only y wr w' → IR w' A2 (zl (bitsL l)) := fun w' ho => ((HI.out.stepY HY.out HS.out).stepY HYr.out (WStep.only ho)).ir
      have T1 := yTake_calls y A2 l c2 x 1 wr HYr.out HLB.out I9 hlen hx hc2
      have hrd : rdS L l (k + 1) (p + 1) G x = if x + 1 ≤ 8 * l.length then if 2 * G + pkN l x 1 < fc L (p + 1) + cnt L (p + 1) then ((ordN L 15).getD (frm L (p + 1) + (2 * G + pkN l x 1 - fc L (p + 1))) 0, 0, x + 1) else rdS L l k (p + 1 + 1) (2 * G + pkN l x 1) (x + 1) else (0, 7, x) := rfl
      rw [HD.out] at hrd
      clear I9 hk0 HD
      have hM2 : 1 < M ∨ M ≤ 1 := by omega
      by_cases hfit : x + 1 ≤ 8 * l.length
      · rw [skipE_ok (by omega) (by omega), if_pos rfl, if_pos rfl, show (1 : Int).toNat = 1 from rfl] at T1
        rw [if_pos hfit] at hrd
        have hpkb := pkN_lt l x 1
        generalize pkN l x 1 = b at T1 hrd hpkb
        have TT := Bx.mk T1
        have e2 : 2 ^ (p + 1) = 2 * 2 ^ p := by rw [Nat.pow_succ, Nat.mul_comm]
        have HG2 : Bx (2 * G + b < 2 ^ (p + 1)) := ⟨by omega⟩
        have HFC : Bx (fc L (p + 1) ≤ 2 * G + b) := ⟨by omega⟩
        have HSN := Bx.mk (hiL_snoc G b p (by omega))
        have hfc2 : fc L (p + 1 + 1) = 2 * (fc L (p + 1) + cnt L (p + 1)) := rfl
        have HFC2 := Bx.mk hfc2
        have HRD := Bx.mk hrd
        have hbi : b ≤ 1 := by omega
        clear T1 hrd hfc2 e2 hpkb
        have hdm : decide ((p : Int) < (if (1 : Int) < (M : Int) then (M : Int) else 1)) = true := by simpa using hlm
        go_wp2_with fail
        all_goals refine TT.out.mono ?_
        all_goals
          rintro e w5 ⟨rfl, h5, o5⟩
          have Y5 := Bx.mk h5
          have S5 := Bx.mk (HS.out.trans (WStep.only o5))
          have T5 := Bx.mk (HT.out.stepY HYr.out (WStep.only o5))
          have hz5 : base ≤ w5.heap.size := by rw [o5.size]; exact HZ.out
          have hlen5 : ((zl (hiL G p)).length + 1) * 8 ≤ 140737488355328 := by rw [zl_length, hiL_length]; omega
          clear h5 o5
          have hty : ∀ k, (Value.slice TA p tc).ownBlock = some k → base ≤ k := fun k hk => (own_block' T5.out k hk).1
          have HTY := Bx.mk hty
          clear hty
          go_wp2_with (at_builtin; refine wpList_append_int w5 rfl (.tmp 27) (.tmp 29) rfl base _ (zl (hiL G p)) (b : Int) rfl T5.out rfl hlen5 hz5 ?_; intro v6 w6 ho6 hg6 _; obtain ⟨A6, c6, hv6⟩ := ho6.form; rw [List.length_append, zl_length, hiL_length, List.length_singleton] at hv6; subst hv6; have T6 : Bx (OI w6 base (.slice A6 (p + 1) c6) (zl (hiL (2 * G + b) (p + 1)))) := ⟨by rw [HSN.out, zl_app]; exact ho6⟩; have S6 := Bx.mk (S5.out.grow hg6 (fun k hk => by have := HTY.out k hk; have := HBASE.out; omega)); have Y6 := Bx.mk ((Y5.out.alloc (.cells #[.int .i64 (b : Int)] 3)).grown hg6 (fun hc => own_blk_ne T5.out Y5.out (by decide) hc.symm)); have Z6 : Bx (base ≤ w6.heap.size) := ⟨Nat.le_trans hz5 (Nat.le_trans (by simp) hg6.size)⟩; clear hg6 ho6)
          have W6 := Bx.mk (HW.out.stepY HY.out S6.out)
          generalize 2 * G + b = G2 at *
          obtain ⟨w7, hw7⟩ : ∃ w7 : World, w7 = w6 := ⟨_, rfl⟩
          rw [← hw7] at T6 S6 Y6 Z6 W6 ⊢
          clear hw7 HT HYr HS HZ T5 S5 Y5
          go_loopw [10] (fun i wr => ∃ (j z : Nat), j ≤ L.length ∧ i = .int .i64 (j : Nat) ∧ Bx (∀ i', i' < j → wordF L i' ≠ hiL G2 (p + 1)) ∧ wr = w7.drewN z) (fun i _ => L.length - (intOf i).toNat)
          case atStart => exact ⟨0, 0, Nat.zero_le _, rfl, ⟨fun i' h => absurd h (Nat.not_lt_zero _)⟩, rfl⟩
          case round =>
            obtain ⟨j, z, hj, rfl, HNO, rfl⟩ := hrel
            by_cases hjl : j < L.length
            · obtain ⟨u, k1, k2, -⟩ := W6.out.cell j hjl
              obtain ⟨Aj, cj, rfl⟩ := k2.form
              rw [zl_length, wordF_length] at k1 k2
              have sm := same_calls Aj A6 (zl (wordF L j)) (zl (hiL G2 (p + 1))) cj c6 (w7.drewN z) k2.ir T6.out.ir (by rw [zl_length, wordF_length]; have := H15.out j; omega)
              rw [zl_length, zl_length, wordF_length, hiL_length] at sm
              have hwl := wordF_length L j
              by_cases hjz : L.getD j 0 = 0
              · have HNO2 : Bx (∀ i', i' < j + 1 → wordF L i' ≠ hiL G2 (p + 1)) := ⟨fun i' h => by
                  rcases Nat.lt_or_ge i' j with h1 | h1
                  · exact HNO.out i' h1
                  · obtain rfl : i' = j := by omega
                    intro hc
                    have := congrArg List.length hc
                    rw [hiL_length, hwl, hjz] at this
                    omega⟩
                rw [hjz] at k1
                clear sm hwl hjz k2
                go_wp2
                go_roundw
                case rel => exact ⟨j + 1, z, by omega, by go_num, HNO2, rfl⟩
                case measure => simp [intOf]; omega
              · have hjp : 0 < L.getD j 0 := by omega
                by_cases heq : wordF L j = hiL G2 (p + 1)
                · have hdt : decide (zl (wordF L j) = zl (hiL G2 (p + 1))) = true := by rw [heq]; simp
                  rw [hdt] at sm
                  obtain ⟨f1, f2⟩ := found_word L j G2 (p + 1) hjl (by omega) HG2.out HK.out H15.out heq
                  have hr := HRD.out
                  rw [if_pos f1, f2] at hr
                  have HRR := Bx.mk hr
                  have SM := Bx.mk sm
                  clear sm hwl hjz k2 hdt heq f1 f2 hr
                  generalize L.getD j 0 = n at *
                  go_wp2_with fail
                  refine SM.out.mono ?_
                  rintro e w8 ⟨rfl, z8, hw8⟩
                  have Y8 : Bx (Blk w8 y 53 #[.slice A2 (8 * l.length) c2, .int .i64 ((x + 1 : Nat) : Int)]) := ⟨by rw [hw8]; exact Y6.out⟩
                  have S8 : Bx (WStep y (.slice none 0 0) w (.slice none 0 0) w8) := ⟨by rw [hw8]; exact S6.out.trans ((WStep.drewN z).trans (WStep.drewN z8))⟩
                  clear hw8
                  go_wp2
                  go_ret2
                  obtain ⟨z1, z2, z3⟩ : R1 = j ∧ R2 = 0 ∧ R3 = x + 1 := by have := HRR.out; simpa using this
                  exact ⟨ret_two (by rw [z1]) (by rw [z2]; rfl), by rw [z3]; exact Y8.out, S8.out⟩
                · have hdt : decide (zl (wordF L j) = zl (hiL G2 (p + 1))) = false := by
                    simp only [decide_eq_false_iff_not]
                    exact fun h => heq (zl_inj h)
                  rw [hdt] at sm
                  have HNO2 : Bx (∀ i', i' < j + 1 → wordF L i' ≠ hiL G2 (p + 1)) := ⟨fun i' h => by
                    rcases Nat.lt_or_ge i' j with h1 | h1
                    · exact HNO.out i' h1
                    · obtain rfl : i' = j := by omega
                      exact heq⟩
                  have SM := Bx.mk sm
                  clear sm hwl hjz k2 hdt heq
                  generalize L.getD j 0 = n at *
                  go_wp2_with fail
                  refine SM.out.mono ?_
                  rintro e w8 ⟨rfl, z8, hw8⟩
                  have HW8 : Bx (w8 = w7.drewN (z + z8)) := ⟨by rw [hw8, World.drewN_drewN]⟩
                  clear hw8
                  go_wp2
                  go_roundw
                  case rel => exact ⟨j + 1, z + z8, by omega, by go_num, HNO2, HW8.out⟩
                  case measure => simp [intOf]; omega
            · obtain rfl : j = L.length := by omega
              have hno := no_word L G2 (p + 1) (by omega) HNO.out HFC.out
              have hr := HRD.out
              rw [if_neg hno] at hr
              have HRR := Bx.mk hr
              have hfn : fc L (p + 1 + 1) ≤ 2 * G2 := by rw [HFC2.out]; omega
              have T9 : Bx (OI (w7.drewN z) base (.slice A6 (p + 1) c6) (zl (hiL G2 (p + 1)))) := ⟨T6.out⟩
              have S9 : Bx (WStep y (.slice none 0 0) w (.slice none 0 0) (w7.drewN z)) := ⟨S6.out.trans (WStep.drewN z)⟩
              clear hno hr
              go_wp2
              go_roundw
              case rel => exact ⟨p + 1, k, G2, x + 1, by omega, HG2.out, hfn, hfit, ⟨HRR.out.symm⟩, ⟨_, _, rfl, T9⟩, Z6, Y6, S9⟩
              case measure => simp; omega
      · rw [skipE_short (by omega) (by omega), if_neg (by decide), if_neg (by decide)] at T1
        rw [if_neg hfit] at hrd
        have TT := Bx.mk T1
        have HRR := Bx.mk hrd
        have hdm : decide ((p : Int) < (if (1 : Int) < (M : Int) then (M : Int) else 1)) = true := by simpa using hlm
        clear T1 hrd
        go_wp2_with fail
        all_goals refine TT.out.mono ?_
        all_goals
          rintro e w5 ⟨rfl, h5, o5⟩
          have Y5 := Bx.mk h5
          have S5 := Bx.mk (HS.out.trans (WStep.only o5))
          clear h5 o5
          go_wp2
          go_ret2
          obtain ⟨z1, z2, z3⟩ : R1 = 0 ∧ R2 = 7 ∧ R3 = x := by have := HRR.out; simpa using this
          exact ⟨ret_two (by rw [z1]; rfl) (by rw [z2]; rfl), by rw [z3]; exact Y5.out, S5.out⟩
end Go.Proofs.Ytnncnjkpjlpodaa
