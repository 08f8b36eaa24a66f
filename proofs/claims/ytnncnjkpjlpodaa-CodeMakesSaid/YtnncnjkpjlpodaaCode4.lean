import Derived.Test.YtnncnjkpjlpodaaCodeDec
import Derived.WalkMore
import Derived.Deep.LoopGhost
/-
  Codes: Read.
-/
namespace Go.Proofs.Ytnncnjkpjlpodaa
open Go.RowKit

theorem i64_or_nat (a b : Nat) (ha : a < 4611686018427387904) (hb : b < 4611686018427387904) : bits .or .i64 (a : Int) (b : Int) = ((a ||| b : Nat) : Int) := by
  have h1 : a ||| b < 2 ^ 62 := Nat.or_lt_two_pow (by omega) (by omega)
  show IntKind.i64.wrap ((BitVec.ofInt 64 (a : Int) ||| BitVec.ofInt 64 (b : Int)).toNat : Int) = _
  rw [BitVec.toNat_or, ofInt_u64 a (by omega), ofInt_u64 b (by omega), IntKind.wrap_i64]
  generalize a ||| b = x at h1 ⊢
  omega
theorem ret_two {k k' : IntKind} {a b c d : Int} (h : a = b) (h' : c = d) : Ending.returned (.tuple #[.int k a, .int k' c]) = .returned (.tuple #[.int k b, .int k' d]) := by rw [h, h']
theorem Cd.only {w w' : World} {g r : Nat} {O Ln : Value} {L : List Nat} {t : TypeId} {cs : Array Value} (h : Cd w g O Ln L) (hb : Blk w r t cs) (ho : Only r w w') (h1 : 78 ≠ t) (h2 : 3 ≠ t) : Cd w' g O Ln L := by
  obtain ⟨b, h3⟩ := h.len
  exact ⟨h.blk.only ho (h.blk.ne_ hb h1), own_keep h.ord fun q hq => ho.keep q (fun hc => own_blk_ne h.ord hb h2 (by rw [hq, hc])), b, own_keep h3 fun q hq => ho.keep q (fun hc => own_blk_ne h3 hb h2 (by rw [hq, hc]))⟩
theorem Cd.below {w w' : World} {g : Nat} {O Ln : Value} {L : List Nat} (h : Cd w g O Ln L) (hb : Below w.heap.size w w') : Cd w' g O Ln L := by
  obtain ⟨b, h3⟩ := h.len
  exact ⟨h.blk.below hb h.blk.lt, h.ord.below hb, b, h3.below hb⟩
set_option maxRecDepth 100000 in
set_option maxHeartbeats 4000000 in
theorem Read_calls (g : Nat) (O Ln : Value) (L : List Nat) (r : Nat) (A : Option Addr) (l : List Nat) (c a : Nat) (w : World) (hC : Cd w g O Ln L) (hL : L.length ≤ 288) (hk : kr L ≤ 32768)
    (h : Blk w r 60 #[.slice A l.length c, .int .i64 (a : Int), .bool true]) (hfar : ∀ w', Only r w w' → RB w' A l) (ha : a ≤ 8 * l.length) :
    Calls Try.prog 45 #[.pointer (some ⟨g, 0, none⟩), .pointer (some ⟨r, 0, none⟩)] w fun e w' =>
      e = .returned (.tuple #[.int .i64 ((rdC L l a).1 : Int), .int .i64 ((rdC L l a).2.1 : Int)]) ∧ Blk w' r 60 #[.slice A l.length c, .int .i64 ((rdC L l a).2.2 : Int), .bool true] ∧ Only r w w' := by
  have h1 := Bx.mk (cIs_calls g _ _ _ true w hC.blk)
  obtain ⟨AO, cO, hO⟩ := hC.ord.form
  rw [zl_length] at hO
  subst hO
  have HC := Bx.mk hC
  have HB := Bx.mk h
  have FAR := Bx.mk hfar
  have hmost : mostC L ≤ 15 := mst_le _ _ (by omega)
  have HK := Bx.mk hk
  obtain ⟨⟨R1, R2, R3⟩, hR⟩ : ∃ R, R = rdC L l a := ⟨_, rfl⟩
  rw [← hR]
  have HR : Bx (rdS L l (mostC L) 1 0 a = (R1, R2, R3)) := ⟨hR.symm⟩
  simp only
  clear hC h hfar hR hk
  go_enter Try.func45, Try.ntmps45
  go_wp2
  go_step3
  go_wp2_with fail
  refine h1.out.mono ?_
  rintro e w1 ⟨rfl, rfl⟩
  go_wp2
  go_step3
  go_wp2
  go_loopw [6, 7, 8, 9] (fun s6 s7 s8 s9 wr => ∃ (n k got x : Nat), 1 ≤ n ∧ n + k = mostC L + 1 ∧ got < 2 ^ (n - 1) ∧ fc L n ≤ 2 * got ∧ x ≤ 8 * l.length ∧ s6 = .int .i64 (got : Nat) ∧ s7 = .int .i64 (fc L n : Nat) ∧ s8 = .int .i64 (frm L n : Nat) ∧ s9 = .int .i64 (n : Nat) ∧
    Bx (rdS L l k n got x = (R1, R2, R3)) ∧ Bx (Blk wr r 60 #[.slice A l.length c, .int .i64 (x : Int), .bool true]) ∧ Bx (Only r w wr)) (fun _ _ _ i _ => 16 - (intOf i).toNat)
  case atStart => exact ⟨1, mostC L, 0, a, by omega, by omega, by decide, Nat.zero_le _, ha, rfl, rfl, rfl, rfl, HR, HB, ⟨Only.refl _ _⟩⟩
  case round =>
    obtain ⟨n, k, got, x, hn, hnk, hgot, hfg, hx, rfl, rfl, rfl, rfl, HD, HBr, HO⟩ := hrel
    have hcd := HC.out.only HB.out HO.out (by decide) (by decide)
    have M1 := Bx.mk (most_calls g _ _ _ true wr hcd.blk)
    rw [show mst (cnt L) 15 = mostC L from rfl] at M1
    by_cases hlt : n ≤ mostC L
    · obtain ⟨k, rfl⟩ : ∃ k', k = k' + 1 := ⟨k - 1, by omega⟩
      have KK : Bx (∀ w2, Only r wr w2 → w2.cell? ⟨g, n, none⟩ = some (.int .i64 (cnt L n : Int)) ∧ w2.cell? ⟨g, 16, none⟩ = some (.slice AO (ordN L 15).length cO) ∧ IR w2 AO (zl (ordN L 15))) := ⟨fun w2 ho2 => by
        have h2 := hcd.only HBr.out ho2 (by decide) (by decide)
        exact ⟨(h2.blk.cell n).trans (cdC_get _ _ _ _ n (by omega)), h2.blk.cell 16, h2.ord.ir⟩⟩
      have T1 := rTake_calls r A l c x 1 wr HBr.out (FAR.out wr HO.out) hx
      have hrd : rdS L l (k + 1) n got x = if x + 1 ≤ 8 * l.length then if 2 * got + pkN l x 1 < fc L n + cnt L n then ((ordN L 15).getD (frm L n + (2 * got + pkN l x 1 - fc L n)) 0, 0, x + 1) else rdS L l k (n + 1) (2 * got + pkN l x 1) (x + 1) else (0, 7, x) := rfl
      rw [HD.out] at hrd
      have hd16 : decide ((n : Int) ≤ ((mostC L : Nat) : Int)) = true := by simp; omega
      have hn16 : (n : Int) < 16 := by omega
      by_cases hfit : x + 1 ≤ 8 * l.length
      · rw [skipE_ok (by omega) (by omega), if_pos rfl, if_pos rfl, show (1 : Int).toNat = 1 from rfl] at T1
        rw [if_pos hfit] at hrd
        have hpk := pkN_lt l x 1
        have hff := fc_fit L HK.out n (by omega)
        have hpow : 2 ^ n ≤ 32768 := Nat.le_trans (Nat.pow_le_pow_right (by decide) (show n ≤ 15 by omega)) (by decide)
        have e2 : 2 ^ n = 2 * 2 ^ (n - 1) := by
          obtain ⟨m, rfl⟩ : ∃ m, n = m + 1 := ⟨n - 1, by omega⟩
          rw [Nat.add_sub_cancel, Nat.pow_succ, Nat.mul_comm]
        generalize pkN l x 1 = b at T1 hrd hpk
        have hor : bits .or .i64 ((got : Int) * 2) (b : Int) = ((2 * got + b : Nat) : Int) := by
          have := i64_or_nat (2 * got) b (by omega) (by omega)
          rw [nat_join1 (2 * got) b (by omega) (by omega)] at this
          rw [← this]; congr 1; omega
        have hgb : got ≤ 32768 := by omega
        have hgot2 : 2 * got + b < 2 ^ (n + 1 - 1) := by rw [Nat.add_sub_cancel]; omega
        have hfrm := frm_succ L n hn
        have hfc : fc L (n + 1) = 2 * (fc L n + cnt L n) := rfl
        have hfrmle : frm L n + cnt L n ≤ (ordN L 15).length := by rw [← hfrm]; exact ord_len L 15 n (by omega)
        have TT1 := Bx.mk T1
        have HG2 := Bx.mk hgot2
        have HF := Bx.mk hfc
        have HFR := Bx.mk hfrm
        have hG : 2 * got + b ≤ 32768 := by omega
        have hFG : fc L n ≤ 2 * got + b := by omega
        generalize 2 * got + b = G at hor HG2 hrd hG hFG
        have hol := ord_small L hL 15
        clear hgot hfg T1 hpk hgot2 hfc hfrm e2
        by_cases hhit : G < fc L n + cnt L n
        · rw [if_pos hhit] at hrd
          obtain ⟨i, hi⟩ : ∃ i, i = frm L n + (G - fc L n) := ⟨_, rfl⟩
          have hil : i < (ordN L 15).length := by omega
          rw [← hi] at hrd
          have hi3 : (frm L n : Int) + (G : Int) - (fc L n : Int) = (i : Int) := by omega
          have IRX : Bx (∀ w2, IR w2 AO (zl (ordN L 15)) → ∃ ad, AO = some ad ∧ w2.cell? (ad.add i) = some (.int .i64 (((ordN L 15).getD i 0 : Nat) : Int))) := ⟨fun w2 hir => by
            obtain ⟨ad, e, hod⟩ := hir (by rw [zl_length]; omega)
            have hoc := hod i (by rw [zl_length]; exact hil)
            rw [zl_get] at hoc
            exact ⟨ad, e, hoc⟩⟩
          have HRR := Bx.mk hrd
          have KX : Bx (∀ w2, Only r wr w2 → w2.cell? ⟨g, n, none⟩ = some (.int .i64 (cnt L n : Int)) ∧ w2.cell? ⟨g, 16, none⟩ = some (.slice AO (ordN L 15).length cO) ∧ ∃ ad, AO = some ad ∧ w2.cell? (ad.add i) = some (.int .i64 (((ordN L 15).getD i 0 : Nat) : Int))) := ⟨fun w2 ho2 => ⟨(KK.out w2 ho2).1, (KK.out w2 ho2).2.1, IRX.out w2 (KK.out w2 ho2).2.2⟩⟩
          clear hrd hi HD HF HFR IRX KK
          generalize (ordN L 15).getD i 0 = Y at *
          generalize fc L n = F at *
          generalize frm L n = Fm at *
          generalize cnt L n = Cn at *
          generalize (ordN L 15).length = m at *
          go_wp2_with fail
          refine M1.out.mono ?_
          rintro e w2 ⟨rfl, rfl⟩
          go_wp2_with fail
          refine TT1.out.mono ?_
          rintro e w2 ⟨rfl, hb2, ho2⟩
          obtain ⟨k1, k16, ad, rfl, koc⟩ := KX.out w2 ho2
          have HB2 := Bx.mk hb2
          have HO2 := Bx.mk (HO.out.trans ho2)
          clear hb2 ho2 KX
          go_wp2
          rw [Exit.noGoto_ret]
          go_ret2
          obtain ⟨z1, z2, z3⟩ : R1 = Y ∧ R2 = 0 ∧ R3 = x + 1 := by have := HRR.out; simpa using this
          exact ⟨ret_two (by rw [z1]) (by rw [z2]; rfl), by rw [z3]; exact HB2.out, HO2.out⟩
        · rw [if_neg hhit] at hrd
          have HRR := Bx.mk hrd
          have KX : Bx (∀ w2, Only r wr w2 → w2.cell? ⟨g, n, none⟩ = some (.int .i64 (cnt L n : Int))) := ⟨fun w2 ho2 => (KK.out w2 ho2).1⟩
          have hFG2 : fc L (n + 1) ≤ 2 * G := by rw [HF.out]; omega
          have HFG2 := Bx.mk hFG2
          have HFR2 : Bx (frm L n + cnt L n = frm L (n + 1)) := ⟨HFR.out.symm⟩
          have HF2 : Bx (2 * (fc L n + cnt L n) = fc L (n + 1)) := ⟨HF.out.symm⟩
          clear hrd HD HF HFR KK hFG2
          generalize fc L n = F at *
          generalize frm L n = Fm at *
          generalize cnt L n = Cn at *
          generalize (ordN L 15).length = m at *
          go_wp2_with fail
          refine M1.out.mono ?_
          rintro e w2 ⟨rfl, rfl⟩
          go_wp2_with fail
          refine TT1.out.mono ?_
          rintro e w2 ⟨rfl, hb2, ho2⟩
          have k1 := KX.out w2 ho2
          have HB2 := Bx.mk hb2
          have HO2 := Bx.mk (HO.out.trans ho2)
          clear hb2 ho2 KX
          go_wp2
          go_roundw
          case rel => exact ⟨n + 1, k, G, x + 1, by omega, by omega, HG2.out, HFG2.out, hfit, rfl, by rw [← HF2.out]; first | (congr 1; done) | (congr 1; omega), by rw [← HFR2.out]; first | (congr 1; done) | (congr 1; omega), by go_num, ⟨HRR.out.symm⟩, HB2, HO2⟩
          case measure => simp [intOf]; omega
      · rw [skipE_short (by omega) (by omega), if_neg (by decide), if_neg (by decide)] at T1
        rw [if_neg hfit] at hrd
        have TT1 := Bx.mk T1
        have HRR := Bx.mk hrd
        clear T1 hrd HD KK
        go_wp2_with fail
        refine M1.out.mono ?_
        rintro e w2 ⟨rfl, rfl⟩
        go_wp2_with fail
        refine TT1.out.mono ?_
        rintro e w2 ⟨rfl, hb2, ho2⟩
        have HB2 := Bx.mk hb2
        have HO2 := Bx.mk (HO.out.trans ho2)
        clear hb2 ho2
        go_wp2
        rw [Exit.noGoto_ret]
        go_ret2
        obtain ⟨z1, z2, z3⟩ : R1 = 0 ∧ R2 = 7 ∧ R3 = x := by have := HRR.out; simpa using this
        exact ⟨ret_two (by rw [z1]; rfl) (by rw [z2]; rfl), by rw [z3]; exact HB2.out, HO2.out⟩
    · obtain rfl : k = 0 := by omega
      have HRR : Bx ((R1, R2, R3) = (0, 110, x)) := ⟨HD.out.symm⟩
      go_wp2_with fail
      refine M1.out.mono ?_
      rintro e w2 ⟨rfl, rfl⟩
      go_wp2
      try rw [Exit.noGoto_ret]
      go_ret2
      obtain ⟨z1, z2, z3⟩ : R1 = 0 ∧ R2 = 110 ∧ R3 = x := by have := HRR.out; simpa using this
      exact ⟨ret_two (by rw [z1]; rfl) (by rw [z2]; rfl), by rw [z3]; exact HBr.out, HO.out⟩
end Go.Proofs.Ytnncnjkpjlpodaa
