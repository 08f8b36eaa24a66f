import Derived.Test.YtcamakleahpinaaBits6
/-
  The reference's Runs; SameInts.
-/
namespace Go.Proofs.Ytcamakleahpinaa
open Go.RowKit

theorem OI.low {w : World} {base base' : Nat} {v : Value} {l : List Int} (h : OI w base v l) (hb : base' ≤ base) : OI w base' v l := ownsRow_le' h hb
theorem app_below' {wr w2 : World} {B : Nat} {v : Value} {D : List Int} {o : Obj} (hz : B ≤ wr.heap.size) (hg : (wr.alloc o).grownBy w2 v.ownBlock) (ho : OI wr B v D) : Below B wr w2 :=
  ((Below.refl B wr).alloc hz o).grown hg (by simp; omega) (fun k hk => OI.block ho k hk)
theorem last_get (D : List Int) (C : Int) : (D ++ [C]).getD D.length 0 = C := by simp [List.getD_eq_getElem?_getD]
theorem last_set (D : List Int) (C X : Int) : (D ++ [C]).set D.length X = D ++ [X] := by simp
theorem last_opened {w : World} {base : Nat} {v : Value} {D : List Int} {C : Int} (h : OI w base v (D ++ [C])) (X : Int) : ∃ g c, v = .slice (some ⟨g, 0, none⟩) (D.length + 1) c ∧ base ≤ g ∧ w.cell? ⟨g, D.length, none⟩ = some (.int .i64 C) ∧ w.frozen? ⟨g, D.length, none⟩ = false ∧
    OI (w.setCell ⟨g, D.length, none⟩ (.int .i64 X)) base (.slice (some ⟨g, 0, none⟩) (D.length + 1) c) (D ++ [X]) := by
  obtain ⟨A2, c2, rfl⟩ := h.form
  obtain ⟨g, rfl, -, hbg, -, hcell, hfz⟩ := OI.opened h (by simp)
  have hck := hcell D.length (by simp)
  rw [last_get] at hck
  have hp := h.put D.length X
  rw [last_set, show (D ++ [C]).length = D.length + 1 by simp] at hp
  exact ⟨g, c2, by rw [show (D ++ [C]).length = D.length + 1 by simp], hbg, hck, hfz _, hp⟩
set_option maxHeartbeats 16000000 in
theorem rRuns_calls (A : Option Addr) (l : List Nat) (c : Nat) (n : Int) (w : World) (hl : RB w A l) (hs : l.length ≤ 1048576) :
    Calls Try.prog 26 #[.slice A l.length c, .int .i64 n] w fun e w' => ∃ v, e = .returned v ∧ OI w' w.heap.size v (runsN l (wiN l.length n)) ∧ Below w.heap.size w w' := by
  have hlen := hl.2.1
  have hW := wiN_le l.length n
  have HL := Bx.mk hl
  have HWI := fun w => Bx.mk (rwithin_calls A l.length c n w hlen)
  clear hl
  generalize hWW : wiN l.length n = W at hW HWI ⊢
  clear hWW
  have HWI2 := Bx.mk HWI
  clear HWI
  go_enter Try.func26, Try.ntmps26
  go_wp2
  have HB0 := Bx.mk (below_alloc1 w (.cells #[] 3))
  have HO0 := Bx.mk (OI.empty w)
  have hz0 : w.heap.size ≤ (w.alloc (.cells #[] 3)).heap.size := by simp
  generalize w.alloc (.cells #[] 3) = w1 at HB0 HO0 hz0 ⊢
  generalize hm : w.heap.size = m at HB0 HO0 hz0 ⊢
  have HM := Bx.mk hm
  clear hm
  go_loopw [5, 6, 7] (fun v b i wr => ∃ k, k ≤ W ∧ i = .int .i64 (k : Nat) ∧ b = .bool (runSt l k).last ∧ Bx (OI wr m v (runsN l k)) ∧ Bx (m ≤ wr.heap.size) ∧ Bx (Below m w wr)) (fun _ _ i _ => W - (intOf i).toNat)
  case atStart => exact ⟨0, Nat.zero_le _, rfl, rfl, HO0, ⟨hz0⟩, HB0⟩
  case round =>
    obtain ⟨k, hk, rfl, rfl, HO, HZ, HB⟩ := hrel
    clear HB0 HO0 hz0
    obtain ⟨s1, s2, s3, s4⟩ := runSt_sum l k
    by_cases hlt : k < W
    · have hst : runSt l (k + 1) = if bitB l k = (runSt l k).last then ⟨(runSt l k).done, (runSt l k).cur + 1, (runSt l k).last⟩ else ⟨(runSt l k).done ++ [(runSt l k).cur], 1, bitB l k⟩ := rfl
      have hrn : runsN l (k + 1) = (runSt l (k + 1)).done ++ [(runSt l (k + 1)).cur] := by unfold runsN; rw [if_neg (by omega)]
      have hr0 : runsN l k = if k = 0 then [] else (runSt l k).done ++ [(runSt l k).cur] := rfl
      have hS0 : k = 0 → (runSt l k).done = [] ∧ (runSt l k).cur = 0 := fun h => by subst h; exact ⟨rfl, rfl⟩
      have HBIT := fun w2 (h : Below w.heap.size w w2) => Bx.mk (rbit_calls A l c k w2 (HL.out.below h) (by omega))
      have HBIT2 := Bx.mk HBIT
      rw [hr0] at HO
      generalize bitB l k = b at HBIT2 hst
      generalize runSt l k = S at hst HO hS0 s1 s2 s3 s4 ⊢
      obtain ⟨D, C, L⟩ := S
      simp only [] at hst s1 s2 s3 s4 hS0 HO
      have HST := Bx.mk hst
      have HRN := Bx.mk hrn
      have HS0 := Bx.mk hS0
      have HD4 := Bx.mk s4
      have hC1 : 0 ≤ C ∧ C ≤ 9000000 := by omega
      obtain ⟨hC1, hC2⟩ := hC1
      clear hst hrn hr0 hS0 HBIT s1 s3 s2
      go_wp2_with fail
      refine (HWI2.out wr).out.mono ?_
      rintro e w2 ⟨rfl, rfl⟩
      by_cases hk0 : k = 0
      · rw [if_pos hk0] at HO
        have b0 : ((k : Int) == 0) = true := by rw [hk0]; rfl
        have hz1 := HZ.out
        have HK0 := Bx.mk hk0
        clear hk0
        go_wp2_with (at_builtin; refine wpList_append_int wr rfl (.tmp 18) (.tmp 19) rfl m u5 [] 0 rfl HO.out rfl (by decide) hz1 ?_; intro v2 w2 ho2 hg2 _; have hb2 := Bx.mk (app_below' hz1 hg2 HO.out); have HO3 : Bx (OI w2 m v2 (D ++ [C])) := ⟨by rw [(HS0.out HK0.out).1, (HS0.out HK0.out).2]; exact ho2⟩; clear hg2 ho2)
        have hd4 : (D.length + 1 + 1) * 8 ≤ 140737488355328 := by omega
        have HB2 : Bx (Below m w w2) := ⟨HB.out.trans hb2.out⟩
        have hz2 : m ≤ w2.heap.size := Nat.le_trans hz1 hb2.out.size
        clear HO hb2 hz1 HZ HB HS0
        refine (HBIT2.out w2 (by rw [HM.out]; exact HB2.out)).out.mono ?_
        rintro e w3 ⟨rfl, rfl⟩
        by_cases hbl : b = L
        · subst hbl
          have hst2 : runSt l (k + 1) = ⟨D, C + 1, b⟩ := by rw [HST.out, if_pos rfl]
          have HST2 := Bx.mk hst2
          clear HST hst2
          obtain ⟨A2, c2, hv⟩ := HO3.out.form
          obtain ⟨g, hA2, -, hbg, -, hcell, hfz⟩ := OI.opened (show OI w2 m (.slice A2 _ c2) (D ++ [C]) by rw [← hv]; exact HO3.out) (by simp)
          rw [hA2] at hv
          subst hv
          have hck := hcell D.length (by simp)
          have hfk := hfz D.length
          rw [last_get] at hck
          have hp := HO3.out.put D.length (C + 1)
          rw [last_set] at hp
          have HP := Bx.mk hp
          have HBG := Bx.mk hbg
          have hl2 : (D ++ [C]).length = D.length + 1 := by simp
          rw [hl2] at HP ⊢
          clear hcell hfz hp hbg hA2 hl2
          go_wp2
          go_roundw
          case rel => exact ⟨k + 1, by omega, by go_num, by rw [HST2.out], ⟨by rw [HRN.out, HST2.out]; exact HP.out⟩, ⟨by simp [World.setCell]; exact hz2⟩, ⟨HB2.out.setCell HBG.out _⟩⟩
          case measure => simp [intOf]; omega
        · have hbb : (b == L) = false := by simp [hbl]
          have hbn : (b != L) = true := by simp [hbl]
          have hnl : (!L) = b := by cases b <;> cases L <;> simp_all
          have hst2 : runSt l (k + 1) = ⟨D ++ [C], 1, b⟩ := by rw [HST.out, if_neg hbl]
          have HST2 := Bx.mk hst2
          have HNL := Bx.mk hnl
          clear HST hst2 hnl
          have hd5 : ((D ++ [C]).length + 1) * 8 ≤ 140737488355328 := by rw [List.length_append]; exact hd4
          go_wp2_with (at_builtin; (refine wpList_append_int w2 rfl (.tmp 26) (.tmp 27) rfl m v2 (D ++ [C]) 0 rfl HO3.out rfl hd5 hz2 ?_); intro v4 w4 ho4 hg4 _; have hb4 := Bx.mk (app_below' hz2 hg4 HO3.out); have hz4 := Nat.le_trans hz2 hb4.out.size; obtain ⟨g, c2, hv, hbg, hck, hfk, hp⟩ := last_opened ho4 1; rw [show (D ++ [C]).length = D.length + 1 by simp] at hck hfk hp hv; have HP := Bx.mk hp; have HBG := Bx.mk hbg; rw [hv]; clear hg4 ho4 hv hp hbg)
          go_roundw
          case rel => exact ⟨k + 1, by omega, by go_num, by rw [HST2.out, HNL.out], ⟨by rw [HRN.out, HST2.out]; exact HP.out⟩, ⟨by simp [World.setCell]; exact hz4⟩, ⟨(HB2.out.trans hb4.out).setCell HBG.out _⟩⟩
          case measure => simp [intOf]; omega
      · rw [if_neg hk0] at HO
        have b0 : ((k : Int) == 0) = false := beq_false_of_ne (by omega)
        have hz2 := HZ.out
        have HB2 := HB
        have HO3 := HO
        have hd4 : (D.length + 1 + 1) * 8 ≤ 140737488355328 := by omega
        clear HO HS0 HB HZ
        go_wp2_with fail
        refine (HBIT2.out wr (by rw [HM.out]; exact HB2.out)).out.mono ?_
        rintro e w3 ⟨rfl, rfl⟩
        by_cases hbl : b = L
        · subst hbl
          have hst2 : runSt l (k + 1) = ⟨D, C + 1, b⟩ := by rw [HST.out, if_pos rfl]
          have HST2 := Bx.mk hst2
          clear HST hst2
          obtain ⟨A2, c2, hv⟩ := HO3.out.form
          obtain ⟨g, hA2, -, hbg, -, hcell, hfz⟩ := OI.opened (show OI wr m (.slice A2 _ c2) (D ++ [C]) by rw [← hv]; exact HO3.out) (by simp)
          rw [hA2] at hv
          subst hv
          have hck := hcell D.length (by simp)
          have hfk := hfz D.length
          rw [last_get] at hck
          have hp := HO3.out.put D.length (C + 1)
          rw [last_set] at hp
          have HP := Bx.mk hp
          have HBG := Bx.mk hbg
          have hl2 : (D ++ [C]).length = D.length + 1 := by simp
          rw [hl2] at HP ⊢
          clear hcell hfz hp hbg hA2 hl2
          go_wp2
          go_roundw
          case rel => exact ⟨k + 1, by omega, by go_num, by rw [HST2.out], ⟨by rw [HRN.out, HST2.out]; exact HP.out⟩, ⟨by simp [World.setCell]; exact hz2⟩, ⟨HB2.out.setCell HBG.out _⟩⟩
          case measure => simp [intOf]; omega
        · have hbb : (b == L) = false := by simp [hbl]
          have hbn : (b != L) = true := by simp [hbl]
          have hnl : (!L) = b := by cases b <;> cases L <;> simp_all
          have hst2 : runSt l (k + 1) = ⟨D ++ [C], 1, b⟩ := by rw [HST.out, if_neg hbl]
          have HST2 := Bx.mk hst2
          have HNL := Bx.mk hnl
          clear HST hst2 hnl
          have hd5 : ((D ++ [C]).length + 1) * 8 ≤ 140737488355328 := by rw [List.length_append]; exact hd4
          go_wp2_with (at_builtin; (refine wpList_append_int wr rfl (.tmp 26) (.tmp 27) rfl m u5 (D ++ [C]) 0 rfl HO3.out rfl hd5 hz2 ?_); intro v4 w4 ho4 hg4 _; have hb4 := Bx.mk (app_below' hz2 hg4 HO3.out); have hz4 := Nat.le_trans hz2 hb4.out.size; obtain ⟨g, c2, hv, hbg, hck, hfk, hp⟩ := last_opened ho4 1; rw [show (D ++ [C]).length = D.length + 1 by simp] at hck hfk hp hv; have HP := Bx.mk hp; have HBG := Bx.mk hbg; rw [hv]; clear hg4 ho4 hv hp hbg)
          go_roundw
          case rel => exact ⟨k + 1, by omega, by go_num, by rw [HST2.out, HNL.out], ⟨by rw [HRN.out, HST2.out]; exact HP.out⟩, ⟨by simp [World.setCell]; exact hz4⟩, ⟨(HB2.out.trans hb4.out).setCell HBG.out _⟩⟩
          case measure => simp [intOf]; omega
    · obtain rfl : k = W := by omega
      go_wp2_with fail
      refine (HWI2.out wr).out.mono ?_
      rintro e w2 ⟨rfl, rfl⟩
      go_wp2
      go_ret
      exact ⟨_, rfl, by rw [HM.out]; exact HO.out, by rw [HM.out]; exact HB.out⟩
end Go.Proofs.Ytcamakleahpinaa
