import Derived.Test.YtcamakleahpinaaBits5
import Derived.Test.YtcamakleahpinaaMemI
/-
  Runs: the program's and the reference's.
-/
namespace Go.Proofs.Ytcamakleahpinaa
open Go.RowKit

structure RunSt where
  done : List Int
  cur : Int
  last : Bool
def runSt (l : List Nat) : Nat → RunSt
  | 0 => ⟨[], 0, false⟩
  | k + 1 => if bitB l k = (runSt l k).last then ⟨(runSt l k).done, (runSt l k).cur + 1, (runSt l k).last⟩ else ⟨(runSt l k).done ++ [(runSt l k).cur], 1, bitB l k⟩
def runsN (l : List Nat) (W : Nat) : List Int := if W = 0 then [] else (runSt l W).done ++ [(runSt l W).cur]
theorem runSt_sum (l : List Nat) (k : Nat) : (runSt l k).done.sum + (runSt l k).cur = k ∧ 0 ≤ (runSt l k).cur ∧ 0 ≤ (runSt l k).done.sum ∧ (runSt l k).done.length ≤ k := by
  induction k with
  | zero => simp [runSt]
  | succ k ih =>
    obtain ⟨h1, h2, h3, h4⟩ := ih
    simp only [runSt]
    split
    · exact ⟨by simp only []; omega, by simp only []; omega, h3, by simp only []; omega⟩
    · refine ⟨by simp [List.sum_append]; omega, by show (0 : Int) ≤ 1; decide, by simp [List.sum_append]; omega, by simp; omega⟩

theorem ownsRow_le' {w : World} {base base' size n : Nat} {e : TypeId} {v : Value} {xs : List Value} (h : w.ownsRow base e size v n xs) (hb : base' ≤ base) : w.ownsRow base' e size v n xs :=
  ⟨h.1, h.2.elim Or.inl (fun ⟨g, cap, cur, hv, hg, r⟩ => Or.inr ⟨g, cap, cur, hv, Nat.le_trans hb hg, r⟩)⟩
theorem app_below {wr w2 : World} {m q : Nat} {v : Value} {D : List Int} {o : Obj} (hz : m < wr.heap.size) (hg : ((wr.drewN q).alloc o).grownBy w2 v.ownBlock) (ho : OI wr (m + 1) v D) : Below (m + 1) wr w2 :=
  ((below_drewN (Below.refl (m + 1) wr) q).alloc hz o).grown hg (by simp; exact Nat.le_of_lt hz) (fun k hk => OI.block ho k hk)
set_option maxHeartbeats 8000000 in
theorem Runs_calls (A : Option Addr) (l : List Nat) (c : Nat) (n : Int) (w : World) (hl : RB w A l) (hs : l.length ≤ 1048576) :
    Calls Try.prog 18 #[.slice A l.length c, .int .i64 n] w fun e w' => ∃ v, e = .returned v ∧ OI w' w.heap.size v (runsN l (wiN l.length n)) ∧ Below w.heap.size w w' := by
  have hlen := hl.2.1
  have hW := wiN_le l.length n
  have HL := Bx.mk hl
  clear hl
  go_enter Try.func18, Try.ntmps18
  go_wp2_with fail
  refine (within_calls A l.length c n w hlen).mono ?_
  rintro e w1 ⟨rfl, rfl⟩
  generalize hWW : wiN l.length n = W at hW ⊢
  have HWW := Bx.mk hWW
  clear hWW
  go_wp2
  have hB0 : Below w.heap.size w (w.alloc (.cells #[.int .i64 0, .int .i64 0] 48)) := below_alloc1 _ _
  have h0 : (w.alloc (.cells #[.int .i64 0, .int .i64 0] 48)).cell? ⟨w.heap.size, 0, none⟩ = some (.int .i64 0) := World.cell?_alloc_at _ _ _ _ rfl
  have h1 : (w.alloc (.cells #[.int .i64 0, .int .i64 0] 48)).cell? ⟨w.heap.size, 1, none⟩ = some (.int .i64 0) := World.cell?_alloc_at _ _ _ _ rfl
  have hf : ∀ j, (w.alloc (.cells #[.int .i64 0, .int .i64 0] 48)).frozen? ⟨w.heap.size, j, none⟩ = false := fun j => World.frozen?_alloc_at _ _ _ _ rfl
  have hz : w.heap.size < (w.alloc (.cells #[.int .i64 0, .int .i64 0] 48)).heap.size := by simp
  generalize w.alloc (.cells #[.int .i64 0, .int .i64 0] 48) = w1 at hB0 h0 h1 hf hz ⊢
  generalize hm : w.heap.size = m at hB0 h0 h1 hf hz ⊢
  have HM := Bx.mk hm
  have HB0 := Bx.mk hB0
  have H0 := Bx.mk h0
  have H1 := Bx.mk h1
  have HF : Bx (w1.frozen? ⟨m, 0, none⟩ = false ∧ w1.frozen? ⟨m, 1, none⟩ = false ∧ m < w1.heap.size) := ⟨⟨hf 0, hf 1, hz⟩⟩
  clear hB0 h0 h1 hf hz hm
  go_loopw [5, 7, 16] (fun v b i wr => ∃ k, k ≤ W ∧ i = .int .i64 (k : Nat) ∧ b = .bool (runSt l k).last ∧ Bx (OI wr (m + 1) v (runSt l k).done) ∧ Bx (wr.cell? ⟨m, 0, none⟩ = some (.int .i64 (runSt l k).cur)) ∧ Bx (wr.cell? ⟨m, 1, none⟩ = some (.int .i64 (runSt l k).done.sum)) ∧
    Bx (wr.frozen? ⟨m, 0, none⟩ = false ∧ wr.frozen? ⟨m, 1, none⟩ = false ∧ m < wr.heap.size) ∧ Bx (Below m w wr)) (fun _ _ i _ => W - (intOf i).toNat)
  case atStart => exact ⟨0, Nat.zero_le _, rfl, rfl, ⟨OI.nil _ _⟩, H0, H1, HF, HB0⟩
  case round =>
    obtain ⟨k, hk, rfl, rfl, HO, HC0, HC1, HFF, HB⟩ := hrel
    clear HB0 H0 H1 HF
    obtain ⟨s1, s2, s3, s4⟩ := runSt_sum l k
    by_cases hlt : k < W
    · have hbw : Below w.heap.size w wr := by rw [HM.out]; exact HB.out
      have HH := Bx.mk (Has_yes A l c k wr (HL.out.below hbw) (by omega))
      have hst : runSt l (k + 1) = if bitB l k = (runSt l k).last then ⟨(runSt l k).done, (runSt l k).cur + 1, (runSt l k).last⟩ else ⟨(runSt l k).done ++ [(runSt l k).cur], 1, bitB l k⟩ := rfl
      generalize bitB l k = b at HH hst
      generalize runSt l k = S at hst HO HC0 HC1 s1 s2 s3 s4 ⊢
      obtain ⟨D, C, L⟩ := S
      simp only [] at hst s1 s2 s3 s4
      have HST := Bx.mk hst
      have hc0 : wr.cell? ⟨m, 0, none⟩ = some (.int .i64 C) := HC0.out
      have hc1 : wr.cell? ⟨m, 1, none⟩ = some (.int .i64 D.sum) := HC1.out
      have hf0 := HFF.out.1
      have hf1 := HFF.out.2.1
      have hmz := HFF.out.2.2
      generalize hDS : D.sum = DS at hc1 s1 s3
      have HDS := Bx.mk hDS
      clear hst HC0 HC1 HFF hbw hDS
      go_wp2_with fail
      refine HH.out.mono ?_
      rintro e w2 ⟨rfl, q, rfl⟩
      by_cases hbl : b = L
      · subst hbl
        have hst2 : runSt l (k + 1) = ⟨D, C + 1, b⟩ := by rw [HST.out, if_pos rfl]
        have HST2 := Bx.mk hst2
        clear HST hst2
        go_wp2
        go_roundw
        case rel =>
          refine ⟨k + 1, by omega, by go_num, by rw [HST2.out], ⟨?_⟩, ⟨?_⟩, ⟨?_⟩, ⟨?_, ?_, ?_⟩, ⟨?_⟩⟩
          · rw [HST2.out]; exact ownsRow_setCell_below (show OI (wr.drewN q) (m + 1) _ D from HO.out) (by simp) _
          · rw [HST2.out]; exact World.cell?_setCell_same _ _ _ hc0
          · rw [HST2.out]
            rw [World.cell?_setCell_other _ _ _ _ (by simp)]
            show wr.cell? _ = _
            rw [hc1, ← HDS.out]
          · rw [World.frozen?_setCell]; exact hf0
          · rw [World.frozen?_setCell]; exact hf1
          · simp [World.setCell]; exact hmz
          · exact (below_drewN HB.out q).setCell (Nat.le_refl _) _
        case measure => simp [intOf]; omega
      · have hbb : (b == L) = false := by simp [hbl]
        have hbn : (b != L) = true := by simp [hbl]
        have hst2 : runSt l (k + 1) = ⟨D ++ [C], 1, b⟩ := by rw [HST.out, if_neg hbl]
        have HST2 := Bx.mk hst2
        clear HST hst2
        have hd4 : (D.length + 1) * 8 ≤ 140737488355328 := by omega
        go_wp2_with (at_builtin; refine wpList_append_int (wr.drewN q) rfl (.tmp 28) (.tmp 31) rfl (m + 1) u5 D C rfl HO.out rfl hd4 hmz ?_; intro v2 w2 ho2 hg2 _; have hb2 := Bx.mk (app_below hmz hg2 HO.out); have c0 : w2.cell? ⟨m, 0, none⟩ = some (.int .i64 C) := (hb2.out.cell (p := ⟨m, 0, none⟩) (Nat.lt_succ_self m)).trans hc0; have c1 : w2.cell? ⟨m, 1, none⟩ = some (.int .i64 DS) := (hb2.out.cell (p := ⟨m, 1, none⟩) (Nat.lt_succ_self m)).trans hc1; have f0 : w2.frozen? ⟨m, 0, none⟩ = false := (hb2.out.frozen (p := ⟨m, 0, none⟩) (Nat.lt_succ_self m)).trans hf0; have f1 : w2.frozen? ⟨m, 1, none⟩ = false := (hb2.out.frozen (p := ⟨m, 1, none⟩) (Nat.lt_succ_self m)).trans hf1; have z2 : m < w2.heap.size := Nat.lt_of_lt_of_le hmz hb2.out.size; have HO2 := Bx.mk ho2; clear hg2 ho2)
        go_roundw
        case rel =>
          refine ⟨k + 1, by omega, by go_num, by rw [HST2.out], ⟨?_⟩, ⟨?_⟩, ⟨?_⟩, ⟨?_, ?_, ?_⟩, ⟨?_⟩⟩
          · rw [HST2.out]; exact ownsRow_setCell_below (ownsRow_setCell_below (ownsRow_setCell_below HO2.out (by simp) _) (by simp) _) (by simp) _
          · rw [HST2.out]
            exact World.cell?_setCell_same _ _ _ (World.cell?_setCell_same _ _ _ (by rw [World.cell?_setCell_other _ _ _ _ (by simp)]; exact c0))
          · rw [HST2.out, World.cell?_setCell_other _ _ _ _ (by simp), World.cell?_setCell_other _ _ _ _ (by simp)]
            rw [World.cell?_setCell_same _ _ _ c1]
            have := HDS.out
            simp only [List.sum_append, List.sum_cons, List.sum_nil]
            congr 2; omega
          · rw [World.frozen?_setCell, World.frozen?_setCell, World.frozen?_setCell]; exact f0
          · rw [World.frozen?_setCell, World.frozen?_setCell, World.frozen?_setCell]; exact f1
          · simp [World.setCell]; exact z2
          · exact (((HB.out.trans (hb2.out.mono (Nat.le_succ m))).setCell (Nat.le_refl _) _).setCell (Nat.le_refl _) _).setCell (Nat.le_refl _) _
        case measure => simp [intOf]; omega
    · have hk' : k = W := by omega
      have HK := Bx.mk hk'
      clear hk'
      have hc1 : wr.cell? ⟨m, 1, none⟩ = some (.int .i64 (runSt l k).done.sum) := HC1.out
      have hmz := HFF.out.2.2
      clear HC0 HC1 HFF
      by_cases h0 : 0 < W
      · have hrn : runsN l W = (runSt l k).done ++ [(runSt l k).cur] := by unfold runsN; rw [if_neg (by omega), HK.out]
        have HRN := Bx.mk hrn
        have hkW : k = W := HK.out
        have hcur : IntKind.i64.wrap ((W : Int) - (runSt l k).done.sum) = (runSt l k).cur := by rw [IntWalk.i64_in _ (by omega)]; omega
        have hcur2 : (W : Int) - (runSt l k).done.sum = (runSt l k).cur := by omega
        generalize (runSt l k).done = D at hc1 HO HRN hcur hcur2 s1 s2 s3 s4
        generalize (runSt l k).cur = C at HRN hcur hcur2 s1 s2
        generalize D.sum = DS at hc1 hcur hcur2 s1 s3
        have hd4 : (D.length + 1) * 8 ≤ 140737488355328 := by omega
        have S1 := Bx.mk s1
        clear hrn hkW s1
        go_wp2_with (at_builtin; refine wpList_append_int wr rfl (.tmp 48) (.tmp 53) rfl (m + 1) u5 D C rfl HO.out rfl hd4 hmz ?_; intro v2 w2 ho2 hg2 _; have hb2 := Bx.mk (app_below (q := 0) hmz hg2 HO.out); have HO2 := Bx.mk ho2; clear hg2 ho2)
        go_ret
        refine ⟨_, rfl, ?_, ?_⟩
        · rw [HWW.out, HRN.out, HM.out]
          exact ownsRow_le' HO2.out (Nat.le_succ m)
        · rw [HM.out]; exact HB.out.trans (hb2.out.mono (Nat.le_succ m))
      · have hrn : runsN l W = [] := by unfold runsN; rw [if_pos (by omega)]
        have hD : (runSt l k).done = [] := List.eq_nil_of_length_eq_zero (by have := HK.out; omega)
        have HRN := Bx.mk hrn
        rw [hD] at HO
        clear hrn hD
        generalize (runSt l k).done.sum = DS at hc1 s1 s3
        go_wp2
        go_ret
        refine ⟨_, rfl, ?_, ?_⟩
        · rw [HWW.out, HRN.out, HM.out]
          exact ownsRow_le' HO.out (Nat.le_succ m)
        · rw [HM.out]; exact HB.out
end Go.Proofs.Ytcamakleahpinaa
