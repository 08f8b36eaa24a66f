import Derived.Test.YtnncnjkpjlpodaaFlowRefPure2
/-
  The reference: High.
-/
namespace Go.Proofs.Ytnncnjkpjlpodaa
open Go.RowKit

theorem OI.le {w : World} {base base' : Nat} {v : Value} {l : List Int} (h : OI w base v l) (hb : base' ≤ base) : OI w base' v l :=
  ⟨h.1, h.2.elim Or.inl (fun ⟨g, cap, cur, hv, hg, r⟩ => Or.inr ⟨g, cap, cur, hv, Nat.le_trans hb hg, r⟩)⟩
theorem High_arg (n b : Int) (w : World) (h : b < 0 ∨ 24 < b ∨ n < 0) :
    Calls Try.prog 27 #[.int .i64 n, .int .i64 b] w fun e w' => ∃ v, e = .returned (.tuple #[v, .bool false]) ∧ OI w' w.heap.size v [] ∧ Below w.heap.size w w' := by
  have L := Bx.mk (Low_arg n b w h)
  clear h
  go_enter Try.func27, Try.ntmps27
  go_wp2_with fail
  refine L.out.mono ?_
  rintro e w1 ⟨rfl, rfl⟩
  go_wp2
  go_loop [8, 9] (fun v i => v = .slice (some ⟨w.heap.size, 0, none⟩) 0 0 ∧ i = .int .i64 (-1)) (fun _ _ => 0)
  case atStart => exact ⟨rfl, rfl⟩
  case round =>
    obtain ⟨rfl, rfl⟩ := hrel
    go_wp2
    go_ret2
    exact ⟨_, rfl, OI.empty w, below_alloc1 w _⟩
set_option maxHeartbeats 1000000 in
theorem High_calls (n k : Nat) (w : World) (hk : k ≤ 24) (hn : n ≤ 9223372036854775807) :
    Calls Try.prog 27 #[.int .i64 (n : Int), .int .i64 (k : Int)] w fun e w' => ∃ v, e = .returned (.tuple #[v, .bool (decide (n < 2 ^ k))]) ∧ OI w' w.heap.size v (zl (lowL n k).reverse) ∧ Below w.heap.size w w' := by
  have L := Bx.mk (Low_calls n k w hk hn)
  generalize decide (n < 2 ^ k) = ok at L ⊢
  have hL := lowL_length n k
  go_enter Try.func27, Try.ntmps27
  go_wp2_with fail
  refine L.out.mono ?_
  rintro e w1 ⟨v1, rfl, ho, hb⟩
  obtain ⟨A1, c1, hv⟩ := ho.form
  rw [zl_length, hL] at hv
  subst hv
  have HI := Bx.mk (OI.ir ho)
  have HB := Bx.mk hb
  generalize hLL : lowL n k = l at hL HI
  have HLL := Bx.mk hLL
  have HL := Bx.mk hL
  clear ho hb hL L hLL
  go_wp2
  go_loopw [8, 9] (fun v i wr => ∃ j : Nat, j ≤ k ∧ i = .int .i64 ((k : Int) - 1 - (j : Int)) ∧ Bx (OI wr w1.heap.size v (zl (l.reverse.take j))) ∧ Bx (Below w1.heap.size w1 wr)) (fun _ i _ => (intOf i + 1).toNat)
  case atStart => exact ⟨0, Nat.zero_le _, by congr 1; first | done | omega, ⟨by simpa [zl] using OI.empty w1⟩, ⟨below_alloc1 w1 _⟩⟩
  case round =>
    obtain ⟨j, hj, rfl, HO, HBr⟩ := hrel
    by_cases hlt : j < k
    · obtain ⟨p, hp⟩ : ∃ p : Nat, p = k - 1 - j := ⟨_, rfl⟩
      have hpi : (k : Int) - 1 - (j : Int) = (p : Int) := by omega
      have hpk : p < k := by omega
      obtain ⟨ad, rfl, hd⟩ := (HI.out.below HBr.out) (by rw [zl_length, HL.out]; omega)
      have hg := hd p (by rw [zl_length, HL.out]; exact hpk)
      rw [zl_get] at hg
      have hs : zl (l.reverse.take (j + 1)) = zl (l.reverse.take j) ++ [((l.getD p 0 : Nat) : Int)] := by
        have hr : j < l.reverse.length := by rw [List.length_reverse, HL.out]; exact hlt
        rw [List.take_succ_eq_append_getElem hr, zl_app]
        congr 1
        rw [List.getElem_reverse, hp, ← HL.out, List.getD_eq_getElem?_getD, List.getElem?_eq_getElem (by have := HL.out; omega)]
        rfl
      have HS := Bx.mk hs
      have hlen : ((zl (l.reverse.take j)).length + 1) * 8 ≤ 140737488355328 := by rw [zl_length, List.length_take]; omega
      have hmz : w1.heap.size ≤ wr.heap.size := HBr.out.size
      have HPI := Bx.mk hpi
      rw [hpi]
      clear hs hd hpi hp
      generalize l.getD p 0 = X at hg HS
      generalize zl (l.reverse.take j) = D at HO HS hlen
      go_wp2_with (at_builtin; refine wpList_append_int wr rfl (.tmp 24) (.tmp 29) rfl w1.heap.size u8 D (X : Int) rfl HO.out rfl hlen hmz ?_; intro v2 w2 ho2 hg2 _; have hb2 := Bx.mk (app_belowI hmz hg2 HO.out); have HO2 := Bx.mk ho2; clear hg2 ho2)
      go_roundw
      case rel => exact ⟨j + 1, by omega, by have := HPI.out; first | (congr 1; done) | (congr 1; omega), ⟨by rw [HS.out]; exact HO2.out⟩, ⟨HBr.out.trans hb2.out⟩⟩
      case measure => have := HPI.out; first | (simp [intOf]; done) | (simp [intOf]; omega)
    · obtain rfl : j = k := by omega
      have hall : l.reverse.take j = l.reverse := List.take_of_length_le (by rw [List.length_reverse, HL.out]; exact Nat.le_refl _)
      have HALL := Bx.mk hall
      have hm1 : (j : Int) - 1 - (j : Int) = -1 := by omega
      rw [hm1]
      clear hall
      go_wp2
      go_ret2
      refine ⟨_, rfl, ?_, below_then HB.out HB.out.size HBr.out⟩
      rw [HLL.out, ← HALL.out]
      exact OI.le HO.out HB.out.size
end Go.Proofs.Ytnncnjkpjlpodaa
