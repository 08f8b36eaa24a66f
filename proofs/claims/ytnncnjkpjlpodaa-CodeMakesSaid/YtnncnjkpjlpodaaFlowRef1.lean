import Derived.Test.YtnncnjkpjlpodaaFlowRefPure
import Derived.Test.YtnncnjkpjlpodaaMemI
/-
  The reference: Low, High.
-/
namespace Go.Proofs.Ytnncnjkpjlpodaa
open Go.RowKit

def zl (l : List Nat) : List Int := l.map fun (x : Nat) => (x : Int)
theorem zl_length (l : List Nat) : (zl l).length = l.length := by simp [zl]
theorem zl_app (l m : List Nat) : zl (l ++ m) = zl l ++ zl m := by simp [zl]
theorem zl_get (l : List Nat) (j : Nat) : (zl l).getD j 0 = ((l.getD j 0 : Nat) : Int) := by
  unfold zl
  rw [List.getD_eq_getElem?_getD, List.getD_eq_getElem?_getD, List.getElem?_map]
  cases l[j]? <;> rfl
theorem app_belowI {wr w2 : World} {B : Nat} {v : Value} {D : List Int} {o : Obj} (hz : B ≤ wr.heap.size) (hg : (wr.alloc o).grownBy w2 v.ownBlock) (ho : OI wr B v D) : Below B wr w2 :=
  ((Below.refl B wr).alloc hz o).grown hg (by simp; omega) (fun k hk => OI.block ho k hk)

theorem Low_arg (n b : Int) (w : World) (h : b < 0 ∨ 24 < b ∨ n < 0) :
    Calls Try.prog 26 #[.int .i64 n, .int .i64 b] w fun e w' => e = .returned (.tuple #[.slice none 0 0, .bool false]) ∧ w = w' := by
  by_cases h1 : b < 0
  · clear h
    go_enter Try.func26, Try.ntmps26
    go_wp2
    go_ret2
    exact ⟨rfl, rfl⟩
  · by_cases h2 : 24 < b
    · clear h
      go_enter Try.func26, Try.ntmps26
      go_wp2
      go_ret2
      exact ⟨rfl, rfl⟩
    · have h3 : n < 0 := by omega
      clear h
      go_enter Try.func26, Try.ntmps26
      go_wp2
      go_ret2
      exact ⟨rfl, rfl⟩
set_option maxHeartbeats 1000000 in
theorem Low_calls (n k : Nat) (w : World) (hk : k ≤ 24) (hn : n ≤ 9223372036854775807) :
    Calls Try.prog 26 #[.int .i64 (n : Int), .int .i64 (k : Int)] w fun e w' => ∃ v, e = .returned (.tuple #[v, .bool (decide (n < 2 ^ k))]) ∧ OI w' w.heap.size v (zl (lowL n k)) ∧ Below w.heap.size w w' := by
  obtain ⟨m, hm⟩ : ∃ m, m = w.heap.size := ⟨_, rfl⟩
  have HM := Bx.mk hm
  go_enter Try.func26, Try.ntmps26
  go_wp2
  go_loopw [0, 6, 7] (fun x v i wr => ∃ j, j ≤ k ∧ i = .int .i64 (j : Nat) ∧ x = .int .i64 ((n / 2 ^ j : Nat) : Int) ∧ Bx (OI wr m v (zl (lowL n j))) ∧ Bx (Below m w wr)) (fun _ _ i _ => k - (intOf i).toNat)
  case atStart => exact ⟨0, Nat.zero_le _, rfl, by simp, ⟨by rw [HM.out]; exact OI.empty w⟩, ⟨by rw [HM.out]; exact below_alloc1 w _⟩⟩
  case round =>
    obtain ⟨j, hj, rfl, rfl, HO, HB⟩ := hrel
    have hNle : n / 2 ^ j ≤ n := Nat.div_le_self _ _
    by_cases hlt : j < k
    · have hd : n / 2 ^ (j + 1) = n / 2 ^ j / 2 := by rw [Nat.pow_succ, Nat.div_div_eq_div_mul]
      have hs : zl (lowL n (j + 1)) = zl (lowL n j) ++ [((n / 2 ^ j % 2 : Nat) : Int)] := by rw [lowL, zl_app]; rfl
      have HD := Bx.mk hd
      have HS := Bx.mk hs
      have hlen : ((zl (lowL n j)).length + 1) * 8 ≤ 140737488355328 := by rw [zl_length, lowL_length]; omega
      have hmz : m ≤ wr.heap.size := Nat.le_trans (by rw [HM.out]; exact Nat.le_refl _) HB.out.size
      clear hd hs hm
      generalize n / 2 ^ j = N at HD HS hNle ⊢
      have hv : (N : Int) % 2 = ((N % 2 : Nat) : Int) := by omega
      generalize N % 2 = V at hv HS
      generalize zl (lowL n j) = D at HO HS hlen
      go_wp2_with (at_builtin; refine wpList_append_int wr rfl (.tmp 24) (.tmp 27) rfl m u6 D (V : Int) rfl HO.out rfl hlen hmz ?_; intro v2 w2 ho2 hg2 _; have hb2 := Bx.mk (app_belowI hmz hg2 HO.out); have HO2 := Bx.mk ho2; clear hg2 ho2)
      go_roundw
      case rel => exact ⟨j + 1, by omega, by go_num, by rw [HD.out]; go_num, ⟨by rw [HS.out]; exact HO2.out⟩, ⟨HB.out.trans hb2.out⟩⟩
      case measure => simp [intOf]; omega
    · obtain rfl : j = k := by omega
      have hq : decide (n < 2 ^ j) = decide (n / 2 ^ j = 0) := by
        apply Bool.eq_iff_iff.2
        simp only [decide_eq_true_eq]
        rw [Nat.div_eq_zero_iff]
        have : 0 < 2 ^ j := Nat.pow_pos (by decide)
        omega
      have HQ := Bx.mk hq
      clear hq hm
      generalize n / 2 ^ j = N at HQ hNle ⊢
      go_wp2
      go_ret2
      refine ⟨_, ?_, by rw [← HM.out]; exact HO.out, by rw [← HM.out]; exact HB.out⟩
      rw [HQ.out]
      congr 2
      all_goals try simp
      all_goals (apply Bool.eq_iff_iff.2; first | (simp; done) | (simp; omega))
end Go.Proofs.Ytnncnjkpjlpodaa
