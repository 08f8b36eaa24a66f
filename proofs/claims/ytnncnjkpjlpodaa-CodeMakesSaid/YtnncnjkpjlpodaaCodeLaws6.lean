import Derived.Test.YtnncnjkpjlpodaaCodeLaws5
import Derived.Test.YtnncnjkpjlpodaaCode7
/-
  The law CodeMakes: its walk.
-/
namespace Go.Proofs.Ytnncnjkpjlpodaa
open Go.RowKit

def fixv (i : Nat) : Nat := if 255 < i ∧ i < 280 then 7 else if 143 < i ∧ i < 256 then 9 else 8
def yL (k : Nat) : List Nat := (List.range k).map fixv
theorem yL_succ (k : Nat) : yL (k + 1) = yL k ++ [fixv k] := by unfold yL; rw [List.range_succ, List.map_append]; rfl
theorem yL_length (k : Nat) : (yL k).length = k := by simp [yL]
theorem yL_fix : yL 288 = fixL := by decide +kernel
set_option maxRecDepth 100000 in
set_option maxHeartbeats 2000000 in
theorem yFixed_calls (w : World) : Calls Try.prog 55 #[] w fun e w' => ∃ v, e = .returned v ∧ OI w' w.heap.size v (zl fixL) ∧ Below w.heap.size w w' := by
  have HY := Bx.mk yL_fix
  go_enter Try.func55, Try.ntmps55
  have T0 := Bx.mk (OI.empty w)
  have B0 := Bx.mk (below_alloc1 w (.cells #[] 3))
  go_wp2
  go_loopw [1, 2, 3] (fun t i _ wr => ∃ k : Nat, k ≤ 288 ∧ i = .int .i64 (k : Nat) ∧ Bx (OI wr w.heap.size t (zl (yL k))) ∧ Bx (Below w.heap.size w wr)) (fun _ i _ _ => 288 - (intOf i).toNat)
  case atStart => exact ⟨0, Nat.zero_le _, rfl, T0, B0⟩
  case round =>
    obtain ⟨k, hk, rfl, HT, HB⟩ := hrel
    by_cases hlt : k < 288
    · obtain ⟨v, hv⟩ : ∃ v, v = fixv k := ⟨_, rfl⟩
      have HS : Bx (zl (yL (k + 1)) = zl (yL k) ++ [(v : Int)]) := ⟨by rw [yL_succ, zl_app, hv]; rfl⟩
      have hlen : ((zl (yL k)).length + 1) * 8 ≤ 140737488355328 := by rw [zl_length, yL_length]; omega
      have hz : w.heap.size ≤ wr.heap.size := HB.out.size
      by_cases h1 : 143 < k
      · by_cases h2 : k < 256
        · have hv9 : v = 9 := by rw [hv]; unfold fixv; rw [if_neg (by omega), if_pos (by omega)]
          subst hv9
          clear hv
          go_wp2_with (at_builtin; refine wpList_append_int wr rfl (.tmp 21) (.tmp 23) rfl w.heap.size u1 (zl (yL k)) 9 rfl HT.out rfl hlen hz ?_; intro v2 w2 ho2 hg2 _; have b2 := Bx.mk (app_belowI hz hg2 HT.out); have T2 : Bx (OI w2 w.heap.size v2 (zl (yL (k + 1)))) := ⟨by rw [HS.out]; exact ho2⟩; clear hg2 ho2)
          go_roundw
          case rel => exact ⟨k + 1, by omega, by go_num, T2, ⟨HB.out.trans b2.out⟩⟩
          case measure => simp [intOf]; omega
        · by_cases h3 : k < 280
          · have hv7 : v = 7 := by rw [hv]; unfold fixv; rw [if_pos (by omega)]
            subst hv7
            have h255 : 255 < k := by omega
            clear hv
            go_wp2_with (at_builtin; refine wpList_append_int wr rfl (.tmp 21) (.tmp 23) rfl w.heap.size u1 (zl (yL k)) 7 rfl HT.out rfl hlen hz ?_; intro v2 w2 ho2 hg2 _; have b2 := Bx.mk (app_belowI hz hg2 HT.out); have T2 : Bx (OI w2 w.heap.size v2 (zl (yL (k + 1)))) := ⟨by rw [HS.out]; exact ho2⟩; clear hg2 ho2)
            go_roundw
            case rel => exact ⟨k + 1, by omega, by go_num, T2, ⟨HB.out.trans b2.out⟩⟩
            case measure => simp [intOf]; omega
          · have hv8 : v = 8 := by rw [hv]; unfold fixv; rw [if_neg (by omega), if_neg (by omega)]
            subst hv8
            have h255 : 255 < k := by omega
            clear hv
            go_wp2_with (at_builtin; refine wpList_append_int wr rfl (.tmp 21) (.tmp 23) rfl w.heap.size u1 (zl (yL k)) 8 rfl HT.out rfl hlen hz ?_; intro v2 w2 ho2 hg2 _; have b2 := Bx.mk (app_belowI hz hg2 HT.out); have T2 : Bx (OI w2 w.heap.size v2 (zl (yL (k + 1)))) := ⟨by rw [HS.out]; exact ho2⟩; clear hg2 ho2)
            go_roundw
            case rel => exact ⟨k + 1, by omega, by go_num, T2, ⟨HB.out.trans b2.out⟩⟩
            case measure => simp [intOf]; omega
      · have hv8 : v = 8 := by rw [hv]; unfold fixv; rw [if_neg (by omega), if_neg (by omega)]
        subst hv8
        have h255 : ¬ 255 < k := by omega
        clear hv
        go_wp2_with (at_builtin; refine wpList_append_int wr rfl (.tmp 21) (.tmp 23) rfl w.heap.size u1 (zl (yL k)) 8 rfl HT.out rfl hlen hz ?_; intro v2 w2 ho2 hg2 _; have b2 := Bx.mk (app_belowI hz hg2 HT.out); have T2 : Bx (OI w2 w.heap.size v2 (zl (yL (k + 1)))) := ⟨by rw [HS.out]; exact ho2⟩; clear hg2 ho2)
        go_roundw
        case rel => exact ⟨k + 1, by omega, by go_num, T2, ⟨HB.out.trans b2.out⟩⟩
        case measure => simp [intOf]; omega
    · obtain rfl : k = 288 := by omega
      rw [HY.out] at HT
      go_wp2
      go_ret
      exact ⟨_, rfl, HT.out, HB.out⟩
theorem Ints_calls (A : Option Addr) (l : List Int) (c : Nat) (w : World) (hl : IR w A l) (hn : l.length * 8 ≤ 140737488351232) :
    Calls Try.prog 51 #[.slice A l.length c] w fun e w' => ∃ v, e = .returned v ∧ OI w' w.heap.size v l ∧ Below w.heap.size w w' := by
  have HL := Bx.mk (hl.below (below_alloc1 w (.cells #[] 3))).reads
  clear hl
  go_enter Try.func51, Try.ntmps51
  go_wp2_with (at_builtin; refine wpList_append_ints _ rfl _ _ rfl w.heap.size _ [] l l.length rfl rfl (OI.empty w) A c rfl HL.out ?hl (by simp) ?_; (case hl => simp; omega); intro v' w' ho hg _)
  go_ret
  exact ⟨_, rfl, ho, (below_alloc1 w _).grown hg (by simp) (fun k hk => OI.block (OI.empty w) k hk)⟩
/-- bits as a number, the highest first -/
def hV : List Nat → Nat → Nat
  | [], n => n
  | b :: r, n => hV r (2 * n + b)
theorem hV_app (l m : List Nat) : ∀ n, hV (l ++ m) n = hV m (hV l n) := by
  induction l with
  | nil => intro n; rfl
  | cons x r ih => intro n; simp only [List.cons_append, hV, ih]
theorem hV_hi : ∀ n x, hV (hiL x n) 0 = x % 2 ^ n
  | 0, x => by simp [hiL, lowL, hV, Nat.mod_one]
  | n + 1, x => by
    have h := hiL_snoc (x / 2) (x % 2) n (by omega)
    rw [show 2 * (x / 2) + x % 2 = x by omega] at h
    rw [h, hV_app, hV_hi n (x / 2)]
    simp only [hV]
    rw [Nat.pow_succ', Nat.mod_mul]
    omega
theorem hV_lt (l : List Nat) (h : Bit l) : ∀ n, hV l n < (n + 1) * 2 ^ l.length := by
  induction l with
  | nil => intro n; simp [hV]
  | cons x r ih =>
    intro n
    have h1 := h x (by simp)
    have h2 := ih (fun y hy => h y (by simp [hy])) (2 * n + x)
    simp only [hV, List.length_cons, Nat.pow_succ]
    have : (2 * n + x + 1) * 2 ^ r.length ≤ (2 * (n + 1)) * 2 ^ r.length := Nat.mul_le_mul_right _ (by omega)
    have e : (n + 1) * (2 ^ r.length * 2) = (2 * (n + 1)) * 2 ^ r.length := by rw [Nat.mul_comm (2 ^ r.length) 2, ← Nat.mul_assoc, Nat.mul_comm (n + 1) 2]
    omega
theorem refHigh_calls (A : Option Addr) (l : List Nat) (c : Nat) (w : World) (hl : IR w A (zl l)) (hb : Bit l) (hn : l.length ≤ 24) :
    Calls Try.prog 56 #[.slice A l.length c] w fun e w' => e = .returned (.int .i64 (hV l 0 : Nat)) ∧ w = w' := by
  have HL := Bx.mk hl
  have HBI := Bx.mk hb
  clear hl hb
  go_enter Try.func56, Try.ntmps56
  go_wp2
  go_loop [3, 4] (fun x i => ∃ k : Nat, k ≤ l.length ∧ i = .int .i64 (k : Nat) ∧ x = .int .i64 (hV (l.take k) 0 : Nat)) (fun _ i => l.length - (intOf i).toNat)
  case atStart => exact ⟨0, Nat.zero_le _, rfl, rfl⟩
  case round =>
    obtain ⟨k, hk, rfl, rfl⟩ := hrel
    have hlt0 := hV_lt (l.take k) (fun x hx => HBI.out x (List.mem_of_mem_take hx)) 0
    rw [List.length_take, Nat.min_eq_left hk, Nat.zero_add, Nat.one_mul] at hlt0
    have h24 := two24 (show k ≤ 24 by omega)
    by_cases hlt : k < l.length
    · obtain ⟨ad, rfl, hd⟩ := HL.out (by rw [zl_length]; omega)
      have hg := hd k (by rw [zl_length]; exact hlt)
      rw [zl_get] at hg
      have hs : hV (l.take (k + 1)) 0 = 2 * hV (l.take k) 0 + l.getD k 0 := by
        rw [List.take_succ_eq_append_getElem hlt, hV_app, List.getD_eq_getElem?_getD, List.getElem?_eq_getElem hlt]; rfl
      have hb1 : l.getD k 0 ≤ 1 := by rw [List.getD_eq_getElem?_getD, List.getElem?_eq_getElem hlt]; exact HBI.out _ (List.getElem_mem hlt)
      have HS := Bx.mk hs
      clear hd hs
      generalize l.getD k 0 = b at *
      generalize hV (l.take k) 0 = V at *
      go_wp2
      go_round
      case rel => exact ⟨k + 1, by omega, by go_num, by rw [HS.out]; go_num⟩
      case measure => simp [intOf]; omega
    · rw [List.take_of_length_le (by omega)] at hlt0 ⊢
      generalize hV' : hV l 0 = V at *
      have HV := Bx.mk hV'
      clear hV'
      go_wp2
      go_ret
      exact ⟨ret_int (by rw [HV.out]), rfl⟩
end Go.Proofs.Ytnncnjkpjlpodaa
