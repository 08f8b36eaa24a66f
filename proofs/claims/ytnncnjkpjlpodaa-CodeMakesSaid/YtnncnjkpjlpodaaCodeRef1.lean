import Derived.Test.YtnncnjkpjlpodaaCodeWorks
/-
  The reference: Room, Check.
-/
namespace Go.Proofs.Ytnncnjkpjlpodaa
open Go.RowKit

set_option maxHeartbeats 2000000 in
theorem yRoom_calls (A : Option Addr) (l : List Int) (c : Nat) (w : World) (hl : IR w A l) (hn : l.length * 8 ≤ 140737488351232) :
    Calls Try.prog 52 #[.slice A l.length c] w fun e w' => e = .returned (.int .i64 (32768 - (krI l : Int))) ∧ w = w' := by
  have HL := Bx.mk hl
  clear hl
  go_enter Try.func52, Try.ntmps52
  go_wp2
  go_loop [3, 4, 5, 6] (fun s i _ _ => ∃ k : Nat, k ≤ l.length ∧ i = .int .i64 (k : Nat) ∧ s = .int .i64 (32768 - (krI (l.take k) : Int))) (fun _ i _ _ => l.length - (intOf i).toNat)
  case atStart => exact ⟨0, Nat.zero_le _, rfl, by simp [krI]⟩
  case round =>
    obtain ⟨k, hk, rfl, rfl⟩ := hrel
    have hkr := krI_le (l.take k)
    rw [List.length_take, Nat.min_eq_left hk] at hkr
    by_cases hlt : k < l.length
    · obtain ⟨ad, rfl, hd⟩ := HL.out (by omega)
      have hg := hd k hlt
      have hs : krI (l.take (k + 1)) = krI (l.take k) + (if 1 ≤ l.getD k 0 ∧ l.getD k 0 ≤ 15 then 2 ^ (15 - (l.getD k 0).toNat) else 0) := by
        rw [List.take_succ_eq_append_getElem hlt, krI_app, List.getD_eq_getElem?_getD, List.getElem?_eq_getElem hlt]
        simp [krI]
      have HS := Bx.mk hs
      clear hd hs
      generalize l.getD k 0 = x at hg HS
      generalize krI (l.take k) = K at HS hkr ⊢
      by_cases hx : 1 ≤ x ∧ x ≤ 15
      · obtain ⟨hx1, hx2⟩ := hx
        obtain ⟨x, rfl⟩ := Int.eq_ofNat_of_zero_le (show 0 ≤ x by omega)
        have HS2 : Bx (krI (l.take (k + 1)) = K + 2 ^ (15 - x)) := ⟨by rw [HS.out, if_pos ⟨hx1, hx2⟩, Int.toNat_natCast]⟩
        clear HS
        go_wp2
        go_loop [5, 6] (fun v n => ∃ q : Nat, x + q ≤ 15 ∧ n = .int .i64 ((x + q : Nat) : Int) ∧ v = .int .i64 ((2 ^ q : Nat) : Int)) (fun _ n => 15 - (intOf n).toNat)
        case atStart => exact ⟨0, by omega, rfl, rfl⟩
        case round =>
          obtain ⟨q, hq, rfl, rfl⟩ := hrel
          have h24 := Nat.pow_le_pow_right (n := 2) (by decide) (show q ≤ 14 by omega)
          have hps := Bx.mk (Nat.pow_succ (n := 2) (m := q))
          by_cases hlt2 : x + q < 15
          · generalize 2 ^ q = M at *
            generalize hz : x + q = z at *
            have HZ := Bx.mk hz
            clear hz
            go_wp2
            go_round
            case rel => exact ⟨q + 1, by have := HZ.out; omega, by have := HZ.out; congr 1; omega, by rw [hps.out]; first | (congr 1; done) | (congr 1; omega)⟩
            case measure => simp [intOf]; omega
          · have hqe : 15 - x = q := by omega
            rw [hqe] at HS2
            generalize 2 ^ q = M at *
            generalize hz : x + q = z at *
            clear hz
            go_wp2
            go_round
            case rel => exact ⟨k + 1, by omega, by go_num, by rw [HS2.out]; first | (congr 1; done) | (congr 1; omega)⟩
            case measure => simp [intOf]; omega
      · have HS2 : Bx (krI (l.take (k + 1)) = K) := ⟨by rw [HS.out, if_neg hx]; rfl⟩
        clear HS
        by_cases h1 : x < 1
        · clear hx
          go_wp2
          go_round
          case rel => exact ⟨k + 1, by omega, by go_num, by rw [HS2.out]⟩
          case measure => simp [intOf]; omega
        · have h2 : 15 < x := by omega
          clear hx
          go_wp2
          go_round
          case rel => exact ⟨k + 1, by omega, by go_num, by rw [HS2.out]⟩
          case measure => simp [intOf]; omega
    · have hall : l.take k = l := List.take_of_length_le (by omega)
      rw [hall]
      rw [hall] at hkr
      clear hall
      generalize hK : krI l = K at hkr ⊢
      have HK := Bx.mk hK
      clear hK
      go_wp2
      go_ret
      exact ⟨ret_int (by rw [HK.out]), rfl⟩
/-- how many lengths are not 0, how many are 1 -/
def nz (l : List Int) : Nat := (l.filter (fun x => decide (0 < x))).length
def n1 (l : List Int) : Nat := (l.filter (fun x => decide (x = 1))).length
theorem ord_len_cons (x : Nat) (r : List Nat) : ∀ n, (ordN (x :: r) n).length = (ordN r n).length + if 1 ≤ x ∧ x ≤ n then 1 else 0
  | 0 => by simp [ordN]; omega
  | n + 1 => by
    simp only [ordN, List.length_append]
    rw [ord_len_cons x r n]
    simp only [syms]
    by_cases h : x = n + 1
    · rw [if_pos h, List.length_cons, syms_len r (n + 1) (0 + 1) 0, if_neg (by omega), if_pos (by omega)]; omega
    · rw [if_neg h, syms_len r (n + 1) (0 + 1) 0]
      by_cases h2 : 1 ≤ x ∧ x ≤ n
      · rw [if_pos h2, if_pos (by omega)]; omega
      · rw [if_neg h2, if_neg (by omega)]; omega
theorem nz_ord (L : List Nat) (h : ∀ x ∈ L, x ≤ 15) : nz (zl L) = (ordN L 15).length := by
  induction L with
  | nil => rfl
  | cons x r ih =>
    rw [ord_len_cons, ← ih (fun y hy => h y (by simp [hy]))]
    have := h x (by simp)
    simp only [nz, zl, List.map_cons, List.filter_cons]
    by_cases hx : 0 < x
    · rw [if_pos (by simp; omega), if_pos (by omega)]; rfl
    · rw [if_neg (by simp; omega), if_neg (by omega)]; rfl
theorem n1_cnt (L : List Nat) : n1 (zl L) = cnt L 1 := by
  induction L with
  | nil => rfl
  | cons x r ih =>
    rw [cnt_cons, ← ih]
    simp only [n1, zl, List.map_cons, List.filter_cons]
    by_cases hx : x = 1
    · rw [if_pos (by simp; omega), if_pos (by simp [hx])]; rfl
    · rw [if_neg (by simp; omega), if_neg (by simp [hx])]; rfl
theorem oneC_iff (L : List Nat) (h : ∀ x ∈ L, x ≤ 15) : oneC L ↔ ¬ (1 < nz (zl L) ∨ nz (zl L) ≠ n1 (zl L)) := by
  rw [nz_ord L h, n1_cnt]
  unfold oneC
  have : cnt L 1 ≤ (ordN L 15).length := by
    have := frm_succ L 1 (by omega)
    rw [frm_zero] at this
    have h2 := ord_len L 15 1 (by omega)
    have h3 : frm L (1 + 1) = (ordN L 1).length := rfl
    omega
  omega
theorem snoc_filter (p : Int → Bool) (l : List Int) (k : Nat) (h : k < l.length) : ((l.take (k + 1)).filter p).length = ((l.take k).filter p).length + if p (l.getD k 0) then 1 else 0 := by
  rw [List.take_succ_eq_append_getElem h, List.filter_append, List.length_append, List.getD_eq_getElem?_getD, List.getElem?_eq_getElem h]
  congr 1
  simp only [Option.getD_some, List.filter_cons, List.filter_nil]
  split <;> rfl
end Go.Proofs.Ytnncnjkpjlpodaa
