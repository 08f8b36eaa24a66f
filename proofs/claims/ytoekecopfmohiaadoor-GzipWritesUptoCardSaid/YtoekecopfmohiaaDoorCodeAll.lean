import Derived.Test.YtoekecopfmohiaaDoorFlowAll
import Derived.WalkSpells
import Derived.Deep.DeepCutAuto
import Derived.WalkMore
import Derived.Deep.LoopGhost
/-
  Codes: New, Room, Word, Read, Write, as functions of the lengths.
-/
namespace Go.Proofs.YtoekecopfmohiaaDoor
open Go.RowKit
/-- the symbols (from i on) whose length is n -/
def syms : List Nat → Nat → Nat → List Nat
  | [], _, _ => []
  | x :: r, n, i => if x = n then i :: syms r n (i + 1) else syms r n (i + 1)
def cnt (L : List Nat) (n : Nat) : Nat := if n = 0 then 0 else (syms L n 0).length
def ordN (L : List Nat) : Nat → List Nat
  | 0 => []
  | n + 1 => ordN L n ++ syms L (n + 1) 0
def frm (L : List Nat) (n : Nat) : Nat := (ordN L (n - 1)).length
/-- the first code of length n -/
def fc (L : List Nat) : Nat → Nat
  | 0 => 0
  | n + 1 => 2 * (fc L n + cnt L n)
def rnk (L : List Nat) (s n : Nat) : Nat := (syms (L.take s) n 0).length
/-- what is used up of the room -/
def kr : List Nat → Nat
  | [] => 0
  | x :: r => (if 1 ≤ x ∧ x ≤ 15 then 2 ^ (15 - x) else 0) + kr r
theorem syms_app (l m : List Nat) (n : Nat) : ∀ i, syms (l ++ m) n i = syms l n i ++ syms m n (i + l.length) := by
  induction l with
  | nil => intro i; simp [syms]
  | cons x r ih =>
    intro i
    simp only [List.cons_append, syms, ih, List.length_cons]
    rw [show i + 1 + r.length = i + (r.length + 1) by omega]
    split <;> simp
theorem syms_len (l : List Nat) (n : Nat) : ∀ i j, (syms l n i).length = (syms l n j).length := by
  induction l with
  | nil => intro i j; rfl
  | cons x r ih =>
    intro i j
    simp only [syms]
    split
    · rw [List.length_cons, List.length_cons, ih (i + 1) (j + 1)]
    · exact ih _ _
theorem syms_take (L : List Nat) (n j : Nat) (h : j < L.length) : syms (L.take (j + 1)) n 0 = syms (L.take j) n 0 ++ (if L.getD j 0 = n then [j] else []) := by
  rw [List.take_succ_eq_append_getElem h, syms_app, List.length_take, Nat.min_eq_left (by omega), Nat.zero_add, List.getD_eq_getElem?_getD, List.getElem?_eq_getElem h]
  congr 1
theorem syms_mem (L : List Nat) (n : Nat) : ∀ i s, s ∈ syms L n i → i ≤ s ∧ s < i + L.length ∧ L.getD (s - i) 0 = n := by
  induction L with
  | nil => intro i s h; cases h
  | cons x r ih =>
    intro i s h
    simp only [syms] at h
    have key : s ∈ syms r n (i + 1) → i ≤ s ∧ s < i + (x :: r).length ∧ (x :: r).getD (s - i) 0 = n := by
      intro h
      obtain ⟨h1, h2, h3⟩ := ih (i + 1) s h
      refine ⟨by omega, by rw [List.length_cons]; omega, ?_⟩
      rw [show s - i = (s - (i + 1)) + 1 by omega]
      simpa [List.getD_eq_getElem?_getD] using h3
    split at h
    · next hx =>
      rcases List.mem_cons.1 h with rfl | h
      · exact ⟨Nat.le_refl _, by simp, by simpa using hx⟩
      · exact key h
    · exact key h
/-- the symbol s of length n stands at its rank -/
theorem syms_rnk (L : List Nat) (s n : Nat) (h : s < L.length) (hn : L.getD s 0 = n) : (syms L n 0)[rnk L s n]? = some s ∧ rnk L s n < (syms L n 0).length := by
  have e : syms L n 0 = syms (L.take s) n 0 ++ (s :: syms (L.drop (s + 1)) n (s + 1)) := by
    conv => lhs; rw [← List.take_append_drop s L, syms_app, List.length_take, Nat.min_eq_left (by omega), Nat.zero_add, List.drop_eq_getElem_cons h]
    congr 1
    simp only [syms]
    rw [if_pos (by rw [← hn, List.getD_eq_getElem?_getD, List.getElem?_eq_getElem h]; rfl)]
  unfold rnk
  rw [e, List.getElem?_append_right (Nat.le_refl _), Nat.sub_self]
  exact ⟨rfl, by rw [List.length_append, List.length_cons]; omega⟩
/-- each place of the symbols of length n is the rank of one -/
theorem syms_at (L : List Nat) (n : Nat) : ∀ j, j < (syms L n 0).length → ∃ s, s < L.length ∧ L.getD s 0 = n ∧ rnk L s n = j ∧ (syms L n 0)[j]? = some s := by
  have key : ∀ k, k ≤ L.length → ∀ j, j < (syms (L.take k) n 0).length → ∃ s, s < k ∧ L.getD s 0 = n ∧ rnk L s n = j := by
    intro k
    induction k with
    | zero => intro _ j h; simp [syms] at h
    | succ k ih =>
      intro hk j h
      rw [syms_take L n k (by omega), List.length_append] at h
      rcases Nat.lt_or_ge j (syms (L.take k) n 0).length with h1 | h1
      · obtain ⟨s, a, b, c⟩ := ih (by omega) j h1
        exact ⟨s, by omega, b, c⟩
      · split at h
        · next hx => exact ⟨k, by omega, hx, by simp at h; unfold rnk; omega⟩
        · simp at h; omega
  intro j h
  obtain ⟨s, a, b, c⟩ := key L.length (Nat.le_refl _) j (by rw [List.take_length]; exact h)
  exact ⟨s, a, b, c, by rw [← c]; exact (syms_rnk L s n a b).1⟩
theorem rnk_inj (L : List Nat) (s t n : Nat) (hs : s < L.length) (ht : t < L.length) (h1 : L.getD s 0 = n) (h2 : L.getD t 0 = n) (h : rnk L s n = rnk L t n) : s = t := by
  have a := (syms_rnk L s n hs h1).1
  have b := (syms_rnk L t n ht h2).1
  rw [h, b] at a
  exact (Option.some.inj a).symm
theorem frm_zero (L : List Nat) : frm L 1 = 0 := rfl
theorem frm_succ (L : List Nat) (n : Nat) (h : 1 ≤ n) : frm L (n + 1) = frm L n + cnt L n := by
  obtain ⟨m, rfl⟩ : ∃ m, n = m + 1 := ⟨n - 1, by omega⟩
  unfold frm cnt
  rw [if_neg (by omega)]
  simp only [Nat.add_sub_cancel, ordN, List.length_append]
theorem ord_len (L : List Nat) : ∀ m n, n ≤ m → (ordN L n).length ≤ (ordN L m).length := by
  intro m
  induction m with
  | zero => intro n h; obtain rfl : n = 0 := by omega
            exact Nat.le_refl _
  | succ m ih =>
    intro n h
    rcases Nat.lt_or_ge n (m + 1) with h1 | h1
    · exact Nat.le_trans (ih n (by omega)) (by simp [ordN])
    · obtain rfl : n = m + 1 := by omega
      exact Nat.le_refl _
theorem ord_get (L : List Nat) (n : Nat) (hn : 1 ≤ n) : ∀ m, n ≤ m → ∀ j, j < (syms L n 0).length → (ordN L m)[frm L n + j]? = (syms L n 0)[j]? := by
  obtain ⟨k, rfl⟩ : ∃ k, n = k + 1 := ⟨n - 1, by omega⟩
  intro m
  induction m with
  | zero => intro h; omega
  | succ m ih =>
    intro h j hj
    have hfr : frm L (k + 1) = (ordN L k).length := rfl
    rcases Nat.lt_or_ge k m with h1 | h1
    · have := ord_len L m (k + 1) (by omega)
      simp only [ordN, List.length_append] at this
      simp only [ordN]
      rw [List.getElem?_append_left (by rw [hfr]; omega)]
      exact ih (by omega) j hj
    · obtain rfl : k = m := by omega
      simp only [ordN]
      rw [List.getElem?_append_right (by rw [hfr]; omega), hfr, Nat.add_sub_cancel_left]
theorem ord_mem (L : List Nat) : ∀ m s, s ∈ ordN L m → s < L.length ∧ 1 ≤ L.getD s 0 ∧ L.getD s 0 ≤ m := by
  intro m
  induction m with
  | zero => intro s h; cases h
  | succ m ih =>
    intro s h
    rcases List.mem_append.1 h with h | h
    · obtain ⟨a, b, c⟩ := ih s h
      exact ⟨a, b, by omega⟩
    · obtain ⟨-, b, c⟩ := syms_mem L (m + 1) 0 s h
      rw [Nat.sub_zero] at c
      exact ⟨by omega, by omega, by omega⟩
theorem cnt_nil (n : Nat) : cnt [] n = 0 := by unfold cnt; split <;> rfl
theorem cnt_cons (x : Nat) (r : List Nat) (n : Nat) : cnt (x :: r) n = cnt r n + (if n ≠ 0 ∧ x = n then 1 else 0) := by
  unfold cnt
  by_cases h : n = 0
  · simp [h]
  · rw [if_neg h, if_neg h]
    simp only [syms]
    by_cases hx : x = n
    · rw [if_pos hx, if_pos ⟨h, hx⟩, List.length_cons, syms_len r n (0 + 1) 0]
    · rw [if_neg hx, if_neg (by simp [hx]), syms_len r n (0 + 1) 0]; rfl
theorem fc_nil : ∀ n, fc [] n = 0
  | 0 => rfl
  | n + 1 => by simp only [fc]; rw [fc_nil n, cnt_nil]
theorem fc_cons (x : Nat) (r : List Nat) : ∀ n, fc (x :: r) n = fc r n + (if 1 ≤ x ∧ x < n then 2 ^ (n - x) else 0)
  | 0 => by simp [fc]
  | n + 1 => by
    simp only [fc]
    rw [fc_cons x r n, cnt_cons]
    by_cases h1 : 1 ≤ x ∧ x < n
    · rw [if_pos h1, if_neg (by omega), if_pos (by omega), show n + 1 - x = (n - x) + 1 by omega, Nat.pow_succ]; omega
    · rw [if_neg h1]
      by_cases h2 : n ≠ 0 ∧ x = n
      · obtain ⟨h3, rfl⟩ := h2
        rw [if_pos ⟨h3, rfl⟩, if_pos (by omega), show x + 1 - x = 1 by omega]; omega
      · rw [if_neg h2, if_neg (by omega)]; omega
theorem kr_fc : ∀ L, fc L 16 = 2 * kr L
  | [] => by rw [fc_nil]; rfl
  | x :: r => by
    rw [fc_cons, kr_fc r]
    simp only [kr]
    by_cases h : 1 ≤ x ∧ x < 16
    · rw [if_pos h, if_pos (by omega), show 16 - x = (15 - x) + 1 by omega, Nat.pow_succ]; omega
    · rw [if_neg h, if_neg (by omega)]; omega
theorem fc_up (L : List Nat) (n : Nat) : ∀ k, 2 ^ (k + 1) * (fc L n + cnt L n) ≤ fc L (n + k + 1)
  | 0 => by simp [fc]
  | k + 1 => by
    have := fc_up L n k
    show _ ≤ 2 * (fc L (n + k + 1) + cnt L (n + k + 1))
    rw [Nat.pow_succ]
    have e : 2 ^ (k + 1) * 2 * (fc L n + cnt L n) = 2 * (2 ^ (k + 1) * (fc L n + cnt L n)) := by rw [Nat.mul_comm (2 ^ (k + 1)) 2, Nat.mul_assoc]
    omega
theorem fc_fit (L : List Nat) (h : kr L ≤ 32768) (n : Nat) (hn : n ≤ 15) : fc L n + cnt L n ≤ 2 ^ n := by
  have h1 := fc_up L n (15 - n)
  rw [show n + (15 - n) + 1 = 16 by omega, kr_fc] at h1
  have h2 : (2 : Nat) ^ (15 - n + 1) * 2 ^ n = 65536 := by rw [← Nat.pow_add, show 15 - n + 1 + n = 16 by omega]
  have h3 : 2 ^ (15 - n + 1) * (fc L n + cnt L n) ≤ 2 ^ (15 - n + 1) * 2 ^ n := by omega
  exact Nat.le_of_mul_le_mul_left h3 (Nat.pow_pos (by decide))
theorem fc_flat (L : List Nat) (n : Nat) : ∀ k, (∀ m, n < m → m ≤ n + k → cnt L m = 0) → fc L (n + k + 1) = 2 ^ (k + 1) * (fc L n + cnt L n)
  | 0, _ => by simp [fc]
  | k + 1, h => by
    have := fc_flat L n k (fun m h1 h2 => h m h1 (by omega))
    show 2 * (fc L (n + k + 1) + cnt L (n + k + 1)) = _
    rw [this, h (n + k + 1) (by omega) (by omega), Nat.pow_succ (n := 2) (m := k + 1), Nat.mul_comm (2 ^ (k + 1)) 2, Nat.mul_assoc]
    omega
/-- the word of a symbol -/
def wrd (L : List Nat) (s : Nat) : Nat := fc L (L.getD s 0) + rnk L s (L.getD s 0)
theorem rnk_lt (L : List Nat) (s n : Nat) (hs : s < L.length) (hn : L.getD s 0 = n) (h0 : n ≠ 0) : rnk L s n < cnt L n := by
  unfold cnt; rw [if_neg h0]; exact (syms_rnk L s n hs hn).2
theorem wrd_lt (L : List Nat) (s : Nat) (hs : s < L.length) (h0 : L.getD s 0 ≠ 0) : fc L (L.getD s 0) ≤ wrd L s ∧ wrd L s < fc L (L.getD s 0) + cnt L (L.getD s 0) := by
  have := rnk_lt L s _ hs rfl h0
  unfold wrd; omega
theorem wrd_fit (L : List Nat) (h : kr L ≤ 32768) (s : Nat) (hs : s < L.length) (h0 : L.getD s 0 ≠ 0) (h15 : L.getD s 0 ≤ 15) : wrd L s < 2 ^ L.getD s 0 := by
  have := (wrd_lt L s hs h0).2
  have := fc_fit L h _ h15
  omega
/-- the first bits of a word are beyond all shorter codes -/
theorem wrd_over (L : List Nat) (s n : Nat) (hs : s < L.length) (h0 : L.getD s 0 ≠ 0) (hn : n < L.getD s 0) : fc L n + cnt L n ≤ wrd L s / 2 ^ (L.getD s 0 - n) := by
  have h1 := (wrd_lt L s hs h0).1
  have h2 := fc_up L n (L.getD s 0 - n - 1)
  rw [show L.getD s 0 - n - 1 + 1 = L.getD s 0 - n by omega, show n + (L.getD s 0 - n - 1) + 1 = L.getD s 0 by omega] at h2
  rw [Nat.le_div_iff_mul_le (Nat.pow_pos (by decide)), Nat.mul_comm]
  omega
/-- no code is another one's beginning -/
theorem wrd_apart (L : List Nat) (s t : Nat) (hs : s < L.length) (ht : t < L.length) (h0 : L.getD s 0 ≠ 0) (h1 : L.getD t 0 ≠ 0) (hle : L.getD s 0 ≤ L.getD t 0) (hne : s ≠ t) : wrd L s ≠ wrd L t / 2 ^ (L.getD t 0 - L.getD s 0) := by
  intro he
  rcases Nat.lt_or_ge (L.getD s 0) (L.getD t 0) with h | h
  · have a := wrd_over L t _ ht h1 h
    have b := (wrd_lt L s hs h0).2
    omega
  · have e : L.getD t 0 = L.getD s 0 := by omega
    rw [e, Nat.sub_self, Nat.pow_zero, Nat.div_one] at he
    unfold wrd at he
    rw [e] at he
    exact hne (rnk_inj L s t _ hs ht rfl e (by omega))
def oddB (x : Int) : Bool := decide (x < 0 ∨ 15 < x)
theorem odd_calls (x : Int) (w : World) : Calls Tryd.prog 81 #[.int .i64 x] w fun e w' => e = .returned (.bool (oddB x)) ∧ w = w' := by
  by_cases h1 : x < 0
  · have hv : oddB x = true := by unfold oddB; simp [h1]
    have HV := Bx.mk hv
    clear hv
    go_enter Tryd.func81, Tryd.ntmps81
    go_wp2
    go_ret
    exact ⟨ret_bool HV.out.symm, rfl⟩
  · have hv : oddB x = decide (15 < x) := by unfold oddB; simp [h1]
    have HV := Bx.mk hv
    clear hv
    go_enter Tryd.func81, Tryd.ntmps81
    go_wp2
    go_ret
    exact ⟨ret_bool HV.out.symm, rfl⟩
set_option maxHeartbeats 1000000 in
theorem IndexFunc_calls (A : Option Addr) (l : List Int) (c : Nat) (w : World) (hl : IR w A l) (hn : l.length ≤ 9223372036854775807) :
    Calls Tryd.prog 103 #[.slice A l.length c, .func (.func 81) #[] #[]] w fun e w' => (∃ i : Int, e = .returned (.int .i64 i) ∧ decide (0 ≤ i) = l.any oddB) ∧ w = w' := by
  have HL := Bx.mk hl
  clear hl
  go_enter Tryd.func103, Tryd.ntmps103
  go_wp2
  go_loop [5, 8] (fun _ i => ∃ k : Nat, k ≤ l.length ∧ i = .int .i64 (k : Nat) ∧ Bx ((l.take k).any oddB = false)) (fun _ i => l.length - (intOf i).toNat)
  case atStart => exact ⟨0, Nat.zero_le _, rfl, ⟨rfl⟩⟩
  case round =>
    obtain ⟨k, hk, rfl, HK⟩ := hrel
    by_cases hlt : k < l.length
    · obtain ⟨ad, rfl, hd⟩ := HL.out (by omega)
      have hg := hd k hlt
      have hs : (l.take (k + 1)).any oddB = oddB (l.getD k 0) := by
        rw [List.take_succ_eq_append_getElem hlt, List.any_append, HK.out, List.getD_eq_getElem?_getD, List.getElem?_eq_getElem hlt]
        simp
      have hm : oddB (l.getD k 0) = true → l.any oddB = true := fun h => by
        rw [← List.take_append_drop (k + 1) l, List.any_append, hs, h]; rfl
      have HS := Bx.mk hs
      have HM := Bx.mk hm
      clear hd hs hm
      generalize l.getD k 0 = x at hg HS HM
      have O := Bx.mk fun w => odd_calls x w
      generalize hb : oddB x = b at O HS HM
      clear hb
      go_wp2_with fail
      refine (O.out _).mono ?_
      rintro e w1 ⟨rfl, rfl⟩
      cases b
      · go_wp2
        go_round
        case rel => exact ⟨k + 1, by omega, by go_num, HS⟩
        case measure => simp [intOf]; omega
      · go_wp2
        go_ret
        exact ⟨⟨(k : Int), rfl, by rw [HM.out trivial]; simp⟩, rfl⟩
    · have hall : l.any oddB = false := by have := HK.out; rwa [List.take_of_length_le (by omega)] at this
      have HA := Bx.mk hall
      clear hall
      go_wp2
      go_ret
      exact ⟨⟨-1, rfl, by rw [HA.out]; rfl⟩, rfl⟩
theorem Contains_calls (A : Option Addr) (l : List Int) (c : Nat) (w : World) (hl : IR w A l) (hn : l.length ≤ 9223372036854775807) :
    Calls Tryd.prog 82 #[.slice A l.length c, .func (.func 81) #[] #[]] w fun e w' => e = .returned (.bool (l.any oddB)) ∧ w = w' := by
  have I := Bx.mk (IndexFunc_calls A l c w hl hn)
  generalize l.any oddB = b at I ⊢
  clear hl
  go_enter Tryd.func82, Tryd.ntmps82
  go_wp2_with fail
  refine I.out.mono ?_
  rintro e w1 ⟨⟨i, rfl, hi⟩, rfl⟩
  have HI := Bx.mk hi
  clear hi
  go_wp2
  go_ret
  exact ⟨ret_bool HI.out, rfl⟩
/-- what is used up of the room, of any ints -/
def krI : List Int → Nat
  | [] => 0
  | x :: r => (if 1 ≤ x ∧ x ≤ 15 then 2 ^ (15 - x.toNat) else 0) + krI r
theorem krI_app (l m : List Int) : krI (l ++ m) = krI l + krI m := by
  induction l with
  | nil => simp [krI]
  | cons x r ih => simp only [List.cons_append, krI, ih]; omega
theorem krI_zl (L : List Nat) : krI (zl L) = kr L := by
  induction L with
  | nil => rfl
  | cons x r ih =>
    simp only [zl, List.map_cons, krI, kr] at ih ⊢
    rw [ih, Int.toNat_natCast]
    by_cases h : 1 ≤ x ∧ x ≤ 15
    · rw [if_pos h, if_pos (by omega)]
    · rw [if_neg h, if_neg (by omega)]
theorem krI_le (l : List Int) : krI l ≤ 16384 * l.length := by
  induction l with
  | nil => simp [krI]
  | cons x r ih =>
    simp only [krI, List.length_cons]
    have : (if 1 ≤ x ∧ x ≤ 15 then 2 ^ (15 - x.toNat) else 0) ≤ 16384 := by
      split
      · exact Nat.le_trans (Nat.pow_le_pow_right (by decide) (show 15 - x.toNat ≤ 14 by omega)) (by decide)
      · omega
    omega
set_option maxHeartbeats 1000000 in
theorem Room_calls (A : Option Addr) (l : List Int) (c : Nat) (w : World) (hl : IR w A l) (hn : l.length * 8 ≤ 140737492549632) :
    Calls Tryd.prog 84 #[.slice A l.length c] w fun e w' => e = .returned (.int .i64 (32768 - (krI l : Int))) ∧ w = w' := by
  have HL := Bx.mk hl
  clear hl
  go_enter Tryd.func84, Tryd.ntmps84
  go_wp2
  go_loop [3, 5, 8] (fun s _ i => ∃ k : Nat, k ≤ l.length ∧ i = .int .i64 (k : Nat) ∧ s = .int .i64 (32768 - (krI (l.take k) : Int))) (fun _ _ i => l.length - (intOf i).toNat)
  case atStart => exact ⟨0, Nat.zero_le _, rfl, by simp [krI]⟩
  case round =>
    obtain ⟨k, hk, rfl, rfl⟩ := hrel
    have hkr := krI_le (l.take k)
    rw [List.length_take, Nat.min_eq_left hk] at hkr
    by_cases hlt : k < l.length
    · obtain ⟨ad, rfl, hd⟩ := HL.out (by omega)
      have hg := hd k hlt
      have hs : krI (l.take (k + 1)) = krI (l.take k) + (if 1 ≤ l.getD k 0 ∧ l.getD k 0 ≤ 15 then 2 ^ (15 - (l.getD k 0).toNat) else 0) := by
        rw [List.take_succ_eq_append_getElem hlt, krI_app, List.getD_eq_getElem?_getD, List.getElem?_eq_getElem hlt]
        simp [krI]
      have HS := Bx.mk hs
      clear hd hs
      generalize l.getD k 0 = x at hg HS
      generalize krI (l.take k) = K at HS hkr ⊢
      by_cases hx : 1 ≤ x ∧ x ≤ 15
      · obtain ⟨hx1, hx2⟩ := hx
        obtain ⟨q, hq⟩ : ∃ q : Nat, 15 - x = (q : Int) := ⟨(15 - x).toNat, by omega⟩
        have hq14 : q ≤ 14 := by omega
        have HS2 : Bx (krI (l.take (k + 1)) = K + 2 ^ q) := ⟨by rw [HS.out, if_pos ⟨hx1, hx2⟩, show 15 - x.toNat = q by omega]⟩
        have h24 := Nat.pow_le_pow_right (n := 2) (by decide) hq14
        have e0 : (2 : Int) ^ q = ((2 ^ q : Nat) : Int) := by rw [Int.natCast_pow]; rfl
        clear HS
        generalize 2 ^ q = M at HS2 h24 e0
        go_wp2
        go_round
        case rel => exact ⟨k + 1, by omega, by go_num, by rw [HS2.out]; first | (congr 1; done) | (congr 1; omega)⟩
        case measure => simp [intOf]; omega
      · have HS2 : Bx (krI (l.take (k + 1)) = K) := ⟨by rw [HS.out, if_neg hx]; rfl⟩
        clear HS
        by_cases h1 : x < 1
        · clear hx
          go_wp2
          go_round
          case rel => exact ⟨k + 1, by omega, by go_num, by rw [HS2.out]⟩
          case measure => simp [intOf]; omega
        · have h2 : 15 < x := by omega
          clear hx
          go_wp2
          go_round
          case rel => exact ⟨k + 1, by omega, by go_num, by rw [HS2.out]⟩
          case measure => simp [intOf]; omega
    · have hall : l.take k = l := List.take_of_length_le (by omega)
      rw [hall]
      rw [hall] at hkr
      clear hall
      generalize hK : krI l = K at hkr ⊢
      have HK := Bx.mk hK
      clear hK
      go_wp2
      go_ret
      exact ⟨ret_int (by rw [HK.out]), rfl⟩
theorem IR.reads {w : World} {A : Option Addr} {l : List Int} (h : IR w A l) : Reads w w.heap.size 1 A l.length (is l) := by
  refine ⟨by rw [is_length, Nat.mul_one], fun hn => ?_⟩
  obtain ⟨ad, rfl, hc⟩ := h hn
  refine ⟨ad, rfl, ?_, fun j u hu => ?_⟩
  · have := World.block_lt_of_cell? w _ (hc 0 hn)
    rwa [block_of_add] at this
  · have hj : j < l.length := by
      have := (List.getElem?_eq_some_iff.1 hu).1
      rwa [is_length] at this
    rw [is_get l j hj] at hu
    rw [hc j hj]; exact hu
theorem CloneI_calls (A : Option Addr) (l : List Int) (c : Nat) (w : World) (hl : IR w A l) (hn : l.length * 8 ≤ 140737492549632) :
    Calls Tryd.prog 83 #[.slice A l.length c] w fun e w' => ∃ v, e = .returned v ∧ OI w' w.heap.size v l ∧ Below w.heap.size w w' := by
  have HL := Bx.mk (hl.below (below_alloc1 w (.cells #[] 3))).reads
  have hx := fun W a n c => Lib.run_eql_slice_nil (P := Tryd.prog) W 65 3 a n c 0 0 Tryd.underlying65
  cases A with
  | none =>
    have h0 : l = [] := by
      rcases l with _ | ⟨x, l⟩
      · rfl
      · obtain ⟨ad, h, _⟩ := hl (by simp)
        cases h
    subst h0
    clear hl HL
    go_enter Tryd.func83, Tryd.ntmps83
    go_wp2
    go_ret
    exact ⟨_, rfl, OI.nil _ _, Below.refl _ _⟩
  | some ad =>
    clear hl
    go_enter Tryd.func83, Tryd.ntmps83
    go_wp2_with (at_builtin; refine wpList_append_ints _ rfl _ _ rfl w.heap.size _ [] l l.length rfl rfl (OI.empty w) (some ad) c rfl HL.out ?hl (by simp) ?_; (case hl => simp; omega); intro v' w' ho hg _)
    go_ret
    exact ⟨_, rfl, ho, (below_alloc1 w _).grown hg (by simp) (fun k hk => OI.block (OI.empty w) k hk)⟩
theorem cIs_nil (w : World) : Calls Tryd.prog 108 #[.pointer none] w fun e w' => e = .returned (.bool false) ∧ w = w' := by
  go_enter Tryd.func108, Tryd.ntmps108
  go_wp2
  go_ret
  exact ⟨rfl, rfl⟩
/-- the cells of a code: how many of each length, the order, the lengths, whether it is made -/
def cdC (f : Nat → Nat) (O Ln : Value) (m : Bool) : Array Value :=
  #[.int .i64 (f 0 : Int), .int .i64 (f 1 : Int), .int .i64 (f 2 : Int), .int .i64 (f 3 : Int), .int .i64 (f 4 : Int), .int .i64 (f 5 : Int), .int .i64 (f 6 : Int), .int .i64 (f 7 : Int),
    .int .i64 (f 8 : Int), .int .i64 (f 9 : Int), .int .i64 (f 10 : Int), .int .i64 (f 11 : Int), .int .i64 (f 12 : Int), .int .i64 (f 13 : Int), .int .i64 (f 14 : Int), .int .i64 (f 15 : Int), O, Ln, .bool m]
theorem cdC_get (f : Nat → Nat) (O Ln : Value) (m : Bool) (n : Nat) (h : n ≤ 15) : (cdC f O Ln m)[n]? = some (.int .i64 (f n : Int)) := by
  obtain rfl | rfl | rfl | rfl | rfl | rfl | rfl | rfl | rfl | rfl | rfl | rfl | rfl | rfl | rfl | rfl : n = 0 ∨ n = 1 ∨ n = 2 ∨ n = 3 ∨ n = 4 ∨ n = 5 ∨ n = 6 ∨ n = 7 ∨ n = 8 ∨ n = 9 ∨ n = 10 ∨ n = 11 ∨ n = 12 ∨ n = 13 ∨ n = 14 ∨ n = 15 := by omega
  all_goals rfl
theorem cdC_set (f : Nat → Nat) (O Ln : Value) (m : Bool) (n x : Nat) (h : n ≤ 15) : (cdC f O Ln m).setIfInBounds n (.int .i64 (x : Int)) = cdC (fun i => if i = n then x else f i) O Ln m := by
  obtain rfl | rfl | rfl | rfl | rfl | rfl | rfl | rfl | rfl | rfl | rfl | rfl | rfl | rfl | rfl | rfl : n = 0 ∨ n = 1 ∨ n = 2 ∨ n = 3 ∨ n = 4 ∨ n = 5 ∨ n = 6 ∨ n = 7 ∨ n = 8 ∨ n = 9 ∨ n = 10 ∨ n = 11 ∨ n = 12 ∨ n = 13 ∨ n = 14 ∨ n = 15 := by omega
  all_goals rfl
theorem cdC_order (f : Nat → Nat) (O Ln O' : Value) (m : Bool) : (cdC f O Ln m).setIfInBounds 16 O' = cdC f O' Ln m := rfl
theorem cIs_calls (g : Nat) (f : Nat → Nat) (O Ln : Value) (m : Bool) (w : World) (h : Blk w g 107 (cdC f O Ln m)) :
    Calls Tryd.prog 108 #[.pointer (some ⟨g, 0, none⟩)] w fun e w' => e = .returned (.bool m) ∧ w = w' := by
  have h2 : w.cell? ⟨g, 18, none⟩ = some (.bool m) := h.cell 18
  clear h
  go_enter Tryd.func108, Tryd.ntmps108
  go_wp2
  go_ret
  exact ⟨rfl, rfl⟩
/-- a code in the making: g its block; how many so far, in which order -/
structure CdS (w : World) (g b1 : Nat) (A1 : Option Addr) (c1 : Nat) (L : List Nat) (f : Nat → Nat) (ord : List Nat) (wr : World) : Prop where
  ex : ∃ O, Blk wr g 107 (cdC f O (.slice A1 L.length c1) true) ∧ OI wr (g + 1) O (zl ord)
  ln : OI wr b1 (.slice A1 L.length c1) (zl L)
  lt : b1 ≤ g ∧ w.heap.size ≤ b1 ∧ ∀ q, (Value.slice A1 L.length c1).ownBlock = some q → q < g
  be : Below w.heap.size w wr
/-- one symbol more: the store, and what the append finds -/
theorem CdS.more {w : World} {g b1 : Nat} {A1 : Option Addr} {c1 : Nat} {L : List Nat} {f : Nat → Nat} {ord : List Nat} {wr : World} (h : CdS w g b1 A1 c1 L f ord wr) (n : Nat) (hn : n ≤ 15) (X : Nat) (O : Value)
    (hb : Blk wr g 107 (cdC f O (.slice A1 L.length c1) true)) (ho : OI wr (g + 1) O (zl ord)) :
    (wr.drew.setCell ⟨g, n, none⟩ (.int .i64 ((X : Int) + 1))).cell? ⟨g, 16, none⟩ = some O ∧ OI (wr.drew.setCell ⟨g, n, none⟩ (.int .i64 ((X : Int) + 1))) (g + 1) O (zl ord) ∧ g + 1 ≤ (wr.drew.setCell ⟨g, n, none⟩ (.int .i64 ((X : Int) + 1))).heap.size ∧
    ∀ (j : Nat) (v5 : Value) (w5 : World), OI w5 (g + 1) v5 (zl ord ++ [(j : Int)]) → ((wr.drew.setCell ⟨g, n, none⟩ (.int .i64 ((X : Int) + 1))).alloc (.cells #[.int .i64 (j : Int)] 3)).grownBy w5 O.ownBlock →
      w5.cell? ⟨g, 16, none⟩ = some O ∧ w5.frozen? ⟨g, 16, none⟩ = false ∧ CdS w g b1 A1 c1 L (fun i => if i = n then X + 1 else f i) (ord ++ [j]) (w5.setCell ⟨g, 16, none⟩ v5) := by
  have hb1 : Blk wr.drew g 107 (cdC f O (.slice A1 L.length c1) true) := hb
  have hb4 := hb1.set_ n (.int .i64 ((X + 1 : Nat) : Int))
  rw [cdC_set _ _ _ _ _ _ hn, show ((X + 1 : Nat) : Int) = (X : Int) + 1 by omega] at hb4
  have ho4 : OI (wr.drew.setCell ⟨g, n, none⟩ (.int .i64 ((X : Int) + 1))) (g + 1) O (zl ord) := ownsRow_setCell_other (w := wr.drew) ho (a := ⟨g, n, none⟩) (fun hc => by have := OI.block ho g hc; omega) _
  have ln4 : OI (wr.drew.setCell ⟨g, n, none⟩ (.int .i64 ((X : Int) + 1))) b1 (.slice A1 L.length c1) (zl L) := ownsRow_setCell_other (w := wr.drew) h.ln (a := ⟨g, n, none⟩) (own_blk_ne h.ln hb (by decide)) _
  have be4 : Below w.heap.size w (wr.drew.setCell ⟨g, n, none⟩ (.int .i64 ((X : Int) + 1))) := (below_drewN h.be 1).setCell (p := ⟨g, n, none⟩) (Nat.le_trans h.lt.2.1 h.lt.1) _
  generalize wr.drew.setCell ⟨g, n, none⟩ (.int .i64 ((X : Int) + 1)) = W at hb4 ho4 ln4 be4 ⊢
  refine ⟨hb4.cell 16, ho4, hb4.lt, fun j v5 w5 h5 hg => ?_⟩
  have hOg : some g ≠ O.ownBlock := fun hc => by have := OI.block ho4 g hc.symm; omega
  have hb5 := (hb4.alloc (.cells #[.int .i64 (j : Int)] 3)).grown hg hOg
  have ln5 : OI w5 b1 (.slice A1 L.length c1) (zl L) := own_keep ln4 fun q hq => (hg.block q (Nat.lt_of_lt_of_le (own_block' ln4 q hq).2 (by simp)) (fun hc => by have := OI.block ho4 q hc.symm; have := h.lt.2.2 q hq; omega)).trans (Below.heap_alloc W _ q (own_block' ln4 q hq).2)
  have be5 : Below w.heap.size w w5 := (be4.alloc be4.size _).grown hg (Nat.le_trans be4.size (by simp)) (fun k hk => by have := OI.block ho4 k hk; have := h.lt.1; have := h.lt.2.1; omega)
  have hb6 := hb5.set_ 16 v5
  rw [cdC_order] at hb6
  have hv5 : v5.ownBlock ≠ some g := fun hc => by have := OI.block h5 g hc; omega
  refine ⟨hb5.cell 16, hb5.frozen 16, ⟨v5, hb6, ?_⟩, ownsRow_setCell_other ln5 (a := ⟨g, 16, none⟩) (own_blk_ne ln5 hb5 (by decide)) _, h.lt, be5.setCell (p := ⟨g, 16, none⟩) (Nat.le_trans h.lt.2.1 h.lt.1) _⟩
  rw [zl_app]
  exact ownsRow_setCell_other h5 (a := ⟨g, 16, none⟩) hv5 _
def upF (L : List Nat) (n j : Nat) : Nat → Nat := fun i => if i < n then cnt L i else if i = n then (syms (L.take j) n 0).length else 0
theorem upF_next (L : List Nat) (n : Nat) (hn : 1 ≤ n) : upF L n L.length = upF L (n + 1) 0 := by
  funext i
  unfold upF
  rw [List.take_length]
  by_cases h1 : i < n
  · rw [if_pos h1, if_pos (by omega)]
  · by_cases h2 : i = n
    · subst h2
      rw [if_neg h1, if_pos rfl, if_pos (by omega)]
      unfold cnt; rw [if_neg (by omega)]
    · rw [if_neg h1, if_neg h2, if_neg (by omega)]
      by_cases h3 : i = n + 1
      · rw [if_pos h3]; rfl
      · rw [if_neg h3]
theorem upF_hit (L : List Nat) (n j : Nat) (hj : j < L.length) (h : L.getD j 0 = n) : (fun i => if i = n then upF L n j n + 1 else upF L n j i) = upF L n (j + 1) := by
  funext i
  unfold upF
  rw [syms_take L n j hj, if_pos h]
  by_cases h2 : i = n
  · subst h2
    rw [if_pos rfl, if_neg (by omega), if_pos rfl, if_neg (by omega), if_pos rfl, List.length_append]; rfl
  · rw [if_neg h2]
    by_cases h1 : i < n
    · rw [if_pos h1, if_pos h1]
    · rw [if_neg h1, if_neg h2, if_neg h1, if_neg h2]
theorem upF_miss (L : List Nat) (n j : Nat) (hj : j < L.length) (h : L.getD j 0 ≠ n) : upF L n j = upF L n (j + 1) ∧ syms (L.take (j + 1)) n 0 = syms (L.take j) n 0 := by
  have e : syms (L.take (j + 1)) n 0 = syms (L.take j) n 0 := by rw [syms_take L n j hj, if_neg h, List.append_nil]
  exact ⟨by funext i; unfold upF; rw [e], e⟩
theorem syms_le (L : List Nat) (n : Nat) : ∀ i, (syms L n i).length ≤ L.length := by
  induction L with
  | nil => intro i; exact Nat.le_refl _
  | cons x r ih =>
    intro i
    have := ih (i + 1)
    simp only [syms]
    split <;> simp <;> omega
theorem syms_small (L : List Nat) (n j : Nat) (h : L.length ≤ 288) : (syms (L.take j) n 0).length ≤ 288 := by
  have := syms_le (L.take j) n 0
  rw [List.length_take] at this
  omega
theorem ord_small (L : List Nat) (h : L.length ≤ 288) : ∀ n, (ordN L n).length ≤ 288 * n
  | 0 => by simp [ordN]
  | n + 1 => by
    have := ord_small L h n
    have := syms_le L (n + 1) 0
    simp only [ordN, List.length_append]
    omega
/-- a code that New made: its block, its order, its lengths -/
structure Cd (w : World) (g : Nat) (O Ln : Value) (L : List Nat) : Prop where
  blk : Blk w g 107 (cdC (cnt L) O Ln true)
  ord : OI w (g + 1) O (zl (ordN L 15))
  len : ∃ b, OI w b Ln (zl L)
/-- no code, or one of length one -/
def oneC (L : List Nat) : Prop := (ordN L 15).length = 0 ∨ ((ordN L 15).length = 1 ∧ cnt L 1 = 1)
instance (L : List Nat) : Decidable (oneC L) := by unfold oneC; exact inferInstance
def goodC (L : List Nat) : Prop := kr L ≤ 32768 ∧ (kr L = 32768 ∨ oneC L)
/-- what New answers to lengths from 0 to 15, at most 288 of them -/
def NewPost (L : List Nat) (w : World) (e : Ending) (w' : World) : Prop :=
  (goodC L → ∃ g O Ln, e = .returned (.tuple #[.pointer (some ⟨g, 0, none⟩), .int .i64 0]) ∧ w.heap.size ≤ g ∧ (∀ q, Ln.ownBlock = some q → w.heap.size ≤ q) ∧ Cd w' g O Ln L ∧ Below w.heap.size w w') ∧
  (¬ goodC L → e = .returned (.tuple #[.pointer none, .int .i64 100]) ∧ Below w.heap.size w w')
set_option maxRecDepth 1000000 in
set_option maxHeartbeats 8000000 in
theorem CNew_calls (A : Option Addr) (l : List Nat) (c : Nat) (w : World) (hl : IR w A (zl l)) (hn : l.length ≤ 288) (h15 : ∀ x ∈ l, x ≤ 15) :
    Calls Tryd.prog 52 #[.slice A l.length c] w (NewPost l w) := by
  have hod : (zl l).any oddB = false := by
    rw [List.any_eq_false]
    intro x hx
    obtain ⟨y, hy, rfl⟩ := List.mem_map.1 hx
    have := h15 y hy
    unfold oddB; simp; omega
  have CT := Contains_calls A (zl l) c w hl (by rw [zl_length]; omega)
  have CL := CloneI_calls A (zl l) c w hl (by rw [zl_length]; omega)
  rw [zl_length, hod] at CT
  rw [zl_length] at CL
  have C1 := Bx.mk CT; have C2 := Bx.mk CL
  have HL := Bx.mk hl
  have H15 := Bx.mk h15
  clear CT CL hod hl h15
  go_enter Tryd.func52, Tryd.ntmps52
  go_wp2_with fail
  refine C1.out.mono ?_
  rintro e w1 ⟨rfl, rfl⟩
  go_wp2_with fail
  refine C2.out.mono ?_
  rintro e w1 ⟨v1, rfl, ho1, hb1⟩
  obtain ⟨A1, c1, rfl⟩ := ho1.form
  rw [zl_length] at ho1 ⊢
  have hS : CdS w w1.heap.size w.heap.size A1 c1 l (upF l 1 0) [] (w1.alloc (.cells (cdC (upF l 1 0) (.slice none 0 0) (.slice A1 l.length c1) true) 107)) := by
    refine ⟨⟨_, Blk.new _ _ _, OI.nil _ _⟩, ho1.below (below_alloc1 _ _), ⟨hb1.size, Nat.le_refl _, fun q hq => (own_block' ho1 q hq).2⟩, hb1.alloc hb1.size _⟩
  have hf : cdC (upF l 1 0) (.slice none 0 0) (.slice A1 l.length c1) true = #[.int .i64 0, .int .i64 0, .int .i64 0, .int .i64 0, .int .i64 0, .int .i64 0, .int .i64 0, .int .i64 0, .int .i64 0, .int .i64 0, .int .i64 0, .int .i64 0, .int .i64 0, .int .i64 0, .int .i64 0, .int .i64 0, .slice none 0 0, .slice A1 l.length c1, .bool true] := by
    rfl
  rw [hf] at hS
  have S1 := Bx.mk hS
  have Z1 := hb1.size
  clear ho1 hb1 hS hf
  go_wp2
  generalize w1.alloc (.cells #[.int .i64 0, .int .i64 0, .int .i64 0, .int .i64 0, .int .i64 0, .int .i64 0, .int .i64 0, .int .i64 0, .int .i64 0, .int .i64 0, .int .i64 0, .int .i64 0, .int .i64 0, .int .i64 0, .int .i64 0, .int .i64 0, .slice none 0 0, .slice A1 l.length c1, .bool true] 107) = w2 at S1 ⊢
  generalize w1.heap.size = g at S1 Z1 ⊢
  go_loopw [6] (fun i wr => ∃ n : Nat, 1 ≤ n ∧ n ≤ 16 ∧ i = .int .i64 (n : Nat) ∧ Bx (CdS w g w.heap.size A1 c1 l (upF l n 0) (ordN l (n - 1)) wr)) (fun i _ => 16 - (intOf i).toNat)
  case atStart => exact ⟨1, by omega, by omega, rfl, S1⟩
  case round =>
    obtain ⟨n, hn1, hn2, rfl, HS⟩ := hrel
    by_cases hlt : n ≤ 15
    · have hd15 : decide ((n : Int) ≤ 15) = true := by simp; omega
      go_wp2
      have HS0 : Bx (CdS w g w.heap.size A1 c1 l (upF l n 0) (ordN l (n - 1) ++ syms (l.take 0) n 0) wr) := ⟨by rw [List.take_zero, show syms [] n 0 = [] from rfl, List.append_nil]; exact HS.out⟩
      clear HS S1
      go_loopw [29] (fun i wr => ∃ j : Nat, j ≤ l.length ∧ i = .int .i64 (j : Nat) ∧ Bx (CdS w g w.heap.size A1 c1 l (upF l n j) (ordN l (n - 1) ++ syms (l.take j) n 0) wr)) (fun i _ => l.length - (intOf i).toNat)
      case atStart => exact ⟨0, Nat.zero_le _, rfl, HS0⟩
      case round =>
        obtain ⟨j, hj, rfl, HS⟩ := hrel
        by_cases hjl : j < l.length
        · obtain ⟨ad, rfl, hd⟩ := (HL.out.below HS.out.be) (by rw [zl_length]; omega)
          have hg := hd j (by rw [zl_length]; exact hjl)
          rw [zl_get] at hg
          have hx15 : l.getD j 0 ≤ 15 := by rw [List.getD_eq_getElem?_getD, List.getElem?_eq_getElem hjl]; exact H15.out _ (List.getElem_mem hjl)
          by_cases hx : l.getD j 0 = n
          · have HF := Bx.mk (upF_hit l n j hjl hx)
            have HO := Bx.mk (syms_take l n j hjl)
            rw [if_pos hx] at HO
            rw [hx] at hg
            clear hd hx15 hx
            obtain ⟨O, hb, ho⟩ := HS.out.ex
            have hck : wr.cell? ⟨g, n, none⟩ = some (.int .i64 (upF l n j n : Int)) := (hb.cell n).trans (cdC_get _ _ _ _ n hlt)
            have hfk := hb.frozen n
            have hsl : (syms (l.take j) n 0).length ≤ 288 := syms_small l n j hn
            have hsl2 : (ordN l (n - 1) ++ syms (l.take j) n 0).length ≤ 288 * 17 := by rw [List.length_append]; have := ord_small l hn (n - 1); omega
            have hub : upF l n j n ≤ 288 := by unfold upF; rw [if_neg (by omega), if_pos rfl]; exact hsl
            have HBK := Bx.mk hb
            have HOI := Bx.mk ho
            generalize upF l n j n = X at hck hub HF
            have hn16 : (n : Int) < 16 := by omega
            have hn16' : n < 16 := by omega
            have hw1 : IntKind.i64.wrap ((X : Int) + 1) = (X : Int) + 1 := by rw [IntKind.wrap_i64]; omega
            clear hb ho
            go_wp2
            go_still_tail 10, (by kernel_rfl)
            change wpList _ _ _ _ _ wr.drew
            obtain ⟨q1, q2, q3, q4⟩ := HS.out.more n hlt X O HBK.out HOI.out
            have q5 : wr.drew.cell? ⟨g, n, none⟩ = some (.int .i64 (X : Int)) := hck
            have q6 : wr.drew.frozen? ⟨g, n, none⟩ = false := hfk
            have Q2 := Bx.mk q2; have Q4 := Bx.mk q4
            have hol : ((zl (ordN l (n - 1) ++ syms (l.take j) n 0)).length + 1) * 8 ≤ 140737492549632 := by rw [zl_length]; omega
            clear q2 q4 hck hfk
            generalize wr.drew = wd at q1 Q2 q3 Q4 q5 q6 ⊢
            go_upto_region 13 with fail
            generalize wd.setCell ⟨g, n, none⟩ (.int .i64 ((X : Int) + 1)) = W4 at q1 Q2 q3 Q4 ⊢
            go_wp2_with (at_builtin; refine wpList_append_int W4 rfl (.tmp 51) (.tmp 53) rfl (g + 1) O _ (j : Int) rfl Q2.out rfl hol q3 ?_; intro v5 w5 ho5 hg5 _; obtain ⟨A5, c5, hv5⟩ := ho5.form; have hl5 := hv5; rw [List.length_append, zl_length, List.length_append, List.length_singleton] at hl5; subst hl5; obtain ⟨r1, r2, r3⟩ := Q4.out j _ w5 ho5 hg5; have R3 := Bx.mk r3; clear ho5 hg5 r3 hv5)
            go_roundw
            case rel => exact ⟨j + 1, by omega, by go_num, ⟨by rw [← HF.out, HO.out, ← List.append_assoc]; exact R3.out⟩⟩
            case measure => simp [intOf]; omega
          · obtain ⟨hm1, hm2⟩ := upF_miss l n j hjl hx
            have HS2 : Bx (CdS w g w.heap.size A1 c1 l (upF l n (j + 1)) (ordN l (n - 1) ++ syms (l.take (j + 1)) n 0) wr) := ⟨by rw [← hm1, hm2]; exact HS.out⟩
            have hne : (((l.getD j 0 : Nat) : Int) == (n : Int)) = false := beq_false_of_ne (by omega)
            clear hd hm1 hm2 hx
            generalize l.getD j 0 = X at hg hx15 hne
            go_wp2
            go_roundw
            case rel => exact ⟨j + 1, by omega, by go_num, HS2⟩
            case measure => simp [intOf]; omega
        · obtain rfl : j = l.length := by omega
          have HS2 : Bx (CdS w g w.heap.size A1 c1 l (upF l (n + 1) 0) (ordN l (n + 1 - 1)) wr) := ⟨by
            rw [← upF_next l n hn1, Nat.add_sub_cancel, show ordN l n = ordN l (n - 1) ++ syms l n 0 by
              obtain ⟨m, rfl⟩ : ∃ m, n = m + 1 := ⟨n - 1, by omega⟩
              rfl]
            have := HS.out
            rwa [List.take_length] at this⟩
          go_wp2
          go_roundw
          case rel => exact ⟨n + 1, by omega, by omega, by go_num, HS2⟩
          case measure => simp [intOf]; omega
    · obtain rfl : n = 16 := by omega
      obtain ⟨O, hb, ho⟩ := HS.out.ex
      rw [show upF l 16 0 = upF l 16 0 from rfl, show (16 - 1 : Nat) = 15 from rfl] at *
      obtain ⟨A5, c5, rfl⟩ := ho.form
      rw [zl_length] at hb ho
      have e16 : wr.cell? ⟨g, 16, none⟩ = some (.slice A5 (ordN l 15).length c5) := hb.cell 16
      have e1 : wr.cell? ⟨g, 1, none⟩ = some (.int .i64 (cnt l 1 : Int)) := hb.cell 1
      have CD : Bx (Cd wr g (.slice A5 (ordN l 15).length c5) (.slice A1 l.length c1) l) := ⟨hb, ho, _, HS.out.ln⟩
      have BE := Bx.mk HS.out.be
      have LNB : Bx (∀ q, (Value.slice A1 l.length c1).ownBlock = some q → w.heap.size ≤ q) := ⟨fun q hq => (own_block' HS.out.ln q hq).1⟩
      have RM := fun q => Calls.quiet_of_same ((Room_calls A (zl l) c (wr.drewN q) (HL.out.below (below_drewN HS.out.be q)) (by rw [zl_length]; omega)).mono fun e w' h => ⟨h.1, h.2.symm⟩)
      rw [zl_length, krI_zl] at RM
      have hkr : kr l ≤ 16384 * 288 := by have := krI_le (zl l); rw [krI_zl, zl_length] at this; omega
      obtain ⟨one, hone⟩ : ∃ b : Bool, b = decide (oneC l) := ⟨_, rfl⟩
      obtain ⟨m, hm⟩ : ∃ m, m = (ordN l 15).length := ⟨_, rfl⟩
      obtain ⟨X, hX⟩ : ∃ X, X = cnt l 1 := ⟨_, rfl⟩
      obtain ⟨K, hK⟩ : ∃ K, K = kr l := ⟨_, rfl⟩
      have HONE : Bx (one = decide (m = 0 ∨ (m = 1 ∧ X = 1))) := ⟨by rw [hone, hm, hX]; rfl⟩
      rw [← hm] at e16
      have HM := Bx.mk hm
      rw [← hX] at e1
      rw [← hK] at RM hkr
      have RMX := Bx.mk RM
      have HK := Bx.mk hK
      have HO := Bx.mk hone
      clear hb ho HS RM hone S1 hm hX hK
      go_upto_region 15 with fail
      go_cut [9, 10] (fun s9 s10 wx => s9 = .int .i64 (32768 - (K : Int)) ∧ s10 = .bool one ∧ ∃ q, wx = wr.drewN q)
      case first =>
        by_cases h0 : m = 0
        · subst h0
          have hv : one = true := by rw [HONE.out]; simp
          subst hv
          clear HONE
          go_quiet ((go_at_call 84; with_reducible exact RMX.out _))
          go_wp2
          go_meet
          exact ⟨rfl, rfl, _, rfl⟩
        · by_cases h1 : m = 1
          · subst h1
            by_cases hX : X = 1
            · subst hX
              have hv : one = true := by rw [HONE.out]; simp
              subst hv
              clear HONE
              go_quiet ((go_at_call 84; with_reducible exact RMX.out _))
              go_wp2
              go_meet
              exact ⟨rfl, rfl, _, rfl⟩
            · have hv : one = false := by rw [HONE.out]; simp [hX]
              subst hv
              have hne : ((X : Int) == 1) = false := beq_false_of_ne (by omega)
              clear HONE hX
              go_quiet ((go_at_call 84; with_reducible exact RMX.out _))
              go_wp2
              go_meet
              exact ⟨rfl, rfl, _, rfl⟩
          · have hv : one = false := by rw [HONE.out]; simp [h0, h1]
            subst hv
            have hne : ((m : Int) == 0) = false := beq_false_of_ne (by omega)
            have hne1 : ((m : Int) == 1) = false := beq_false_of_ne (by omega)
            clear HONE h0 h1
            go_quiet ((go_at_call 84; with_reducible exact RMX.out _))
            go_wp2
            go_meet
            exact ⟨rfl, rfl, _, rfl⟩
      case rest =>
        obtain ⟨rfl, rfl, q, rfl⟩ := hcut
        have CDq : Bx (Cd (wr.drewN q) g (.slice A5 m c5) (.slice A1 l.length c1) l) := ⟨by have := CD.out; rw [← HM.out] at this; exact ⟨this.blk, this.ord, this.len⟩⟩
        have BEq := Bx.mk (below_drewN BE.out q)
        clear CD BE RMX e16 e1
        by_cases h1 : 32768 < K
        · have hno : ¬ goodC l := fun h => by have := h.1; have := HK.out; omega
          have HNO := Bx.mk hno
          clear hno
          go_wp2
          go_ret2
          exact ⟨fun h => absurd h HNO.out, fun _ => ⟨rfl, BEq.out⟩⟩
        · cases one
          · have hn1 : ¬ oneC l := fun h => by have := HO.out; rw [decide_eq_true h] at this; cases this
            by_cases h2 : K < 32768
            · have hno : ¬ goodC l := fun h => by have := HK.out; exact h.2.elim (fun h3 => by omega) hn1
              have HNO := Bx.mk hno
              clear hno hn1
              go_wp2
              go_ret2
              exact ⟨fun h => absurd h HNO.out, fun _ => ⟨rfl, BEq.out⟩⟩
            · have hyes : goodC l := ⟨by have := HK.out; omega, .inl (by have := HK.out; omega)⟩
              have HY := Bx.mk hyes
              have hK2 : K = 32768 := by omega
              subst hK2
              clear hyes hn1 h1 h2
              go_wp2
              go_ret2
              exact ⟨fun _ => ⟨g, _, _, rfl, Z1, LNB.out, CDq.out, BEq.out⟩, fun h => absurd HY.out h⟩
          · have hyes : goodC l := ⟨by have := HK.out; omega, .inr (of_decide_eq_true HO.out.symm)⟩
            have HY := Bx.mk hyes
            clear hyes
            go_wp2
            all_goals go_ret2
            all_goals exact ⟨fun _ => ⟨g, _, _, rfl, Z1, LNB.out, CDq.out, BEq.out⟩, fun h => absurd HY.out h⟩
theorem CNew_bad (A : Option Addr) (l : List Int) (c : Nat) (w : World) (hl : IR w A l) (hn : l.length * 8 ≤ 140737492549632) (hb : 288 < l.length ∨ l.any oddB = true) :
    Calls Tryd.prog 52 #[.slice A l.length c] w fun e w' => e = .returned (.tuple #[.pointer none, .int .i64 100]) ∧ w = w' := by
  have CT := Bx.mk (Contains_calls A l c w hl (by omega))
  by_cases h : 288 < l.length
  · clear hb hl
    go_enter Tryd.func52, Tryd.ntmps52
    go_wp2
    go_ret2
    exact ⟨rfl, rfl⟩
  · have hc : l.any oddB = true := hb.resolve_left h
    rw [hc] at CT
    clear hb hl hc
    go_enter Tryd.func52, Tryd.ntmps52
    go_wp2_with fail
    refine CT.out.mono ?_
    rintro e w1 ⟨rfl, rfl⟩
    go_wp2
    go_ret2
    exact ⟨rfl, rfl⟩
/-- the longest code's length; one, if there is none -/
def mst (f : Nat → Nat) : Nat → Nat
  | 0 => 1
  | n + 1 => if 1 < n + 1 ∧ 0 < f (n + 1) then n + 1 else mst f n
def mostC (L : List Nat) : Nat := mst (cnt L) 15
theorem mst_le (f : Nat → Nat) : ∀ n, 1 ≤ n → mst f n ≤ n
  | 0, h => by omega
  | 1, _ => by simp [mst]
  | n + 2, _ => by
    have := mst_le f (n + 1) (by omega)
    rw [mst]
    split <;> omega
theorem mst_pos (f : Nat → Nat) : ∀ n, 1 ≤ mst f n
  | 0 => by simp [mst]
  | n + 1 => by
    rw [mst]
    split
    · omega
    · exact mst_pos f n
/-- no code is longer -/
theorem mst_top (f : Nat → Nat) : ∀ n m, mst f n < m → m ≤ n → f m = 0
  | 0, m, h1, h2 => by omega
  | n + 1, m, h1, h2 => by
    rw [mst] at h1
    split at h1
    · omega
    · next hx =>
      rcases Nat.lt_or_ge n m with h | h
      · obtain rfl : m = n + 1 := by omega
        have := mst_pos f n
        rcases Nat.eq_zero_or_pos (f (n + 1)) with h3 | h3
        · exact h3
        · exact absurd ⟨by omega, h3⟩ hx
      · exact mst_top f n m h1 h
theorem most_calls (g : Nat) (f : Nat → Nat) (O Ln : Value) (m : Bool) (w : World) (h : Blk w g 107 (cdC f O Ln m)) :
    Calls Tryd.prog 110 #[.pointer (some ⟨g, 0, none⟩)] w fun e w' => e = .returned (.int .i64 ((mst f 15 : Nat) : Int)) ∧ w = w' := by
  have HC : Bx (∀ n, n ≤ 15 → w.cell? ⟨g, n, none⟩ = some (.int .i64 (f n : Int))) := ⟨fun n hn => (h.cell n).trans (cdC_get f O Ln m n hn)⟩
  obtain ⟨M, hM⟩ : ∃ M, M = mst f 15 := ⟨_, rfl⟩
  rw [← hM]
  have HM := Bx.mk hM
  clear h hM
  go_enter Tryd.func110, Tryd.ntmps110
  go_wp2
  go_loop [3] (fun i => ∃ n : Nat, 1 ≤ n ∧ n ≤ 15 ∧ i = .int .i64 (n : Nat) ∧ Bx (M = mst f n)) (fun i => (intOf i).toNat)
  case atStart => exact ⟨15, by omega, by omega, rfl, HM⟩
  case round =>
    obtain ⟨n, hn1, hn2, rfl, HN⟩ := hrel
    by_cases h1 : 1 < n
    · have hc := HC.out n hn2
      obtain ⟨k, rfl⟩ : ∃ k, n = k + 1 := ⟨n - 1, by omega⟩
      have hst : mst f (k + 1) = if 1 < k + 1 ∧ 0 < f (k + 1) then k + 1 else mst f k := rfl
      by_cases h0 : 0 < f (k + 1)
      · have HV : Bx (M = k + 1) := ⟨by rw [HN.out, hst, if_pos ⟨h1, h0⟩]⟩
        clear hst
        have hk16 : ((k : Int) + 1) < 16 := by omega
        generalize f (k + 1) = X at hc h0
        generalize hz : k + 1 = z at *
        have HZ := Bx.mk hz
        clear hz hk16
        have hz16 : (z : Int) < 16 := by omega
        go_wp2
        go_ret
        exact ⟨ret_int (by rw [HV.out]), rfl⟩
      · have HV : Bx (M = mst f k) := ⟨by rw [HN.out, hst, if_neg (by omega)]⟩
        have h00 : f (k + 1) = 0 := by omega
        rw [h00] at hc
        clear hst h0 h00
        generalize hz : k + 1 = z at *
        have HZ := Bx.mk hz
        clear hz
        have hz16 : (z : Int) < 16 := by omega
        go_wp2
        go_round
        case rel => exact ⟨k, by have := HZ.out; omega, by have := HZ.out; omega, by have := HZ.out; congr 1; omega, HV⟩
        case measure => have := HZ.out; simp [intOf]; omega
    · obtain rfl : n = 1 := by omega
      have HV : Bx (M = 1) := ⟨by rw [HN.out]; simp [mst]⟩
      clear h1
      go_wp2
      go_ret
      exact ⟨ret_int (by rw [HV.out]; rfl), rfl⟩
/-- reads a symbol: (symbol, error, where it stands); k: how many lengths are left, n: the next one, got: what was read -/
def rdS (L l : List Nat) : Nat → Nat → Nat → Nat → Nat × Nat × Nat
  | 0, _, _, a => (0, 110, a)
  | k + 1, n, got, a =>
    if a + 1 ≤ 8 * l.length then
      if 2 * got + pkN l a 1 < fc L n + cnt L n then ((ordN L 15).getD (frm L n + (2 * got + pkN l a 1 - fc L n)) 0, 0, a + 1)
      else rdS L l k (n + 1) (2 * got + pkN l a 1) (a + 1)
    else (0, 7, a)
def rdC (L l : List Nat) (a : Nat) : Nat × Nat × Nat := rdS L l (mostC L) 1 0 a
theorem rdS_at (L l : List Nat) : ∀ k n got a, a ≤ 8 * l.length → a ≤ (rdS L l k n got a).2.2 ∧ (rdS L l k n got a).2.2 ≤ 8 * l.length ∧ (rdS L l k n got a).2.2 ≤ a + k
  | 0, n, got, a, h => ⟨Nat.le_refl _, h, Nat.le_refl _⟩
  | k + 1, n, got, a, h => by
    simp only [rdS]
    split
    · next h1 =>
      split
      · exact ⟨by simp only; omega, by simp only; omega, by simp only; omega⟩
      · have := rdS_at L l k (n + 1) (2 * got + pkN l a 1) (a + 1) h1
        omega
    · exact ⟨Nat.le_refl _, h, by simp only; omega⟩
/-- a symbol's word is read -/
theorem rdS_word (L l : List Nat) (s : Nat) (hs : s < L.length) (h0 : L.getD s 0 ≠ 0) (h15 : L.getD s 0 ≤ 15) (a : Nat) (ha : a + L.getD s 0 ≤ 8 * l.length)
    (hb : ∀ i, i < L.getD s 0 → pkN l (a + i) 1 = wrd L s / 2 ^ (L.getD s 0 - (i + 1)) % 2) :
    ∀ k i, i < L.getD s 0 → L.getD s 0 ≤ i + k → rdS L l k (i + 1) (wrd L s / 2 ^ (L.getD s 0 - i)) (a + i) = (s, 0, a + L.getD s 0)
  | 0, i, hi, hk => by omega
  | k + 1, i, hi, hk => by
    simp only [rdS]
    rw [if_pos (by omega), hb i hi, half_step (wrd L s) (L.getD s 0) i hi]
    by_cases hl : i + 1 = L.getD s 0
    · have h1 := wrd_lt L s hs h0
      rw [hl, Nat.sub_self, Nat.pow_zero, Nat.div_one, if_pos h1.2]
      have h2 := syms_rnk L s _ hs rfl
      have h3 := ord_get L (L.getD s 0) (by omega) 15 h15 (rnk L s (L.getD s 0)) h2.2
      have e : wrd L s - fc L (L.getD s 0) = rnk L s (L.getD s 0) := by unfold wrd; omega
      rw [e, List.getD_eq_getElem?_getD, h3, h2.1, ← hl]
      rfl
    · have h2 := wrd_over L s (i + 1) hs h0 (by omega)
      rw [if_neg (by omega)]
      exact rdS_word L l s hs h0 h15 a ha hb k (i + 1) (by omega) (by omega)
theorem mostC_ge (L : List Nat) (n : Nat) (h : n ≤ 15) (h0 : 0 < cnt L n) : n ≤ mostC L := by
  rcases Nat.lt_or_ge (mostC L) n with h1 | h1
  · have := mst_top (cnt L) 15 n h1 h
    omega
  · exact h1
theorem rdC_word (L l : List Nat) (s : Nat) (hk : kr L ≤ 32768) (hs : s < L.length) (h0 : L.getD s 0 ≠ 0) (h15 : L.getD s 0 ≤ 15) (a : Nat) (ha : a + L.getD s 0 ≤ 8 * l.length)
    (hb : ∀ i, i < L.getD s 0 → pkN l (a + i) 1 = wrd L s / 2 ^ (L.getD s 0 - (i + 1)) % 2) : rdC L l a = (s, 0, a + L.getD s 0) := by
  have h1 := wrd_lt L s hs h0
  have h2 := mostC_ge L _ h15 (by omega)
  have h3 := wrd_fit L hk s hs h0 h15
  have := rdS_word L l s hs h0 h15 a ha hb (mostC L) 0 (by omega) (by omega)
  rwa [Nat.sub_zero, Nat.div_eq_of_lt h3] at this
/-- a full code reads whatever comes -/
theorem rdS_full (L l : List Nat) (h : ∃ n, 1 ≤ n ∧ n ≤ mostC L ∧ fc L n + cnt L n = 2 ^ n) : ∀ k n got a, n + k = mostC L + 1 → 1 ≤ n → got < 2 ^ (n - 1) → (∀ m, m < n → 1 ≤ m → ¬ fc L m + cnt L m = 2 ^ m) → a + k ≤ 8 * l.length → (rdS L l k n got a).2.1 = 0
  | 0, n, got, a, h1, _, _, hm, _ => by
    obtain ⟨m, a1, a2, a3⟩ := h
    exact absurd a3 (hm m (by omega) a1)
  | k + 1, n, got, a, h1, hn, hg, hm, ha => by
    simp only [rdS]
    rw [if_pos (by omega)]
    have hp := pkN_lt l a 1
    have e : 2 ^ n = 2 * 2 ^ (n - 1) := by
      obtain ⟨m, rfl⟩ : ∃ m, n = m + 1 := ⟨n - 1, by omega⟩
      rw [Nat.add_sub_cancel, Nat.pow_succ, Nat.mul_comm]
    have hg2 : 2 * got + pkN l a 1 < 2 ^ n := by omega
    by_cases hf : 2 * got + pkN l a 1 < fc L n + cnt L n
    · rw [if_pos hf]
    · rw [if_neg hf]
      refine rdS_full L l h k (n + 1) _ (a + 1) (by omega) (by omega) (by rw [Nat.add_sub_cancel]; exact hg2) (fun m h2 h3 => ?_) (by omega)
      rcases Nat.lt_or_ge m n with h4 | h4
      · exact hm m h4 h3
      · obtain rfl : m = n := by omega
        omega
theorem full_at (L : List Nat) (h : kr L = 32768) : ∃ n, 1 ≤ n ∧ n ≤ mostC L ∧ fc L n + cnt L n = 2 ^ n := by
  have hp : 1 ≤ mostC L := mst_pos _ _
  have hle : mostC L ≤ 15 := mst_le _ _ (by omega)
  refine ⟨mostC L, hp, Nat.le_refl _, ?_⟩
  have h1 := fc_flat L (mostC L) (15 - mostC L) (fun m h1 h2 => mst_top (cnt L) 15 m h1 (by omega))
  rw [show mostC L + (15 - mostC L) + 1 = 16 by omega, kr_fc, h] at h1
  have h2 : (2 : Nat) ^ (15 - mostC L + 1) * 2 ^ mostC L = 65536 := by rw [← Nat.pow_add, show 15 - mostC L + 1 + mostC L = 16 by omega]
  have h3 : 2 ^ (15 - mostC L + 1) * (fc L (mostC L) + cnt L (mostC L)) = 2 ^ (15 - mostC L + 1) * 2 ^ mostC L := by omega
  exact Nat.eq_of_mul_eq_mul_left (Nat.pow_pos (by decide)) h3
theorem rdC_full (L l : List Nat) (h : kr L = 32768) (a : Nat) (ha : a + 15 ≤ 8 * l.length) : (rdC L l a).2.1 = 0 := by
  have hle : mostC L ≤ 15 := mst_le _ _ (by omega)
  exact rdS_full L l (full_at L h) (mostC L) 1 0 a (by omega) (by omega) (by decide) (fun m h1 h2 => by omega) (by omega)
theorem i64_or_nat (a b : Nat) (ha : a < 4611686018427387904) (hb : b < 4611686018427387904) : bits .or .i64 (a : Int) (b : Int) = ((a ||| b : Nat) : Int) := by
  have h1 : a ||| b < 2 ^ 62 := Nat.or_lt_two_pow (by omega) (by omega)
  show IntKind.i64.wrap ((BitVec.ofInt 64 (a : Int) ||| BitVec.ofInt 64 (b : Int)).toNat : Int) = _
  rw [BitVec.toNat_or, ofInt_u64 a (by omega), ofInt_u64 b (by omega), IntKind.wrap_i64]
  generalize a ||| b = x at h1 ⊢
  omega
theorem ret_two {k k' : IntKind} {a b c d : Int} (h : a = b) (h' : c = d) : Ending.returned (.tuple #[.int k a, .int k' c]) = .returned (.tuple #[.int k b, .int k' d]) := by rw [h, h']
theorem Cd.only {w w' : World} {g r : Nat} {O Ln : Value} {L : List Nat} {t : TypeId} {cs : Array Value} (h : Cd w g O Ln L) (hb : Blk w r t cs) (ho : Only r w w') (h1 : 107 ≠ t) (h2 : 3 ≠ t) : Cd w' g O Ln L := by
  obtain ⟨b, h3⟩ := h.len
  exact ⟨h.blk.only ho (h.blk.ne_ hb h1), own_keep h.ord fun q hq => ho.keep q (fun hc => own_blk_ne h.ord hb h2 (by rw [hq, hc])), b, own_keep h3 fun q hq => ho.keep q (fun hc => own_blk_ne h3 hb h2 (by rw [hq, hc]))⟩
theorem Cd.below {w w' : World} {g : Nat} {O Ln : Value} {L : List Nat} (h : Cd w g O Ln L) (hb : Below w.heap.size w w') : Cd w' g O Ln L := by
  obtain ⟨b, h3⟩ := h.len
  exact ⟨h.blk.below hb h.blk.lt, h.ord.below hb, b, h3.below hb⟩
set_option maxRecDepth 100000 in
set_option maxHeartbeats 4000000 in
theorem Read_calls (g : Nat) (O Ln : Value) (L : List Nat) (r : Nat) (A : Option Addr) (l : List Nat) (c a : Nat) (w : World) (hC : Cd w g O Ln L) (hL : L.length ≤ 288) (hk : kr L ≤ 32768)
    (h : Blk w r 75 #[.slice A l.length c, .int .i64 (a : Int), .bool true]) (hfar : ∀ w', Only r w w' → RB w' A l) (ha : a ≤ 8 * l.length) :
    Calls Tryd.prog 107 #[.pointer (some ⟨g, 0, none⟩), .pointer (some ⟨r, 0, none⟩)] w fun e w' =>
      e = .returned (.tuple #[.int .i64 ((rdC L l a).1 : Int), .int .i64 ((rdC L l a).2.1 : Int)]) ∧ Blk w' r 75 #[.slice A l.length c, .int .i64 ((rdC L l a).2.2 : Int), .bool true] ∧ Only r w w' := by
  have h1 := Bx.mk (cIs_calls g _ _ _ true w hC.blk)
  obtain ⟨AO, cO, hO⟩ := hC.ord.form
  rw [zl_length] at hO
  subst hO
  have HC := Bx.mk hC
  have HB := Bx.mk h
  have FAR := Bx.mk hfar
  have hmost : mostC L ≤ 15 := mst_le _ _ (by omega)
  have HK := Bx.mk hk
  obtain ⟨⟨R1, R2, R3⟩, hR⟩ : ∃ R, R = rdC L l a := ⟨_, rfl⟩
  rw [← hR]
  have HR : Bx (rdS L l (mostC L) 1 0 a = (R1, R2, R3)) := ⟨hR.symm⟩
  simp only
  clear hC h hfar hR hk
  go_enter Tryd.func107, Tryd.ntmps107
  go_wp2
  go_step3
  go_wp2_with fail
  refine h1.out.mono ?_
  rintro e w1 ⟨rfl, rfl⟩
  go_wp2
  go_step3
  go_wp2
  go_loopw [6, 7, 8, 9] (fun s6 s7 s8 s9 wr => ∃ (n k got x : Nat), 1 ≤ n ∧ n + k = mostC L + 1 ∧ got < 2 ^ (n - 1) ∧ fc L n ≤ 2 * got ∧ x ≤ 8 * l.length ∧ s6 = .int .i64 (got : Nat) ∧ s7 = .int .i64 (fc L n : Nat) ∧ s8 = .int .i64 (frm L n : Nat) ∧ s9 = .int .i64 (n : Nat) ∧
    Bx (rdS L l k n got x = (R1, R2, R3)) ∧ Bx (Blk wr r 75 #[.slice A l.length c, .int .i64 (x : Int), .bool true]) ∧ Bx (Only r w wr)) (fun _ _ _ i _ => 16 - (intOf i).toNat)
  case atStart => exact ⟨1, mostC L, 0, a, by omega, by omega, by decide, Nat.zero_le _, ha, rfl, rfl, rfl, rfl, HR, HB, ⟨Only.refl _ _⟩⟩
  case round =>
    obtain ⟨n, k, got, x, hn, hnk, hgot, hfg, hx, rfl, rfl, rfl, rfl, HD, HBr, HO⟩ := hrel
    have hcd := HC.out.only HB.out HO.out (by decide) (by decide)
    have M1 := Bx.mk (most_calls g _ _ _ true wr hcd.blk)
    rw [show mst (cnt L) 15 = mostC L from rfl] at M1
    by_cases hlt : n ≤ mostC L
    · obtain ⟨k, rfl⟩ : ∃ k', k = k' + 1 := ⟨k - 1, by omega⟩
      have KK : Bx (∀ w2, Only r wr w2 → w2.cell? ⟨g, n, none⟩ = some (.int .i64 (cnt L n : Int)) ∧ w2.cell? ⟨g, 16, none⟩ = some (.slice AO (ordN L 15).length cO) ∧ IR w2 AO (zl (ordN L 15))) := ⟨fun w2 ho2 => by
        have h2 := hcd.only HBr.out ho2 (by decide) (by decide)
        exact ⟨(h2.blk.cell n).trans (cdC_get _ _ _ _ n (by omega)), h2.blk.cell 16, h2.ord.ir⟩⟩
      have T1 := rTake_calls r A l c x 1 wr HBr.out (FAR.out wr HO.out) hx
      have hrd : rdS L l (k + 1) n got x = if x + 1 ≤ 8 * l.length then if 2 * got + pkN l x 1 < fc L n + cnt L n then ((ordN L 15).getD (frm L n + (2 * got + pkN l x 1 - fc L n)) 0, 0, x + 1) else rdS L l k (n + 1) (2 * got + pkN l x 1) (x + 1) else (0, 7, x) := rfl
      rw [HD.out] at hrd
      have hd16 : decide ((n : Int) ≤ ((mostC L : Nat) : Int)) = true := by simp; omega
      have hn16 : (n : Int) < 16 := by omega
      by_cases hfit : x + 1 ≤ 8 * l.length
      · rw [skipE_ok (by omega) (by omega), if_pos rfl, if_pos rfl, show (1 : Int).toNat = 1 from rfl] at T1
        rw [if_pos hfit] at hrd
        have hpk := pkN_lt l x 1
        have hff := fc_fit L HK.out n (by omega)
        have hpow : 2 ^ n ≤ 32768 := Nat.le_trans (Nat.pow_le_pow_right (by decide) (show n ≤ 15 by omega)) (by decide)
        have e2 : 2 ^ n = 2 * 2 ^ (n - 1) := by
          obtain ⟨m, rfl⟩ : ∃ m, n = m + 1 := ⟨n - 1, by omega⟩
          rw [Nat.add_sub_cancel, Nat.pow_succ, Nat.mul_comm]
        generalize pkN l x 1 = b at T1 hrd hpk
        have hor : bits .or .i64 ((got : Int) * 2) (b : Int) = ((2 * got + b : Nat) : Int) := by
          have := i64_or_nat (2 * got) b (by omega) (by omega)
          rw [nat_join1 (2 * got) b (by omega) (by omega)] at this
          rw [← this]; congr 1; omega
        have hgb : got ≤ 32768 := by omega
        have hgot2 : 2 * got + b < 2 ^ (n + 1 - 1) := by rw [Nat.add_sub_cancel]; omega
        have hfrm := frm_succ L n hn
        have hfc : fc L (n + 1) = 2 * (fc L n + cnt L n) := rfl
        have hfrmle : frm L n + cnt L n ≤ (ordN L 15).length := by rw [← hfrm]; exact ord_len L 15 n (by omega)
        have TT1 := Bx.mk T1
        have HG2 := Bx.mk hgot2
        have HF := Bx.mk hfc
        have HFR := Bx.mk hfrm
        have hG : 2 * got + b ≤ 32768 := by omega
        have hFG : fc L n ≤ 2 * got + b := by omega
        generalize 2 * got + b = G at hor HG2 hrd hG hFG
        have hol := ord_small L hL 15
        clear hgot hfg T1 hpk hgot2 hfc hfrm e2
        by_cases hhit : G < fc L n + cnt L n
        · rw [if_pos hhit] at hrd
          obtain ⟨i, hi⟩ : ∃ i, i = frm L n + (G - fc L n) := ⟨_, rfl⟩
          have hil : i < (ordN L 15).length := by omega
          rw [← hi] at hrd
          have hi3 : (frm L n : Int) + (G : Int) - (fc L n : Int) = (i : Int) := by omega
          have IRX : Bx (∀ w2, IR w2 AO (zl (ordN L 15)) → ∃ ad, AO = some ad ∧ w2.cell? (ad.add i) = some (.int .i64 (((ordN L 15).getD i 0 : Nat) : Int))) := ⟨fun w2 hir => by
            obtain ⟨ad, e, hod⟩ := hir (by rw [zl_length]; omega)
            have hoc := hod i (by rw [zl_length]; exact hil)
            rw [zl_get] at hoc
            exact ⟨ad, e, hoc⟩⟩
          have HRR := Bx.mk hrd
          have KX : Bx (∀ w2, Only r wr w2 → w2.cell? ⟨g, n, none⟩ = some (.int .i64 (cnt L n : Int)) ∧ w2.cell? ⟨g, 16, none⟩ = some (.slice AO (ordN L 15).length cO) ∧ ∃ ad, AO = some ad ∧ w2.cell? (ad.add i) = some (.int .i64 (((ordN L 15).getD i 0 : Nat) : Int))) := ⟨fun w2 ho2 => ⟨(KK.out w2 ho2).1, (KK.out w2 ho2).2.1, IRX.out w2 (KK.out w2 ho2).2.2⟩⟩
          clear hrd hi HD HF HFR IRX KK
          generalize (ordN L 15).getD i 0 = Y at *
          generalize fc L n = F at *
          generalize frm L n = Fm at *
          generalize cnt L n = Cn at *
          generalize (ordN L 15).length = m at *
          go_wp2_with fail
          refine M1.out.mono ?_
          rintro e w2 ⟨rfl, rfl⟩
          go_wp2_with fail
          refine TT1.out.mono ?_
          rintro e w2 ⟨rfl, hb2, ho2⟩
          obtain ⟨k1, k16, ad, rfl, koc⟩ := KX.out w2 ho2
          have HB2 := Bx.mk hb2
          have HO2 := Bx.mk (HO.out.trans ho2)
          clear hb2 ho2 KX
          go_wp2
          rw [Exit.noGoto_ret]
          go_ret2
          obtain ⟨z1, z2, z3⟩ : R1 = Y ∧ R2 = 0 ∧ R3 = x + 1 := by have := HRR.out; simpa using this
          exact ⟨ret_two (by rw [z1]) (by rw [z2]; rfl), by rw [z3]; exact HB2.out, HO2.out⟩
        · rw [if_neg hhit] at hrd
          have HRR := Bx.mk hrd
          have KX : Bx (∀ w2, Only r wr w2 → w2.cell? ⟨g, n, none⟩ = some (.int .i64 (cnt L n : Int))) := ⟨fun w2 ho2 => (KK.out w2 ho2).1⟩
          have hFG2 : fc L (n + 1) ≤ 2 * G := by rw [HF.out]; omega
          have HFG2 := Bx.mk hFG2
          have HFR2 : Bx (frm L n + cnt L n = frm L (n + 1)) := ⟨HFR.out.symm⟩
          have HF2 : Bx (2 * (fc L n + cnt L n) = fc L (n + 1)) := ⟨HF.out.symm⟩
          clear hrd HD HF HFR KK hFG2
          generalize fc L n = F at *
          generalize frm L n = Fm at *
          generalize cnt L n = Cn at *
          generalize (ordN L 15).length = m at *
          go_wp2_with fail
          refine M1.out.mono ?_
          rintro e w2 ⟨rfl, rfl⟩
          go_wp2_with fail
          refine TT1.out.mono ?_
          rintro e w2 ⟨rfl, hb2, ho2⟩
          have k1 := KX.out w2 ho2
          have HB2 := Bx.mk hb2
          have HO2 := Bx.mk (HO.out.trans ho2)
          clear hb2 ho2 KX
          go_wp2
          go_roundw
          case rel => exact ⟨n + 1, k, G, x + 1, by omega, by omega, HG2.out, HFG2.out, hfit, rfl, by rw [← HF2.out]; first | (congr 1; done) | (congr 1; omega), by rw [← HFR2.out]; first | (congr 1; done) | (congr 1; omega), by go_num, ⟨HRR.out.symm⟩, HB2, HO2⟩
          case measure => simp [intOf]; omega
      · rw [skipE_short (by omega) (by omega), if_neg (by decide), if_neg (by decide)] at T1
        rw [if_neg hfit] at hrd
        have TT1 := Bx.mk T1
        have HRR := Bx.mk hrd
        clear T1 hrd HD KK
        go_wp2_with fail
        refine M1.out.mono ?_
        rintro e w2 ⟨rfl, rfl⟩
        go_wp2_with fail
        refine TT1.out.mono ?_
        rintro e w2 ⟨rfl, hb2, ho2⟩
        have HB2 := Bx.mk hb2
        have HO2 := Bx.mk (HO.out.trans ho2)
        clear hb2 ho2
        go_wp2
        rw [Exit.noGoto_ret]
        go_ret2
        obtain ⟨z1, z2, z3⟩ : R1 = 0 ∧ R2 = 7 ∧ R3 = x := by have := HRR.out; simpa using this
        exact ⟨ret_two (by rw [z1]; rfl) (by rw [z2]; rfl), by rw [z3]; exact HB2.out, HO2.out⟩
    · obtain rfl : k = 0 := by omega
      have HRR : Bx ((R1, R2, R3) = (0, 110, x)) := ⟨HD.out.symm⟩
      go_wp2_with fail
      refine M1.out.mono ?_
      rintro e w2 ⟨rfl, rfl⟩
      go_wp2
      try rw [Exit.noGoto_ret]
      go_ret2
      obtain ⟨z1, z2, z3⟩ : R1 = 0 ∧ R2 = 110 ∧ R3 = x := by have := HRR.out; simpa using this
      exact ⟨ret_two (by rw [z1]; rfl) (by rw [z2]; rfl), by rw [z3]; exact HBr.out, HO.out⟩
theorem ret_three {k k' k'' : IntKind} {a b c d e f : Int} (h : a = b) (h' : c = d) (h'' : e = f) : Ending.returned (.tuple #[.int k a, .int k' c, .int k'' e]) = .returned (.tuple #[.int k b, .int k' d, .int k'' f]) := by rw [h, h', h'']
theorem Word_no (g : Nat) (O Ln : Value) (L : List Nat) (s : Int) (w : World) (hC : Cd w g O Ln L) (hs : ¬ (0 ≤ s ∧ s < L.length ∧ L.getD s.toNat 0 ≠ 0)) :
    Calls Tryd.prog 93 #[.pointer (some ⟨g, 0, none⟩), .int .i64 s] w fun e w' => e = .returned (.tuple #[.int .i64 0, .int .i64 0, .int .i64 5]) ∧ w = w' := by
  have h1 := Bx.mk (cIs_calls g _ _ _ true w hC.blk)
  obtain ⟨b, hln⟩ := hC.len
  obtain ⟨A1, c1, hL⟩ := hln.form
  rw [zl_length] at hL
  subst hL
  have k17 : w.cell? ⟨g, 17, none⟩ = some (.slice A1 L.length c1) := hC.blk.cell 17
  have IRX := Bx.mk hln.ir
  clear hC hln
  by_cases h0 : s < 0
  · clear hs
    go_enter Tryd.func93, Tryd.ntmps93
    go_wp2_with fail
    refine h1.out.mono ?_
    rintro e w1 ⟨rfl, rfl⟩
    go_wp2
    go_ret3
    exact ⟨rfl, rfl⟩
  · obtain ⟨s, rfl⟩ := Int.eq_ofNat_of_zero_le (show 0 ≤ s by omega)
    by_cases hlt : s < L.length
    · have hz : L.getD s 0 = 0 := by
        rcases Nat.eq_zero_or_pos (L.getD s 0) with h | h
        · exact h
        · exact absurd ⟨by omega, by omega, by rw [Int.toNat_natCast]; omega⟩ hs
      obtain ⟨ad, rfl, hd⟩ := IRX.out (by rw [zl_length]; omega)
      have hg := hd s (by rw [zl_length]; exact hlt)
      rw [zl_get, hz] at hg
      clear hs hd hz
      go_enter Tryd.func93, Tryd.ntmps93
      go_wp2_with fail
      refine h1.out.mono ?_
      rintro e w1 ⟨rfl, rfl⟩
      go_wp2
      go_ret3
      exact ⟨rfl, rfl⟩
    · clear hs
      go_enter Tryd.func93, Tryd.ntmps93
      go_wp2_with fail
      refine h1.out.mono ?_
      rintro e w1 ⟨rfl, rfl⟩
      go_wp2
      go_ret3
      exact ⟨rfl, rfl⟩
set_option maxRecDepth 100000 in
set_option maxHeartbeats 4000000 in
theorem Word_yes (g : Nat) (O Ln : Value) (L : List Nat) (s : Nat) (w : World) (hC : Cd w g O Ln L) (hk : kr L ≤ 32768) (hL288 : L.length ≤ 288) (hs : s < L.length) (h0 : L.getD s 0 ≠ 0) (h15 : L.getD s 0 ≤ 15) :
    Calls Tryd.prog 93 #[.pointer (some ⟨g, 0, none⟩), .int .i64 (s : Int)] w fun e w' => e = .returned (.tuple #[.int .i64 (wrd L s : Int), .int .i64 (L.getD s 0 : Int), .int .i64 0]) ∧ w = w' := by
  have h1 := Bx.mk (cIs_calls g _ _ _ true w hC.blk)
  obtain ⟨b, hln⟩ := hC.len
  obtain ⟨A1, c1, hL⟩ := hln.form
  rw [zl_length] at hL
  subst hL
  have k17 : w.cell? ⟨g, 17, none⟩ = some (.slice A1 L.length c1) := hC.blk.cell 17
  obtain ⟨ad, rfl, hd⟩ := hln.ir (by rw [zl_length]; omega)
  have hg := hd s (by rw [zl_length]; exact hs)
  rw [zl_get] at hg
  have HM : Bx (∀ n, n ≤ 15 → w.cell? ⟨g, n, none⟩ = some (.int .i64 (cnt L n : Int))) := ⟨fun n hn => (hC.blk.cell n).trans (cdC_get _ _ _ _ n hn)⟩
  have HD : Bx (∀ j, j < L.length → w.cell? (ad.add j) = some (.int .i64 ((L.getD j 0 : Nat) : Int))) := ⟨fun j hj => by have := hd j (by rw [zl_length]; exact hj); rwa [zl_get] at this⟩
  have HK := Bx.mk hk
  have hw : wrd L s = fc L (L.getD s 0) + (syms (L.take s) (L.getD s 0) 0).length := rfl
  have HW := Bx.mk hw
  obtain ⟨W, hW⟩ : ∃ W, W = wrd L s := ⟨_, rfl⟩
  rw [← hW] at HW ⊢
  have hfit := fc_fit L hk (L.getD s 0) h15
  have hp15 : 2 ^ L.getD s 0 ≤ 32768 := Nat.le_trans (Nat.pow_le_pow_right (by decide) h15) (by decide)
  have hfb : fc L (L.getD s 0) ≤ 32768 := by omega
  clear hC hln hd hk hw hW hfit hp15
  generalize L.getD s 0 = n at *
  have hne : ((n : Int) == 0) = false := beq_false_of_ne (by omega)
  go_enter Tryd.func93, Tryd.ntmps93
  go_wp2_with fail
  refine h1.out.mono ?_
  rintro e w1 ⟨rfl, rfl⟩
  go_wp2
  go_loop [8, 9] (fun x k => ∃ j : Nat, 1 ≤ j ∧ j ≤ n ∧ k = .int .i64 (j : Nat) ∧ x = .int .i64 ((fc L j : Nat) : Int)) (fun _ k => n - (intOf k).toNat)
  case atStart => exact ⟨1, Nat.le_refl _, by omega, rfl, rfl⟩
  case round =>
    obtain ⟨j, hj1, hj2, rfl, rfl⟩ := hrel
    have hff := fc_fit L HK.out j (by omega)
    have hpow : 2 ^ j ≤ 32768 := Nat.le_trans (Nat.pow_le_pow_right (by decide) (show j ≤ 15 by omega)) (by decide)
    have hsum : fc L j + cnt L j ≤ 32768 := by omega
    clear hff hpow
    by_cases hlt : j < n
    · have hc := HM.out j (by omega)
      have hj16 : (j : Int) < 16 := by omega
      have HF : Bx (fc L (j + 1) = 2 * (fc L j + cnt L j)) := ⟨rfl⟩
      generalize fc L j = F at *
      generalize cnt L j = C at *
      go_wp2
      go_round
      case rel => exact ⟨j + 1, by omega, by omega, by go_num, by rw [HF.out]; first | (congr 1; done) | (congr 1; omega)⟩
      case measure => simp [intOf]; omega
    · obtain rfl : j = n := by omega
      clear hsum
      go_wp2
      go_loop [8, 59] (fun x i => ∃ z : Nat, z ≤ s ∧ i = .int .i64 (z : Nat) ∧ x = .int .i64 ((fc L j + (syms (L.take z) j 0).length : Nat) : Int)) (fun _ i => s - (intOf i).toNat)
      case atStart => exact ⟨0, Nat.zero_le _, rfl, by simp [syms]⟩
      case round =>
        obtain ⟨z, hz, rfl, rfl⟩ := hrel
        have hsm := syms_small L j z hL288
        by_cases hzl : z < s
        · have hc := HD.out z (by omega)
          have HT := syms_take L j z (by omega)
          by_cases hx : L.getD z 0 = j
          · rw [if_pos hx] at HT
            have HL : Bx ((syms (L.take (z + 1)) j 0).length = (syms (L.take z) j 0).length + 1) := ⟨by rw [HT, List.length_append]; rfl⟩
            rw [hx] at hc
            clear HT hx
            generalize (syms (L.take z) j 0).length = S at *
            generalize fc L j = F at *
            go_wp2
            go_round
            case rel => exact ⟨z + 1, by omega, by go_num, by rw [HL.out]; first | (congr 1; done) | (congr 1; omega)⟩
            case measure => simp [intOf]; omega
          · rw [if_neg hx, List.append_nil] at HT
            have HL : Bx ((syms (L.take (z + 1)) j 0).length = (syms (L.take z) j 0).length) := ⟨by rw [HT]⟩
            generalize L.getD z 0 = x at hc hx
            have hne2 : ((x : Int) == (j : Int)) = false := beq_false_of_ne (by omega)
            clear HT hx
            generalize (syms (L.take z) j 0).length = S at *
            generalize fc L j = F at *
            go_wp2
            go_round
            case rel => exact ⟨z + 1, by omega, by go_num, by rw [HL.out]⟩
            case measure => simp [intOf]; omega
        · obtain rfl : z = s := by omega
          rw [← HW.out]
          have hWb : W ≤ 33056 := by rw [HW.out]; omega
          go_wp2
          go_ret3
          exact ⟨rfl, rfl⟩
/-- a symbol is written -/
theorem CWrite_yes (g : Nat) (O Ln : Value) (L : List Nat) (s : Nat) (y : Nat) (v : Value) (N a : Nat) (w : World) (hC : Cd w g O Ln L) (hk : kr L ≤ 32768) (hL288 : L.length ≤ 288) (hs : s < L.length) (h0 : L.getD s 0 ≠ 0) (h15 : L.getD s 0 ≤ 15)
    (h : Wr w y v N a) (ha : a ≤ 1125899906809000) :
    Calls Tryd.prog 61 #[.pointer (some ⟨g, 0, none⟩), .pointer (some ⟨y, 0, none⟩), .int .i64 (s : Int)] w fun e w' =>
      e = .returned (.int .i64 0) ∧ ∃ v', Wr w' y v' (N + 2 ^ a * revN (wrd L s) (L.getD s 0)) (a + L.getD s 0) ∧ WStep y v w v' w' := by
  have W1 := Bx.mk (Word_yes g O Ln L s w hC hk hL288 hs h0 h15)
  have C1 := Bx.mk (Code_yes y v N a (wrd L s) (L.getD s 0) w h (by omega) (wrd_fit L hk s hs h0 h15) ha)
  generalize wrd L s = W at *
  generalize L.getD s 0 = n at *
  generalize revN W n = V at *
  clear hC hk h h0 h15
  go_enter Tryd.func61, Tryd.ntmps61
  go_wp2_with fail
  refine W1.out.mono ?_
  rintro e w1 ⟨rfl, rfl⟩
  go_wp2_with fail
  refine C1.out.mono ?_
  rintro e w1 ⟨rfl, v1, hw, hs⟩
  have HW := Bx.mk hw
  have HS := Bx.mk hs
  clear hw hs
  go_wp2
  go_ret
  exact ⟨rfl, v1, HW.out, HS.out⟩
theorem CWrite_no (g : Nat) (O Ln : Value) (L : List Nat) (s : Int) (p : Value) (w : World) (hC : Cd w g O Ln L) (hs : ¬ (0 ≤ s ∧ s < L.length ∧ L.getD s.toNat 0 ≠ 0)) :
    Calls Tryd.prog 61 #[.pointer (some ⟨g, 0, none⟩), p, .int .i64 s] w fun e w' => e = .returned (.int .i64 5) ∧ w = w' := by
  have W1 := Bx.mk (Word_no g O Ln L s w hC hs)
  clear hC hs
  go_enter Tryd.func61, Tryd.ntmps61
  go_wp2_with fail
  refine W1.out.mono ?_
  rintro e w1 ⟨rfl, rfl⟩
  go_wp2
  go_ret
  exact ⟨rfl, rfl⟩
def okL (L : List Nat) : Prop := L.length ≤ 288 ∧ (∀ x ∈ L, x ≤ 15) ∧ goodC L
theorem CNew_yes (A : Option Addr) (L : List Nat) (c : Nat) (w : World) (hl : IR w A (zl L)) (h : okL L) :
    Calls Tryd.prog 52 #[.slice A L.length c] w fun e w' => ∃ g O Ln, e = .returned (.tuple #[.pointer (some ⟨g, 0, none⟩), .int .i64 0]) ∧ w.heap.size ≤ g ∧ Cd w' g O Ln L ∧ Below w.heap.size w w' :=
  (CNew_calls A L c w hl h.1 h.2.1).mono fun _ _ hp => let ⟨g, O, Ln, a, b, _, d, e⟩ := hp.1 h.2.2; ⟨g, O, Ln, a, b, d, e⟩
theorem CNew_no (A : Option Addr) (l : List Int) (c : Nat) (w : World) (hl : IR w A l) (hn : l.length * 8 ≤ 140737492549632) (h : ¬ ∃ L, l = zl L ∧ okL L) :
    Calls Tryd.prog 52 #[.slice A l.length c] w fun e w' => e = .returned (.tuple #[.pointer none, .int .i64 100]) ∧ Below w.heap.size w w' := by
  by_cases hb : 288 < l.length ∨ l.any oddB = true
  · exact (CNew_bad A l c w hl hn hb).mono fun e w' ⟨h1, h2⟩ => ⟨h1, by rw [← h2]; exact Below.refl _ _⟩
  · have h1 : l.length ≤ 288 := by
      rcases Nat.lt_or_ge 288 l.length with h2 | h2
      · exact absurd (.inl h2) hb
      · exact h2
    have h2 : ∀ x ∈ l, 0 ≤ x ∧ x ≤ 15 := fun x hx => by
      have h3 : l.any oddB = false := by
        cases hc : l.any oddB
        · rfl
        · exact absurd (.inr hc) hb
      rw [List.any_eq_false] at h3
      have := h3 x hx
      unfold oddB at this
      simp at this
      omega
    have e : l = zl (l.map Int.toNat) := by
      unfold zl
      rw [List.map_map]
      conv => lhs; rw [← List.map_id l]
      refine List.map_congr_left fun x hx => ?_
      have := (h2 x hx).1
      simp only [id, Function.comp]
      omega
    have hlen : (l.map Int.toNat).length = l.length := List.length_map ..
    have key := CNew_calls A (l.map Int.toNat) c w (by rw [← e]; exact hl) (by omega) (fun x hx => by
      obtain ⟨y, hy, rfl⟩ := List.mem_map.1 hx
      have := h2 y hy
      omega)
    rw [hlen] at key
    refine key.mono fun e' w' hp => hp.2 fun hg => h ⟨_, e, by omega, fun x hx => ?_, hg⟩
    obtain ⟨y, hy, rfl⟩ := List.mem_map.1 hx
    have := h2 y hy
    omega
theorem IR.lit (w : World) (t : TypeId) (l : List Int) (cs : Array Value) (h : cs.toList = is l) : IR (w.alloc (.cells cs t)) (some ⟨w.heap.size, 0, none⟩) l :=
  fun _ => ⟨_, rfl, fun j hj => by rw [add_plain, World.cell?_alloc_at _ _ _ _ rfl, ← Array.getElem?_toList, h, is_get l j hj]⟩
def sN (L : List Nat) : List Nat → Nat
  | [] => 0
  | s :: r => revN (wrd L s) (L.getD s 0) + 2 ^ L.getD s 0 * sN L r
def sA (L : List Nat) : List Nat → Nat
  | [] => 0
  | s :: r => L.getD s 0 + sA L r
theorem sA_app (L l m : List Nat) : sA L (l ++ m) = sA L l + sA L m := by
  induction l with
  | nil => simp [sA]
  | cons x r ih => simp only [List.cons_append, sA, ih]; omega
theorem sN_app (L l m : List Nat) : sN L (l ++ m) = sN L l + 2 ^ sA L l * sN L m := by
  induction l with
  | nil => simp [sN, sA]
  | cons x r ih =>
    simp only [List.cons_append, sN, sA, ih]
    rw [Nat.mul_add, ← Nat.mul_assoc, ← Nat.pow_add, Nat.add_assoc]
theorem sN_snoc (L l : List Nat) (s : Nat) : sN L (l ++ [s]) = sN L l + 2 ^ sA L l * revN (wrd L s) (L.getD s 0) := by rw [sN_app]; simp [sN]
theorem sA_snoc (L l : List Nat) (s : Nat) : sA L (l ++ [s]) = sA L l + L.getD s 0 := by rw [sA_app]; simp [sA]
theorem sN_lt (L l : List Nat) : sN L l < 2 ^ sA L l := by
  induction l with
  | nil => simp [sN, sA]
  | cons s r ih =>
    have h1 : revN (wrd L s) (L.getD s 0) < 2 ^ L.getD s 0 := eachV_lt _ _ _
    simp only [sN, sA]
    rw [Nat.pow_add]
    have : 2 ^ L.getD s 0 * (sN L r + 1) ≤ 2 ^ L.getD s 0 * 2 ^ sA L r := Nat.mul_le_mul_left _ ih
    rw [Nat.mul_add, Nat.mul_one] at this
    omega
theorem sN_at (L l : List Nat) (j s : Nat) (hx : l[j]? = some s) : sN L l / 2 ^ sA L (l.take j) % 2 ^ L.getD s 0 = revN (wrd L s) (L.getD s 0) := by
  have hj : j < l.length := (List.getElem?_eq_some_iff.1 hx).1
  have e : l = l.take j ++ (s :: l.drop (j + 1)) := by
    have h2 := List.getElem?_eq_getElem hj
    rw [hx] at h2
    rw [Option.some.inj h2, ← List.drop_eq_getElem_cons hj, List.take_append_drop]
  have h1 := sN_lt L (l.take j)
  have hv : revN (wrd L s) (L.getD s 0) < 2 ^ L.getD s 0 := eachV_lt _ _ _
  conv => lhs; rw [e]
  rw [List.take_left' (by rw [List.length_take]; omega), sN_app]
  rw [Nat.add_mul_div_left _ _ (Nat.pow_pos (by decide)), Nat.div_eq_of_lt h1, Nat.zero_add]
  simp only [sN]
  rw [Nat.add_mul_mod_self_left, Nat.mod_eq_of_lt hv]
theorem sA_take (L l : List Nat) (j s : Nat) (hx : l[j]? = some s) : sA L (l.take (j + 1)) = sA L (l.take j) + L.getD s 0 := by
  have hj : j < l.length := (List.getElem?_eq_some_iff.1 hx).1
  have h2 := List.getElem?_eq_getElem hj
  rw [hx] at h2
  rw [List.take_succ_eq_append_getElem hj, ← Option.some.inj h2, sA_snoc]
theorem sA_le (L l : List Nat) (j : Nat) : sA L (l.take j) ≤ sA L l := by
  conv => rhs; rw [← List.take_append_drop j l, sA_app]
  omega
/-- what was written is read -/
theorem rdC_back (L b l : List Nat) (hk : kr L ≤ 32768) (hb : lsum b = sN L l) (hlen : sA L l ≤ 8 * b.length) (j s : Nat) (hx : l[j]? = some s) (hs : s < L.length) (h0 : L.getD s 0 ≠ 0) (h15 : L.getD s 0 ≤ 15) :
    rdC L b (sA L (l.take j)) = (s, 0, sA L (l.take (j + 1))) := by
  have h1 := sA_take L l j s hx
  have h2 := sA_le L l (j + 1)
  rw [h1]
  refine rdC_word L b s hk hs h0 h15 _ (by omega) fun i hi => ?_
  have h3 := sN_at L l j s hx
  rw [← hb] at h3
  rw [pkN_bit b _ (L.getD s 0) i _ h3 hi, revN_bit _ _ i hi]
theorem Cd.step {w w' : World} {g y N a : Nat} {O Ln v v' : Value} {L : List Nat} (h : Cd w g O Ln L) (hw : Wr w y v N a) (hs : WStep y v w v' w') : Cd w' g O Ln L := by
  obtain ⟨b, h3⟩ := h.len
  refine ⟨(hs.blk h.blk (h.blk.ne_ hw.blk (by decide)) ?_).1, h.ord.step hw hs, b, h3.step hw hs⟩
  obtain ⟨l, -, ho⟩ := hw.own
  exact own_blk_ne ho h.blk (by decide)
theorem Cd.grown {w w' : World} {g base : Nat} {O Ln T : Value} {L : List Nat} {l : List Int} (h : Cd w g O Ln L) (hT : OI w base T l) (hg : w.grownBy w' T.ownBlock) (hO : ∀ q, T.ownBlock = some q → O.ownBlock ≠ some q ∧ Ln.ownBlock ≠ some q) : Cd w' g O Ln L := by
  obtain ⟨b, h3⟩ := h.len
  exact ⟨h.blk.grown hg (fun hc => own_blk_ne hT h.blk (by decide) hc.symm), own_keep h.ord fun q hq => hg.block q (own_block' h.ord q hq).2 (fun hc => (hO q hc.symm).1 hq), b, own_keep h3 fun q hq => hg.block q (own_block' h3 q hq).2 (fun hc => (hO q hc.symm).2 hq)⟩
theorem rdC_adv (L l : List Nat) (a : Nat) (h : a + 1 ≤ 8 * l.length) : a + 1 ≤ (rdC L l a).2.2 := by
  have hp : 1 ≤ mostC L := mst_pos _ _
  unfold rdC
  obtain ⟨k, hk⟩ : ∃ k, mostC L = k + 1 := ⟨mostC L - 1, by omega⟩
  rw [hk]
  simp only [rdS]
  rw [if_pos h]
  split
  · exact Nat.le_refl _
  · exact (rdS_at L l k _ _ (a + 1) h).1
end Go.Proofs.YtoekecopfmohiaaDoor
