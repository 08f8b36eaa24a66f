import Derived.Test.YtoekecopfmohiaaDoorFlowAll
import Derived.WalkSpells
/-
  Numbers in bytes: Get, Put.
-/
namespace Go.Proofs.YtoekecopfmohiaaDoor
open Go.RowKit
/-- a number's bytes stand within -/
def Fits (len : Nat) (a s : Int) : Prop := 1 ≤ s ∧ s ≤ 4 ∧ 0 ≤ a ∧ a ≤ len ∧ s ≤ len - a
theorem there_yes (A : Option Addr) (n c : Nat) (a s : Int) (w : World) (hn : n ≤ 140737492549632) (h : Fits n a s) :
    Calls Tryd.prog 71 #[.slice A n c, .int .i64 a, .int .i64 s] w fun e w' => e = .returned (.bool true) ∧ w = w' := by
  obtain ⟨h1, h2, h3, h4, h5⟩ := h
  go_enter Tryd.func71, Tryd.ntmps71
  go_wp2
  go_ret
  exact ⟨rfl, rfl⟩
theorem there_no (A : Option Addr) (n c : Nat) (a s : Int) (w : World) (h : ¬ Fits n a s) :
    Calls Tryd.prog 71 #[.slice A n c, .int .i64 a, .int .i64 s] w fun e w' => e = .returned (.bool false) ∧ w = w' := by
  unfold Fits at h
  by_cases h1 : 1 ≤ s
  · by_cases h2 : s ≤ 4
    · by_cases h3 : 0 ≤ a
      · by_cases h4 : a ≤ n
        · have h5 : (n : Int) - a < s := by omega
          clear h
          go_enter Tryd.func71, Tryd.ntmps71
          go_wp2
          go_ret
          exact ⟨ret_bool (decide_eq_false (by omega)), rfl⟩
        · clear h
          go_enter Tryd.func71, Tryd.ntmps71
          go_wp2
          go_ret
          exact ⟨rfl, rfl⟩
      · clear h
        go_enter Tryd.func71, Tryd.ntmps71
        go_wp2
        go_ret
        exact ⟨rfl, rfl⟩
    · clear h
      go_enter Tryd.func71, Tryd.ntmps71
      go_wp2
      go_ret
      exact ⟨rfl, rfl⟩
  · clear h
    go_enter Tryd.func71, Tryd.ntmps71
    go_wp2
    go_ret
    exact ⟨rfl, rfl⟩
theorem Fits.nat {n : Nat} {a s : Int} (h : Fits n a s) : ∃ p q : Nat, a = p ∧ s = q ∧ 1 ≤ q ∧ q ≤ 4 ∧ p + q ≤ n := by
  obtain ⟨h1, h2, h3, h4, h5⟩ := h
  exact ⟨a.toNat, s.toNat, by omega, by omega, by omega, by omega, by omega⟩
/-- a number of bytes, the lowest first -/
def leN : List Nat → Nat
  | [] => 0
  | x :: l => x + 256 * leN l
theorem leN_lt : ∀ (l : List Nat), (∀ x ∈ l, x < 256) → leN l < 256 ^ l.length
  | [], _ => by simp [leN]
  | x :: l, h => by
    have h1 := leN_lt l (fun y hy => h y (by simp [hy]))
    have h2 := h x (by simp)
    simp only [leN, List.length_cons, Nat.pow_succ]
    omega
theorem leN_append : ∀ (l m : List Nat), leN (l ++ m) = leN l + 256 ^ l.length * leN m
  | [], m => by simp [leN]
  | x :: l, m => by
    simp only [List.cons_append, leN, List.length_cons, leN_append l m, Nat.pow_succ]
    rw [Nat.mul_add, ← Nat.mul_assoc, Nat.mul_comm 256 (256 ^ l.length)]
    omega
def numAt (l : List Nat) (p q : Nat) : Nat := leN ((l.drop p).take q)
theorem numAt_succ (l : List Nat) (p q : Nat) (h : p + q < l.length) : numAt l p (q + 1) = numAt l p q + 256 ^ q * l.getD (p + q) 0 := by
  unfold numAt
  have h1 : q < (l.drop p).length := by rw [List.length_drop]; omega
  rw [List.take_succ_eq_append_getElem h1, leN_append]
  have : (List.take q (List.drop p l)).length = q := by rw [List.length_take]; omega
  rw [this, List.getElem_drop, getD_getElem l _ h]
  simp [leN]
theorem numAt_lt (l : List Nat) (p q : Nat) (h : p + q ≤ l.length) (hb : ∀ x ∈ l, x < 256) : numAt l p q < 256 ^ q := by
  have := leN_lt ((l.drop p).take q) (fun x hx => hb x (List.mem_of_mem_drop (List.mem_of_mem_take hx)))
  have e : ((l.drop p).take q).length = q := by rw [List.length_take, List.length_drop]; omega
  rw [e] at this
  exact this
set_option maxHeartbeats 1000000 in
theorem Get_no (A : Option Addr) (l : List Nat) (c : Nat) (a s : Int) (w : World) (h : ¬ Fits l.length a s) :
    Calls Tryd.prog 41 #[.slice A l.length c, .int .i64 a, .int .i64 s] w fun e w' => e = .returned (.tuple #[.int .i64 0, .int .i64 2]) ∧ w = w' := by
  have H := Bx.mk h; clear h
  go_enter Tryd.func41, Tryd.ntmps41
  go_wp2_with fail
  refine (there_no A l.length c a s w H.out).mono ?_
  rintro e w1 ⟨rfl, rfl⟩
  go_wp2
  go_ret2
  exact ⟨rfl, rfl⟩
theorem bor_step (C X k : Nat) (hC : C < 256 ^ k) : C ||| (256 ^ k * X) = C + 256 ^ k * X := by
  have := nat_join (8 * k) (256 ^ k * X) C (by rw [Nat.pow_mul]; exact Nat.mul_mod_right _ _) (by rw [Nat.pow_mul]; exact hC)
  rw [Nat.or_comm, this, Nat.add_comm]
set_option maxHeartbeats 4000000 in
theorem Get_yes (A : Option Addr) (l : List Nat) (c : Nat) (p q : Nat) (w : World) (hl : RB w A l) (h1 : 1 ≤ q) (h2 : q ≤ 4) (h3 : p + q ≤ l.length) :
    Calls Tryd.prog 41 #[.slice A l.length c, .int .i64 p, .int .i64 q] w fun e w' => e = .returned (.tuple #[.int .i64 ((numAt l p q : Nat) : Int), .int .i64 0]) ∧ w = w' := by
  obtain ⟨hb, hlen, hcell⟩ := hl
  have HF := Bx.mk (show Fits l.length p q from ⟨by omega, by omega, by omega, by omega, by omega⟩)
  obtain ⟨ad, rfl, hc⟩ := hcell (by omega)
  clear hcell
  go_enter Tryd.func41, Tryd.ntmps41
  go_wp2_with fail
  refine (there_yes _ l.length c p q w hlen HF.out).mono ?_
  rintro e w1 ⟨rfl, rfl⟩
  have HC := Bx.mk hc
  have HB := Bx.mk hb
  clear hc hb
  go_wp2
  go_loop [8, 16] (fun n i => ∃ k : Nat, k ≤ q ∧ i = .int .i64 k ∧ n = .int .u32 ((numAt l p k : Nat) : Int)) (fun _ i => q - (intOf i).toNat)
  case atStart => exact ⟨0, Nat.zero_le _, rfl, by simp [numAt, leN]⟩
  case round =>
    obtain ⟨k, hk, rfl, rfl⟩ := hrel
    by_cases hlt : k < q
    · have hs := numAt_succ l p k (by omega)
      have hn := numAt_lt l p k (by omega) HB.out
      have hX := mem_getD (show p + k < l.length by omega) HB.out
      have hck := HC.out (p + k) (by omega)
      generalize l.getD (p + k) 0 = X at hs hX hck
      generalize numAt l p k = C at hs hn ⊢
      have ho := bor_step C X k hn
      have HS := Bx.mk hs; clear hs
      have HO := Bx.mk ho; clear ho
      obtain rfl | rfl | rfl | rfl : k = 0 ∨ k = 1 ∨ k = 2 ∨ k = 3 := by omega
      · simp only [Nat.add_zero] at hck
        have hb := u32_or_nat C X (by omega) (by omega)
        rw [show C ||| X = C + X by have := HO.out; simpa using this] at hb
        generalize hY : C + X = Y at hb
        have HY := Bx.mk hY; clear hY
        go_wp2
        go_round
        case rel => exact ⟨0 + 1, by omega, rfl, by rw [HS.out, ← HY.out]; first | done | go_num⟩
        case measure => simp [intOf]; omega
      · rw [add_succ] at hck
        have hb : bits .or .u32 (C : Int) ((X : Int) * 256) = ((C + 256 ^ 1 * X : Nat) : Int) := by
          have := u32_or_nat C (256 ^ 1 * X) (by omega) (by omega)
          rw [HO.out] at this
          rw [← this]
          congr 1; omega
        generalize hY : C + 256 ^ 1 * X = Y at hb
        have HY := Bx.mk hY; clear hY
        go_wp2
        go_round
        case rel => exact ⟨1 + 1, by omega, rfl, by rw [HS.out, ← HY.out]⟩
        case measure => simp [intOf]; omega
      · rw [add_succ] at hck
        have hb : bits .or .u32 (C : Int) ((X : Int) * 65536) = ((C + 256 ^ 2 * X : Nat) : Int) := by
          have := u32_or_nat C (256 ^ 2 * X) (by omega) (by omega)
          rw [HO.out] at this
          rw [← this]
          congr 1; omega
        generalize hY : C + 256 ^ 2 * X = Y at hb
        have HY := Bx.mk hY; clear hY
        go_wp2
        go_round
        case rel => exact ⟨2 + 1, by omega, rfl, by rw [HS.out, ← HY.out]⟩
        case measure => simp [intOf]; omega
      · rw [add_succ] at hck
        have hb : bits .or .u32 (C : Int) ((X : Int) * 16777216) = ((C + 256 ^ 3 * X : Nat) : Int) := by
          have := u32_or_nat C (256 ^ 3 * X) (by omega) (by omega)
          rw [HO.out] at this
          rw [← this]
          congr 1; omega
        generalize hY : C + 256 ^ 3 * X = Y at hb
        have HY := Bx.mk hY; clear hY
        go_wp2
        go_round
        case rel => exact ⟨3 + 1, by omega, rfl, by rw [HS.out, ← HY.out]⟩
        case measure => simp [intOf]; omega
    · have hk' : k = q := by omega
      subst hk'
      have hn := numAt_lt l p k h3 HB.out
      have h4 : 256 ^ k ≤ 4294967296 := Nat.le_trans (Nat.pow_le_pow_right (by decide) h2) (by decide)
      generalize hCC : numAt l p k = C at hn ⊢
      have hC : C < 4294967296 := Nat.lt_of_lt_of_le hn h4
      have HCC := Bx.mk hCC
      clear hn h4 hCC
      go_wp2
      go_ret2
      exact ⟨ret_pair HCC.out.symm, rfl⟩
def putN (l : List Nat) (p : Nat) : Nat → Nat → List Nat
  | 0, _ => l
  | k + 1, n => (putN l p k n).set (p + k) (n / 256 ^ k % 256)
theorem putN_length (l : List Nat) (p k n : Nat) : (putN l p k n).length = l.length := by
  induction k with
  | zero => rfl
  | succ k ih => simp only [putN, List.length_set, ih]
theorem putN_lt (l : List Nat) (p k n : Nat) (h : ∀ x ∈ l, x < 256) : ∀ x ∈ putN l p k n, x < 256 := by
  induction k with
  | zero => exact h
  | succ k ih => exact set_mem ih (Nat.mod_lt _ (by decide))
set_option maxHeartbeats 8000000 in
theorem bPut_yes (A : Option Addr) (l : List Nat) (c : Nat) (p q m : Nat) (w : World) (hl : RB w A l) (h1 : 1 ≤ q) (h2 : q ≤ 4) (h3 : p + q ≤ l.length) (hm : m < 256 ^ q) :
    Calls Tryd.prog 70 #[.slice A l.length c, .int .i64 p, .int .i64 q, .int .i64 m] w fun e w' => ∃ v, e = .returned (.tuple #[v, .int .i64 0]) ∧ OB w' w.heap.size v (putN l p q m) ∧ Below w.heap.size w w' := by
  have hlen := hl.2.1
  have HL := Bx.mk hl; clear hl
  have HF := Bx.mk (show Fits l.length p q from ⟨by omega, by omega, by omega, by omega, by omega⟩)
  have T := Bx.mk (there_yes A l.length c p q w hlen HF.out)
  have hm4 : m < 4294967296 := Nat.lt_of_lt_of_le hm (Nat.le_trans (Nat.pow_le_pow_right (by decide) h2) (by decide))
  have b0 : (m : Int) / 2 ^ (8 * q) = 0 := by
    have e : ((2 : Int) ^ (8 * q)) = ((256 ^ q : Nat) : Int) := by rw [Int.natCast_pow, Int.pow_mul]; rfl
    rw [e]
    exact Int.ediv_eq_zero_of_lt (by omega) (by omega)
  clear hm
  go_enter Tryd.func70, Tryd.ntmps70
  go_wp2_with fail
  refine T.out.mono ?_
  rintro e w1 ⟨rfl, rfl⟩
  go_wp2_with fail
  refine (Clone_calls A l c w HL.out).mono ?_
  rintro e w1 ⟨v, rfl, ho, hb⟩
  obtain ⟨A1, c1, rfl⟩ := ho.form
  obtain ⟨g, rfl, -, hbg, -, -, -⟩ := ho.opened (by omega)
  have HO : Bx (OB w1 w.heap.size (.slice (some ⟨g, 0, none⟩) l.length c1) (putN l p 0 m)) := ⟨ho⟩
  have HB := Bx.mk hb
  have HBG := Bx.mk hbg
  clear ho hb b0 hbg
  go_wp2
  go_loopw [31] (fun i wr => ∃ k, k ≤ q ∧ i = .int .i64 (k : Nat) ∧ Bx (OB wr w.heap.size (.slice (some ⟨g, 0, none⟩) l.length c1) (putN l p k m)) ∧ Bx (Below w.heap.size w wr)) (fun i _ => q - (intOf i).toNat)
  case atStart => exact ⟨0, Nat.zero_le _, rfl, HO, HB⟩
  case round =>
    obtain ⟨k, hk, rfl, HOk, HBk⟩ := hrel
    by_cases hlt : k < q
    · have hv : (m : Int) / 2 ^ (8 * k) % 256 = ((m / 256 ^ k % 256 : Nat) : Int) := by
        have e : ((2 : Int) ^ (8 * k)) = ((256 ^ k : Nat) : Int) := by rw [Int.natCast_pow, Int.pow_mul]; rfl
        rw [e]
        omega
      have hp := HOk.out.put (p + k) (m / 256 ^ k % 256)
      have hs : putN l p (k + 1) m = (putN l p k m).set (p + k) (m / 256 ^ k % 256) := rfl
      rw [← hs] at hp
      obtain ⟨g', hg', -, -, -, hcell, hfz⟩ := HOk.out.opened (by rw [putN_length]; omega)
      obtain rfl : g = g' := by injection hg' with h; injection h
      have hck := hcell (p + k) (by rw [putN_length]; omega)
      have hfk := hfz (p + k)
      generalize (putN l p k m).getD (p + k) 0 = T2 at hck
      generalize m / 256 ^ k % 256 = V at hv hp
      have HP := Bx.mk hp
      have hvw : IntKind.u8.wrap ((m : Int) / 2 ^ (8 * k)) = (V : Int) := by rw [IntKind.wrap_u8]; exact hv
      clear hcell hfz hp hs hg'
      go_wp2
      go_roundw
      case rel => exact ⟨k + 1, by omega, by go_num, HP, ⟨HBk.out.setCell HBG.out _⟩⟩
      case measure => simp [intOf]; omega
    · obtain rfl : k = q := by omega
      go_wp2
      go_ret2
      exact ⟨_, rfl, HOk.out, HBk.out⟩
theorem putN_getD (l : List Nat) (p m : Nat) : ∀ (k j : Nat), p + k ≤ l.length → (putN l p k m).getD j 0 = if p ≤ j ∧ j < p + k then m / 256 ^ (j - p) % 256 else l.getD j 0
  | 0, j, _ => by rw [if_neg (by omega)]; rfl
  | k + 1, j, h => by
    have ih := putN_getD l p m k j (by omega)
    simp only [putN]
    rw [List.getD_eq_getElem?_getD, List.getElem?_set]
    rw [putN_length]
    by_cases hj : p + k = j
    · rw [if_pos hj, if_pos (by omega), if_pos (by omega)]
      rw [show j - p = k by omega]; rfl
    · rw [if_neg hj, ← List.getD_eq_getElem?_getD, ih]
      by_cases h2 : p ≤ j ∧ j < p + k
      · rw [if_pos h2, if_pos (by omega)]
      · rw [if_neg h2, if_neg (by omega)]
theorem ext_getD {l m : List Nat} (h : l.length = m.length) (hg : ∀ j, j < l.length → l.getD j 0 = m.getD j 0) : l = m := by
  apply List.ext_getElem h
  intro i h1 h2
  have := hg i h1
  rwa [getD_getElem l i h1, getD_getElem m i h2] at this
end Go.Proofs.YtoekecopfmohiaaDoor
