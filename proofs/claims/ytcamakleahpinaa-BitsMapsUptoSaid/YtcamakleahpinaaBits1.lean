import Derived.Test.YtcamakleahpinaaBaseFn
import Derived.WalkSpells
/-
  The program's bits functions, first part: Clone, there, Get; the reference's place, Get.
-/
namespace Go.Proofs.Ytcamakleahpinaa
open Go.RowKit

theorem own_nil (w : World) (base : Nat) : OB w base (.slice none 0 0) [] := ⟨rfl, .inl ⟨rfl, rfl⟩⟩
theorem Clone_calls (A : Option Addr) (l : List Nat) (c : Nat) (w : World) (hl : RB w A l) :
    Calls Try.prog 30 #[.slice A l.length c] w fun e w' => ∃ v, e = .returned v ∧ OB w' w.heap.size v l ∧ Below w.heap.size w w' := by
  have hl1 := hl.2.1
  have HL := Bx.mk (hl.below (below_alloc1 w (.cells #[] 5)))
  have hx := fun W a n c => Lib.run_eql_slice_nil (P := Try.prog) W 22 5 a n c 0 0 Try.underlying22
  cases A with
  | none =>
    have h0 : l = [] := by
      rcases l with _ | ⟨x, l⟩
      · rfl
      · obtain ⟨ad, h, _⟩ := hl.2.2 (by simp)
        cases h
    subst h0
    clear hl hl1 HL
    go_enter Try.func30, Try.ntmps30
    go_wp2
    go_ret
    exact ⟨_, rfl, own_nil _ _, Below.refl _ _⟩
  | some ad =>
    clear hl
    go_enter Try.func30, Try.ntmps30
    go_wp2_with (at_builtin; refine wpList_append_bytes _ rfl _ _ rfl w.heap.size _ [] l rfl (own_empty w) (some ad) c rfl HL.out ?hl (by simp) ?_; (case hl => simp; omega); intro v' w' ho hg _)
    go_ret
    exact ⟨_, rfl, ho, (below_alloc1 w _).grown hg (by simp) (fun k hk => own_block (own_empty w) k hk)⟩

/-- a number's bytes stand within -/
def Fits (len : Nat) (a s : Int) : Prop := 1 ≤ s ∧ s ≤ 4 ∧ 0 ≤ a ∧ a ≤ len ∧ s ≤ len - a
theorem there_yes (A : Option Addr) (n c : Nat) (a s : Int) (w : World) (hn : n ≤ 140737488351232) (h : Fits n a s) :
    Calls Try.prog 28 #[.slice A n c, .int .i64 a, .int .i64 s] w fun e w' => e = .returned (.bool true) ∧ w = w' := by
  obtain ⟨h1, h2, h3, h4, h5⟩ := h
  go_enter Try.func28, Try.ntmps28
  go_wp2
  go_ret
  exact ⟨rfl, rfl⟩
theorem place_yes (A : Option Addr) (n c : Nat) (a s : Int) (w : World) (hn : n ≤ 140737488351232) (h : Fits n a s) :
    Calls Try.prog 29 #[.slice A n c, .int .i64 a, .int .i64 s] w fun e w' => e = .returned (.bool true) ∧ w = w' := by
  obtain ⟨h1, h2, h3, h4, h5⟩ := h
  go_enter Try.func29, Try.ntmps29
  go_wp2
  go_ret
  exact ⟨rfl, rfl⟩
theorem there_no (A : Option Addr) (n c : Nat) (a s : Int) (w : World) (h : ¬ Fits n a s) :
    Calls Try.prog 28 #[.slice A n c, .int .i64 a, .int .i64 s] w fun e w' => e = .returned (.bool false) ∧ w = w' := by
  unfold Fits at h
  by_cases h1 : 1 ≤ s
  · by_cases h2 : s ≤ 4
    · by_cases h3 : 0 ≤ a
      · by_cases h4 : a ≤ n
        · have h5 : (n : Int) - a < s := by omega
          clear h
          go_enter Try.func28, Try.ntmps28
          go_wp2
          go_ret
          exact ⟨ret_bool (decide_eq_false (by omega)), rfl⟩
        · clear h
          go_enter Try.func28, Try.ntmps28
          go_wp2
          go_ret
          exact ⟨rfl, rfl⟩
      · clear h
        go_enter Try.func28, Try.ntmps28
        go_wp2
        go_ret
        exact ⟨rfl, rfl⟩
    · clear h
      go_enter Try.func28, Try.ntmps28
      go_wp2
      go_ret
      exact ⟨rfl, rfl⟩
  · clear h
    go_enter Try.func28, Try.ntmps28
    go_wp2
    go_ret
    exact ⟨rfl, rfl⟩
theorem place_no (A : Option Addr) (n c : Nat) (a s : Int) (w : World) (h : ¬ Fits n a s) :
    Calls Try.prog 29 #[.slice A n c, .int .i64 a, .int .i64 s] w fun e w' => e = .returned (.bool false) ∧ w = w' := by
  unfold Fits at h
  by_cases h1 : 1 ≤ s
  · by_cases h2 : s ≤ 4
    · by_cases h3 : 0 ≤ a
      · by_cases h4 : a ≤ n
        · have h5 : (n : Int) - a < s := by omega
          clear h
          go_enter Try.func29, Try.ntmps29
          go_wp2
          go_ret
          exact ⟨ret_bool (decide_eq_false (by omega)), rfl⟩
        · clear h
          go_enter Try.func29, Try.ntmps29
          go_wp2
          go_ret
          exact ⟨rfl, rfl⟩
      · clear h
        go_enter Try.func29, Try.ntmps29
        go_wp2
        go_ret
        exact ⟨rfl, rfl⟩
    · clear h
      go_enter Try.func29, Try.ntmps29
      go_wp2
      go_ret
      exact ⟨rfl, rfl⟩
  · clear h
    go_enter Try.func29, Try.ntmps29
    go_wp2
    go_ret
    exact ⟨rfl, rfl⟩
theorem Fits.nat {n : Nat} {a s : Int} (h : Fits n a s) : ∃ p q : Nat, a = p ∧ s = q ∧ 1 ≤ q ∧ q ≤ 4 ∧ p + q ≤ n := by
  obtain ⟨h1, h2, h3, h4, h5⟩ := h
  exact ⟨a.toNat, s.toNat, by omega, by omega, by omega, by omega, by omega⟩

/-- a number of bytes, the lowest first -/
def leN : List Nat → Nat
  | [] => 0
  | x :: l => x + 256 * leN l
theorem leN_lt : ∀ (l : List Nat), (∀ x ∈ l, x < 256) → leN l < 256 ^ l.length
  | [], _ => by simp [leN]
  | x :: l, h => by
    have h1 := leN_lt l (fun y hy => h y (by simp [hy]))
    have h2 := h x (by simp)
    simp only [leN, List.length_cons, Nat.pow_succ]
    omega
theorem leN_append : ∀ (l m : List Nat), leN (l ++ m) = leN l + 256 ^ l.length * leN m
  | [], m => by simp [leN]
  | x :: l, m => by
    simp only [List.cons_append, leN, List.length_cons, leN_append l m, Nat.pow_succ]
    rw [Nat.mul_add, ← Nat.mul_assoc, Nat.mul_comm 256 (256 ^ l.length)]
    omega
def numAt (l : List Nat) (p q : Nat) : Nat := leN ((l.drop p).take q)
theorem numAt_succ (l : List Nat) (p q : Nat) (h : p + q < l.length) : numAt l p (q + 1) = numAt l p q + 256 ^ q * l.getD (p + q) 0 := by
  unfold numAt
  have h1 : q < (l.drop p).length := by rw [List.length_drop]; omega
  rw [List.take_succ_eq_append_getElem h1, leN_append]
  have : (List.take q (List.drop p l)).length = q := by rw [List.length_take]; omega
  rw [this, List.getElem_drop, getD_getElem l _ h]
  simp [leN]
theorem numAt_lt (l : List Nat) (p q : Nat) (h : p + q ≤ l.length) (hb : ∀ x ∈ l, x < 256) : numAt l p q < 256 ^ q := by
  have := leN_lt ((l.drop p).take q) (fun x hx => hb x (List.mem_of_mem_drop (List.mem_of_mem_take hx)))
  have e : ((l.drop p).take q).length = q := by rw [List.length_take, List.length_drop]; omega
  rw [e] at this
  exact this

set_option maxHeartbeats 1000000 in
theorem Get_no (A : Option Addr) (l : List Nat) (c : Nat) (a s : Int) (w : World) (h : ¬ Fits l.length a s) :
    Calls Try.prog 10 #[.slice A l.length c, .int .i64 a, .int .i64 s] w fun e w' => e = .returned (.tuple #[.int .i64 0, .int .i64 2]) ∧ w = w' := by
  have H := Bx.mk h; clear h
  go_enter Try.func10, Try.ntmps10
  go_wp2_with fail
  refine (there_no A l.length c a s w H.out).mono ?_
  rintro e w1 ⟨rfl, rfl⟩
  go_wp2
  go_ret2
  exact ⟨rfl, rfl⟩
set_option maxHeartbeats 1000000 in
theorem rGet_no (A : Option Addr) (l : List Nat) (c : Nat) (a s : Int) (w : World) (h : ¬ Fits l.length a s) :
    Calls Try.prog 11 #[.slice A l.length c, .int .i64 a, .int .i64 s] w fun e w' => e = .returned (.tuple #[.int .i64 0, .int .i64 2]) ∧ w = w' := by
  have H := Bx.mk h; clear h
  go_enter Try.func11, Try.ntmps11
  go_wp2_with fail
  refine (place_no A l.length c a s w H.out).mono ?_
  rintro e w1 ⟨rfl, rfl⟩
  go_wp2
  go_ret2
  exact ⟨rfl, rfl⟩

theorem or_step (C X k : Nat) (hC : C < 256 ^ k) : C ||| (256 ^ k * X) = C + 256 ^ k * X := by
  have := nat_join (8 * k) (256 ^ k * X) C (by rw [Nat.pow_mul]; exact Nat.mul_mod_right _ _) (by rw [Nat.pow_mul]; exact hC)
  rw [Nat.or_comm, this, Nat.add_comm]

set_option maxHeartbeats 4000000 in
theorem Get_yes (A : Option Addr) (l : List Nat) (c : Nat) (p q : Nat) (w : World) (hl : RB w A l) (h1 : 1 ≤ q) (h2 : q ≤ 4) (h3 : p + q ≤ l.length) :
    Calls Try.prog 10 #[.slice A l.length c, .int .i64 p, .int .i64 q] w fun e w' => e = .returned (.tuple #[.int .i64 ((numAt l p q : Nat) : Int), .int .i64 0]) ∧ w = w' := by
  obtain ⟨hb, hlen, hcell⟩ := hl
  have HF := Bx.mk (show Fits l.length p q from ⟨by omega, by omega, by omega, by omega, by omega⟩)
  obtain ⟨ad, rfl, hc⟩ := hcell (by omega)
  clear hcell
  go_enter Try.func10, Try.ntmps10
  go_wp2_with fail
  refine (there_yes _ l.length c p q w hlen HF.out).mono ?_
  rintro e w1 ⟨rfl, rfl⟩
  have HC := Bx.mk hc
  have HB := Bx.mk hb
  clear hc hb
  go_wp2
  go_loop [8, 16] (fun n i => ∃ k : Nat, k ≤ q ∧ i = .int .i64 k ∧ n = .int .u32 ((numAt l p k : Nat) : Int)) (fun _ i => q - (intOf i).toNat)
  case atStart => exact ⟨0, Nat.zero_le _, rfl, by simp [numAt, leN]⟩
  case round =>
    obtain ⟨k, hk, rfl, rfl⟩ := hrel
    by_cases hlt : k < q
    · have hs := numAt_succ l p k (by omega)
      have hn := numAt_lt l p k (by omega) HB.out
      have hX := mem_getD (show p + k < l.length by omega) HB.out
      have hck := HC.out (p + k) (by omega)
      generalize l.getD (p + k) 0 = X at hs hX hck
      generalize numAt l p k = C at hs hn ⊢
      have ho := or_step C X k hn
      have HS := Bx.mk hs; clear hs
      have HO := Bx.mk ho; clear ho
      obtain rfl | rfl | rfl | rfl : k = 0 ∨ k = 1 ∨ k = 2 ∨ k = 3 := by omega
      · simp only [Nat.add_zero] at hck
        have hb := u32_or_nat C X (by omega) (by omega)
        rw [show C ||| X = C + X by have := HO.out; simpa using this] at hb
        generalize hY : C + X = Y at hb
        have HY := Bx.mk hY; clear hY
        go_wp2
        go_round
        case rel => exact ⟨0 + 1, by omega, rfl, by rw [HS.out, ← HY.out]; first | done | go_num⟩
        case measure => simp [intOf]; omega
      · rw [add_succ] at hck
        have hb : bits .or .u32 (C : Int) ((X : Int) * 256) = ((C + 256 ^ 1 * X : Nat) : Int) := by
          have := u32_or_nat C (256 ^ 1 * X) (by omega) (by omega)
          rw [HO.out] at this
          rw [← this]
          congr 1; omega
        generalize hY : C + 256 ^ 1 * X = Y at hb
        have HY := Bx.mk hY; clear hY
        go_wp2
        go_round
        case rel => exact ⟨1 + 1, by omega, rfl, by rw [HS.out, ← HY.out]⟩
        case measure => simp [intOf]; omega
      · rw [add_succ] at hck
        have hb : bits .or .u32 (C : Int) ((X : Int) * 65536) = ((C + 256 ^ 2 * X : Nat) : Int) := by
          have := u32_or_nat C (256 ^ 2 * X) (by omega) (by omega)
          rw [HO.out] at this
          rw [← this]
          congr 1; omega
        generalize hY : C + 256 ^ 2 * X = Y at hb
        have HY := Bx.mk hY; clear hY
        go_wp2
        go_round
        case rel => exact ⟨2 + 1, by omega, rfl, by rw [HS.out, ← HY.out]⟩
        case measure => simp [intOf]; omega
      · rw [add_succ] at hck
        have hb : bits .or .u32 (C : Int) ((X : Int) * 16777216) = ((C + 256 ^ 3 * X : Nat) : Int) := by
          have := u32_or_nat C (256 ^ 3 * X) (by omega) (by omega)
          rw [HO.out] at this
          rw [← this]
          congr 1; omega
        generalize hY : C + 256 ^ 3 * X = Y at hb
        have HY := Bx.mk hY; clear hY
        go_wp2
        go_round
        case rel => exact ⟨3 + 1, by omega, rfl, by rw [HS.out, ← HY.out]⟩
        case measure => simp [intOf]; omega
    · have hk' : k = q := by omega
      subst hk'
      have hn := numAt_lt l p k h3 HB.out
      have h4 : 256 ^ k ≤ 4294967296 := Nat.le_trans (Nat.pow_le_pow_right (by decide) h2) (by decide)
      generalize hCC : numAt l p k = C at hn ⊢
      have hC : C < 4294967296 := Nat.lt_of_lt_of_le hn h4
      have HCC := Bx.mk hCC
      clear hn h4 hCC
      go_wp2
      go_ret2
      exact ⟨ret_pair HCC.out.symm, rfl⟩

set_option maxHeartbeats 4000000 in
theorem rGet_yes (A : Option Addr) (l : List Nat) (c : Nat) (p q : Nat) (w : World) (hl : RB w A l) (h1 : 1 ≤ q) (h2 : q ≤ 4) (h3 : p + q ≤ l.length) :
    Calls Try.prog 11 #[.slice A l.length c, .int .i64 p, .int .i64 q] w fun e w' => e = .returned (.tuple #[.int .i64 ((numAt l p q : Nat) : Int), .int .i64 0]) ∧ w = w' := by
  obtain ⟨hb, hlen, hcell⟩ := hl
  have HF := Bx.mk (show Fits l.length p q from ⟨by omega, by omega, by omega, by omega, by omega⟩)
  obtain ⟨ad, rfl, hc⟩ := hcell (by omega)
  clear hcell
  go_enter Try.func11, Try.ntmps11
  go_wp2_with fail
  refine (place_yes _ l.length c p q w hlen HF.out).mono ?_
  rintro e w1 ⟨rfl, rfl⟩
  have HC := Bx.mk hc
  have HB := Bx.mk hb
  clear hc hb
  go_wp2
  go_loop [8, 9] (fun n i => ∃ k : Nat, k ≤ q ∧ i = .int .i64 ((k : Int) - 1) ∧ n = .int .i64 ((numAt l (p + k) (q - k) : Nat) : Int)) (fun _ i => (intOf i + 1).toNat)
  case atStart => exact ⟨q, Nat.le_refl _, rfl, by rw [Nat.sub_self]; simp [numAt, leN]⟩
  case round =>
    obtain ⟨k, hk, rfl, rfl⟩ := hrel
    by_cases hlt : 0 < k
    · obtain ⟨j, rfl⟩ : ∃ j, k = j + 1 := ⟨k - 1, by omega⟩
      have hs : numAt l (p + j) (q - j) = l.getD (p + j) 0 + 256 * numAt l (p + (j + 1)) (q - (j + 1)) := by
        unfold numAt
        have h4 : p + j < l.length := by omega
        rw [show q - j = (q - (j + 1)) + 1 by omega, List.drop_eq_getElem_cons h4, List.take_succ_cons, getD_getElem l _ h4]
        rfl
      have hn := numAt_lt l (p + (j + 1)) (q - (j + 1)) (by omega) HB.out
      have h4 : 256 ^ (q - (j + 1)) ≤ 16777216 := Nat.le_trans (Nat.pow_le_pow_right (by decide) (show q - (j + 1) ≤ 3 by omega)) (by decide)
      have hX := mem_getD (show p + j < l.length by omega) HB.out
      have hck := HC.out (p + j) (by omega)
      generalize l.getD (p + j) 0 = X at hs hX hck
      generalize numAt l (p + (j + 1)) (q - (j + 1)) = C at hs hn ⊢
      have hC : C < 16777216 := Nat.lt_of_lt_of_le hn h4
      clear hn h4
      have HS := Bx.mk hs; clear hs
      have ej : ((j + 1 : Nat) : Int) - 1 = (j : Int) := by omega
      rw [ej]
      clear ej
      go_wp2
      go_round
      case rel => exact ⟨j, by omega, rfl, by rw [HS.out]; go_num⟩
      case measure => first | (simp [intOf]; done) | (simp [intOf]; omega)
    · obtain rfl : k = 0 := by omega
      go_wp2
      go_ret2
      exact ⟨rfl, rfl⟩
end Go.Proofs.Ytcamakleahpinaa
