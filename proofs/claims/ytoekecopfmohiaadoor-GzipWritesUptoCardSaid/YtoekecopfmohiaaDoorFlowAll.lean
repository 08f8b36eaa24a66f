import Derived.Test.YtoekecopfmohiaaDoorBaseAll
import Derived.StillTailTactics
import Derived.Deep.DeepCutAuto
import Derived.Deep.CutBlock
import Derived.WalkSpells
/-
  The reader and the writer of bits: what each call answers and leaves.
-/
namespace Go.Proofs.YtoekecopfmohiaaDoor
open Go.RowKit
theorem i64_and7 (n : Int) : bits .and .i64 n 7 = n % 8 := by
  have h7 : (BitVec.ofInt 64 7).toNat = 2 ^ 3 - 1 := by decide
  have key : (BitVec.ofInt 64 n &&& BitVec.ofInt 64 7).toNat = (n % ((2 ^ 64 : Nat) : Int)).toNat % 2 ^ 3 := by
    rw [BitVec.toNat_and, BitVec.toNat_ofInt, h7, Nat.and_two_pow_sub_one_eq_mod]
  show IntKind.i64.wrap ((BitVec.ofInt 64 n &&& BitVec.ofInt 64 7).toNat : Nat) = n % 8
  rw [key, IntKind.wrap_i64]
  omega
def lsum : List Nat → Nat
  | [] => 0
  | x :: r => x + 256 * lsum r
theorem lsum_lt : ∀ (l : List Nat), (∀ x ∈ l, x < 256) → lsum l < 256 ^ l.length
  | [], _ => by simp [lsum]
  | x :: r, h => by
    have h1 := h x (by simp)
    have h2 := lsum_lt r (fun y hy => h y (by simp [hy]))
    simp only [lsum, List.length_cons, Nat.pow_succ]
    omega
theorem lsum_drop : ∀ (k : Nat) (l : List Nat), (∀ x ∈ l, x < 256) → lsum l / 256 ^ k = lsum (l.drop k)
  | 0, l, _ => by simp
  | k + 1, [], _ => by simp [lsum]
  | k + 1, x :: r, h => by
    have h1 := h x (by simp)
    have h2 := lsum_drop k r (fun y hy => h y (by simp [hy]))
    rw [List.drop_succ_cons, ← h2, Nat.pow_succ, Nat.mul_comm, ← Nat.div_div_eq_div_mul]
    congr 1
    simp only [lsum]; omega
theorem lsum_get (l : List Nat) (k : Nat) (h : ∀ x ∈ l, x < 256) : lsum l / 256 ^ k % 256 = l.getD k 0 := by
  rw [lsum_drop k l h]
  cases hd : l.drop k with
  | nil =>
    have : l.length ≤ k := by simpa using hd
    rw [List.getD_eq_getElem?_getD, List.getElem?_eq_none this]; rfl
  | cons y r =>
    have hk : k < l.length := by
      rcases Nat.lt_or_ge k l.length with h1 | h1
      · exact h1
      · rw [List.drop_eq_nil_of_le h1] at hd; cases hd
    have e : l.getD k 0 = y := by
      have := List.getElem?_drop (xs := l) (i := k) (j := 0)
      rw [hd] at this
      rw [List.getD_eq_getElem?_getD]
      simp at this
      simp [← this]
    have hy : y < 256 := by
      rw [← e, List.getD_eq_getElem?_getD, List.getElem?_eq_getElem hk]
      exact h _ (List.getElem_mem hk)
    rw [e]; simp only [lsum]; omega
/-- the number of n bits from bit a on; noughts behind the end -/
def pkN (l : List Nat) (a n : Nat) : Nat := lsum l / 2 ^ a % 2 ^ n
theorem pkN_lt (l : List Nat) (a n : Nat) : pkN l a n < 2 ^ n := Nat.mod_lt _ (Nat.pow_pos (by decide))
/-- what stands in so many bytes from byte k on -/
def wideN (l : List Nat) (k i : Nat) : Nat := lsum l / 256 ^ k % 256 ^ i
theorem wideN_lt (l : List Nat) (k i : Nat) : wideN l k i < 256 ^ i := Nat.mod_lt _ (Nat.pow_pos (by decide))
theorem wideN_succ (l : List Nat) (k i : Nat) (h : ∀ x ∈ l, x < 256) : wideN l k (i + 1) = wideN l k i + 256 ^ i * l.getD (k + i) 0 := by
  unfold wideN
  rw [Nat.pow_succ, Nat.mod_mul, Nat.div_div_eq_div_mul, ← Nat.pow_add, lsum_get l (k + i) h]
theorem wideN_end (l : List Nat) (k i j : Nat) (h : ∀ x ∈ l, x < 256) (h1 : l.length ≤ k + i) (h2 : i ≤ j) : wideN l k j = wideN l k i := by
  unfold wideN
  have hd : lsum l / 256 ^ k < 256 ^ i := by
    rw [lsum_drop k l h]
    have := lsum_lt (l.drop k) (fun y hy => h y (List.mem_of_mem_drop hy))
    rw [List.length_drop] at this
    exact Nat.lt_of_lt_of_le this (Nat.pow_le_pow_right (by decide) (by omega))
  rw [Nat.mod_eq_of_lt hd, Nat.mod_eq_of_lt (Nat.lt_of_lt_of_le hd (Nat.pow_le_pow_right (by decide) h2))]
theorem pkN_wide (l : List Nat) (a n : Nat) (hn : n ≤ 24) : pkN l a n = wideN l (a / 8) 5 / 2 ^ (a % 8) % 2 ^ n := by
  unfold pkN wideN
  have e1 : (256 : Nat) ^ 5 = 2 ^ (a % 8) * 2 ^ (40 - a % 8) := by
    rw [← Nat.pow_add, show a % 8 + (40 - a % 8) = 40 by omega]
  have e2 : (2 : Nat) ^ a = 256 ^ (a / 8) * 2 ^ (a % 8) := by
    rw [show (256 : Nat) = 2 ^ 8 from rfl, ← Nat.pow_mul, ← Nat.pow_add, show 8 * (a / 8) + a % 8 = a by omega]
  have e3 : (2 : Nat) ^ (40 - a % 8) = 2 ^ n * 2 ^ (40 - a % 8 - n) := by rw [← Nat.pow_add, show n + (40 - a % 8 - n) = 40 - a % 8 by omega]
  rw [e2, ← Nat.div_div_eq_div_mul, e1, Nat.mod_mul_right_div_self, e3, Nat.mod_mul_right_mod]
theorem peek_val (C R n : Nat) (hC : C < 1099511627776) (hn : n ≤ 24) :
    wrap64 (bits BinOp.and IntKind.u64 ((C : Int) / 2 ^ R) (IntKind.u64.wrap (IntKind.u64.wrap (2 ^ n) - 1))) = ((C / 2 ^ R % 2 ^ n : Nat) : Int) := by
  have h2 : 2 ^ n ≤ 16777216 := Nat.le_trans (Nat.pow_le_pow_right (by decide) hn) (by decide)
  have h0 : 0 < 2 ^ n := Nat.pow_pos (by decide)
  have e0 : (2 : Int) ^ n = ((2 ^ n : Nat) : Int) := by rw [Int.natCast_pow]; rfl
  have e1 : (C : Int) / 2 ^ R = ((C / 2 ^ R : Nat) : Int) := by rw [show (2 : Int) ^ R = ((2 ^ R : Nat) : Int) by rw [Int.natCast_pow]; rfl]; rfl
  have hD : C / 2 ^ R ≤ C := Nat.div_le_self _ _
  have hm : C / 2 ^ R % 2 ^ n < 2 ^ n := Nat.mod_lt _ h0
  have ha := Nat.and_two_pow_sub_one_eq_mod (C / 2 ^ R) n
  rw [e0, e1]
  generalize C / 2 ^ R = D at *
  generalize 2 ^ n = M at *
  have e2 : IntKind.u64.wrap (M : Int) = (M : Int) := by rw [IntKind.wrap_u64]; omega
  have e3 : IntKind.u64.wrap ((M : Int) - 1) = ((M - 1 : Nat) : Int) := by rw [IntKind.wrap_u64]; omega
  rw [e2, e3, u64_and_nat D (M - 1) (by omega) (by omega), ha]
  unfold wrap64
  omega
theorem New_calls (A : Option Addr) (n c : Nat) (w : World) :
    Calls Tryd.prog 27 #[.slice A n c] w fun e w' => e = .returned (.pointer (some ⟨w.heap.size, 0, none⟩)) ∧ w' = w.alloc (.cells #[.slice A n c, .int .i64 0, .bool true] 75) := by
  go_enter Tryd.func27, Tryd.ntmps27
  go_wp2
  go_ret
  exact ⟨rfl, rfl⟩
theorem rIs_nil (w : World) : Calls Tryd.prog 59 #[.pointer none] w fun e w' => e = .returned (.bool false) ∧ w = w' := by
  go_enter Tryd.func59, Tryd.ntmps59
  go_wp2
  go_ret
  exact ⟨rfl, rfl⟩
theorem rIs_calls (g : Nat) (v u : Value) (m : Bool) (w : World) (h : Blk w g 75 #[v, u, .bool m]) :
    Calls Tryd.prog 59 #[.pointer (some ⟨g, 0, none⟩)] w fun e w' => e = .returned (.bool m) ∧ w = w' := by
  have h2 : w.cell? ⟨g, 2, none⟩ = some (.bool m) := h.cell 2
  have H := Bx.mk h
  clear h
  go_enter Tryd.func59, Tryd.ntmps59
  go_wp2
  go_ret
  exact ⟨rfl, rfl⟩
theorem rAt_calls (g : Nat) (v : Value) (a : Nat) (w : World) (h : Blk w g 75 #[v, .int .i64 a, .bool true]) :
    Calls Tryd.prog 29 #[.pointer (some ⟨g, 0, none⟩)] w fun e w' => e = .returned (.int .i64 a) ∧ w = w' := by
  have h1 : w.cell? ⟨g, 1, none⟩ = some (.int .i64 a) := h.cell 1
  have H := Bx.mk (rIs_calls g _ _ true w h)
  clear h
  go_enter Tryd.func29, Tryd.ntmps29
  go_wp2_with fail
  refine H.out.mono ?_
  rintro e w1 ⟨rfl, rfl⟩
  go_wp2
  go_ret
  exact ⟨rfl, rfl⟩
theorem rLeft_calls (g : Nat) (A : Option Addr) (n c : Nat) (a : Nat) (w : World) (h : Blk w g 75 #[.slice A n c, .int .i64 a, .bool true]) (hn : n ≤ 140737492549632) (ha : a ≤ 8 * n) :
    Calls Tryd.prog 106 #[.pointer (some ⟨g, 0, none⟩)] w fun e w' => e = .returned (.int .i64 ((8 * n - a : Nat) : Int)) ∧ ∃ k, w' = w.drewN k := by
  have h1 : w.cell? ⟨g, 1, none⟩ = some (.int .i64 a) := h.cell 1
  have h0 : w.cell? ⟨g, 0, none⟩ = some (.slice A n c) := h.cell 0
  have H := Bx.mk (rIs_calls g _ _ true w h)
  clear h
  go_enter Tryd.func106, Tryd.ntmps106
  go_wp2_with fail
  refine H.out.mono ?_
  rintro e w1 ⟨rfl, rfl⟩
  go_wp2
  go_quiet (fail)
  go_wp2
  go_ret
  exact ⟨ret_int (by omega), _, rfl⟩
theorem or_step (C X k : Nat) (hC : C < 256 ^ k) : C ||| (256 ^ k * X) = C + 256 ^ k * X := by
  have := nat_join (8 * k) (256 ^ k * X) C (by rw [Nat.pow_mul]; exact Nat.mul_mod_right _ _) (by rw [Nat.pow_mul]; exact hC)
  rw [Nat.or_comm, this, Nat.add_comm]
set_option maxHeartbeats 2000000 in
theorem rPeek_yes (g : Nat) (A : Option Addr) (l : List Nat) (c a n : Nat) (w : World) (h : Blk w g 75 #[.slice A l.length c, .int .i64 a, .bool true]) (hl : RB w A l) (ha : a ≤ 8 * l.length) (hn : n ≤ 24) :
    Calls Tryd.prog 101 #[.pointer (some ⟨g, 0, none⟩), .int .i64 n] w fun e w' => e = .returned (.int .i64 ((pkN l a n : Nat) : Int)) ∧ ∃ k, w' = w.drewN k := by
  have h1 : w.cell? ⟨g, 1, none⟩ = some (.int .i64 a) := h.cell 1
  have h0 : w.cell? ⟨g, 0, none⟩ = some (.slice A l.length c) := h.cell 0
  have H := Bx.mk (rIs_calls g _ _ true w h)
  have hlen := hl.2.1
  have HL := Bx.mk hl
  clear h hl
  go_enter Tryd.func101, Tryd.ntmps101
  go_wp2_with fail
  refine H.out.mono ?_
  rintro e w1 ⟨rfl, rfl⟩
  go_wp2
  go_quiet (fail)
  go_wp2
  obtain ⟨K, hK⟩ : ∃ K, K = a / 8 := ⟨_, rfl⟩
  have HK := Bx.mk hK
  have HE := Bx.mk (pkN_wide l a n hn)
  have hKl : K ≤ l.length := by omega
  go_loopw [5, 6, 7] (fun v i k wr => ∃ j q : Nat, j ≤ 5 ∧ i = .int .i64 (j : Nat) ∧ k = .int .i64 ((K + j : Nat) : Int) ∧ v = .int .u64 ((wideN l K j : Nat) : Int) ∧ wr = w.drewN q) (fun _ i _ _ => 5 - (intOf i).toNat)
  case atStart => exact ⟨0, nq, by omega, rfl, by congr 1; omega, by simp [wideN, Nat.mod_one], rfl⟩
  case round =>
    obtain ⟨j, q, hj, rfl, rfl, rfl, rfl⟩ := hrel
    clear hK
    by_cases hlt : j < 5 ∧ K + j < l.length
    · have hlt1 := hlt.1
      have hlt2 := hlt.2
      clear hlt
      obtain ⟨ad, rfl, hd⟩ := HL.out.2.2 (by omega)
      have hck := hd (K + j) hlt2
      have hX := mem_getD hlt2 HL.out.1
      have hs := wideN_succ l K j HL.out.1
      have hw := wideN_lt l K j
      clear hd
      generalize l.getD (K + j) 0 = X at hck hX hs
      generalize wideN l K j = C at hs hw ⊢
      have ho := or_step C X j hw
      have HS := Bx.mk hs; clear hs
      have HO := Bx.mk ho; clear ho
      obtain rfl | rfl | rfl | rfl | rfl : j = 0 ∨ j = 1 ∨ j = 2 ∨ j = 3 ∨ j = 4 := by omega
      · simp only [Nat.add_zero] at hck hlt2
        have hb := u64_or_nat C X (by omega) (by omega)
        rw [show C ||| X = C + X by have := HO.out; simpa using this] at hb
        generalize hY : C + X = Y at hb
        have HY := Bx.mk hY; clear hY
        go_wp2
        go_roundw
        case rel => exact ⟨0 + 1, q, by omega, rfl, (by first | (congr 1; done) | (congr 1; omega)), by rw [HS.out, ← HY.out]; first | done | go_num, rfl⟩
        case measure => first | (simp [intOf]; done) | (simp [intOf]; omega)
      · rw [add_succ] at hck
        have hb : bits .or .u64 (C : Int) ((X : Int) * 256) = ((C + 256 ^ 1 * X : Nat) : Int) := by
          have := u64_or_nat C (256 ^ 1 * X) (by omega) (by omega)
          rw [HO.out] at this
          rw [← this]
          congr 1; omega
        generalize hY : C + 256 ^ 1 * X = Y at hb
        have HY := Bx.mk hY; clear hY
        go_wp2
        go_roundw
        case rel => exact ⟨1 + 1, q, by omega, rfl, (by first | (congr 1; done) | (congr 1; omega)), by rw [HS.out, ← HY.out], rfl⟩
        case measure => first | (simp [intOf]; done) | (simp [intOf]; omega)
      · rw [add_succ] at hck
        have hb : bits .or .u64 (C : Int) ((X : Int) * 65536) = ((C + 256 ^ 2 * X : Nat) : Int) := by
          have := u64_or_nat C (256 ^ 2 * X) (by omega) (by omega)
          rw [HO.out] at this
          rw [← this]
          congr 1; omega
        generalize hY : C + 256 ^ 2 * X = Y at hb
        have HY := Bx.mk hY; clear hY
        go_wp2
        go_roundw
        case rel => exact ⟨2 + 1, q, by omega, rfl, (by first | (congr 1; done) | (congr 1; omega)), by rw [HS.out, ← HY.out], rfl⟩
        case measure => first | (simp [intOf]; done) | (simp [intOf]; omega)
      · rw [add_succ] at hck
        have hb : bits .or .u64 (C : Int) ((X : Int) * 16777216) = ((C + 256 ^ 3 * X : Nat) : Int) := by
          have := u64_or_nat C (256 ^ 3 * X) (by omega) (by omega)
          rw [HO.out] at this
          rw [← this]
          congr 1; omega
        generalize hY : C + 256 ^ 3 * X = Y at hb
        have HY := Bx.mk hY; clear hY
        go_wp2
        go_roundw
        case rel => exact ⟨3 + 1, q, by omega, rfl, (by first | (congr 1; done) | (congr 1; omega)), by rw [HS.out, ← HY.out], rfl⟩
        case measure => first | (simp [intOf]; done) | (simp [intOf]; omega)
      · rw [add_succ] at hck
        have hb : bits .or .u64 (C : Int) ((X : Int) * 4294967296) = ((C + 256 ^ 4 * X : Nat) : Int) := by
          have := u64_or_nat C (256 ^ 4 * X) (by omega) (by omega)
          rw [HO.out] at this
          rw [← this]
          congr 1; omega
        generalize hY : C + 256 ^ 4 * X = Y at hb
        have HY := Bx.mk hY; clear hY
        go_wp2
        go_roundw
        case rel => exact ⟨4 + 1, q, by omega, rfl, (by first | (congr 1; done) | (congr 1; omega)), by rw [HS.out, ← HY.out], rfl⟩
        case measure => first | (simp [intOf]; done) | (simp [intOf]; omega)
    · have hend : wideN l K 5 = wideN l K j := by
        rcases Nat.lt_or_ge j 5 with h | h
        · exact wideN_end l K j 5 HL.out.1 (by omega) hj
        · rw [show j = 5 by omega]
      have hC : wideN l K j < 1099511627776 := by rw [← hend]; exact wideN_lt l K 5
      have HE2 : Bx (pkN l a n = wideN l K j / 2 ^ (a % 8) % 2 ^ n) := ⟨by rw [HE.out, ← HK.out, hend]⟩
      clear hend HE
      generalize wideN l K j = C at HE2 hC ⊢
      have hand := i64_and7 (a : Int)
      rw [show (a : Int) % 8 = ((a % 8 : Nat) : Int) by omega] at hand
      have hR : a % 8 < 8 := Nat.mod_lt _ (by decide)
      generalize a % 8 = R at hand hR HE2
      rcases Nat.lt_or_ge j 5 with h5 | h5
      · have h6 : ¬ (K + j < l.length) := by omega
        clear hlt
        go_wp2
        go_quiet (fail)
        go_wp2
        go_ret
        exact ⟨ret_int (by rw [HE2.out]; exact peek_val C R n hC hn), _, World.drewN_drewN ..⟩
      · obtain rfl : j = 5 := by omega
        clear hlt
        go_wp2
        go_quiet (fail)
        go_wp2
        go_ret
        exact ⟨ret_int (by rw [HE2.out]; exact peek_val C R n hC hn), _, World.drewN_drewN ..⟩
/-- only block g may be another -/
structure Only (g : Nat) (w w' : World) : Prop where
  below : ∀ B, B ≤ g → B ≤ w.heap.size → Below B w w'
  size : w'.heap.size = w.heap.size
  keep : ∀ q, q ≠ g → w'.heap[q]? = w.heap[q]?
theorem Only.refl (g : Nat) (w : World) : Only g w w := ⟨fun B _ _ => Below.refl B w, rfl, fun _ _ => rfl⟩
theorem Only.drewN (g : Nat) (w : World) (k : Nat) : Only g w (w.drewN k) := ⟨fun B _ _ => below_drewN (Below.refl B w) k, rfl, fun _ _ => rfl⟩
theorem Only.trans {g : Nat} {w w1 w2 : World} (h : Only g w w1) (h' : Only g w1 w2) : Only g w w2 :=
  ⟨fun B h1 h2 => (h.below B h1 h2).trans (h'.below B h1 (by rw [h.size]; exact h2)), h'.size.trans h.size, fun q hq => (h'.keep q hq).trans (h.keep q hq)⟩
theorem Only.set (g i : Nat) (u : Value) (w : World) : Only g w (w.setCell ⟨g, i, none⟩ u) :=
  ⟨fun B h1 _ => (Below.refl B w).setCell (p := ⟨g, i, none⟩) h1 u, by simp [World.setCell], fun q hq => Below.heap_setCell w ⟨g, i, none⟩ u q hq⟩
theorem Blk.only {w w' : World} {g q : Nat} {t : TypeId} {cs : Array Value} (h : Blk w q t cs) (ho : Only g w w') (hq : q ≠ g) : Blk w' q t cs := (ho.keep q hq).trans h
def skipE (len a : Nat) (n : Int) : Nat := if n < 0 ∨ 24 < n then 2 else if (8 * len : Int) < a + n then 7 else 0
theorem skipE_arg {len a : Nat} {n : Int} (h : n < 0 ∨ 24 < n) : skipE len a n = 2 := if_pos h
theorem skipE_short {len a : Nat} {n : Int} (h : ¬ (n < 0 ∨ 24 < n)) (h2 : (8 * len : Int) < a + n) : skipE len a n = 7 := by unfold skipE; rw [if_neg h, if_pos h2]
theorem skipE_ok {len a : Nat} {n : Int} (h : ¬ (n < 0 ∨ 24 < n)) (h2 : ¬ (8 * len : Int) < a + n) : skipE len a n = 0 := by unfold skipE; rw [if_neg h, if_neg h2]
theorem rPeek_arg (g : Nat) (v u : Value) (n : Int) (w : World) (h : Blk w g 75 #[v, u, .bool true]) (hn : n < 0 ∨ 24 < n) :
    Calls Tryd.prog 101 #[.pointer (some ⟨g, 0, none⟩), .int .i64 n] w fun e w' => e = .returned (.int .i64 0) ∧ w = w' := by
  have H := Bx.mk (rIs_calls g _ _ true w h)
  clear h
  by_cases h0 : n < 0
  · clear hn
    go_enter Tryd.func101, Tryd.ntmps101
    go_wp2_with fail
    refine H.out.mono ?_
    rintro e w1 ⟨rfl, rfl⟩
    go_wp2
    go_ret
    exact ⟨rfl, rfl⟩
  · have h1 : 24 < n := by omega
    clear hn
    go_enter Tryd.func101, Tryd.ntmps101
    go_wp2_with fail
    refine H.out.mono ?_
    rintro e w1 ⟨rfl, rfl⟩
    go_wp2
    go_ret
    exact ⟨rfl, rfl⟩
theorem rSkip_calls (g : Nat) (A : Option Addr) (len c a : Nat) (n : Int) (w : World) (h : Blk w g 75 #[.slice A len c, .int .i64 a, .bool true]) (hlen : len ≤ 140737492549632) (ha : a ≤ 8 * len) :
    Calls Tryd.prog 102 #[.pointer (some ⟨g, 0, none⟩), .int .i64 n] w fun e w' =>
      e = .returned (.int .i64 (skipE len a n)) ∧ Blk w' g 75 #[.slice A len c, .int .i64 ((if skipE len a n = 0 then a + n.toNat else a : Nat) : Int), .bool true] ∧ Only g w w' := by
  have H := Bx.mk (rIs_calls g _ _ true w h)
  have L := Bx.mk (rLeft_calls g A len c a w h hlen ha)
  have HB := Bx.mk h
  by_cases hn : n < 0 ∨ 24 < n
  · have E := Bx.mk (skipE_arg (len := len) (a := a) hn)
    rw [E.out]
    clear h
    by_cases h0 : n < 0
    · clear hn
      go_enter Tryd.func102, Tryd.ntmps102
      go_wp2_with fail
      refine H.out.mono ?_
      rintro e w1 ⟨rfl, rfl⟩
      go_wp2
      go_ret
      exact ⟨rfl, HB.out, Only.refl _ _⟩
    · have h1 : 24 < n := by omega
      clear hn
      go_enter Tryd.func102, Tryd.ntmps102
      go_wp2_with fail
      refine H.out.mono ?_
      rintro e w1 ⟨rfl, rfl⟩
      go_wp2
      go_ret
      exact ⟨rfl, HB.out, Only.refl _ _⟩
  · obtain ⟨m, rfl⟩ := Int.eq_ofNat_of_zero_le (show 0 ≤ n by omega)
    have hm : m ≤ 24 := by omega
    by_cases hs : (8 * len : Int) < a + m
    · have E := Bx.mk (skipE_short hn hs)
      rw [E.out]
      have hs' : ((8 * len - a : Nat) : Int) < m := by omega
      generalize 8 * len - a = D at L hs'
      clear h hn hs
      go_enter Tryd.func102, Tryd.ntmps102
      go_wp2_with fail
      refine H.out.mono ?_
      rintro e w1 ⟨rfl, rfl⟩
      go_wp2_with fail
      refine L.out.mono ?_
      rintro e w1 ⟨rfl, k, hw⟩
      have HO : Bx (Only g w w1) := ⟨by rw [hw]; exact Only.drewN g w k⟩
      have HB1 : Bx (Blk w1 g 75 #[.slice A len c, .int .i64 a, .bool true]) := ⟨by rw [hw]; exact HB.out⟩
      clear hw
      go_wp2
      go_ret
      exact ⟨rfl, HB1.out, HO.out⟩
    · have E := Bx.mk (skipE_ok hn hs)
      rw [E.out]
      have hs' : ¬ (((8 * len - a : Nat) : Int) < m) := by omega
      have hsum : a + m ≤ 1125899940397056 := by omega
      generalize 8 * len - a = D at L hs'
      clear h hn hs
      go_enter Tryd.func102, Tryd.ntmps102
      go_wp2_with fail
      refine H.out.mono ?_
      rintro e w1 ⟨rfl, rfl⟩
      go_wp2_with fail
      refine L.out.mono ?_
      rintro e w1 ⟨rfl, k, hw⟩
      have HO : Bx (Only g w w1) := ⟨by rw [hw]; exact Only.drewN g w k⟩
      have hb1 : Blk w1 g 75 #[.slice A len c, .int .i64 a, .bool true] := by rw [hw]; exact HB.out
      have h1 : w1.cell? ⟨g, 1, none⟩ = some (.int .i64 a) := hb1.cell 1
      have hf := hb1.frozen 1
      have HP := Bx.mk (hb1.set_ 1 (.int .i64 ((a + m : Nat) : Int)))
      have HQ := Bx.mk (HO.out.trans (Only.set g 1 (.int .i64 ((a + m : Nat) : Int)) w1))
      clear hw hb1
      go_wp2
      go_ret
      exact ⟨rfl, HP.out, HQ.out⟩
theorem rTake_calls (g : Nat) (A : Option Addr) (l : List Nat) (c a : Nat) (n : Int) (w : World) (h : Blk w g 75 #[.slice A l.length c, .int .i64 a, .bool true]) (hl : RB w A l) (ha : a ≤ 8 * l.length) :
    Calls Tryd.prog 80 #[.pointer (some ⟨g, 0, none⟩), .int .i64 n] w fun e w' =>
      e = .returned (.tuple #[.int .i64 ((if skipE l.length a n = 0 then pkN l a n.toNat else 0 : Nat) : Int), .int .i64 (skipE l.length a n)]) ∧
      Blk w' g 75 #[.slice A l.length c, .int .i64 ((if skipE l.length a n = 0 then a + n.toNat else a : Nat) : Int), .bool true] ∧ Only g w w' := by
  have hlen := hl.2.1
  have HP : Bx (∃ V : Nat, (skipE l.length a n = 0 → V = pkN l a n.toNat) ∧ Calls Tryd.prog 101 #[.pointer (some ⟨g, 0, none⟩), .int .i64 n] w fun e w' => e = .returned (.int .i64 (V : Int)) ∧ ∃ k, w' = w.drewN k) := ⟨by
    by_cases hn : n < 0 ∨ 24 < n
    · exact ⟨0, fun h0 => (by rw [skipE_arg hn] at h0; cases h0), (rPeek_arg g _ _ n w h hn).mono fun e w' ⟨h1, h2⟩ => ⟨h1, 0, h2.symm⟩⟩
    · obtain ⟨m, rfl⟩ := Int.eq_ofNat_of_zero_le (show 0 ≤ n by omega)
      exact ⟨_, fun _ => rfl, rPeek_yes g A l c a m w h hl ha (by omega)⟩⟩
  obtain ⟨V, hV, hP⟩ := HP.out
  have P := Bx.mk hP
  have HV := Bx.mk hV
  have S := Bx.mk fun w1 h1 => rSkip_calls g A l.length c a n w1 h1 hlen ha
  have HB := Bx.mk h
  clear hP hV HP h hl
  generalize skipE l.length a n = E at HV S ⊢
  by_cases hE : E = 0
  · subst hE
    rw [if_pos rfl, if_pos rfl]
    have hv := HV.out rfl
    have S2 : Bx (∀ w1, Blk w1 g 75 #[.slice A l.length c, .int .i64 a, .bool true] → Calls Tryd.prog 102 #[.pointer (some ⟨g, 0, none⟩), .int .i64 n] w1 fun e w' => e = .returned (.int .i64 0) ∧ Blk w' g 75 #[.slice A l.length c, .int .i64 ((a + n.toNat : Nat) : Int), .bool true] ∧ Only g w1 w') := ⟨fun w1 h1 => S.out w1 h1⟩
    rw [← hv]
    clear hv HV S
    generalize a + n.toNat = T at S2 ⊢
    go_enter Tryd.func80, Tryd.ntmps80
    go_wp2_with fail
    refine P.out.mono ?_
    rintro e w1 ⟨rfl, k, hw⟩
    have HO : Bx (Only g w w1) := ⟨by rw [hw]; exact Only.drewN g w k⟩
    have HB1 : Bx (Blk w1 g 75 #[.slice A l.length c, .int .i64 a, .bool true]) := ⟨by rw [hw]; exact HB.out⟩
    clear hw
    go_wp2_with fail
    refine (S2.out w1 HB1.out).mono ?_
    rintro e w2 ⟨rfl, hb2, ho2⟩
    have HB2 := Bx.mk hb2
    have HO2 := Bx.mk (HO.out.trans ho2)
    clear hb2 ho2
    go_wp2
    go_ret2
    exact ⟨rfl, HB2.out, HO2.out⟩
  · rw [if_neg hE, if_neg hE]
    have S2 : Bx (∀ w1, Blk w1 g 75 #[.slice A l.length c, .int .i64 a, .bool true] → Calls Tryd.prog 102 #[.pointer (some ⟨g, 0, none⟩), .int .i64 n] w1 fun e w' => e = .returned (.int .i64 (E : Int)) ∧ Blk w' g 75 #[.slice A l.length c, .int .i64 (a : Int), .bool true] ∧ Only g w1 w') := ⟨fun w1 h1 => by have := S.out w1 h1; rw [if_neg hE] at this; exact this⟩
    have hne : ((E : Int) == 0) = false := beq_false_of_ne (by omega)
    clear HV S hE
    go_enter Tryd.func80, Tryd.ntmps80
    go_wp2_with fail
    refine P.out.mono ?_
    rintro e w1 ⟨rfl, k, hw⟩
    have HO : Bx (Only g w w1) := ⟨by rw [hw]; exact Only.drewN g w k⟩
    have HB1 : Bx (Blk w1 g 75 #[.slice A l.length c, .int .i64 a, .bool true]) := ⟨by rw [hw]; exact HB.out⟩
    clear hw
    go_wp2_with fail
    refine (S2.out w1 HB1.out).mono ?_
    rintro e w2 ⟨rfl, hb2, ho2⟩
    have HB2 := Bx.mk hb2
    have HO2 := Bx.mk (HO.out.trans ho2)
    clear hb2 ho2
    go_wp2
    go_ret2
    exact ⟨rfl, HB2.out, HO2.out⟩
theorem lsum_append (l m : List Nat) : lsum (l ++ m) = lsum l + 256 ^ l.length * lsum m := by
  induction l with
  | nil => simp [lsum]
  | cons x r ih => simp only [List.cons_append, lsum, ih, List.length_cons, Nat.pow_succ, Nat.mul_add]; rw [← Nat.mul_assoc, Nat.mul_comm 256 (256 ^ r.length)]; omega
theorem lsum_set : ∀ (l : List Nat) (i d : Nat), i < l.length → lsum (l.set i (l.getD i 0 + d)) = lsum l + 256 ^ i * d
  | [], i, d, h => by simp at h
  | x :: r, 0, d, _ => by simp [lsum]; omega
  | x :: r, i + 1, d, h => by
    have ih := lsum_set r i d (by simpa using h)
    have e : (x :: r).getD (i + 1) 0 = r.getD i 0 := by simp [List.getD_eq_getElem?_getD]
    rw [e, List.set_cons_succ]
    simp only [lsum]
    rw [ih, Nat.pow_succ, Nat.mul_add, ← Nat.mul_assoc, Nat.mul_comm 256 (256 ^ i)]
    omega
/-- bytes of length (at + 7) / 8 whose number is N, below 2 ^ at -/
structure Bts (l : List Nat) (N a : Nat) : Prop where
  byte : ∀ x ∈ l, x < 256
  len : l.length = (a + 7) / 8
  sum : lsum l = N
  small : N < 2 ^ a
theorem pow_at (a : Nat) : 2 ^ a = 256 ^ (a / 8) * 2 ^ (a % 8) := by
  rw [show (256 : Nat) = 2 ^ 8 from rfl, ← Nat.pow_mul, ← Nat.pow_add, show 8 * (a / 8) + a % 8 = a by omega]
theorem Bts.nil : Bts [] 0 0 := ⟨by simp, rfl, rfl, by decide⟩
theorem Bts.grow {l : List Nat} {N a : Nat} (h : Bts l N a) (h8 : a % 8 = 0) (on : Nat) (ho : on ≤ 1) : Bts (l ++ [on]) (N + on * 2 ^ a) (a + 1) := by
  have hl : l.length = a / 8 := by have := h.len; omega
  refine ⟨?_, ?_, ?_, ?_⟩
  · intro x hx
    rcases List.mem_append.1 hx with h1 | h1
    · exact h.byte x h1
    · have : x = on := by simpa using h1
      omega
  · rw [List.length_append, List.length_singleton]; omega
  · rw [lsum_append, h.sum, pow_at a, h8, hl]
    simp [lsum, Nat.mul_comm]
  · have := h.small
    have : on * 2 ^ a ≤ 1 * 2 ^ a := Nat.mul_le_mul_right _ ho
    rw [Nat.pow_succ]; omega
theorem Bts.last {l : List Nat} {N a : Nat} (h : Bts l N a) (h8 : a % 8 ≠ 0) : a / 8 < l.length ∧ l.getD (a / 8) 0 < 2 ^ (a % 8) := by
  have hl := h.len
  refine ⟨by omega, ?_⟩
  rw [← lsum_get l _ h.byte, h.sum]
  have h1 : N / 256 ^ (a / 8) < 2 ^ (a % 8) := by
    rw [Nat.div_lt_iff_lt_mul (Nat.pow_pos (by decide)), Nat.mul_comm, ← pow_at]
    exact h.small
  exact Nat.lt_of_le_of_lt (Nat.mod_le _ _) h1
theorem Bts.put {l : List Nat} {N a : Nat} (h : Bts l N a) (h8 : a % 8 ≠ 0) (on : Nat) (ho : on ≤ 1) : Bts (l.set (a / 8) (l.getD (a / 8) 0 + on * 2 ^ (a % 8))) (N + on * 2 ^ a) (a + 1) := by
  have hl := h.len
  obtain ⟨h1, h2⟩ := h.last h8
  have hp : 2 ^ (a % 8) ≤ 128 := Nat.le_trans (Nat.pow_le_pow_right (by decide) (show a % 8 ≤ 7 by omega)) (by decide)
  have hq : on * 2 ^ (a % 8) ≤ 1 * 2 ^ (a % 8) := Nat.mul_le_mul_right _ ho
  refine ⟨?_, ?_, ?_, ?_⟩
  · intro x hx
    rcases List.mem_or_eq_of_mem_set hx with h3 | h3
    · exact h.byte x h3
    · omega
  · rw [List.length_set]; omega
  · rw [lsum_set l _ _ h1, h.sum, pow_at a]
    rw [← Nat.mul_assoc, ← Nat.mul_assoc, Nat.mul_comm on]
  · have := h.small
    have : on * 2 ^ a ≤ 1 * 2 ^ a := Nat.mul_le_mul_right _ ho
    rw [Nat.pow_succ]; omega
/-- a writer at block g: the value of its bytes, the number that they hold, and how many bits it is -/
structure Wr (w : World) (g : Nat) (v : Value) (N a : Nat) : Prop where
  blk : Blk w g 93 #[v, .int .i64 (a : Int), .bool true]
  own : ∃ l, Bts l N a ∧ OB w (g + 1) v l
/-- what a call of the writer may change -/
structure WStep (g : Nat) (v : Value) (w : World) (v' : Value) (w' : World) : Prop where
  below : ∀ B, B ≤ g → B ≤ w.heap.size → Below B w w'
  size : w.heap.size ≤ w'.heap.size
  keep : ∀ q, q < w.heap.size → q ≠ g → v.ownBlock ≠ some q → w'.heap[q]? = w.heap[q]?
  own : ∀ q, v'.ownBlock = some q → v.ownBlock = some q ∨ w.heap.size ≤ q
theorem WStep.refl (g : Nat) (v : Value) (w : World) : WStep g v w v w := ⟨fun B _ _ => Below.refl B w, Nat.le_refl _, fun _ _ _ _ => rfl, fun _ h => .inl h⟩
theorem WStep.trans {g : Nat} {v v1 v2 : Value} {w w1 w2 : World} (h : WStep g v w v1 w1) (h' : WStep g v1 w1 v2 w2) : WStep g v w v2 w2 :=
  ⟨fun B h1 h2 => (h.below B h1 h2).trans (h'.below B h1 (Nat.le_trans h2 h.size)), Nat.le_trans h.size h'.size,
   fun q hq hg ho => (h'.keep q (Nat.lt_of_lt_of_le hq h.size) hg (fun hc => (h.own q hc).elim ho (fun h2 => by omega))).trans (h.keep q hq hg ho),
   fun q hq => (h'.own q hq).elim (h.own q) (fun h2 => .inr (Nat.le_trans h.size h2))⟩
theorem WStep.only {g : Nat} {v : Value} {w w' : World} (h : Only g w w') : WStep g v w v w' := ⟨h.below, Nat.le_of_eq h.size.symm, fun q _ hg _ => h.keep q hg, fun _ h => .inl h⟩
theorem WStep.setOwn {g q i : Nat} {v : Value} {w : World} (hv : v.ownBlock = some q) (hq : g ≤ q) (u : Value) : WStep g v w v (w.setCell ⟨q, i, none⟩ u) :=
  ⟨fun B h1 _ => (Below.refl B w).setCell (p := ⟨q, i, none⟩) (Nat.le_trans h1 hq) u, by simp [World.setCell], fun k _ _ ho => Below.heap_setCell w ⟨q, i, none⟩ u k (fun hc => ho (by rw [hv]; exact congrArg some hc.symm)), fun _ h => .inl h⟩
theorem WStep.setG {g i : Nat} {v : Value} {w : World} (u : Value) : WStep g v w v (w.setCell ⟨g, i, none⟩ u) := WStep.only (Only.set g i u w)
theorem WStep.drew {g : Nat} {v : Value} {w : World} : WStep g v w v w.drew := ⟨fun B _ _ => (Below.refl B w).drew, Nat.le_refl _, fun _ _ _ _ => rfl, fun _ h => .inl h⟩
theorem WStep.alloc {g : Nat} {v : Value} {w : World} (o : Obj) : WStep g v w v (w.alloc o) :=
  ⟨fun B _ h2 => (Below.refl B w).alloc h2 o, by simp, fun q hq _ _ => Below.heap_alloc w o q hq, fun _ h => .inl h⟩
theorem WStep.grown {g : Nat} {v v' : Value} {w w' : World} (hg : w.grownBy w' v.ownBlock) (hv : ∀ k, v.ownBlock = some k → g ≤ k) (hat : v'.ownBlock = v.ownBlock ∨ v'.ownBlock = some w.heap.size) : WStep g v w v' w' :=
  ⟨fun B h1 h2 => (Below.refl B w).grown hg h2 (fun k hk => Nat.le_trans h1 (hv k hk)), hg.size, fun q hq _ ho => hg.block q hq (fun hc => ho hc.symm),
   fun q hq => hat.elim (fun h => .inl (by rw [← h]; exact hq)) (fun h => .inr (by rw [h] at hq; injection hq with hq; omega))⟩
theorem OB.below {w w' : World} {base : Nat} {v : Value} {l : List Nat} (h : OB w base v l) (hb : Below w.heap.size w w') : OB w' base v l := by
  refine ⟨h.1, h.2.imp id ?_⟩
  rintro ⟨g, cap, cur, hv, hg, hh, r⟩
  exact ⟨g, cap, cur, hv, hg, (hb.block g (Array.getElem?_eq_some_iff.1 hh).1).trans hh, r⟩
theorem OB.ne {w : World} {g : Nat} {v : Value} {l : List Nat} (h : OB w (g + 1) v l) : v.ownBlock ≠ some g := fun hc => by have := own_block h g hc; omega
theorem own_nil (w : World) (base : Nat) : OB w base (.slice none 0 0) [] := ⟨rfl, .inl ⟨rfl, rfl⟩⟩
theorem Write_calls (w : World) :
    Calls Tryd.prog 32 #[] w fun e w' => e = .returned (.pointer (some ⟨w.heap.size, 0, none⟩)) ∧ Wr w' w.heap.size (.slice none 0 0) 0 0 ∧ w' = w.alloc (.cells #[.slice none 0 0, .int .i64 0, .bool true] 93) := by
  go_enter Tryd.func32, Tryd.ntmps32
  go_wp2
  go_ret
  exact ⟨rfl, ⟨Blk.new _ _ _, [], Bts.nil, own_nil _ _⟩, rfl⟩
theorem wIs_nil (w : World) : Calls Tryd.prog 67 #[.pointer none] w fun e w' => e = .returned (.bool false) ∧ w = w' := by
  go_enter Tryd.func67, Tryd.ntmps67
  go_wp2
  go_ret
  exact ⟨rfl, rfl⟩
theorem wIs_calls (g : Nat) (v u : Value) (m : Bool) (w : World) (h : Blk w g 93 #[v, u, .bool m]) :
    Calls Tryd.prog 67 #[.pointer (some ⟨g, 0, none⟩)] w fun e w' => e = .returned (.bool m) ∧ w = w' := by
  have h2 : w.cell? ⟨g, 2, none⟩ = some (.bool m) := h.cell 2
  have H := Bx.mk h
  clear h
  go_enter Tryd.func67, Tryd.ntmps67
  go_wp2
  go_ret
  exact ⟨rfl, rfl⟩
theorem whole_calls (g : Nat) (t : TypeId) (v u : Value) (a : Nat) (w : World) (h : Blk w g t #[v, .int .i64 (a : Int), u]) :
    Calls Tryd.prog 68 #[.pointer (some ⟨g, 0, none⟩)] w fun e w' => e = .returned (.bool (decide (a % 8 = 0))) ∧ w = w' := by
  have h1 : w.cell? ⟨g, 1, none⟩ = some (.int .i64 (a : Int)) := h.cell 1
  have hand := i64_and7 (a : Int)
  rw [show (a : Int) % 8 = ((a % 8 : Nat) : Int) by omega] at hand
  generalize a % 8 = R at hand ⊢
  clear h
  go_enter Tryd.func68, Tryd.ntmps68
  go_wp2
  go_ret
  exact ⟨ret_bool (by apply Bool.eq_iff_iff.2; simp), rfl⟩
theorem pow2_u8 (R : Nat) (h : R < 8) : IntKind.u8.wrap (2 ^ R) = ((2 ^ R : Nat) : Int) := by
  rw [IntKind.wrap_u8']
  obtain rfl | rfl | rfl | rfl | rfl | rfl | rfl | rfl : R = 0 ∨ R = 1 ∨ R = 2 ∨ R = 3 ∨ R = 4 ∨ R = 5 ∨ R = 6 ∨ R = 7 := by omega
  all_goals decide
/-- the writer behind the append -/
theorem wBit_store (g : Nat) (A : Option Addr) (l : List Nat) (c : Nat) (u : Value) (o : Obj) (w w' : World) (v' : Value) (_hb : Blk w g 93 #[.slice A l.length c, u, .bool true]) (hO : OB w (g + 1) (.slice A l.length c) l)
    (hba : Blk (w.alloc o) g 93 #[.slice A l.length c, u, .bool true]) (hoa : OB (w.alloc o) (g + 1) (.slice A l.length c) l) (ho : OB w' (g + 1) v' (l ++ [0]))
    (hg : (w.alloc o).grownBy w' (Value.slice A l.length c).ownBlock) (hat : v'.ownBlock = (Value.slice A l.length c).ownBlock ∨ v'.ownBlock = some (w.alloc o).heap.size) :
    ∃ (g' c' : Nat), v' = .slice (some ⟨g', 0, none⟩) (l.length + 1) c' ∧ w'.cell? ⟨g, 0, none⟩ = some (.slice A l.length c) ∧ w'.frozen? ⟨g, 0, none⟩ = false ∧
      (w'.setCell ⟨g, 0, none⟩ v').cell? ⟨g, 0, none⟩ = some v' ∧ (w'.setCell ⟨g, 0, none⟩ v').cell? ⟨g, 1, none⟩ = some u ∧ (w'.setCell ⟨g, 0, none⟩ v').frozen? ⟨g, 1, none⟩ = false ∧
      (w'.setCell ⟨g, 0, none⟩ v').cell? ⟨g', l.length, none⟩ = some (.int .u8 0) ∧ (w'.setCell ⟨g, 0, none⟩ v').frozen? ⟨g', l.length, none⟩ = false ∧ g + 1 ≤ g' ∧
      (∀ x : Nat, Blk ((w'.setCell ⟨g, 0, none⟩ v').setCell ⟨g', l.length, none⟩ (.int .u8 (x : Int))) g 93 #[v', u, .bool true] ∧ OB ((w'.setCell ⟨g, 0, none⟩ v').setCell ⟨g', l.length, none⟩ (.int .u8 (x : Int))) (g + 1) v' (l ++ [x]) ∧
        WStep g (.slice A l.length c) w v' ((w'.setCell ⟨g, 0, none⟩ v').setCell ⟨g', l.length, none⟩ (.int .u8 (x : Int)))) := by
  obtain ⟨A', c', hv⟩ := ho.form
  rw [List.length_append, List.length_singleton] at hv
  subst hv
  obtain ⟨g', rfl, -, hbg, -, -, -⟩ := ho.opened (by simp)
  have hb' : Blk w' g 93 #[.slice A l.length c, u, .bool true] := hba.grown hg (fun hc => hO.ne hc.symm)
  have hb2 := hb'.set_ 0 (.slice (some ⟨g', 0, none⟩) (l.length + 1) c')
  have ho2 : OB (w'.setCell ⟨g, 0, none⟩ (.slice (some ⟨g', 0, none⟩) (l.length + 1) c')) (g + 1) (.slice (some ⟨g', 0, none⟩) (l.length + 1) c') (l ++ [0]) := ownsRow_setCell_other ho (a := ⟨g, 0, none⟩) ho.ne _
  obtain ⟨g2, hg2, -, -, -, hcell, hfz⟩ := ho2.opened (by simp)
  obtain rfl : g' = g2 := by injection hg2 with h; injection h
  refine ⟨g', c', rfl, hb'.cell 0, hb'.frozen 0, hb2.cell 0, hb2.cell 1, hb2.frozen 1, ?_, hfz _, hbg, fun x => ⟨hb2.far (p := ⟨g', l.length, none⟩) (by show g ≠ g'; omega) _, ?_, ?_⟩⟩
  · rw [hcell l.length (by simp)]
    simp [List.getD_eq_getElem?_getD]
  · have := ho2.put l.length x
    rwa [List.set_append_right _ _ (Nat.le_refl _), Nat.sub_self] at this
  · exact (((WStep.alloc o).trans (WStep.grown hg (fun k hk => Nat.le_trans (Nat.le_succ g) (own_block hoa k hk)) hat)).trans (WStep.setG _)).trans (WStep.setOwn rfl (by omega) _)
set_option maxRecDepth 100000 in
set_option maxHeartbeats 2000000 in
theorem wBit_calls (g : Nat) (v : Value) (N a on : Nat) (w : World) (h : Wr w g v N a) (ho : on ≤ 1) (ha : a ≤ 1125899906809856) :
    Calls Tryd.prog 66 #[.pointer (some ⟨g, 0, none⟩), .int .i64 (on : Int)] w fun e w' => e = .returned (.tuple #[]) ∧ ∃ v', Wr w' g v' (N + on * 2 ^ a) (a + 1) ∧ WStep g v w v' w' := by
  obtain ⟨hb, l, hB, hO⟩ := h
  have WH := Bx.mk (whole_calls g _ v (.bool true) a w hb)
  have hgl := hb.lt
  have HB := Bx.mk hb
  have HO := Bx.mk hO
  have HBT := Bx.mk hB
  have h0 : w.cell? ⟨g, 0, none⟩ = some v := hb.cell 0
  have h1 : w.cell? ⟨g, 1, none⟩ = some (.int .i64 (a : Int)) := hb.cell 1
  have f0 := hb.frozen 0
  have f1 := hb.frozen 1
  have hlen := hB.len
  obtain ⟨A, c, rfl⟩ := hO.form
  have hand := i64_and7 (a : Int)
  rw [show (a : Int) % 8 = ((a % 8 : Nat) : Int) by omega] at hand
  have hR : a % 8 < 8 := Nat.mod_lt _ (by decide)
  clear hb hO hB
  by_cases h8 : a % 8 = 0
  · rw [decide_eq_true h8] at WH
    have HN := Bx.mk (HBT.out.grow h8 on ho)
    have hK : a / 8 = l.length := by omega
    have HOA := Bx.mk (HO.out.below (below_alloc1 w (.cells #[.int .u8 0] 5)))
    have HBA := Bx.mk (HB.out.alloc (.cells #[.int .u8 0] 5))
    have f0A : (w.alloc (.cells #[.int .u8 0] 5)).cell? ⟨g, 0, none⟩ = some (.slice A l.length c) := HBA.out.cell 0
    have k1 : (a : Int) / 8 < (l.length : Int) + 1 := by omega
    have k2 : (0 : Int) ≤ (a : Int) / 8 := by omega
    have k3 : ((a : Int) / 8).toNat = l.length := by omega
    have hon : IntKind.u8.wrap (on : Int) = (on : Int) := by rw [IntKind.wrap_u8']; omega
    have hor : bits .or .u8 0 (on : Int) = (on : Int) := by have := u8_or_nat 0 on (by omega) (by omega); rwa [Nat.zero_or] at this
    rw [h8] at hand
    have hlb : l.length + 1 ≤ 140737492549632 := by omega
    have hsz : g < (w.alloc (.cells #[.int .u8 0] 5)).heap.size := HBA.out.lt
    have WS := Bx.mk (WStep.alloc (g := g) (v := .slice A l.length c) (w := w) (.cells #[.int .u8 0] 5))
    have RL := Bx.mk (RB.lit w 5 [0] #[.int .u8 0] rfl (by decide) (by decide))
    clear hlen hK h8 hR
    go_enter Tryd.func66, Tryd.ntmps66
    go_wp2_with fail
    refine WH.out.mono ?_
    rintro e w1 ⟨rfl, rfl⟩
    go_wp2_with (at_builtin; refine wpList_append_bytes _ rfl _ _ rfl (g + 1) _ l [0] rfl HOA.out (some ⟨w.heap.size, 0, none⟩) 1 rfl RL.out hlb (by omega) ?_; intro v' w' ho' hg hat; obtain ⟨g', c', X⟩ := wBit_store g A l c (.int .i64 (a : Int)) (.cells #[.int .u8 0] 5) w w' v' HB.out HO.out HBA.out HOA.out ho' hg hat; obtain ⟨hv, q0, q1, q2, q3, q4, q5, q6, q7, q8⟩ := X; have Q8 := Bx.mk q8; subst hv; clear ho' hg hat q8)
    generalize w'.setCell ⟨g, 0, none⟩ (.slice (some ⟨g', 0, none⟩) (l.length + 1) c') = w2 at q2 q3 q4 q5 q6 Q8 ⊢
    go_still_tail 24, (by kernel_rfl)
    go_wp2
    go_end0
    obtain ⟨z1, z2, z3⟩ := Q8.out on
    exact ⟨rfl, _, ⟨z1.set_ 1 (.int .i64 ((a : Int) + 1)), _, HN.out, ownsRow_setCell_other z2 (a := ⟨g, 1, none⟩) z2.ne (.int .i64 ((a : Int) + 1))⟩, (z3.trans (WStep.setG _)).trans WStep.drew⟩
  · rw [decide_eq_false h8] at WH
    obtain ⟨l1, l2⟩ := HBT.out.last h8
    have HN := Bx.mk (HBT.out.put h8 on ho)
    obtain ⟨g', rfl, -, hbg, -, hcell, hfz⟩ := HO.out.opened (by omega)
    have hck := hcell (a / 8) l1
    have hfk := hfz (a / 8)
    have hX : l.getD (a / 8) 0 < 256 := mem_getD l1 HBT.out.byte
    have hor : bits .or .u8 ((l.getD (a / 8) 0 : Nat) : Int) ((on * 2 ^ (a % 8) : Nat) : Int) = ((l.getD (a / 8) 0 + on * 2 ^ (a % 8) : Nat) : Int) := by
      have hp : 2 ^ (a % 8) ≤ 128 := Nat.le_trans (Nat.pow_le_pow_right (by decide) (show a % 8 ≤ 7 by omega)) (by decide)
      have hq : on * 2 ^ (a % 8) ≤ 1 * 2 ^ (a % 8) := Nat.mul_le_mul_right _ ho
      rw [u8_or_nat _ _ hX (by omega), Nat.or_comm, nat_join (a % 8) (on * 2 ^ (a % 8)) _ (Nat.mul_mod_left _ _) l2, Nat.add_comm]
    have hsh : IntKind.u8.wrap ((on : Int) * 2 ^ (a % 8)) = ((on * 2 ^ (a % 8) : Nat) : Int) := by
      have hp := pow2_u8 (a % 8) hR
      have e0 : (2 : Int) ^ (a % 8) = ((2 ^ (a % 8) : Nat) : Int) := by rw [Int.natCast_pow]; rfl
      have hp2 : 2 ^ (a % 8) ≤ 128 := Nat.le_trans (Nat.pow_le_pow_right (by decide) (show a % 8 ≤ 7 by omega)) (by decide)
      have hq : on * 2 ^ (a % 8) ≤ 1 * 2 ^ (a % 8) := Nat.mul_le_mul_right _ ho
      rw [e0, IntKind.wrap_u8', ← Int.natCast_mul]
      omega
    have hon : IntKind.u8.wrap (on : Int) = (on : Int) := by rw [IntKind.wrap_u8']; omega
    have HP := Bx.mk (HO.out.put (a / 8) (l.getD (a / 8) 0 + on * 2 ^ (a % 8)))
    have hK : a / 8 < l.length := l1
    generalize l.getD (a / 8) 0 + on * 2 ^ (a % 8) = V at hor HP HN
    generalize on * 2 ^ (a % 8) = M at hor hsh
    generalize l.getD (a / 8) 0 = X at hck hor
    generalize a % 8 = R at hand hR hsh h8 WH
    have k1 : (a : Int) / 8 < (l.length : Int) := by omega
    have k2 : (0 : Int) ≤ (a : Int) / 8 := by omega
    have k3 : ((a : Int) / 8).toNat = a / 8 := by omega
    clear hcell hfz l1 l2 hX hlen
    go_enter Tryd.func66, Tryd.ntmps66
    go_wp2_with fail
    refine WH.out.mono ?_
    rintro e w1 ⟨rfl, rfl⟩
    go_wp2
    go_still_tail 24, (by kernel_rfl)
    go_wp2
    go_end0
    refine ⟨rfl, _, ⟨((HB.out.far (p := ⟨g', a / 8, none⟩) (by show g ≠ g'; omega) (.int .u8 (V : Int))).set_ 1 (.int .i64 ((a : Int) + 1))), _, HN.out, ownsRow_setCell_other HP.out (a := ⟨g, 1, none⟩) (by simp [Value.ownBlock]; omega) (.int .i64 ((a : Int) + 1))⟩, ?_⟩
    exact ((WStep.setOwn rfl (by omega) _).trans (WStep.setG _)).trans WStep.drew
theorem i64_and1 (n : Int) : bits .and .i64 n 1 = n % 2 := by
  have h7 : (BitVec.ofInt 64 1).toNat = 2 ^ 1 - 1 := by decide
  have key : (BitVec.ofInt 64 n &&& BitVec.ofInt 64 1).toNat = (n % ((2 ^ 64 : Nat) : Int)).toNat % 2 ^ 1 := by
    rw [BitVec.toNat_and, BitVec.toNat_ofInt, h7, Nat.and_two_pow_sub_one_eq_mod]
  show IntKind.i64.wrap ((BitVec.ofInt 64 n &&& BitVec.ofInt 64 1).toNat : Nat) = n % 2
  rw [key, IntKind.wrap_i64]
  omega
theorem div_pow_cast (n k : Nat) : (n : Int) / 2 ^ k = ((n / 2 ^ k : Nat) : Int) := by
  rw [show (2 : Int) ^ k = ((2 ^ k : Nat) : Int) by rw [Int.natCast_pow]; rfl]; rfl
/-- does a number go into so many bits? -/
def Goes (n b : Int) : Prop := 0 ≤ b ∧ b ≤ 24 ∧ 0 ≤ n ∧ n < 2 ^ b.toNat
theorem look_no (g : Nat) (v u : Value) (n b : Int) (w : World) (h : Blk w g 93 #[v, u, .bool true]) (hn : ¬ Goes n b) (hi : n ≤ 9223372036854775807) :
    Calls Tryd.prog 64 #[.pointer (some ⟨g, 0, none⟩), .int .i64 n, .int .i64 b] w fun e w' => e = .returned (.int .i64 2) ∧ w = w' := by
  have H := Bx.mk (wIs_calls g _ _ true w h)
  have HN := Bx.mk hn
  clear h hn
  by_cases h1 : b < 0
  · go_enter Tryd.func64, Tryd.ntmps64
    go_wp2_with fail
    refine H.out.mono ?_
    rintro e w1 ⟨rfl, rfl⟩
    go_wp2
    go_ret
    exact ⟨rfl, rfl⟩
  · by_cases h2 : 24 < b
    · go_enter Tryd.func64, Tryd.ntmps64
      go_wp2_with fail
      refine H.out.mono ?_
      rintro e w1 ⟨rfl, rfl⟩
      go_wp2
      go_ret
      exact ⟨rfl, rfl⟩
    · by_cases h3 : n < 0
      · go_enter Tryd.func64, Tryd.ntmps64
        go_wp2_with fail
        refine H.out.mono ?_
        rintro e w1 ⟨rfl, rfl⟩
        go_wp2
        go_ret
        exact ⟨rfl, rfl⟩
      · obtain ⟨k, rfl⟩ := Int.eq_ofNat_of_zero_le (show 0 ≤ b by omega)
        obtain ⟨m, rfl⟩ := Int.eq_ofNat_of_zero_le (show 0 ≤ n by omega)
        have hk : k ≤ 24 := by omega
        have hbig : 2 ^ k ≤ m := by
          rcases Nat.lt_or_ge m (2 ^ k) with h | h
          · exfalso
            refine HN.out ⟨by omega, by omega, by omega, ?_⟩
            rw [show ((k : Int)).toNat = k by omega, show (2 : Int) ^ k = ((2 ^ k : Nat) : Int) by rw [Int.natCast_pow]; rfl]
            omega
          · exact h
        have hd := div_pow_cast m k
        have hq : 0 < m / 2 ^ k := Nat.div_pos hbig (Nat.pow_pos (by decide))
        generalize m / 2 ^ k = Q at hd hq
        have hne : ((Q : Int) != 0) = true := by rw [bne_iff_ne]; omega
        clear h1 h2 h3 hbig HN
        go_enter Tryd.func64, Tryd.ntmps64
        go_wp2_with fail
        refine H.out.mono ?_
        rintro e w1 ⟨rfl, rfl⟩
        go_wp2
        go_ret
        exact ⟨rfl, rfl⟩
theorem look_yes (g : Nat) (v u : Value) (n b : Nat) (w : World) (h : Blk w g 93 #[v, u, .bool true]) (hb : b ≤ 24) (hn : n < 2 ^ b) :
    Calls Tryd.prog 64 #[.pointer (some ⟨g, 0, none⟩), .int .i64 (n : Int), .int .i64 (b : Int)] w fun e w' => e = .returned (.int .i64 0) ∧ w = w' := by
  have H := Bx.mk (wIs_calls g _ _ true w h)
  have hd := div_pow_cast n b
  rw [Nat.div_eq_of_lt hn] at hd
  have hn2 : n ≤ 16777216 := Nat.le_trans (Nat.le_of_lt hn) (Nat.le_trans (Nat.pow_le_pow_right (by decide) hb) (by decide))
  clear h hn
  go_enter Tryd.func64, Tryd.ntmps64
  go_wp2_with fail
  refine H.out.mono ?_
  rintro e w1 ⟨rfl, rfl⟩
  go_wp2
  go_ret
  exact ⟨rfl, rfl⟩
/-- what the bits of n, taken at the places G, make -/
def eachV (n : Nat) (G : Nat → Int) : Nat → Nat
  | 0 => 0
  | i + 1 => eachV n G i + n / 2 ^ (G i).toNat % 2 * 2 ^ i
theorem each_calls (g : Nat) (v : Value) (N a n : Nat) (G : Nat → Int) (by_ : Int) (k : Nat) (w : World) (h : Wr w g v N a) (_hn : n ≤ 16777216) (hk : k ≤ 24) (ha : a + k ≤ 1125899906809856)
    (hby : by_ = 1 ∨ by_ = -1) (hG : ∀ i, G (i + 1) = G i + by_) (hG2 : ∀ i, i < k → 0 ≤ G i ∧ G i ≤ 24) :
    Calls Tryd.prog 65 #[.int .i64 (n : Int), .int .i64 (G 0), .int .i64 by_, .int .i64 (k : Int), .func (.func 66) #[.pointer (some ⟨g, 0, none⟩)] #[]] w fun e w' =>
      e = .returned (.tuple #[]) ∧ ∃ v', Wr w' g v' (N + 2 ^ a * eachV n G k) (a + k) ∧ WStep g v w v' w' := by
  have H := Bx.mk h
  have HG := Bx.mk hG
  have HG2 := Bx.mk hG2
  clear h hG hG2
  go_enter Tryd.func65, Tryd.ntmps65
  go_wp2
  go_loopw [1, 11] (fun f i wr => ∃ (j : Nat) (u : Value), j ≤ k ∧ i = .int .i64 (j : Nat) ∧ f = .int .i64 (G j) ∧ Bx (Wr wr g u (N + 2 ^ a * eachV n G j) (a + j)) ∧ Bx (WStep g v w u wr)) (fun _ i _ => k - (intOf i).toNat)
  case atStart => exact ⟨0, v, Nat.zero_le _, rfl, rfl, ⟨by simpa [eachV] using H.out⟩, ⟨WStep.refl _ _ _⟩⟩
  case round =>
    obtain ⟨j, u, hj, rfl, rfl, HW, HS⟩ := hrel
    by_cases hlt : j < k
    · have hg2 := HG2.out j hlt
      have hg1 := HG.out j
      obtain ⟨F, hF⟩ := Int.eq_ofNat_of_zero_le hg2.1
      have hFb : F ≤ 24 := by omega
      have hev : eachV n G (j + 1) = eachV n G j + n / 2 ^ F % 2 * 2 ^ j := by show _ + n / 2 ^ (G j).toNat % 2 * 2 ^ j = _; rw [hF]; rfl
      have hd := div_pow_cast n F
      have hand := i64_and1 ((n / 2 ^ F : Nat) : Int)
      rw [show ((n / 2 ^ F : Nat) : Int) % 2 = ((n / 2 ^ F % 2 : Nat) : Int) by omega] at hand
      have hon : n / 2 ^ F % 2 ≤ 1 := by omega
      have hq : n / 2 ^ F ≤ n := Nat.div_le_self _ _
      have HB := Bx.mk (wBit_calls g u _ _ _ wr HW.out hon (by omega))
      have HE : Bx (N + 2 ^ a * eachV n G (j + 1) = N + 2 ^ a * eachV n G j + n / 2 ^ F % 2 * 2 ^ (a + j)) := ⟨by
        rw [hev, Nat.mul_add, Nat.pow_add]
        rw [show 2 ^ a * (n / 2 ^ F % 2 * 2 ^ j) = n / 2 ^ F % 2 * (2 ^ a * 2 ^ j) by rw [Nat.mul_left_comm]]
        omega⟩
      have hG1 : Bx (G (j + 1) = (F : Int) + by_) := ⟨by rw [hg1, hF]⟩
      rw [show G j = (F : Int) from hF]
      generalize n / 2 ^ F % 2 = on at hand hon HB HE
      generalize n / 2 ^ F = Q at hd hand hq
      clear hev hg1 hg2 hF
      rcases hby with rfl | rfl
      all_goals
        go_wp2_with fail
        refine HB.out.mono ?_
        rintro e w1 ⟨rfl, u1, hw1, hs1⟩
        have HW1 := Bx.mk hw1
        have HS1 := Bx.mk (HS.out.trans hs1)
        clear hw1 hs1
        go_wp2
        go_roundw
        case rel => exact ⟨j + 1, u1, by omega, by go_num, by rw [hG1.out], ⟨by rw [HE.out]; exact HW1.out⟩, HS1⟩
        case measure => simp [intOf]; omega
    · obtain rfl : j = k := by omega
      go_wp2
      go_end0
      exact ⟨rfl, u, HW.out, HS.out⟩
theorem Clone_calls (A : Option Addr) (l : List Nat) (c : Nat) (w : World) (hl : RB w A l) :
    Calls Tryd.prog 39 #[.slice A l.length c] w fun e w' => ∃ v, e = .returned v ∧ OB w' w.heap.size v l ∧ Below w.heap.size w w' := by
  have hl1 := hl.2.1
  have HL := Bx.mk (hl.below (below_alloc1 w (.cells #[] 5)))
  have hx := fun W a n c => Lib.run_eql_slice_nil (P := Tryd.prog) W 22 5 a n c 0 0 Tryd.underlying22
  cases A with
  | none =>
    have h0 : l = [] := by
      rcases l with _ | ⟨x, l⟩
      · rfl
      · obtain ⟨ad, h, _⟩ := hl.2.2 (by simp)
        cases h
    subst h0
    clear hl hl1 HL
    go_enter Tryd.func39, Tryd.ntmps39
    go_wp2
    go_ret
    exact ⟨_, rfl, own_nil _ _, Below.refl _ _⟩
  | some ad =>
    clear hl
    go_enter Tryd.func39, Tryd.ntmps39
    go_wp2_with (at_builtin; refine wpList_append_bytes _ rfl _ _ rfl w.heap.size _ [] l rfl (own_empty w) (some ad) c rfl HL.out ?hl (by simp) ?_; (case hl => simp; omega); intro v' w' ho hg _)
    go_ret
    exact ⟨_, rfl, ho, (below_alloc1 w _).grown hg (by simp) (fun k hk => own_block (own_empty w) k hk)⟩
theorem eachV_up (n : Nat) : ∀ k, eachV n (fun i => (i : Int)) k = n % 2 ^ k
  | 0 => by simp [eachV, Nat.mod_one]
  | k + 1 => by
    show eachV n (fun i => (i : Int)) k + n / 2 ^ ((k : Nat) : Int).toNat % 2 * 2 ^ k = _
    rw [eachV_up n k, Nat.pow_succ, Nat.mod_mul, Int.toNat_natCast, Nat.mul_comm]
/-- the bits of n, the highest first -/
def revN (n k : Nat) : Nat := eachV n (fun i => (k : Int) - 1 + i * (-1)) k
theorem eachV_lt (n : Nat) (G : Nat → Int) : ∀ k, eachV n G k < 2 ^ k
  | 0 => by simp [eachV]
  | k + 1 => by
    have ih := eachV_lt n G k
    have h : n / 2 ^ (G k).toNat % 2 * 2 ^ k ≤ 1 * 2 ^ k := Nat.mul_le_mul_right _ (by omega)
    simp only [eachV]
    rw [Nat.pow_succ]; omega
theorem two24 {b : Nat} (hb : b ≤ 24) : 2 ^ b ≤ 16777216 := Nat.le_trans (Nat.pow_le_pow_right (by decide) hb) (by decide)
theorem Put_yes (g : Nat) (v : Value) (N a n b : Nat) (w : World) (h : Wr w g v N a) (hb : b ≤ 24) (hn : n < 2 ^ b) (ha : a ≤ 1125899906809000) :
    Calls Tryd.prog 33 #[.pointer (some ⟨g, 0, none⟩), .int .i64 (n : Int), .int .i64 (b : Int)] w fun e w' =>
      e = .returned (.int .i64 0) ∧ ∃ v', Wr w' g v' (N + 2 ^ a * n) (a + b) ∧ WStep g v w v' w' := by
  have L := Bx.mk (look_yes g _ _ n b w h.blk hb hn)
  have h24 := two24 hb
  have e := each_calls g v N a n (fun i => (i : Int)) 1 b w h (by omega) hb (by omega) (.inl rfl) (fun i => by simp) (fun i hi => by omega)
  rw [eachV_up, Nat.mod_eq_of_lt hn] at e
  have E := Bx.mk e
  clear e h hn h24
  go_enter Tryd.func33, Tryd.ntmps33
  go_wp2_with fail
  refine L.out.mono ?_
  rintro e w1 ⟨rfl, rfl⟩
  go_wp2_with fail
  refine E.out.mono ?_
  rintro e w1 ⟨rfl, v1, hw, hs⟩
  have HW := Bx.mk hw
  have HS := Bx.mk hs
  clear hw hs
  go_wp2
  go_ret
  exact ⟨rfl, v1, HW.out, HS.out⟩
theorem Put_no (g : Nat) (v u : Value) (n b : Int) (w : World) (h : Blk w g 93 #[v, u, .bool true]) (hn : ¬ Goes n b) (hi : n ≤ 9223372036854775807) :
    Calls Tryd.prog 33 #[.pointer (some ⟨g, 0, none⟩), .int .i64 n, .int .i64 b] w fun e w' => e = .returned (.int .i64 2) ∧ w = w' := by
  have L := Bx.mk (look_no g _ _ n b w h hn hi)
  clear h hn
  go_enter Tryd.func33, Tryd.ntmps33
  go_wp2_with fail
  refine L.out.mono ?_
  rintro e w1 ⟨rfl, rfl⟩
  go_wp2
  go_ret
  exact ⟨rfl, rfl⟩
theorem Code_yes (g : Nat) (v : Value) (N a n b : Nat) (w : World) (h : Wr w g v N a) (hb : b ≤ 24) (hn : n < 2 ^ b) (ha : a ≤ 1125899906809000) :
    Calls Tryd.prog 94 #[.pointer (some ⟨g, 0, none⟩), .int .i64 (n : Int), .int .i64 (b : Int)] w fun e w' =>
      e = .returned (.int .i64 0) ∧ ∃ v', Wr w' g v' (N + 2 ^ a * revN n b) (a + b) ∧ WStep g v w v' w' := by
  have L := Bx.mk (look_yes g _ _ n b w h.blk hb hn)
  have h24 := two24 hb
  have e := each_calls g v N a n (fun i => (b : Int) - 1 + i * (-1)) (-1) b w h (by omega) hb (by omega) (.inr rfl) (fun i => by omega) (fun i hi => by omega)
  rw [show eachV n (fun i => (b : Int) - 1 + i * (-1)) b = revN n b from rfl] at e
  simp only [Int.natCast_zero, Int.zero_mul, Int.add_zero] at e
  have E := Bx.mk e
  generalize revN n b = V at E ⊢
  clear e h hn h24
  go_enter Tryd.func94, Tryd.ntmps94
  go_wp2_with fail
  refine L.out.mono ?_
  rintro e w1 ⟨rfl, rfl⟩
  go_wp2_with fail
  refine E.out.mono ?_
  rintro e w1 ⟨rfl, v1, hw, hs⟩
  have HW := Bx.mk hw
  have HS := Bx.mk hs
  clear hw hs
  go_wp2
  go_ret
  exact ⟨rfl, v1, HW.out, HS.out⟩
theorem Code_no (g : Nat) (v u : Value) (n b : Int) (w : World) (h : Blk w g 93 #[v, u, .bool true]) (hn : ¬ Goes n b) (hi : n ≤ 9223372036854775807) :
    Calls Tryd.prog 94 #[.pointer (some ⟨g, 0, none⟩), .int .i64 n, .int .i64 b] w fun e w' => e = .returned (.int .i64 2) ∧ w = w' := by
  have L := Bx.mk (look_no g _ _ n b w h hn hi)
  clear h hn
  go_enter Tryd.func94, Tryd.ntmps94
  go_wp2_with fail
  refine L.out.mono ?_
  rintro e w1 ⟨rfl, rfl⟩
  go_wp2
  go_ret
  exact ⟨rfl, rfl⟩
theorem wAll_calls (g : Nat) (v : Value) (N a : Nat) (w : World) (h : Wr w g v N a) (ha : a ≤ 1125899906809856) :
    Calls Tryd.prog 36 #[.pointer (some ⟨g, 0, none⟩)] w fun e w' => ∃ l v', Bts l N a ∧ e = .returned v' ∧ OB w' w.heap.size v' l ∧ Below w.heap.size w w' := by
  obtain ⟨hb, l, hB, hO⟩ := h
  obtain ⟨A, c, rfl⟩ := hO.form
  have h0 : w.cell? ⟨g, 0, none⟩ = some (.slice A l.length c) := hb.cell 0
  have H := Bx.mk (wIs_calls g _ _ true w hb)
  have C := Bx.mk (Clone_calls A l c w (hO.rb hB.byte (by have := hB.len; omega)))
  have HB := Bx.mk hB
  clear hb hB hO
  go_enter Tryd.func36, Tryd.ntmps36
  go_wp2_with fail
  refine H.out.mono ?_
  rintro e w1 ⟨rfl, rfl⟩
  go_wp2_with fail
  refine C.out.mono ?_
  rintro e w1 ⟨v1, rfl, ho, hbl⟩
  have HO := Bx.mk ho
  have HBL := Bx.mk hbl
  clear ho hbl
  go_wp2
  go_ret
  exact ⟨l, v1, HB.out, rfl, HO.out, HBL.out⟩
theorem lsum_inj : ∀ (l m : List Nat), l.length = m.length → (∀ x ∈ l, x < 256) → (∀ x ∈ m, x < 256) → lsum l = lsum m → l = m
  | [], [], _, _, _, _ => rfl
  | [], y :: m, h, _, _, _ => by simp at h
  | x :: l, [], h, _, _, _ => by simp at h
  | x :: l, y :: m, h, h1, h2, h3 => by
    have hx := h1 x (by simp)
    have hy := h2 y (by simp)
    simp only [lsum] at h3
    have e : x = y := by omega
    have ih := lsum_inj l m (by simpa using h) (fun z hz => h1 z (by simp [hz])) (fun z hz => h2 z (by simp [hz])) (by omega)
    rw [e, ih]
theorem Bts.unique {l m : List Nat} {N a : Nat} (h : Bts l N a) (h' : Bts m N a) : l = m := lsum_inj l m (by rw [h.len, h'.len]) h.byte h'.byte (by rw [h.sum, h'.sum])
theorem OB.keep {w w' : World} {base : Nat} {v : Value} {l : List Nat} (h : OB w base v l) (hk : ∀ q, v.ownBlock = some q → w'.heap[q]? = w.heap[q]?) : OB w' base v l := by
  refine ⟨h.1, h.2.imp id ?_⟩
  rintro ⟨g, cap, cur, hv, hg, hh, r⟩
  exact ⟨g, cap, cur, hv, hg, (hk g (by rw [hv]; rfl)).trans hh, r⟩
theorem Wr.only {w w' : World} {g q N a : Nat} {v : Value} (h : Wr w g v N a) (ho : Only q w w') (hq : g ≠ q) (hv : v.ownBlock ≠ some q) : Wr w' g v N a := by
  obtain ⟨hb, l, h1, h2⟩ := h
  exact ⟨hb.only ho hq, l, h1, h2.keep (fun k hk => ho.keep k (fun hc => hv (by rw [hk, hc])))⟩
theorem WStep.blk {g q : Nat} {v v' : Value} {w w' : World} {t : TypeId} {cs : Array Value} (h : WStep g v w v' w') (hb : Blk w q t cs) (hq : q ≠ g) (hv : v.ownBlock ≠ some q) : Blk w' q t cs ∧ v'.ownBlock ≠ some q :=
  ⟨(h.keep q hb.lt hq hv).trans hb, fun hc => (h.own q hc).elim hv (fun h2 => by have := hb.lt; omega)⟩
theorem Reads.only {w w' : World} {B g size n : Nat} {A : Option Addr} {xs : List Value} (h : Reads w B size A n xs) (ho : Only g w w') (hB : B ≤ g) (hs : B ≤ w.heap.size) : Reads w' B size A n xs := h.below (ho.below B hB hs)
theorem Reads.step {w w' : World} {B g size n : Nat} {v v' : Value} {A : Option Addr} {xs : List Value} (h : Reads w B size A n xs) (ho : WStep g v w v' w') (hB : B ≤ g) (hs : B ≤ w.heap.size) : Reads w' B size A n xs := h.below (ho.below B hB hs)
/-- a reader's pointer that is none -/
def NoR (p : Value) (w : World) : Prop := Calls Tryd.prog 59 #[p] w fun e w' => e = .returned (.bool false) ∧ w = w'
def NoW (p : Value) (w : World) : Prop := Calls Tryd.prog 67 #[p] w fun e w' => e = .returned (.bool false) ∧ w = w'
theorem noR_At (p : Value) (w : World) (h : NoR p w) : Calls Tryd.prog 29 #[p] w fun e w' => e = .returned (.int .i64 0) ∧ w = w' := by
  have H := Bx.mk h
  clear h
  go_enter Tryd.func29, Tryd.ntmps29
  go_wp2_with fail
  refine H.out.mono ?_
  rintro e w1 ⟨rfl, rfl⟩
  go_wp2
  go_ret
  exact ⟨rfl, rfl⟩
theorem noR_Left (p : Value) (w : World) (h : NoR p w) : Calls Tryd.prog 106 #[p] w fun e w' => e = .returned (.int .i64 0) ∧ w = w' := by
  have H := Bx.mk h
  clear h
  go_enter Tryd.func106, Tryd.ntmps106
  go_wp2_with fail
  refine H.out.mono ?_
  rintro e w1 ⟨rfl, rfl⟩
  go_wp2
  go_ret
  exact ⟨rfl, rfl⟩
theorem noR_Peek (p : Value) (n : Int) (w : World) (h : NoR p w) : Calls Tryd.prog 101 #[p, .int .i64 n] w fun e w' => e = .returned (.int .i64 0) ∧ w = w' := by
  have H := Bx.mk h
  clear h
  go_enter Tryd.func101, Tryd.ntmps101
  go_wp2_with fail
  refine H.out.mono ?_
  rintro e w1 ⟨rfl, rfl⟩
  go_wp2
  go_ret
  exact ⟨rfl, rfl⟩
theorem noR_Skip (p : Value) (n : Int) (w : World) (h : NoR p w) : Calls Tryd.prog 102 #[p, .int .i64 n] w fun e w' => e = .returned (.int .i64 1) ∧ w = w' := by
  have H := Bx.mk h
  clear h
  go_enter Tryd.func102, Tryd.ntmps102
  go_wp2_with fail
  refine H.out.mono ?_
  rintro e w1 ⟨rfl, rfl⟩
  go_wp2
  go_ret
  exact ⟨rfl, rfl⟩
theorem noR_Align (p : Value) (w : World) (h : NoR p w) : Calls Tryd.prog 86 #[p] w fun e w' => e = .returned (.int .i64 1) ∧ w = w' := by
  have H := Bx.mk h
  clear h
  go_enter Tryd.func86, Tryd.ntmps86
  go_wp2_with fail
  refine H.out.mono ?_
  rintro e w1 ⟨rfl, rfl⟩
  go_wp2
  go_ret
  exact ⟨rfl, rfl⟩
theorem noR_Bytes (p : Value) (n : Int) (w : World) (h : NoR p w) : Calls Tryd.prog 88 #[p, .int .i64 n] w fun e w' => e = .returned (.tuple #[.slice none 0 0, .int .i64 1]) ∧ w = w' := by
  have H := Bx.mk h
  clear h
  go_enter Tryd.func88, Tryd.ntmps88
  go_wp2_with fail
  refine H.out.mono ?_
  rintro e w1 ⟨rfl, rfl⟩
  go_wp2
  go_ret2
  exact ⟨rfl, rfl⟩
theorem noR_Take (p : Value) (n : Int) (w : World) (h : NoR p w) : Calls Tryd.prog 80 #[p, .int .i64 n] w fun e w' => e = .returned (.tuple #[.int .i64 0, .int .i64 1]) ∧ w = w' := by
  have H1 := Bx.mk (noR_Peek p n w h)
  have H2 := Bx.mk (noR_Skip p n w h)
  clear h
  go_enter Tryd.func80, Tryd.ntmps80
  go_wp2_with fail
  refine H1.out.mono ?_
  rintro e w1 ⟨rfl, rfl⟩
  go_wp2_with fail
  refine H2.out.mono ?_
  rintro e w1 ⟨rfl, rfl⟩
  go_wp2
  go_ret2
  exact ⟨rfl, rfl⟩
theorem noW_All (p : Value) (w : World) (h : NoW p w) : Calls Tryd.prog 36 #[p] w fun e w' => e = .returned (.slice none 0 0) ∧ w = w' := by
  have H := Bx.mk h
  clear h
  go_enter Tryd.func36, Tryd.ntmps36
  go_wp2_with fail
  refine H.out.mono ?_
  rintro e w1 ⟨rfl, rfl⟩
  go_wp2
  go_ret
  exact ⟨rfl, rfl⟩
theorem noW_Align (p : Value) (w : World) (h : NoW p w) : Calls Tryd.prog 34 #[p] w fun e w' => e = .returned (.int .i64 1) ∧ w = w' := by
  have H := Bx.mk h
  clear h
  go_enter Tryd.func34, Tryd.ntmps34
  go_wp2_with fail
  refine H.out.mono ?_
  rintro e w1 ⟨rfl, rfl⟩
  go_wp2
  go_ret
  exact ⟨rfl, rfl⟩
theorem noW_Bytes (p : Value) (v : Value) (w : World) (h : NoW p w) : Calls Tryd.prog 35 #[p, v] w fun e w' => e = .returned (.int .i64 1) ∧ w = w' := by
  have H := Bx.mk h
  clear h
  go_enter Tryd.func35, Tryd.ntmps35
  go_wp2_with fail
  refine H.out.mono ?_
  rintro e w1 ⟨rfl, rfl⟩
  go_wp2
  go_ret
  exact ⟨rfl, rfl⟩
theorem noW_look (p : Value) (n b : Int) (w : World) (h : NoW p w) : Calls Tryd.prog 64 #[p, .int .i64 n, .int .i64 b] w fun e w' => e = .returned (.int .i64 1) ∧ w = w' := by
  have H := Bx.mk h
  clear h
  go_enter Tryd.func64, Tryd.ntmps64
  go_wp2_with fail
  refine H.out.mono ?_
  rintro e w1 ⟨rfl, rfl⟩
  go_wp2
  go_ret
  exact ⟨rfl, rfl⟩
theorem noW_Put (p : Value) (n b : Int) (w : World) (h : NoW p w) : Calls Tryd.prog 33 #[p, .int .i64 n, .int .i64 b] w fun e w' => e = .returned (.int .i64 1) ∧ w = w' := by
  have H1 := Bx.mk (noW_look p n b w h)
  clear h
  go_enter Tryd.func33, Tryd.ntmps33
  go_wp2_with fail
  refine H1.out.mono ?_
  rintro e w1 ⟨rfl, rfl⟩
  go_wp2
  go_ret
  exact ⟨rfl, rfl⟩
theorem noW_Code (p : Value) (n b : Int) (w : World) (h : NoW p w) : Calls Tryd.prog 94 #[p, .int .i64 n, .int .i64 b] w fun e w' => e = .returned (.int .i64 1) ∧ w = w' := by
  have H1 := Bx.mk (noW_look p n b w h)
  clear h
  go_enter Tryd.func94, Tryd.ntmps94
  go_wp2_with fail
  refine H1.out.mono ?_
  rintro e w1 ⟨rfl, rfl⟩
  go_wp2
  go_ret
  exact ⟨rfl, rfl⟩
theorem i64_up8 (a : Nat) (ha : a ≤ 1125899940397056) : bits .andNot .i64 ((a : Int) + 7) 7 = (((a + 7) / 8 * 8 : Nat) : Int) := by
  rw [show (a : Int) + 7 = ((a + 7 : Nat) : Int) by omega]
  generalize hx : a + 7 = x
  show IntKind.i64.wrap ((BitVec.ofInt 64 (x : Int) &&& ~~~BitVec.ofInt 64 7).toNat : Int) = _
  rw [BitVec.toNat_and, BitVec.toNat_not, ofInt_u64 x (by omega), show (BitVec.ofInt 64 7).toNat = 7 by decide, show 2 ^ 64 - 1 - 7 = 18446744073709551608 by decide, nat_hi64_3, IntKind.wrap_i64]
  omega
theorem Bts.up {l : List Nat} {N a : Nat} (h : Bts l N a) : Bts l N ((a + 7) / 8 * 8) :=
  ⟨h.byte, by rw [h.len]; omega, h.sum, Nat.lt_of_lt_of_le h.small (Nat.pow_le_pow_right (by decide) (by omega))⟩
theorem Bts.more {l m : List Nat} {N a : Nat} (h : Bts l N a) (h8 : a % 8 = 0) (hm : ∀ x ∈ m, x < 256) : Bts (l ++ m) (N + 2 ^ a * lsum m) (a + 8 * m.length) := by
  have hl : l.length = a / 8 := by have := h.len; omega
  have hp : 2 ^ a = 256 ^ l.length := by rw [pow_at a, h8, hl]; simp
  have hk : N + 2 ^ a * lsum m < 2 ^ (a + 8 * m.length) := by
    have h1 := h.small
    have h2 := lsum_lt m hm
    rw [Nat.pow_add, Nat.pow_mul]
    have h3 : 2 ^ a * (lsum m + 1) ≤ 2 ^ a * (2 ^ 8) ^ m.length := Nat.mul_le_mul_left _ h2
    rw [Nat.mul_add, Nat.mul_one] at h3
    omega
  refine ⟨?_, ?_, ?_, hk⟩
  · intro x hx
    rcases List.mem_append.1 hx with h1 | h1
    · exact h.byte x h1
    · exact hm x h1
  · rw [List.length_append]; omega
  · rw [lsum_append, h.sum, hp]
theorem wAlign_calls (g : Nat) (v : Value) (N a : Nat) (w : World) (h : Wr w g v N a) (ha : a ≤ 1125899906809856) :
    Calls Tryd.prog 34 #[.pointer (some ⟨g, 0, none⟩)] w fun e w' => e = .returned (.int .i64 0) ∧ Wr w' g v N ((a + 7) / 8 * 8) ∧ WStep g v w v w' := by
  obtain ⟨hb, l, hB, hO⟩ := h
  have h1 : w.cell? ⟨g, 1, none⟩ = some (.int .i64 (a : Int)) := hb.cell 1
  have f1 := hb.frozen 1
  have H := Bx.mk (wIs_calls g _ _ true w hb)
  have hand := i64_up8 a (by omega)
  have BT := Bx.mk hB.up
  have HO := Bx.mk hO
  have HB := Bx.mk hb
  generalize (a + 7) / 8 * 8 = q at hand BT ⊢
  clear hb hB hO
  go_enter Tryd.func34, Tryd.ntmps34
  go_wp2_with fail
  refine H.out.mono ?_
  rintro e w1 ⟨rfl, rfl⟩
  go_wp2
  go_ret
  exact ⟨rfl, ⟨HB.out.set_ 1 (.int .i64 (q : Int)), l, BT.out, ownsRow_setCell_other HO.out (a := ⟨g, 1, none⟩) HO.out.ne _⟩, WStep.setG _⟩
set_option maxHeartbeats 1000000 in
theorem wBytes_yes (g : Nat) (v : Value) (N a : Nat) (B : Option Addr) (m : List Nat) (c : Nat) (w : World) (h : Wr w g v N a) (hm : RB w B m) (h8 : a % 8 = 0) (ha : a + 8 * m.length ≤ 1125899906809856) :
    Calls Tryd.prog 35 #[.pointer (some ⟨g, 0, none⟩), .slice B m.length c] w fun e w' => e = .returned (.int .i64 0) ∧ ∃ v', Wr w' g v' (N + 2 ^ a * lsum m) (a + 8 * m.length) ∧ WStep g v w v' w' := by
  obtain ⟨hb, l, hB, hO⟩ := h
  obtain ⟨A, c0, rfl⟩ := hO.form
  have h0 : w.cell? ⟨g, 0, none⟩ = some (.slice A l.length c0) := hb.cell 0
  have h1 : w.cell? ⟨g, 1, none⟩ = some (.int .i64 (a : Int)) := hb.cell 1
  have H := Bx.mk (wIs_calls g _ _ true w hb)
  have W8 := Bx.mk (whole_calls g _ _ (.bool true) a w hb)
  rw [decide_eq_true h8] at W8
  have BT := Bx.mk (hB.more h8 hm.1)
  have HO := Bx.mk hO
  have HB := Bx.mk hb
  have HM := Bx.mk hm
  have hlb : l.length + m.length ≤ 140737492549632 := by have := hB.len; omega
  have hsz : g + 1 ≤ w.heap.size := hb.lt
  have ham : a + 8 * m.length ≤ 1125899906809856 := ha
  generalize N + 2 ^ a * lsum m = M at BT ⊢
  clear hb hB hO hm h8
  go_enter Tryd.func35, Tryd.ntmps35
  go_wp2_with fail
  refine H.out.mono ?_
  rintro e w1 ⟨rfl, rfl⟩
  go_wp2_with fail
  refine W8.out.mono ?_
  rintro e w1 ⟨rfl, rfl⟩
  go_wp2_with (at_builtin; refine wpList_append_bytes _ rfl _ _ rfl (g + 1) _ l m rfl HO.out B c rfl HM.out hlb hsz ?_; intro v' w' ho' hg hat; obtain ⟨A', c', hv⟩ := OB.form (show OB w' (g + 1) v' (l ++ m) from ho'); rw [List.length_append] at hv; subst hv; have HB' := Bx.mk (HB.out.grown hg (fun hc => HO.out.ne hc.symm)); have q0 := HB'.out.frozen 0; have q1 := HB'.out.cell 0; have q2 := (HB'.out.set_ 0 (.slice A' (l.length + m.length) c')).cell 1; have q3 := (HB'.out.set_ 0 (.slice A' (l.length + m.length) c')).frozen 1; have HO' := Bx.mk ho'; have HS := Bx.mk (WStep.grown (g := g) hg (fun k hk => Nat.le_trans (Nat.le_succ g) (own_block HO.out k hk)) hat); clear ho' hg hat)
  have Z1 := Bx.mk ((HB'.out.set_ 0 (.slice A' (l.length + m.length) c')).set_ 1 (.int .i64 ((a : Int) + 8 * (m.length : Int))))
  have Z2 : Bx (OB ((w'.setCell ⟨g, 0, none⟩ (.slice A' (l.length + m.length) c')).setCell ⟨g, 1, none⟩ (.int .i64 ((a : Int) + 8 * (m.length : Int)))) (g + 1) (.slice A' (l.length + m.length) c') (l ++ m)) :=
    ⟨ownsRow_setCell_other (ownsRow_setCell_other HO'.out (a := ⟨g, 0, none⟩) (OB.ne HO'.out) _) (a := ⟨g, 1, none⟩) (OB.ne HO'.out) _⟩
  clear h0 h1
  go_wp2
  go_ret
  exact ⟨rfl, _, ⟨Z1.out, l ++ m, BT.out, Z2.out⟩, (HS.out.trans (WStep.setG _)).trans (WStep.setG _)⟩
theorem wBytes_no (g : Nat) (v x : Value) (a : Nat) (w : World) (h : Blk w g 93 #[v, .int .i64 (a : Int), .bool true]) (h8 : a % 8 ≠ 0) :
    Calls Tryd.prog 35 #[.pointer (some ⟨g, 0, none⟩), x] w fun e w' => e = .returned (.int .i64 2) ∧ w = w' := by
  have H := Bx.mk (wIs_calls g _ _ true w h)
  have W8 := Bx.mk (whole_calls g _ _ (.bool true) a w h)
  rw [decide_eq_false h8] at W8
  clear h h8
  go_enter Tryd.func35, Tryd.ntmps35
  go_wp2_with fail
  refine H.out.mono ?_
  rintro e w1 ⟨rfl, rfl⟩
  go_wp2_with fail
  refine W8.out.mono ?_
  rintro e w1 ⟨rfl, rfl⟩
  go_wp2
  go_ret
  exact ⟨rfl, rfl⟩
theorem rAlign_calls (g : Nat) (v : Value) (a : Nat) (w : World) (h : Blk w g 75 #[v, .int .i64 (a : Int), .bool true]) (ha : a ≤ 1125899940397056) :
    Calls Tryd.prog 86 #[.pointer (some ⟨g, 0, none⟩)] w fun e w' => e = .returned (.int .i64 0) ∧ Blk w' g 75 #[v, .int .i64 (((a + 7) / 8 * 8 : Nat) : Int), .bool true] ∧ Only g w w' := by
  have h1 : w.cell? ⟨g, 1, none⟩ = some (.int .i64 (a : Int)) := h.cell 1
  have f1 := h.frozen 1
  have H := Bx.mk (rIs_calls g _ _ true w h)
  have hand := i64_up8 a (by omega)
  have HB := Bx.mk h
  generalize (a + 7) / 8 * 8 = q at hand ⊢
  clear h
  go_enter Tryd.func86, Tryd.ntmps86
  go_wp2_with fail
  refine H.out.mono ?_
  rintro e w1 ⟨rfl, rfl⟩
  go_wp2
  go_ret
  exact ⟨rfl, HB.out.set_ 1 (.int .i64 (q : Int)), Only.set g 1 _ w⟩
/-- what the reader's Bytes answers -/
def byE (len a : Nat) (n : Int) : Nat := if n < 0 ∨ a % 8 ≠ 0 then 2 else if (((8 * len - a) / 8 : Nat) : Int) < n then 7 else 0
theorem rBytes_no (g : Nat) (A : Option Addr) (len c a : Nat) (n : Int) (w : World) (h : Blk w g 75 #[.slice A len c, .int .i64 (a : Int), .bool true]) (hlen : len ≤ 140737492549632) (ha : a ≤ 8 * len) (hE : byE len a n ≠ 0) :
    Calls Tryd.prog 88 #[.pointer (some ⟨g, 0, none⟩), .int .i64 n] w fun e w' => e = .returned (.tuple #[.slice none 0 0, .int .i64 (byE len a n)]) ∧ ∃ k, w' = w.drewN k := by
  have H := Bx.mk (rIs_calls g _ _ true w h)
  have W8 := Bx.mk (whole_calls g _ _ (.bool true) a w h)
  have L := Bx.mk (rLeft_calls g A len c a w h hlen ha)
  by_cases h0 : n < 0
  · have E : Bx (byE len a n = 2) := ⟨if_pos (.inl h0)⟩
    rw [E.out]
    clear h hE
    go_enter Tryd.func88, Tryd.ntmps88
    go_wp2_with fail
    refine H.out.mono ?_
    rintro e w1 ⟨rfl, rfl⟩
    go_wp2
    go_ret2
    exact ⟨rfl, 0, rfl⟩
  · by_cases h8 : a % 8 = 0
    · rw [decide_eq_true h8] at W8
      have e : byE len a n = if (((8 * len - a) / 8 : Nat) : Int) < n then 7 else 0 := by unfold byE; rw [if_neg (by omega)]
      have hs : (((8 * len - a) / 8 : Nat) : Int) < n := by
        by_cases h2 : (((8 * len - a) / 8 : Nat) : Int) < n
        · exact h2
        · exfalso; apply hE; rw [e, if_neg h2]
      have E : Bx (byE len a n = 7) := ⟨by rw [e, if_pos hs]⟩
      rw [E.out]
      have hs2 : ((8 * len - a : Nat) : Int) / 8 < n := by omega
      have hDb : 8 * len - a ≤ 1125899940397056 := by omega
      generalize 8 * len - a = D at L hs2 hDb
      clear h hE e hs h8
      go_enter Tryd.func88, Tryd.ntmps88
      go_wp2_with fail
      refine H.out.mono ?_
      rintro e w1 ⟨rfl, rfl⟩
      go_wp2_with fail
      refine W8.out.mono ?_
      rintro e w1 ⟨rfl, rfl⟩
      go_wp2_with fail
      refine L.out.mono ?_
      rintro e w1 ⟨rfl, k, hw⟩
      have HW := Bx.mk hw
      clear hw
      go_wp2
      go_ret2
      exact ⟨rfl, k, HW.out⟩
    · have E : Bx (byE len a n = 2) := ⟨if_pos (.inr h8)⟩
      rw [E.out]
      rw [decide_eq_false h8] at W8
      clear h hE h8
      go_enter Tryd.func88, Tryd.ntmps88
      go_wp2_with fail
      refine H.out.mono ?_
      rintro e w1 ⟨rfl, rfl⟩
      go_wp2_with fail
      refine W8.out.mono ?_
      rintro e w1 ⟨rfl, rfl⟩
      go_wp2
      go_ret2
      exact ⟨rfl, 0, rfl⟩
set_option maxHeartbeats 1000000 in
theorem rBytes_yes (g : Nat) (A : Option Addr) (l : List Nat) (c p n : Nat) (w : World) (h : Blk w g 75 #[.slice A l.length c, .int .i64 ((8 * p : Nat) : Int), .bool true]) (hl : RB w A l) (hc : l.length ≤ c) (hpn : p + n ≤ l.length)
    (hfar : ∀ w', Only g w w' → RB w' A l) :
    Calls Tryd.prog 88 #[.pointer (some ⟨g, 0, none⟩), .int .i64 n] w fun e w' => ∃ v, e = .returned (.tuple #[v, .int .i64 0]) ∧
      OB w' w.heap.size v ((l.drop p).take n) ∧ Blk w' g 75 #[.slice A l.length c, .int .i64 ((8 * (p + n) : Nat) : Int), .bool true] ∧ WStep g (.slice none 0 0) w (.slice none 0 0) w' := by
  have hlen := hl.2.1
  have H := Bx.mk (rIs_calls g _ _ true w h)
  have W8 := Bx.mk (whole_calls g _ _ (.bool true) (8 * p) w h)
  rw [decide_eq_true (show 8 * p % 8 = 0 by omega)] at W8
  have L := Bx.mk (rLeft_calls g A l.length c (8 * p) w h hlen (by omega))
  have hD : 8 * l.length - 8 * p ≤ 1125899940397056 := by omega
  have hs : ¬ ((8 * l.length - 8 * p : Nat) : Int) / 8 < (n : Int) := by omega
  generalize 8 * l.length - 8 * p = D at L hD hs
  have HB := Bx.mk h
  have FAR := Bx.mk hfar
  have hp : 8 * p ≤ 1125899940397056 := by omega
  have hpd : ((8 * p : Nat) : Int) / 8 = (p : Int) := by omega
  have hpnb : p + n ≤ 140737492549632 := by omega
  have ct := cut_mid_bytes A l.length c p (p + n) (by omega) hpn hc
  rw [show ((p + n : Nat) : Int) = (p : Int) + (n : Int) by omega, show p + n - p = n by omega] at ct
  have RX : Bx (∀ W, RB W A l → RB W (if c = p then A else A.map (·.add p)) (l.drop p)) := ⟨fun W h => h.drop p c hc⟩
  generalize (if c = p then A else A.map (·.add p)) = X at ct RX
  generalize c - p = Y at ct
  have HCUT := Bx.mk hc
  clear h hl hfar hc
  go_enter Tryd.func88, Tryd.ntmps88
  go_wp2_with fail
  refine H.out.mono ?_
  rintro e w1 ⟨rfl, rfl⟩
  go_wp2_with fail
  refine W8.out.mono ?_
  rintro e w1 ⟨rfl, rfl⟩
  go_wp2_with fail
  refine L.out.mono ?_
  rintro e w1 ⟨rfl, k, hw⟩
  have HO : Bx (Only g w w1) := ⟨by rw [hw]; exact Only.drewN g w k⟩
  have hb1 : Blk w1 g 75 #[.slice A l.length c, .int .i64 ((8 * p : Nat) : Int), .bool true] := by rw [hw]; exact HB.out
  have h1 : w1.cell? ⟨g, 1, none⟩ = some (.int .i64 ((8 * p : Nat) : Int)) := hb1.cell 1
  have f1 := hb1.frozen 1
  have hb2 := hb1.set_ 1 (.int .i64 (8 * (p : Int) + 8 * (n : Int)))
  have h02 := hb2.cell 0
  have HB2 := Bx.mk hb2
  have HO2 := Bx.mk (HO.out.trans (Only.set g 1 (.int .i64 (8 * (p : Int) + 8 * (n : Int))) w1))
  have cl := Clone_calls X ((l.drop p).take n) Y _ ((RX.out _ (FAR.out _ HO2.out)).take n)
  rw [show ((l.drop p).take n).length = n by rw [List.length_take, List.length_drop]; omega] at cl
  have CL := Bx.mk cl
  clear hw hb1 hb2 cl
  go_wp2_with fail
  all_goals refine CL.out.mono ?_
  all_goals
    rintro e w3 ⟨v3, rfl, ho3, hb3⟩
    have HV := Bx.mk ho3
    have HW3 := Bx.mk hb3
    clear ho3 hb3
    go_wp2
    go_ret2
    refine ⟨v3, rfl, ?_, ?_, ?_⟩
    · have := HV.out; rw [HO2.out.size] at this; exact this
    · rw [show ((8 * (p + n) : Nat) : Int) = 8 * (p : Int) + 8 * (n : Int) by omega]
      exact HB2.out.below HW3.out HB2.out.lt
    · have hS := HO2.out
      exact (WStep.only hS).trans ⟨fun B h1 h2 => HW3.out.mono h2, HW3.out.size, fun q hq _ _ => HW3.out.block q hq, fun _ h => .inl h⟩
def bN : List Nat → Nat
  | [] => 0
  | x :: r => x + 2 * bN r
def Bit (l : List Nat) : Prop := ∀ x ∈ l, x ≤ 1
theorem Bit.nil : Bit [] := fun _ h => by cases h
theorem Bit.app {l m : List Nat} (h : Bit l) (h' : Bit m) : Bit (l ++ m) := fun x hx => (List.mem_append.1 hx).elim (h x) (h' x)
theorem bN_lt : ∀ (l : List Nat), Bit l → bN l < 2 ^ l.length
  | [], _ => by simp [bN]
  | x :: r, h => by
    have h1 := h x (by simp)
    have h2 := bN_lt r (fun y hy => h y (by simp [hy]))
    simp only [bN, List.length_cons, Nat.pow_succ]; omega
theorem bN_app (l m : List Nat) : bN (l ++ m) = bN l + 2 ^ l.length * bN m := by
  induction l with
  | nil => simp [bN]
  | cons x r ih => simp only [List.cons_append, bN, ih, List.length_cons, Nat.pow_succ, Nat.mul_add]; rw [← Nat.mul_assoc, Nat.mul_comm 2 (2 ^ r.length)]; omega
theorem bN_snoc (l : List Nat) (x : Nat) : bN (l ++ [x]) = bN l + 2 ^ l.length * x := by rw [bN_app]; simp [bN]
/-- the lowest k bits of n, the lowest first -/
def lowL (n : Nat) : Nat → List Nat
  | 0 => []
  | k + 1 => lowL n k ++ [n / 2 ^ k % 2]
theorem lowL_length (n : Nat) : ∀ k, (lowL n k).length = k
  | 0 => rfl
  | k + 1 => by simp [lowL, lowL_length n k]
theorem lowL_bit (n : Nat) : ∀ k, Bit (lowL n k)
  | 0 => Bit.nil
  | k + 1 => (lowL_bit n k).app (fun x hx => by simp at hx; omega)
theorem bN_low (n : Nat) : ∀ k, bN (lowL n k) = n % 2 ^ k
  | 0 => by simp [lowL, bN, Nat.mod_one]
  | k + 1 => by rw [lowL, bN_snoc, bN_low n k, lowL_length, Nat.pow_succ, Nat.mod_mul]
/-- what is filled with noughts -/
theorem bN_zeros (k : Nat) : bN (List.replicate k 0) = 0 := by
  induction k with
  | zero => rfl
  | succ k ih => simp [List.replicate_succ, bN, ih]
theorem bN_drop : ∀ (k : Nat) (l : List Nat), Bit l → bN l / 2 ^ k = bN (l.drop k)
  | 0, l, _ => by simp
  | k + 1, [], _ => by simp [bN]
  | k + 1, x :: r, h => by
    have h1 := h x (by simp)
    have h2 := bN_drop k r (fun y hy => h y (by simp [hy]))
    rw [List.drop_succ_cons, ← h2, Nat.pow_succ, Nat.mul_comm, ← Nat.div_div_eq_div_mul]
    congr 1
    simp only [bN]; omega
theorem bN_take : ∀ (k : Nat) (l : List Nat), Bit l → bN l % 2 ^ k = bN (l.take k)
  | 0, l, _ => by simp [bN, Nat.mod_one]
  | k + 1, [], _ => by simp [bN]
  | k + 1, x :: r, h => by
    have h1 := h x (by simp)
    have h2 := bN_take k r (fun y hy => h y (by simp [hy]))
    rw [List.take_succ_cons]
    simp only [bN]
    rw [← h2, Nat.pow_succ, Nat.mul_comm (2 ^ k) 2, Nat.mod_mul]
    have e : (x + 2 * bN r) % 2 = x := by omega
    have e2 : (x + 2 * bN r) / 2 = bN r := by omega
    rw [e, e2]
/-- the numbers of bits are those of bytes -/
theorem pk_bits (l b : List Nat) (hb : Bit b) (h : bN b = lsum l) (a n : Nat) : pkN l a n = bN ((b.drop a).take n) := by
  unfold pkN
  rw [← h, bN_drop a b hb, bN_take n _ (fun x hx => hb x (List.mem_of_mem_drop hx))]
def zl (l : List Nat) : List Int := l.map fun (x : Nat) => (x : Int)
theorem zl_length (l : List Nat) : (zl l).length = l.length := by simp [zl]
theorem zl_app (l m : List Nat) : zl (l ++ m) = zl l ++ zl m := by simp [zl]
theorem zl_get (l : List Nat) (j : Nat) : (zl l).getD j 0 = ((l.getD j 0 : Nat) : Int) := by
  unfold zl
  rw [List.getD_eq_getElem?_getD, List.getD_eq_getElem?_getD, List.getElem?_map]
  cases l[j]? <;> rfl
theorem app_belowI {wr w2 : World} {B : Nat} {v : Value} {D : List Int} {o : Obj} (hz : B ≤ wr.heap.size) (hg : (wr.alloc o).grownBy w2 v.ownBlock) (ho : OI wr B v D) : Below B wr w2 :=
  ((Below.refl B wr).alloc hz o).grown hg (by simp; omega) (fun k hk => OI.block ho k hk)
theorem lowL_get (n : Nat) : ∀ (k j : Nat), j < k → (lowL n k)[j]? = some (n / 2 ^ j % 2)
  | 0, j, h => by omega
  | k + 1, j, h => by
    rw [lowL]
    rcases Nat.lt_or_ge j k with h1 | h1
    · rw [List.getElem?_append_left (by rw [lowL_length]; exact h1)]; exact lowL_get n k j h1
    · obtain rfl : j = k := by omega
      rw [List.getElem?_append_right (by rw [lowL_length]; exact Nat.le_refl _), lowL_length, Nat.sub_self]; rfl
/-- the bits of n at the places G -/
def placeL (n : Nat) (G : Nat → Int) : Nat → List Nat
  | 0 => []
  | i + 1 => placeL n G i ++ [n / 2 ^ (G i).toNat % 2]
theorem placeL_length (n : Nat) (G : Nat → Int) : ∀ k, (placeL n G k).length = k
  | 0 => rfl
  | k + 1 => by simp [placeL, placeL_length n G k]
theorem placeL_get (n : Nat) (G : Nat → Int) : ∀ (k j : Nat), j < k → (placeL n G k)[j]? = some (n / 2 ^ (G j).toNat % 2)
  | 0, j, h => by omega
  | k + 1, j, h => by
    rw [placeL]
    rcases Nat.lt_or_ge j k with h1 | h1
    · rw [List.getElem?_append_left (by rw [placeL_length]; exact h1)]; exact placeL_get n G k j h1
    · obtain rfl : j = k := by omega
      rw [List.getElem?_append_right (by rw [placeL_length]; exact Nat.le_refl _), placeL_length, Nat.sub_self]; rfl
theorem bN_place (n : Nat) (G : Nat → Int) : ∀ k, bN (placeL n G k) = eachV n G k
  | 0 => rfl
  | k + 1 => by rw [placeL, bN_snoc, bN_place n G k, placeL_length]; simp only [eachV]; rw [Nat.mul_comm]
theorem revN_eq (n k : Nat) : revN n k = bN (lowL n k).reverse := by
  unfold revN
  rw [← bN_place]
  congr 1
  apply List.ext_getElem?
  intro j
  rcases Nat.lt_or_ge j k with h | h
  · rw [placeL_get n _ k j h, List.getElem?_reverse (by rw [lowL_length]; exact h), lowL_length, lowL_get n k _ (by omega)]
    have e : ((k : Int) - 1 + (j : Int) * (-1)).toNat = k - 1 - j := by omega
    rw [e]
  · rw [List.getElem?_eq_none (by rw [placeL_length]; exact h), List.getElem?_eq_none (by rw [List.length_reverse, lowL_length]; exact h)]
theorem eachV_bit (n : Nat) (G : Nat → Int) : ∀ k j, j < k → eachV n G k / 2 ^ j % 2 = n / 2 ^ (G j).toNat % 2
  | 0, j, h => by omega
  | k + 1, j, h => by
    simp only [eachV]
    rcases Nat.lt_or_ge j k with h1 | h1
    · rw [← eachV_bit n G k j h1, show k = j + 1 + (k - j - 1) by omega, Nat.pow_add (m := j + 1), Nat.pow_succ]
      generalize eachV n G (j + 1 + (k - j - 1)) = E
      generalize n / 2 ^ (G (j + 1 + (k - j - 1))).toNat % 2 = X
      rw [show X * (2 ^ j * 2 * 2 ^ (k - j - 1)) = 2 ^ j * (2 * (2 ^ (k - j - 1) * X)) by rw [Nat.mul_comm X, Nat.mul_assoc, Nat.mul_assoc], Nat.add_mul_div_left _ _ (Nat.pow_pos (by decide)), Nat.add_mul_mod_self_left]
    · obtain rfl : j = k := by omega
      have h2 := eachV_lt n G j
      rw [Nat.mul_comm, Nat.add_mul_div_left _ _ (Nat.pow_pos (by decide)), Nat.div_eq_of_lt h2, Nat.zero_add, Nat.mod_mod]
theorem revN_bit (n b k : Nat) (h : k < b) : revN n b / 2 ^ k % 2 = n / 2 ^ (b - (k + 1)) % 2 := by
  unfold revN
  rw [eachV_bit n _ b k h]
  rw [show ((b : Int) - 1 + (k : Int) * (-1)).toNat = b - (k + 1) by omega]
theorem pkN_bit (l : List Nat) (a b k V : Nat) (h : lsum l / 2 ^ a % 2 ^ b = V) (hk : k < b) : pkN l (a + k) 1 = V / 2 ^ k % 2 := by
  unfold pkN
  rw [← h, Nat.pow_add, ← Nat.div_div_eq_div_mul, Nat.pow_one]
  generalize lsum l / 2 ^ a = M
  rw [show b = k + (b - k - 1) + 1 by omega, Nat.pow_succ, Nat.pow_add, Nat.mul_assoc, Nat.mod_mul_right_div_self, Nat.mul_comm _ 2, Nat.mod_mul_right_mod]
theorem half_step (n b k : Nat) (h : k < b) : 2 * (n / 2 ^ (b - k)) + n / 2 ^ (b - (k + 1)) % 2 = n / 2 ^ (b - (k + 1)) := by
  rw [show b - k = (b - (k + 1)) + 1 by omega, Nat.pow_succ, ← Nat.div_div_eq_div_mul]
  omega
theorem own_keep {w w' : World} {base : Nat} {e : TypeId} {size n : Nat} {v : Value} {xs : List Value} (h : w.ownsRow base e size v n xs) (hk : ∀ q, v.ownBlock = some q → w'.heap[q]? = w.heap[q]?) : w'.ownsRow base e size v n xs := by
  refine ⟨h.1, h.2.imp id ?_⟩
  rintro ⟨g, cap, cur, hv, hg, hh, r⟩
  exact ⟨g, cap, cur, hv, hg, (hk g (by rw [hv]; rfl)).trans hh, r⟩
theorem own_block' {w : World} {base : Nat} {e : TypeId} {size n : Nat} {v : Value} {xs : List Value} (h : w.ownsRow base e size v n xs) (k : Nat) (hk : v.ownBlock = some k) : base ≤ k ∧ k < w.heap.size := by
  rcases h.2 with ⟨rfl, _⟩ | ⟨g, cap, cur, rfl, hb, hh, _⟩
  · simp [Value.ownBlock] at hk
  · have : g = k := by simpa [Value.ownBlock] using hk
    subst this
    exact ⟨hb, (Array.getElem?_eq_some_iff.1 hh).1⟩
/-- rows of two kinds of elements are not one block -/
theorem own_own_ne {w : World} {base base' : Nat} {e e' : TypeId} {size size' n n' : Nat} {v v' : Value} {xs xs' : List Value} (h : w.ownsRow base e size v n xs) (h' : w.ownsRow base' e' size' v' n' xs') (hne : e ≠ e') :
    ∀ q, v.ownBlock = some q → v'.ownBlock ≠ some q := by
  intro q hq hq'
  rcases h.2 with ⟨rfl, _⟩ | ⟨g, cap, cur, rfl, _, hh, _⟩
  · simp [Value.ownBlock] at hq
  · rcases h'.2 with ⟨rfl, _⟩ | ⟨g', cap', cur', rfl, _, hh', _⟩
    · simp [Value.ownBlock] at hq'
    · obtain rfl : g = q := by simpa [Value.ownBlock] using hq
      obtain rfl : g' = g := by simpa [Value.ownBlock] using hq'
      rw [hh] at hh'
      injection hh' with hh'
      injection hh' with _ ht
      exact hne ht
theorem Wr.heap {w w' : World} {g N a : Nat} {v : Value} (h : Wr w g v N a) (hk : ∀ q, q = g ∨ v.ownBlock = some q → w'.heap[q]? = w.heap[q]?) : Wr w' g v N a := by
  obtain ⟨hb, l, h1, h2⟩ := h
  exact ⟨(hk g (.inl rfl)).trans hb, l, h1, own_keep h2 fun q hq => hk q (.inr hq)⟩
theorem Wr.lt {w : World} {g N a : Nat} {v : Value} (h : Wr w g v N a) (q : Nat) (hq : q = g ∨ v.ownBlock = some q) : q < w.heap.size := by
  obtain ⟨hb, l, h1, h2⟩ := h
  rcases hq with rfl | hq
  · exact hb.lt
  · exact (own_block' h2 q hq).2
theorem Wr.below {w w' : World} {g N a : Nat} {v : Value} (h : Wr w g v N a) (hb : Below w.heap.size w w') : Wr w' g v N a := h.heap fun q hq => hb.block q (h.lt q hq)
theorem is_one (l : List Int) : ∀ u ∈ is l, u.oneCell' = true := fun u hu => by
  obtain ⟨_, _, rfl⟩ := List.mem_map.1 hu
  rfl
/-- 'append(v, ys...)', ints onto ints that the call owns -/
theorem wpList_append_ints {ops : Array Oper} {rest : List Oper} {o : Oper} {a : Act} {Q : Exit → Act → World → Prop} (W : World) (hgd : o.guard = none) (s x : Operand)
    (ho : o.op = .call { callee := .builtin .append, args := #[s, x], argTypes := #[65, 65] })
    (base : Nat) (v : Value) (xs ys : List Int) (n : Nat) (hn : ys.length = n) (hs : a.eval s = v) (hown : OI W base v xs) (A : Option Addr) (c : Nat) (hx : a.eval x = .slice A n c) (hr : Reads W W.heap.size 1 A n (is ys))
    (hlen : (xs.length + n) * 8 ≤ 140737492549632) (hbase : base ≤ W.heap.size)
    (h : ∀ v' w', OI w' base v' (xs ++ ys) → W.grownBy w' v.ownBlock → (v'.ownBlock = v.ownBlock ∨ v'.ownBlock = some W.heap.size) → wpList Tryd.prog ops Q rest (a.put o.dst v') w') :
    wpList Tryd.prog ops Q (o :: rest) a W := by
  obtain ⟨i, hi, hzz⟩ := Option.map_eq_some_iff.1 info_int
  simp only [Prod.mk.injEq] at hzz
  obtain ⟨hz, h1, hb⟩ := hzz
  refine wpList_append_any _ hgd s x 65 ho base 3 i (.int .i64 0) 1 8 Tryd.underlying65 hi hz h1 hb rfl (by omega) v xs.length (is xs) hs hown W.heap.size A n c (is ys) hx hr (is_one ys) (by unfold maxLen; omega) hlen hbase ?_
  intro v' w' ho' hg hat
  exact h v' w' (by unfold OI; rw [is_append, List.length_append, hn]; exact ho') hg hat
theorem OI.reads {w : World} {base : Nat} {A : Option Addr} {n c : Nat} {l : List Int} (h : OI w base (.slice A n c) l) : Reads w w.heap.size 1 A l.length (is l) := by
  obtain ⟨A', c', he⟩ := h.form
  injection he with e1 e2 e3
  subst e1; subst e2; subst e3
  exact Reads.of_own h
/-- ints' row under a writer's call -/
theorem OI.step {w w' : World} {base g N a : Nat} {T v v' : Value} {l : List Int} (h : OI w base T l) (hw : Wr w g v N a) (hs : WStep g v w v' w') : OI w' base T l := by
  refine own_keep h fun q hq => hs.keep q (own_block' h q hq).2 ?_ ?_
  · rintro rfl
    exact own_blk_ne h hw.blk (show 3 ≠ 93 by decide) hq
  · obtain ⟨l, -, ho⟩ := hw.own
    exact own_own_ne h ho (by decide) q hq
theorem OI.below {w w' : World} {base : Nat} {v : Value} {l : List Int} (h : OI w base v l) (hb : Below w.heap.size w w') : OI w' base v l := own_keep h fun q hq => hb.block q (own_block' h q hq).2
theorem make_ints (m : Nat) (hm : m ≤ 17592186044416) (w : World) :
    (Instr.makeSlice 65 (.int .i64 (m : Int)) (.int .i64 (m : Int))).run Tryd.prog w = .ok (.slice (some ⟨w.heap.size, 0, none⟩) m m) (w.alloc (.cells (madeCells #[.int .i64 0] m) 3)) :=
  run_make_row' 65 3 (.int .i64 0) 8 Tryd.underlying65 info_int rfl .i64 .i64 m (by omega) (by omega) w
theorem own_made_ints (w : World) (m : Nat) (hm : m ≤ 17592186044416) : OI (w.alloc (.cells (madeCells #[.int .i64 0] m) 3)) w.heap.size (.slice (some ⟨w.heap.size, 0, none⟩) m m) (List.replicate m 0) := by
  refine ⟨by simp [is], .inr ⟨w.heap.size, m, _, by rw [List.length_replicate], Nat.le_refl _, heap_alloc_new w _, by simp, by unfold maxLen; omega, by rw [size_madeCells, Nat.mul_one], ?_⟩⟩
  rw [toList_madeCells_one]
  simp [is, List.map_replicate]
theorem OB.form' {w : World} {base : Nat} {v : Value} {l : List Nat} (h : OB w base v l) : ∃ A c, v = .slice A l.length c ∧ l.length ≤ c := by
  rcases h.2 with ⟨rfl, h0⟩ | ⟨g, cap, cur, rfl, _, _, h1, _⟩
  · exact ⟨none, 0, by rw [h0], by omega⟩
  · exact ⟨_, cap, rfl, h1⟩
theorem OI.form' {w : World} {base : Nat} {v : Value} {l : List Int} (h : OI w base v l) : ∃ A c, v = .slice A l.length c ∧ l.length ≤ c := by
  rcases h.2 with ⟨rfl, h0⟩ | ⟨g, cap, cur, rfl, _, _, h1, _⟩
  · exact ⟨none, 0, by rw [h0], by omega⟩
  · exact ⟨_, cap, rfl, h1⟩
section
variable {w : World} {r y b1 b2 : Nat} {A1 A2 : Option Addr} {c1 c2 : Nat} {l : List Nat} {a a' : Nat} {wr w1 : World}
end
end Go.Proofs.YtoekecopfmohiaaDoor
