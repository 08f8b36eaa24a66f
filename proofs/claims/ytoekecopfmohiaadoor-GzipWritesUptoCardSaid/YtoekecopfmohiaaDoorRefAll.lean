import Derived.Test.YtoekecopfmohiaaDoorCodeMk
import Derived.Test.YtoekecopfmohiaaDoorBitsAll
import Derived.Test.YtoekecopfmohiaaDoorCrcAll
import Derived.WalkSpells
/-
  The document's reference: Low, High, Pack, Words, the checksum, Put.
-/
namespace Go.Proofs.YtoekecopfmohiaaDoor
open Go.RowKit
theorem Low_arg (n b : Int) (w : World) (h : b < 0 ∨ 24 < b ∨ n < 0) :
    Calls Tryd.prog 109 #[.int .i64 n, .int .i64 b] w fun e w' => e = .returned (.tuple #[.slice none 0 0, .bool false]) ∧ w = w' := by
  by_cases h1 : b < 0
  · clear h
    go_enter Tryd.func109, Tryd.ntmps109
    go_wp2
    go_ret2
    exact ⟨rfl, rfl⟩
  · by_cases h2 : 24 < b
    · clear h
      go_enter Tryd.func109, Tryd.ntmps109
      go_wp2
      go_ret2
      exact ⟨rfl, rfl⟩
    · have h3 : n < 0 := by omega
      clear h
      go_enter Tryd.func109, Tryd.ntmps109
      go_wp2
      go_ret2
      exact ⟨rfl, rfl⟩
set_option maxHeartbeats 1000000 in
theorem Low_calls (n k : Nat) (w : World) (hk : k ≤ 24) (hn : n ≤ 9223372036854775807) :
    Calls Tryd.prog 109 #[.int .i64 (n : Int), .int .i64 (k : Int)] w fun e w' => ∃ v, e = .returned (.tuple #[v, .bool (decide (n < 2 ^ k))]) ∧ OI w' w.heap.size v (zl (lowL n k)) ∧ Below w.heap.size w w' := by
  obtain ⟨m, hm⟩ : ∃ m, m = w.heap.size := ⟨_, rfl⟩
  have HM := Bx.mk hm
  go_enter Tryd.func109, Tryd.ntmps109
  go_wp2
  go_loopw [0, 6, 7] (fun x v i wr => ∃ j, j ≤ k ∧ i = .int .i64 (j : Nat) ∧ x = .int .i64 ((n / 2 ^ j : Nat) : Int) ∧ Bx (OI wr m v (zl (lowL n j))) ∧ Bx (Below m w wr)) (fun _ _ i _ => k - (intOf i).toNat)
  case atStart => exact ⟨0, Nat.zero_le _, rfl, by simp, ⟨by rw [HM.out]; exact OI.empty w⟩, ⟨by rw [HM.out]; exact below_alloc1 w _⟩⟩
  case round =>
    obtain ⟨j, hj, rfl, rfl, HO, HB⟩ := hrel
    have hNle : n / 2 ^ j ≤ n := Nat.div_le_self _ _
    by_cases hlt : j < k
    · have hd : n / 2 ^ (j + 1) = n / 2 ^ j / 2 := by rw [Nat.pow_succ, Nat.div_div_eq_div_mul]
      have hs : zl (lowL n (j + 1)) = zl (lowL n j) ++ [((n / 2 ^ j % 2 : Nat) : Int)] := by rw [lowL, zl_app]; rfl
      have HD := Bx.mk hd
      have HS := Bx.mk hs
      have hlen : ((zl (lowL n j)).length + 1) * 8 ≤ 140737492549632 := by rw [zl_length, lowL_length]; omega
      have hmz : m ≤ wr.heap.size := Nat.le_trans (by rw [HM.out]; exact Nat.le_refl _) HB.out.size
      clear hd hs hm
      generalize n / 2 ^ j = N at HD HS hNle ⊢
      have hv : (N : Int) % 2 = ((N % 2 : Nat) : Int) := by omega
      generalize N % 2 = V at hv HS
      generalize zl (lowL n j) = D at HO HS hlen
      go_wp2_with (at_builtin; refine wpList_append_int wr rfl (.tmp 24) (.tmp 27) rfl m u6 D (V : Int) rfl HO.out rfl hlen hmz ?_; intro v2 w2 ho2 hg2 _; have hb2 := Bx.mk (app_belowI hmz hg2 HO.out); have HO2 := Bx.mk ho2; clear hg2 ho2)
      go_roundw
      case rel => exact ⟨j + 1, by omega, by go_num, by rw [HD.out]; go_num, ⟨by rw [HS.out]; exact HO2.out⟩, ⟨HB.out.trans hb2.out⟩⟩
      case measure => simp [intOf]; omega
    · obtain rfl : j = k := by omega
      have hq : decide (n < 2 ^ j) = decide (n / 2 ^ j = 0) := by
        apply Bool.eq_iff_iff.2
        simp only [decide_eq_true_eq]
        rw [Nat.div_eq_zero_iff]
        have : 0 < 2 ^ j := Nat.pow_pos (by decide)
        omega
      have HQ := Bx.mk hq
      clear hq hm
      generalize n / 2 ^ j = N at HQ hNle ⊢
      go_wp2
      go_ret2
      refine ⟨_, ?_, by rw [← HM.out]; exact HO.out, by rw [← HM.out]; exact HB.out⟩
      rw [HQ.out]
      congr 2
      all_goals try simp
      all_goals (apply Bool.eq_iff_iff.2; first | (simp; done) | (simp; omega))
theorem OI.le {w : World} {base base' : Nat} {v : Value} {l : List Int} (h : OI w base v l) (hb : base' ≤ base) : OI w base' v l :=
  ⟨h.1, h.2.elim Or.inl (fun ⟨g, cap, cur, hv, hg, r⟩ => Or.inr ⟨g, cap, cur, hv, Nat.le_trans hb hg, r⟩)⟩
theorem High_arg (n b : Int) (w : World) (h : b < 0 ∨ 24 < b ∨ n < 0) :
    Calls Tryd.prog 98 #[.int .i64 n, .int .i64 b] w fun e w' => ∃ v, e = .returned (.tuple #[v, .bool false]) ∧ OI w' w.heap.size v [] ∧ Below w.heap.size w w' := by
  have L := Bx.mk (Low_arg n b w h)
  clear h
  go_enter Tryd.func98, Tryd.ntmps98
  go_wp2_with fail
  refine L.out.mono ?_
  rintro e w1 ⟨rfl, rfl⟩
  go_wp2
  go_loop [8, 9] (fun v i => v = .slice (some ⟨w.heap.size, 0, none⟩) 0 0 ∧ i = .int .i64 (-1)) (fun _ _ => 0)
  case atStart => exact ⟨rfl, rfl⟩
  case round =>
    obtain ⟨rfl, rfl⟩ := hrel
    go_wp2
    go_ret2
    exact ⟨_, rfl, OI.empty w, below_alloc1 w _⟩
set_option maxHeartbeats 1000000 in
theorem High_calls (n k : Nat) (w : World) (hk : k ≤ 24) (hn : n ≤ 9223372036854775807) :
    Calls Tryd.prog 98 #[.int .i64 (n : Int), .int .i64 (k : Int)] w fun e w' => ∃ v, e = .returned (.tuple #[v, .bool (decide (n < 2 ^ k))]) ∧ OI w' w.heap.size v (zl (lowL n k).reverse) ∧ Below w.heap.size w w' := by
  have L := Bx.mk (Low_calls n k w hk hn)
  generalize decide (n < 2 ^ k) = ok at L ⊢
  have hL := lowL_length n k
  go_enter Tryd.func98, Tryd.ntmps98
  go_wp2_with fail
  refine L.out.mono ?_
  rintro e w1 ⟨v1, rfl, ho, hb⟩
  obtain ⟨A1, c1, hv⟩ := ho.form
  rw [zl_length, hL] at hv
  subst hv
  have HI := Bx.mk (OI.ir ho)
  have HB := Bx.mk hb
  generalize hLL : lowL n k = l at hL HI
  have HLL := Bx.mk hLL
  have HL := Bx.mk hL
  clear ho hb hL L hLL
  go_wp2
  go_loopw [8, 9] (fun v i wr => ∃ j : Nat, j ≤ k ∧ i = .int .i64 ((k : Int) - 1 - (j : Int)) ∧ Bx (OI wr w1.heap.size v (zl (l.reverse.take j))) ∧ Bx (Below w1.heap.size w1 wr)) (fun _ i _ => (intOf i + 1).toNat)
  case atStart => exact ⟨0, Nat.zero_le _, by congr 1; first | done | omega, ⟨by simpa [zl] using OI.empty w1⟩, ⟨below_alloc1 w1 _⟩⟩
  case round =>
    obtain ⟨j, hj, rfl, HO, HBr⟩ := hrel
    by_cases hlt : j < k
    · obtain ⟨p, hp⟩ : ∃ p : Nat, p = k - 1 - j := ⟨_, rfl⟩
      have hpi : (k : Int) - 1 - (j : Int) = (p : Int) := by omega
      have hpk : p < k := by omega
      obtain ⟨ad, rfl, hd⟩ := (HI.out.below HBr.out) (by rw [zl_length, HL.out]; omega)
      have hg := hd p (by rw [zl_length, HL.out]; exact hpk)
      rw [zl_get] at hg
      have hs : zl (l.reverse.take (j + 1)) = zl (l.reverse.take j) ++ [((l.getD p 0 : Nat) : Int)] := by
        have hr : j < l.reverse.length := by rw [List.length_reverse, HL.out]; exact hlt
        rw [List.take_succ_eq_append_getElem hr, zl_app]
        congr 1
        rw [List.getElem_reverse, hp, ← HL.out, List.getD_eq_getElem?_getD, List.getElem?_eq_getElem (by have := HL.out; omega)]
        rfl
      have HS := Bx.mk hs
      have hlen : ((zl (l.reverse.take j)).length + 1) * 8 ≤ 140737492549632 := by rw [zl_length, List.length_take]; omega
      have hmz : w1.heap.size ≤ wr.heap.size := HBr.out.size
      have HPI := Bx.mk hpi
      rw [hpi]
      clear hs hd hpi hp
      generalize l.getD p 0 = X at hg HS
      generalize zl (l.reverse.take j) = D at HO HS hlen
      go_wp2_with (at_builtin; refine wpList_append_int wr rfl (.tmp 24) (.tmp 29) rfl w1.heap.size u8 D (X : Int) rfl HO.out rfl hlen hmz ?_; intro v2 w2 ho2 hg2 _; have hb2 := Bx.mk (app_belowI hmz hg2 HO.out); have HO2 := Bx.mk ho2; clear hg2 ho2)
      go_roundw
      case rel => exact ⟨j + 1, by omega, by have := HPI.out; first | (congr 1; done) | (congr 1; omega), ⟨by rw [HS.out]; exact HO2.out⟩, ⟨HBr.out.trans hb2.out⟩⟩
      case measure => have := HPI.out; first | (simp [intOf]; done) | (simp [intOf]; omega)
    · obtain rfl : j = k := by omega
      have hall : l.reverse.take j = l.reverse := List.take_of_length_le (by rw [List.length_reverse, HL.out]; exact Nat.le_refl _)
      have HALL := Bx.mk hall
      have hm1 : (j : Int) - 1 - (j : Int) = -1 := by omega
      rw [hm1]
      clear hall
      go_wp2
      go_ret2
      refine ⟨_, rfl, ?_, below_then HB.out HB.out.size HBr.out⟩
      rw [HLL.out, ← HALL.out]
      exact OI.le HO.out HB.out.size
theorem Bts.byte1 {l : List Nat} {N a n r : Nat} (h : Bts l N a) (h8 : a % 8 = 0) (hr : 1 ≤ r) (hr2 : r ≤ 8) (hn : n < 2 ^ r) : Bts (l ++ [n]) (N + 2 ^ a * n) (a + r) := by
  have hl : l.length = a / 8 := by have := h.len; omega
  have h256 : 2 ^ r ≤ 256 := Nat.le_trans (Nat.pow_le_pow_right (by decide) hr2) (by decide)
  refine ⟨?_, ?_, ?_, ?_⟩
  · intro x hx
    rcases List.mem_append.1 hx with h1 | h1
    · exact h.byte x h1
    · have : x = n := by simpa using h1
      omega
  · rw [List.length_append, List.length_singleton]; omega
  · rw [lsum_append, h.sum, pow_at a, h8, hl]; simp [lsum]
  · have h1 := h.small
    have h3 : 2 ^ a * (n + 1) ≤ 2 ^ a * 2 ^ r := Nat.mul_le_mul_left _ hn
    rw [Nat.mul_add, Nat.mul_one] at h3
    rw [Nat.pow_add]
    omega
theorem bN_take_succ (l : List Nat) (j : Nat) (h : j < l.length) : bN (l.take (j + 1)) = bN (l.take j) + 2 ^ j * l.getD j 0 := by
  rw [List.take_succ_eq_append_getElem h, bN_snoc, List.length_take, Nat.min_eq_left (by omega), List.getD_eq_getElem?_getD, List.getElem?_eq_getElem h]; rfl
theorem app_belowB {wr w2 : World} {B : Nat} {v : Value} {D : List Nat} {o : Obj} (hz : B ≤ wr.heap.size) (hg : (wr.alloc o).grownBy w2 v.ownBlock) (ho : OB wr B v D) : Below B wr w2 :=
  ((Below.refl B wr).alloc hz o).grown hg (by simp; omega) (fun k hk => own_block ho k hk)
set_option maxHeartbeats 1000000 in
theorem Pack_calls (A : Option Addr) (l : List Nat) (c : Nat) (w : World) (hl : IR w A (zl l)) (hb : Bit l) (hs : l.length ≤ 8388608) :
    Calls Tryd.prog 78 #[.slice A l.length c] w fun e w' => ∃ v m, Bts m (bN l) l.length ∧ e = .returned v ∧ OB w' w.heap.size v m ∧ Below w.heap.size w w' := by
  have HI := Bx.mk hl
  have HBit := Bx.mk hb
  clear hl hb
  obtain ⟨z, hz⟩ : ∃ z, z = w.heap.size := ⟨_, rfl⟩
  have HM := Bx.mk hz
  clear hz
  go_enter Tryd.func78, Tryd.ntmps78
  go_wp2
  go_loopw [3, 4, 5, 6, 7] (fun v i n x k wr => ∃ (j : Nat) (m : List Nat), i = .int .i64 ((8 * j : Nat) : Int) ∧ 8 * j ≤ l.length + 7 ∧ Bx (Bts m (bN (l.take (8 * j))) (min (8 * j) l.length)) ∧ Bx (OB wr z v m) ∧ Bx (Below z w wr)) (fun _ i _ _ _ _ => l.length + 8 - (intOf i).toNat)
  case atStart => exact ⟨0, [], rfl, by omega, ⟨by simpa [bN] using Bts.nil⟩, ⟨by rw [HM.out]; exact own_empty w⟩, ⟨by rw [HM.out]; exact below_alloc1 w _⟩⟩
  case round =>
    obtain ⟨j, m, rfl, hjl, HB, HO, HBl⟩ := hrel
    by_cases hlt : 8 * j < l.length
    · obtain ⟨ad, rfl, hd⟩ := (HI.out.below (w1 := wr) (by rw [← HM.out]; exact HBl.out)) (by rw [zl_length]; omega)
      have HD := Bx.mk hd
      clear hd
      go_wp2
      go_loop [5, 6, 7] (fun n x k => ∃ q, q ≤ 8 ∧ 8 * j + q ≤ l.length ∧ k = .int .i64 ((8 * j + q : Nat) : Int) ∧ n = .int .i64 ((bN ((l.drop (8 * j)).take q) : Nat) : Int) ∧ x = .int .i64 ((2 ^ q : Nat) : Int)) (fun _ _ k => l.length + 8 - (intOf k).toNat)
      case atStart => exact ⟨0, by omega, by omega, by simp, by simp [bN], rfl⟩
      case round =>
        obtain ⟨q, hq, hql, rfl, rfl, rfl⟩ := hrel
        have hbit : Bit ((l.drop (8 * j)).take q) := fun x hx => HBit.out x (List.mem_of_mem_drop (List.mem_of_mem_take hx))
        have hlenq : ((l.drop (8 * j)).take q).length = q := by rw [List.length_take, List.length_drop]; omega
        have hnlt := bN_lt _ hbit
        rw [hlenq] at hnlt
        have hp8 : 2 ^ q ≤ 256 := Nat.le_trans (Nat.pow_le_pow_right (by decide) hq) (by decide)
        clear hbit hlenq
        by_cases hin : q < 8 ∧ 8 * j + q < l.length
        · have hin1 := hin.1
          have hin2 := hin.2
          have hck := HD.out (8 * j + q) (by rw [zl_length]; exact hin2)
          rw [zl_get] at hck
          have hsn := bN_take_succ (l.drop (8 * j)) q (by rw [List.length_drop]; omega)
          have hgd : (l.drop (8 * j)).getD q 0 = l.getD (8 * j + q) 0 := by
            rw [List.getD_eq_getElem?_getD, List.getD_eq_getElem?_getD, List.getElem?_drop]
          rw [hgd] at hsn
          have hb1 : l.getD (8 * j + q) 0 ≤ 1 := by
            rw [List.getD_eq_getElem?_getD, List.getElem?_eq_getElem hin2]; exact HBit.out _ (List.getElem_mem hin2)
          have hps := Nat.pow_succ (n := 2) (m := q)
          have hmul : 2 ^ q * l.getD (8 * j + q) 0 ≤ 2 ^ q * 1 := Nat.mul_le_mul_left _ hb1
          have hmi : ((l.getD (8 * j + q) 0 : Nat) : Int) * ((2 ^ q : Nat) : Int) = ((2 ^ q * l.getD (8 * j + q) 0 : Nat) : Int) := by rw [Int.natCast_mul, Int.mul_comm]
          generalize 2 ^ q * l.getD (8 * j + q) 0 = MX at hsn hmul hmi
          generalize l.getD (8 * j + q) 0 = X at hck hmi hb1
          generalize bN ((l.drop (8 * j)).take q) = V at hsn hnlt ⊢
          have HS := Bx.mk hsn
          have HP := Bx.mk hps
          generalize 2 ^ q = M at hp8 hnlt hmul hmi HP ⊢
          clear hsn hps hgd hin
          go_wp2
          refine ⟨⟨_, _, _, ⟨q + 1, by omega, by omega, ?_, ?_, ?_⟩, rfl, rfl, rfl⟩, ?_⟩
          · first | (congr 1; done) | (congr 1; omega)
          · rw [HS.out]; first | (congr 1; done) | (congr 1; omega)
          · congr 1
            rw [show (2 : Int) ^ (q + 1) = ((2 ^ (q + 1) : Nat) : Int) by rw [Int.natCast_pow]; rfl]
            have := HP.out
            omega
          · simp [intOf]; omega
        · have hq1 : 1 ≤ q := by omega
          have htk : (l.drop (8 * j)).take q = (l.drop (8 * j)).take 8 := by
            rcases Nat.lt_or_ge q 8 with h | h
            · rw [List.take_of_length_le (by rw [List.length_drop]; omega), List.take_of_length_le (by rw [List.length_drop]; omega)]
            · rw [show q = 8 by omega]
          have hspl : bN (l.take (8 * (j + 1))) = bN (l.take (8 * j)) + 2 ^ (8 * j) * bN ((l.drop (8 * j)).take q) := by
            rw [htk, show 8 * (j + 1) = 8 * j + 8 by omega, List.take_add, bN_app, List.length_take, Nat.min_eq_left (by omega)]
          have hB := HB.out
          rw [Nat.min_eq_left (by omega)] at hB
          have hB2 := hB.byte1 (by omega) hq1 hq hnlt
          rw [← hspl, show 8 * j + q = min (8 * (j + 1)) l.length by omega] at hB2
          have hml : m.length + 1 ≤ 140737492549632 := by have := hB.len; omega
          have HB2 := Bx.mk hB2
          generalize bN ((l.drop (8 * j)).take q) = V at hnlt HB2 ⊢
          have hV : V < 256 := Nat.lt_of_lt_of_le hnlt hp8
          have hw8 : IntKind.u8.wrap (V : Int) = (V : Int) := by rw [IntKind.wrap_u8']; omega
          have HOA := Bx.mk (HO.out.below (below_alloc1 wr (.cells #[.int .u8 (V : Int)] 5)))
          have h1V : ∀ x ∈ [V], x < 256 := by
            intro x hx
            have : x = V := by simpa using hx
            omega
          have RL := Bx.mk (RB.lit wr 5 [V] #[.int .u8 (V : Int)] rfl h1V (by simp))
          have hzw : z ≤ wr.heap.size := Nat.le_trans (by rw [HM.out]; exact Nat.le_refl _) HBl.out.size
          have hza : z ≤ (wr.alloc (.cells #[.int .u8 (V : Int)] 5)).heap.size := by simp; omega
          clear hspl htk hB hB2
          generalize 2 ^ q = M at hp8 hnlt ⊢
          go_wp2_with (at_builtin; refine wpList_append_bytes _ rfl (.tmp 38) (.tmp 41) rfl z u3 m [V] rfl HOA.out (some ⟨wr.heap.size, 0, none⟩) 1 rfl RL.out hml hza ?_; intro v2 w2 ho2 hg2 _; have hb2 := Bx.mk (app_belowB hzw hg2 HO.out); have HO2 := Bx.mk ho2; clear hg2 ho2)
          all_goals go_roundw
          all_goals first | exact ⟨j + 1, m ++ [V], by go_num, by omega, HB2, HO2, ⟨HBl.out.trans hb2.out⟩⟩ | (simp [intOf]; omega)
    · have h1 : l.take (8 * j) = l := List.take_of_length_le (by omega)
      have hB := HB.out
      rw [h1, Nat.min_eq_right (by omega)] at hB
      have HB2 := Bx.mk hB
      clear hB h1
      go_wp2
      go_ret
      exact ⟨_, m, HB2.out, rfl, by rw [← HM.out]; exact HO.out, by rw [← HM.out]; exact HBl.out⟩
/-- a number's bits, the highest first -/
def hiL (x n : Nat) : List Nat := (lowL x n).reverse
theorem hiL_length (x n : Nat) : (hiL x n).length = n := by unfold hiL; rw [List.length_reverse, lowL_length]
theorem hiL_bit (x n : Nat) : Bit (hiL x n) := fun y hy => lowL_bit x n y (List.mem_reverse.1 hy)
/-- the words that are known when n is looked at, up to symbol j -/
def wF (L : List Nat) (n j i : Nat) : List Nat :=
  if L.getD i 0 ≠ 0 ∧ (L.getD i 0 < n ∨ (L.getD i 0 = n ∧ i < j)) then hiL (wrd L i) (L.getD i 0) else []
/-- slices of slices that the call owns: block q, n of them, what each holds -/
def WO (w : World) (q n : Nat) (f : Nat → List Nat) : Prop :=
  ∃ cs : Array Value, Blk w q 65 cs ∧ cs.size = n ∧ ∀ i, i < n → ∃ v, cs[i]? = some v ∧ OI w (q + 1) v (zl (f i))
theorem WO.below {w w' : World} {q n : Nat} {f : Nat → List Nat} (h : WO w q n f) (hb : Below w.heap.size w w') : WO w' q n f := by
  obtain ⟨cs, h1, h2, h3⟩ := h
  exact ⟨cs, h1.below hb h1.lt, h2, fun i hi => let ⟨v, a, b⟩ := h3 i hi; ⟨v, a, b.below hb⟩⟩
theorem WO.cong {w : World} {q n : Nat} {f f' : Nat → List Nat} (h : WO w q n f) (hf : ∀ i, i < n → f i = f' i) : WO w q n f' := by
  obtain ⟨cs, h1, h2, h3⟩ := h
  exact ⟨cs, h1, h2, fun i hi => by rw [← hf i hi]; exact h3 i hi⟩
theorem WO.cell {w : World} {q n : Nat} {f : Nat → List Nat} (h : WO w q n f) (i : Nat) (hi : i < n) : ∃ v, w.cell? ⟨q, i, none⟩ = some v ∧ OI w (q + 1) v (zl (f i)) ∧ w.frozen? ⟨q, i, none⟩ = false := by
  obtain ⟨cs, h1, h2, h3⟩ := h
  obtain ⟨v, a, b⟩ := h3 i hi
  exact ⟨v, (h1.cell i).trans a, b, h1.frozen i⟩
theorem WO.put {w : World} {q n : Nat} {f : Nat → List Nat} (h : WO w q n f) (i : Nat) (hi : i < n) (v : Value) (l : List Nat) (hv : OI w (q + 1) v (zl l)) : WO (w.setCell ⟨q, i, none⟩ v) q n (fun k => if k = i then l else f k) := by
  obtain ⟨cs, h1, h2, h3⟩ := h
  have key : ∀ {u : Value} {m : List Int}, OI w (q + 1) u m → OI (w.setCell ⟨q, i, none⟩ v) (q + 1) u m := fun hu =>
    ownsRow_setCell_other hu (a := ⟨q, i, none⟩) (fun hc => by have := OI.block hu q hc; omega) _
  refine ⟨_, h1.set_ i v, by rw [Array.size_setIfInBounds]; exact h2, fun k hk => ?_⟩
  by_cases hki : k = i
  · subst hki
    refine ⟨v, ?_, ?_⟩
    · rw [Array.getElem?_setIfInBounds, if_pos rfl, if_pos (by omega)]
    · simp only [if_pos]; exact key hv
  · obtain ⟨u, a, b⟩ := h3 k hk
    refine ⟨u, ?_, ?_⟩
    · rw [Array.getElem?_setIfInBounds, if_neg (fun h => hki h.symm)]; exact a
    · simp only [if_neg hki]; exact key b
theorem info_ints : (Tryd.prog.info? 65).map (fun i => (i.zero, i.size, i.bytes)) = some (some (.slice none 0 0), 1, 24) := by kernel_rfl
theorem make_rows (m : Nat) (hm : m ≤ 1048576) (w : World) :
    (Instr.makeSlice 97 (.int .i64 (m : Int)) (.int .i64 (m : Int))).run Tryd.prog w = .ok (.slice (some ⟨w.heap.size, 0, none⟩) m m) (w.alloc (.cells (madeCells #[.slice none 0 0] m) 65)) :=
  run_make_row' 97 65 (.slice none 0 0) 24 Tryd.underlying97 info_ints rfl .i64 .i64 m (by omega) (by omega) w
theorem WO.made (w : World) (m : Nat) : WO (w.alloc (.cells (madeCells #[.slice none 0 0] m) 65)) w.heap.size m (fun _ => []) := by
  refine ⟨_, Blk.new w _ _, by rw [size_madeCells]; first | done | simp, fun i hi => ⟨.slice none 0 0, ?_, OI.nil _ _⟩⟩
  rw [← Array.getElem?_toList, toList_madeCells_one, List.getElem?_replicate, if_pos hi]
theorem wF_start (L : List Nat) (i : Nat) : wF L 1 0 i = [] := by unfold wF; rw [if_neg (by omega)]
theorem wF_hit (L : List Nat) (n j : Nat) (hn : 1 ≤ n) (h : L.getD j 0 = n) : (fun k => if k = j then hiL (wrd L j) n else wF L n j k) = wF L n (j + 1) := by
  funext k
  by_cases hk : k = j
  · subst hk
    rw [if_pos rfl]
    unfold wF
    rw [if_pos (by omega), h]
  · rw [if_neg hk]
    unfold wF
    by_cases h1 : L.getD k 0 ≠ 0 ∧ (L.getD k 0 < n ∨ (L.getD k 0 = n ∧ k < j))
    · rw [if_pos h1, if_pos (by omega)]
    · rw [if_neg h1, if_neg (by omega)]
theorem wF_miss (L : List Nat) (n j : Nat) (h : L.getD j 0 ≠ n) : wF L n j = wF L n (j + 1) := by
  funext k
  unfold wF
  by_cases h1 : L.getD k 0 ≠ 0 ∧ (L.getD k 0 < n ∨ (L.getD k 0 = n ∧ k < j))
  · rw [if_pos h1, if_pos (by omega)]
  · rw [if_neg h1, if_neg]
    intro h2
    rcases h2.2 with h3 | ⟨h3, h4⟩
    · exact h1 ⟨h2.1, .inl h3⟩
    · rcases Nat.lt_or_ge k j with h5 | h5
      · exact h1 ⟨h2.1, .inr ⟨h3, h5⟩⟩
      · obtain rfl : k = j := by omega
        exact h h3
theorem wF_next (L : List Nat) (n : Nat) (i : Nat) (hi : i < L.length) : wF L n L.length i = wF L (n + 1) 0 i := by
  unfold wF
  by_cases h1 : L.getD i 0 ≠ 0 ∧ (L.getD i 0 < n ∨ (L.getD i 0 = n ∧ i < L.length))
  · rw [if_pos h1, if_pos (by omega)]
  · rw [if_neg h1, if_neg (by omega)]
/-- all words -/
def wordF (L : List Nat) (i : Nat) : List Nat := if L.getD i 0 ≠ 0 then hiL (wrd L i) (L.getD i 0) else []
theorem wF_end (L : List Nat) (i : Nat) (h : L.getD i 0 ≤ 15) : wF L 16 0 i = wordF L i := by
  unfold wF wordF
  by_cases h0 : L.getD i 0 ≠ 0
  · rw [if_pos ⟨h0, .inl (by omega)⟩, if_pos h0]
  · rw [if_neg (fun h => h0 h.1), if_neg h0]
theorem getD15 {L : List Nat} (h : ∀ x ∈ L, x ≤ 15) (i : Nat) : L.getD i 0 ≤ 15 := by
  rcases Nat.lt_or_ge i L.length with h1 | h1
  · rw [List.getD_eq_getElem?_getD, List.getElem?_eq_getElem h1]; exact h _ (List.getElem_mem h1)
  · rw [List.getD_eq_getElem?_getD, List.getElem?_eq_none h1]; exact Nat.zero_le _
set_option maxRecDepth 100000 in
set_option maxHeartbeats 4000000 in
theorem Words_calls (A : Option Addr) (L : List Nat) (c : Nat) (w : World) (hl : IR w A (zl L)) (hn : L.length ≤ 288) (h15 : ∀ x ∈ L, x ≤ 15) (hk : kr L ≤ 32768) :
    Calls Tryd.prog 75 #[.slice A L.length c] w fun e w' => ∃ q, e = .returned (.slice (some ⟨q, 0, none⟩) L.length L.length) ∧ WO w' q L.length (wordF L) ∧ w.heap.size ≤ q ∧ Below w.heap.size w w' := by
  have HL := Bx.mk hl
  have H15 := Bx.mk (getD15 h15)
  have HK := Bx.mk hk
  have hmk := make_rows L.length (by omega)
  have W0 := Bx.mk ((WO.made w L.length).cong (fun i _ => (wF_start L i).symm))
  have B0 := Bx.mk (below_alloc1 w (.cells (madeCells #[.slice none 0 0] L.length) 65))
  clear hl h15 hk
  go_enter Tryd.func75, Tryd.ntmps75
  go_wp2
  have hq : w.heap.size < (w.alloc (.cells (madeCells #[.slice none 0 0] L.length) 65)).heap.size := by simp
  have hqw : w.heap.size ≤ w.heap.size := Nat.le_refl _
  generalize w.alloc (.cells (madeCells #[.slice none 0 0] L.length) 65) = w1 at W0 B0 hq ⊢
  obtain ⟨q, hqq⟩ : ∃ q, q = w.heap.size := ⟨_, rfl⟩
  rw [← hqq] at W0 hq ⊢
  have HQ := Bx.mk hqq
  clear hqw hqq hmk
  go_loopw [4, 5] (fun x i wr => ∃ n : Nat, 1 ≤ n ∧ n ≤ 16 ∧ i = .int .i64 (n : Nat) ∧ x = .int .i64 (fc L n : Nat) ∧ Bx (WO wr q L.length (wF L n 0)) ∧ Bx (q < wr.heap.size) ∧ Bx (Below w.heap.size w wr)) (fun _ i _ => 16 - (intOf i).toNat)
  case atStart => exact ⟨1, by omega, by omega, rfl, rfl, W0, ⟨hq⟩, B0⟩
  case round =>
    obtain ⟨n, hn1, hn2, rfl, rfl, HW, HZ, HB⟩ := hrel
    by_cases hlt : n ≤ 15
    · have hd15 : decide ((n : Int) ≤ 15) = true := by simp; omega
      have hfit := fc_fit L HK.out n hlt
      have hp15 : 2 ^ n ≤ 32768 := Nat.le_trans (Nat.pow_le_pow_right (by decide) hlt) (by decide)
      have hcn : cnt L n = (syms L n 0).length := by unfold cnt; rw [if_neg (by omega)]
      have HCN := Bx.mk hcn
      have hb1 : fc L n + (syms L n 0).length ≤ 32768 := by omega
      have HFIT : Bx (fc L n + (syms L n 0).length ≤ 2 ^ n) := ⟨by omega⟩
      clear hfit hp15 hcn
      go_wp2
      obtain ⟨wo, hwo⟩ : ∃ wo : World, wo = wr := ⟨_, rfl⟩
      rw [← hwo]
      rw [← hwo] at HW HZ HB
      clear hwo
      go_loopw [4, 6] (fun x i wr => ∃ j : Nat, j ≤ L.length ∧ i = .int .i64 (j : Nat) ∧ x = .int .i64 ((fc L n + (syms (L.take j) n 0).length : Nat) : Int) ∧ Bx (WO wr q L.length (wF L n j)) ∧ Bx (q < wr.heap.size) ∧ Bx (Below w.heap.size w wr)) (fun _ i _ => L.length - (intOf i).toNat)
      case atStart => exact ⟨0, Nat.zero_le _, rfl, by simp [syms], HW, HZ, HB⟩
      case round =>
        obtain ⟨j, hj, rfl, rfl, HWj, HZj, HBj⟩ := hrel
        have hsl : (syms (L.take j) n 0).length ≤ (syms L n 0).length := by
          conv => rhs; rw [← List.take_append_drop j L, syms_app, List.length_append]
          omega
        by_cases hjl : j < L.length
        · obtain ⟨ad, rfl, hd⟩ := (HL.out.below HBj.out) (by rw [zl_length]; omega)
          have hg := hd j (by rw [zl_length]; exact hjl)
          rw [zl_get] at hg
          have HT := syms_take L n j hjl
          by_cases hx : L.getD j 0 = n
          · rw [if_pos hx] at HT
            have HT2 : Bx ((syms (L.take (j + 1)) n 0).length = (syms (L.take j) n 0).length + 1) := ⟨by rw [HT, List.length_append]; rfl⟩
            have hwd : wrd L j = fc L n + (syms (L.take j) n 0).length := by unfold wrd; rw [hx]; rfl
            have HF := Bx.mk (wF_hit L n j hn1 hx)
            have hi := High_calls (fc L n + (syms (L.take j) n 0).length) n wr (by omega) (by omega)
            rw [show (lowL (fc L n + (syms (L.take j) n 0).length) n).reverse = hiL (wrd L j) n by rw [hwd]; rfl] at hi
            rw [hx] at hg
            have HI := Bx.mk hi
            clear HT hi hwd hd hx
            generalize decide (fc L n + (syms (L.take j) n 0).length < 2 ^ n) = okb at HI
            generalize hS : fc L n + (syms (L.take j) n 0).length = S at *
            have HS := Bx.mk hS
            have hSb : S ≤ 32768 := by omega
            clear hS hsl
            go_wp2_with fail
            refine HI.out.mono ?_
            rintro e w5 ⟨v5, rfl, ho5, hb5⟩
            have hv5 := OI.le ho5 (show q + 1 ≤ wr.heap.size from HZj.out)
            obtain ⟨A5, c5, rfl⟩ := hv5.form
            have W5 := (HWj.out.below hb5)
            have W6 := Bx.mk (W5.put j hjl _ _ hv5)
            obtain ⟨u, k1, -, k2⟩ := W5.cell j hjl
            have Z6 : Bx (q < w5.heap.size) := ⟨Nat.lt_of_lt_of_le HZj.out hb5.size⟩
            have B6 := Bx.mk ((below_then HBj.out HBj.out.size hb5).setCell (p := ⟨q, j, none⟩) (Nat.le_of_eq HQ.out.symm) (.slice A5 (zl (hiL (wrd L j) n)).length c5))
            generalize (zl (hiL (wrd L j) n)).length = zz at *
            clear ho5 hb5 hv5 W5
            go_wp2
            go_roundw
            case rel => exact ⟨j + 1, by omega, by go_num, by rw [HT2.out, ← Nat.add_assoc, HS.out]; go_num, ⟨by rw [← HF.out]; exact W6.out⟩, ⟨by simp [World.setCell]; exact Z6.out⟩, B6⟩
            case measure => simp [intOf]; omega
          · rw [if_neg hx, List.append_nil] at HT
            have HF : Bx (WO wr q L.length (wF L n (j + 1))) := ⟨by rw [← wF_miss L n j hx]; exact HWj.out⟩
            have hne : (((L.getD j 0 : Nat) : Int) == (n : Int)) = false := beq_false_of_ne (by omega)
            have HT2 := Bx.mk HT
            clear HT hd hx
            generalize L.getD j 0 = X at *
            generalize hS : fc L n + (syms (L.take j) n 0).length = S at *
            have HS := Bx.mk hS
            clear hS hsl
            go_wp2
            go_roundw
            case rel => exact ⟨j + 1, by omega, by go_num, by rw [HT2.out, HS.out], HF, HZj, HBj⟩
            case measure => simp [intOf]; omega
        · obtain rfl : j = L.length := by omega
          rw [List.take_length]
          have HW2 : Bx (WO wr q L.length (wF L (n + 1) 0)) := ⟨HWj.out.cong fun i hi => wF_next L n i hi⟩
          have HFC : Bx (fc L (n + 1) = 2 * (fc L n + (syms L n 0).length)) := ⟨by rw [← HCN.out]; rfl⟩
          clear hsl
          generalize fc L n + (syms L n 0).length = S at *
          go_wp2
          go_roundw
          case rel => exact ⟨n + 1, by omega, by omega, by go_num, by rw [HFC.out]; first | (congr 1; done) | (congr 1; omega), HW2, HZj, HBj⟩
          case measure => simp [intOf]; omega
    · obtain rfl : n = 16 := by omega
      have HW2 : Bx (WO wr q L.length (wordF L)) := ⟨HW.out.cong fun i hi => wF_end L i (H15.out i)⟩
      go_wp2
      go_ret
      exact ⟨q, rfl, HW2.out, Nat.le_of_eq HQ.out.symm, HB.out⟩
def halfStep (c : Nat) : Nat := if c % 2 = 1 then (c / 2) ^^^ 3988292384 else c / 2
theorem halfStep_lt (c : Nat) (h : c < 4294967296) : halfStep c < 4294967296 := by
  unfold halfStep; split
  · exact xor_lt _ _ (by omega) (by omega)
  · omega
def iterStep : Nat → Nat → Nat
  | 0, c => c
  | n + 1, c => halfStep (iterStep n c)
theorem iterStep_lt (n c : Nat) (h : c < 4294967296) : iterStep n c < 4294967296 := by
  induction n with
  | zero => exact h
  | succ n ih => exact halfStep_lt _ ih
def stepN (c x : Nat) : Nat := iterStep 8 (c ^^^ x)
theorem stepN_lt (c x : Nat) (h : c < 4294967296) (hx : x < 256) : stepN c x < 4294967296 := iterStep_lt _ _ (xor_lt _ _ h (by omega))
set_option maxHeartbeats 1000000 in
theorem step_calls (c x : Nat) (w : World) (hc : c < 4294967296) (hx : x < 256) :
    Calls Tryd.prog 97 #[.int .u32 c, .int .u8 x] w fun e w' => e = .returned (.int .u32 ((stepN c x : Nat) : Int)) ∧ w = w' := by
  have hx8 := x8_bits c x hc hx
  have hxl := xor_lt c x hc (by omega)
  generalize hY : c ^^^ x = Y at hx8 hxl
  have hS : stepN c x = iterStep 8 Y := by rw [stepN, hY]
  rw [hS]
  clear hS hY
  go_enter Tryd.func97, Tryd.ntmps97
  go_wp2
  clear hx8
  go_loop [0, 5] (fun v i => ∃ k : Nat, k ≤ 8 ∧ i = .int .i64 k ∧ v = .int .u32 ((iterStep k Y : Nat) : Int)) (fun _ i => 8 - (intOf i).toNat)
  case atStart => exact ⟨0, Nat.zero_le _, rfl, rfl⟩
  case round =>
    obtain ⟨k, hk, rfl, rfl⟩ := hrel
    have hT := iterStep_lt k Y hxl
    have hz : iterStep (k + 1) Y = halfStep (iterStep k Y) := rfl
    have HZ := Bx.mk hz; clear hz
    by_cases hlt : k < 8
    · generalize iterStep k Y = C at hT HZ ⊢
      have hm : bits .xor .u32 ((C : Int) / 2) 3988292384 = (((C / 2) ^^^ 3988292384 : Nat) : Int) := u32_xor_nat (C / 2) 3988292384 (by omega) (by omega)
      by_cases ho : C % 2 = 1
      · have hh : halfStep C = (C / 2) ^^^ 3988292384 := by rw [halfStep, if_pos ho]
        have hob : decide (C % 2 = 1) = true := by simp [ho]
        have HH := Bx.mk hh; have HO := Bx.mk ho; clear hh ho
        have hob2 : (((C % 2 : Nat) : Int) == 1) = true := by have := HO.out; simp [this]
        generalize hM : (C / 2) ^^^ 3988292384 = M at hm HH
        have HM := Bx.mk hM; clear hM
        go_wp2
        all_goals
          go_round
          case rel => exact ⟨k + 1, by omega, by go_num, by rw [HZ.out, HH.out]⟩
          case measure => simp [intOf]; omega
      · have hh : halfStep C = C / 2 := by rw [halfStep, if_neg ho]
        have hob : decide (C % 2 = 1) = false := by simp [ho]
        have hob2 : (((C % 2 : Nat) : Int) == 1) = false := by have : C % 2 = 0 := by omega
                                                               simp [this]
        have HH := Bx.mk hh; clear hh ho hm
        go_wp2
        all_goals
          go_round
          case rel => exact ⟨k + 1, by omega, by go_num, by rw [HZ.out, HH.out]; go_num⟩
          case measure => simp [intOf]; omega
    · have hk' : k = 8 := by omega
      subst hk'
      go_wp2
      go_ret
      exact ⟨rfl, rfl⟩
def rmoreN (c : Nat) (l : List Nat) : Nat := l.foldl stepN c
theorem rmoreN_lt (l : List Nat) : ∀ (c : Nat), c < 4294967296 → (∀ x ∈ l, x < 256) → rmoreN c l < 4294967296 := by
  induction l with
  | nil => intro c h _; exact h
  | cons a l ih => intro c h hl; exact ih _ (stepN_lt _ _ h (hl a (by simp))) (fun x hx => hl x (by simp [hx]))
theorem rmoreN_snoc (c : Nat) (l : List Nat) (k : Nat) (h : k < l.length) : rmoreN c (l.take (k + 1)) = stepN (rmoreN c (l.take k)) (l.getD k 0) := foldl_snoc _ _ _ _ h
theorem ntc_bits (s : Nat) (h : s < 4294967296) : bits .xor .u32 (s : Int) 4294967295 = ((nt s : Nat) : Int) := by
  have := u32_xor_nat s 4294967295 h (by omega)
  rw [Nat.xor_comm] at this
  exact this
def rmoreS (s : Nat) (l : List Nat) : Nat := nt (rmoreN (nt s) l)
set_option maxHeartbeats 1000000 in
theorem rMore_calls (s : Nat) (A : Option Addr) (l : List Nat) (c : Nat) (w : World) (hs : s < 4294967296) (hl : RB w A l) :
    Calls Tryd.prog 74 #[.int .u32 s, .slice A l.length c] w fun e w' => e = .returned (.int .u32 ((rmoreS s l : Nat) : Int)) ∧ w = w' := by
  obtain ⟨hb, hlen, hcell⟩ := hl
  have hn := ntc_bits s hs
  have hn1 := nt_lt s hs
  generalize hS : nt s = S at hn hn1
  go_enter Tryd.func74, Tryd.ntmps74
  go_wp2
  clear hn
  have HS := Bx.mk hS; clear hS
  go_loop [5, 6] (fun v i => ∃ k : Nat, k ≤ l.length ∧ i = .int .i64 k ∧ v = .int .u32 ((rmoreN S (l.take k) : Nat) : Int)) (fun _ i => l.length - (intOf i).toNat)
  case atStart => exact ⟨0, Nat.zero_le _, rfl, rfl⟩
  case round =>
    obtain ⟨k, hk, rfl, rfl⟩ := hrel
    have hT := rmoreN_lt (l.take k) S hn1 (take_mem hb)
    by_cases hlt : k < l.length
    · have hsn := rmoreN_snoc S l k hlt
      have hx := mem_getD hlt hb
      obtain ⟨ad, rfl, hc⟩ := hcell (by omega)
      have hck := hc k hlt
      generalize hX : l.getD k 0 = X at hck hx hsn
      generalize rmoreN S (l.take k) = C at hT hsn ⊢
      have HSN := Bx.mk hsn; clear hsn
      clear hc hX
      go_wp2_with (go_at_call 97; refine (step_calls _ _ _ hT hx).mono ?_; rintro e w' ⟨rfl, rfl⟩)
      go_round
      case rel => exact ⟨k + 1, by omega, by go_num, by rw [HSN.out]⟩
      case measure => simp [intOf]; omega
    · have hk' : k = l.length := by omega
      subst hk'
      have hn2 := ntc_bits _ hT
      rw [List.take_length] at hn2 hT ⊢
      generalize hM : rmoreN S l = M at hn2 hT ⊢
      have HM := Bx.mk hM; clear hM
      go_wp2
      go_ret
      exact ⟨ret_nat (by rw [rmoreS, HS.out, HM.out]), rfl⟩
theorem rSum_calls (A : Option Addr) (l : List Nat) (c : Nat) (w : World) (hl : RB w A l) :
    Calls Tryd.prog 45 #[.slice A l.length c] w fun e w' => e = .returned (.int .u32 ((rmoreS 0 l : Nat) : Int)) ∧ w = w' := by
  go_enter Tryd.func45, Tryd.ntmps45
  go_wp2_with (go_at_call 74; refine (rMore_calls 0 _ _ _ _ (by decide) hl).mono ?_; rintro e w' ⟨rfl, rfl⟩)
  go_ret
  exact ⟨rfl, rfl⟩
theorem place_yes (A : Option Addr) (n c : Nat) (a s : Int) (w : World) (hn : n ≤ 140737492549632) (h : Fits n a s) :
    Calls Tryd.prog 96 #[.slice A n c, .int .i64 a, .int .i64 s] w fun e w' => e = .returned (.bool true) ∧ w = w' := by
  obtain ⟨h1, h2, h3, h4, h5⟩ := h
  go_enter Tryd.func96, Tryd.ntmps96
  go_wp2
  go_ret
  exact ⟨rfl, rfl⟩
set_option maxHeartbeats 8000000 in
theorem rPut_fit (A : Option Addr) (l : List Nat) (c : Nat) (p q m : Nat) (w : World) (hl : RB w A l) (h1 : 1 ≤ q) (h2 : q ≤ 4) (h3 : p + q ≤ l.length) (hm : m ≤ 9223372036854775807) :
    Calls Tryd.prog 73 #[.slice A l.length c, .int .i64 p, .int .i64 q, .int .i64 m] w fun e w' =>
      (m < 256 ^ q → ∃ v, e = .returned (.tuple #[v, .int .i64 0]) ∧ OB w' w.heap.size v (putN l p q m) ∧ Below w.heap.size w w') ∧
      (256 ^ q ≤ m → e = .returned (.tuple #[.slice none 0 0, .int .i64 2]) ∧ Below w.heap.size w w') := by
  have hlen := hl.2.1
  have HF := Bx.mk (show Fits l.length p q from ⟨by omega, by omega, by omega, by omega, by omega⟩)
  have T := Bx.mk (place_yes A l.length c p q w hlen HF.out)
  have HL := Bx.mk (hl.below (below_alloc1 w (.cells #[] 5)))
  clear hl
  go_enter Tryd.func73, Tryd.ntmps73
  go_wp2_with fail
  refine T.out.mono ?_
  rintro e w1 ⟨rfl, rfl⟩
  go_wp2_with (at_builtin; refine wpList_append_bytes _ rfl _ _ rfl w.heap.size _ [] l rfl (own_empty w) A c rfl HL.out ?hl (by simp) ?_; (case hl => simp; omega); intro v' w' ho hg _)
  have hb : Below w.heap.size w w' := (below_alloc1 w _).grown hg (by simp) (fun k hk => own_block (own_empty w) k hk)
  obtain ⟨A1, c1, rfl⟩ := OB.form (show OB w' w.heap.size v' l from ho)
  obtain ⟨g, rfl, -, hbg, -, -, -⟩ := OB.opened (show OB w' w.heap.size _ l from ho) (by omega)
  have HO : Bx (OB w' w.heap.size (.slice (some ⟨g, 0, none⟩) l.length c1) (putN l p 0 m)) := ⟨ho⟩
  have HB := Bx.mk hb
  have HBG := Bx.mk hbg
  clear ho hb hbg hg
  go_loopw [3, 11] (fun n i wr => ∃ k, k ≤ q ∧ i = .int .i64 (k : Nat) ∧ n = .int .i64 ((m / 256 ^ k : Nat) : Int) ∧ Bx (OB wr w.heap.size (.slice (some ⟨g, 0, none⟩) l.length c1) (putN l p k m)) ∧ Bx (Below w.heap.size w wr)) (fun _ i _ => q - (intOf i).toNat)
  case atStart => exact ⟨0, Nat.zero_le _, rfl, by simp, HO, HB⟩
  case round =>
    obtain ⟨k, hk, rfl, rfl, HOk, HBk⟩ := hrel
    have hNle : m / 256 ^ k ≤ m := Nat.div_le_self _ _
    by_cases hlt : k < q
    · have hp := HOk.out.put (p + k) (m / 256 ^ k % 256)
      have hs : putN l p (k + 1) m = (putN l p k m).set (p + k) (m / 256 ^ k % 256) := rfl
      rw [← hs] at hp
      have hd : m / 256 ^ (k + 1) = m / 256 ^ k / 256 := by rw [Nat.pow_succ, Nat.div_div_eq_div_mul]
      have HD := Bx.mk hd
      obtain ⟨g', hg', -, -, -, hcell, hfz⟩ := HOk.out.opened (by rw [putN_length]; omega)
      obtain rfl : g = g' := by injection hg' with h; injection h
      have hck := hcell (p + k) (by rw [putN_length]; omega)
      have hfk := hfz (p + k)
      generalize (putN l p k m).getD (p + k) 0 = T2 at hck
      generalize m / 256 ^ k = N at hp hNle HD ⊢
      have hv : (N : Int) % 256 = ((N % 256 : Nat) : Int) := by omega
      have hV : N % 256 < 256 := Nat.mod_lt _ (by decide)
      generalize N % 256 = V at hv hp hV
      have HP := Bx.mk hp
      have hvw : IntKind.u8.wrap ((N : Int) % 256) = (V : Int) := by rw [IntKind.wrap_u8]; omega
      clear hcell hfz hp hs hg' hd
      go_wp2
      go_roundw
      case rel => exact ⟨k + 1, by omega, by go_num, by rw [HD.out]; go_num, HP, ⟨HBk.out.setCell HBG.out _⟩⟩
      case measure => simp [intOf]; omega
    · have hk' : k = q := by omega
      have HK := Bx.mk hk'
      clear hk'
      generalize hN : m / 256 ^ k = N at hNle ⊢
      have HN := Bx.mk hN
      clear hN
      by_cases h0 : 0 < N
      · have hbig : 256 ^ q ≤ m := by
          rw [← HK.out]
          have := HN.out
          exact (Nat.div_pos_iff.1 (by omega)).2
        have HBG2 := Bx.mk hbig
        clear hbig
        go_wp2
        go_ret2
        exact ⟨fun h => absurd HBG2.out (by omega), fun _ => ⟨rfl, HBk.out⟩⟩
      · have hsm : m < 256 ^ q := by
          rw [← HK.out]
          have h1 := HN.out
          have h2 : N = 0 := by omega
          rw [h2] at h1
          exact (Nat.div_eq_zero_iff_lt (Nat.pow_pos (by decide))).1 h1
        have HS := Bx.mk hsm
        clear hsm
        go_wp2
        go_ret2
        exact ⟨fun _ => ⟨_, rfl, by rw [← HK.out]; exact HOk.out, HBk.out⟩, fun h => absurd HS.out (by omega)⟩
end Go.Proofs.YtoekecopfmohiaaDoor
