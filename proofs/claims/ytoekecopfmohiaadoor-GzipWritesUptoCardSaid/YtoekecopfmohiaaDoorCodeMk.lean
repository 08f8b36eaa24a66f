import Derived.Test.YtoekecopfmohiaaDoorCodeAll
import Derived.Laws.CopyOwn
import Derived.Deep.RegionLaw
import Derived.Deep.DeepCutAuto
/-
  slices.Repeat, Fixed; parts of int lists.
-/
namespace Go.Proofs.YtoekecopfmohiaaDoor
open Go.RowKit
theorem mul64_one (t : Nat) (w : World) (ht : t < 4294967296) :
    Calls Tryd.prog 105 #[.int .u64 1, .int .u64 (t : Int)] w fun e w' => e = .returned (.tuple #[.int .u64 0, .int .u64 (t : Int)]) ∧ w = w' := by
  have h1 : bits .and .u64 1 4294967295 = 1 := by decide +kernel
  have h2 : bits .and .u64 (t : Int) 4294967295 = (t : Int) := by
    have := u64_and_nat t 4294967295 (by omega) (by omega)
    rw [show t &&& 4294967295 = t by
      have h := Nat.and_two_pow_sub_one_eq_mod t 32
      rw [show (2 : Nat) ^ 32 - 1 = 4294967295 by decide, show (2 : Nat) ^ 32 = 4294967296 by decide, Nat.mod_eq_of_lt ht] at h
      exact h] at this
    exact this
  have h3 : (t : Int) / 4294967296 = 0 := by omega
  go_enter Tryd.func105, Tryd.ntmps105
  go_wp2
  go_ret2
  exact ⟨rfl, rfl⟩
theorem mul_one (t : Nat) (w : World) (ht : t < 4294967296) :
    Calls Tryd.prog 85 #[.int .u64 1, .int .u64 (t : Int)] w fun e w' => e = .returned (.tuple #[.int .u64 0, .int .u64 (t : Int)]) ∧ w = w' := by
  have H := Bx.mk (mul64_one t w ht)
  go_enter Tryd.func85, Tryd.ntmps85
  go_wp2_with fail
  refine H.out.mono ?_
  rintro e w1 ⟨rfl, rfl⟩
  go_wp2
  go_ret2
  exact ⟨rfl, rfl⟩
theorem elem_ints' : Tryd.prog.elem 65 = 3 := by simp [Program.elem, Tryd.underlying65]
theorem cut_to_ints (A : Option Addr) (n c k : Nat) (hk : k ≤ n) (hc : n ≤ c) (W : World) :
    (Instr.slice 65 (.slice A n c) none (some (.int .i64 (k : Int))) none).run Tryd.prog W = .ok (.slice A k c) W := by
  have hu : Tryd.prog.underlying 65 = some (.slice (Tryd.prog.elem 65)) := by rw [elem_ints']; exact Tryd.underlying65
  have ha : (A.map fun x => x.add 0) = A := by cases A <;> simp [Addr.add]
  rw [run_slice_h W 65 A n c hu .i64 k (by omega) (by omega), elem_ints']
  simp [sliced, Result.andThen, ha]
theorem cut_from_ints (A : Option Addr) (n c k : Nat) (hk : k ≤ n) (W : World) :
    (Instr.slice 65 (.slice A n c) (some (.int .i64 (k : Int))) none none).run Tryd.prog W = .ok (.slice (if c = k then A else A.map (·.add k)) (n - k) (c - k)) W := by
  have hu : Tryd.prog.underlying 65 = some (.slice (Tryd.prog.elem 65)) := by rw [elem_ints']; exact Tryd.underlying65
  rw [run_slice_l W 65 A n c hu .i64 k (by omega) (by omega), elem_ints']
  simp [sliced, Result.andThen]
theorem ret_sl {q q' a b : Nat} (h : q = q') : Ending.returned (.slice (some ⟨q, 0, none⟩) a b) = .returned (.slice (some ⟨q', 0, none⟩) a b) := by rw [h]
/-- k times v, then noughts -/
def rpC (n k : Nat) (v : Int) : List Value := is (List.replicate k v ++ List.replicate (n - k) 0)
theorem rpC_len (n k : Nat) (v : Int) (h : k ≤ n) : (rpC n k v).length = n := by unfold rpC; rw [is_length, List.length_append, List.length_replicate, List.length_replicate]; omega
theorem rpC_splice (n k m : Nat) (v : Int) (_h : k + m ≤ n) : splice (rpC n k v) k (is (List.replicate m v)) = rpC n (k + m) v := by
  unfold splice rpC
  rw [is_length, List.length_replicate, is_append, List.take_left' (by rw [is_length, List.length_replicate]), ← List.drop_drop, List.drop_left' (by rw [is_length, List.length_replicate]), ← List.append_assoc, ← is_append, List.replicate_append_replicate, is_append]
  congr 1
  unfold is
  rw [← List.map_drop, List.drop_replicate]
  congr 2; omega
theorem size_int : (Tryd.prog.info? 3).map (·.size) = some 1 := by kernel_rfl
set_option maxRecDepth 100000 in
set_option maxHeartbeats 2000000 in
theorem Repeat_calls (A : Option Addr) (v : Int) (c n : Nat) (w : World) (hl : IR w A [v]) (hn : n ≤ 1048576) :
    Calls Tryd.prog 54 #[.slice A 1 c, .int .i64 (n : Int)] w fun e w' => e = .returned (.slice (some ⟨w.heap.size, 0, none⟩) n n) ∧ OI w' w.heap.size (.slice (some ⟨w.heap.size, 0, none⟩) n n) (List.replicate n v) ∧ Below w.heap.size w w' := by
  have HL := Bx.mk (hl.below (below_alloc1 w (.cells (madeCells #[.int .i64 0] n) 3)))
  have MU := Bx.mk (mul_one n w (by omega))
  have hmk := make_ints n (by omega)
  have hblk : (w.alloc (.cells (madeCells #[.int .i64 0] n) 3)).heap[w.heap.size]? = some (.cells (rpC n 0 v).toArray 3 (0, 0)) := by
    rw [heap_alloc_new]
    congr 2
    apply Array.ext'
    rw [toList_madeCells_one]
    simp [rpC, is, List.map_replicate]
  have HBLK := Bx.mk hblk
  have HB := Bx.mk (below_alloc1 w (.cells (madeCells #[.int .i64 0] n) 3))
  clear hl hblk
  go_enter Tryd.func54, Tryd.ntmps54
  go_wp2_with fail
  refine MU.out.mono ?_
  rintro e w1 ⟨rfl, rfl⟩
  obtain ⟨m, hm⟩ : ∃ m, m = Nat.min 1 n := ⟨_, rfl⟩
  have HM := Bx.mk hm
  clear hm MU
  go_upto_region 7 with fail
  generalize w.alloc (.cells (madeCells #[.int .i64 0] n) 3) = w2 at HL HBLK HB ⊢
  obtain ⟨q, hq⟩ : ∃ q, q = w.heap.size := ⟨_, rfl⟩
  have HQ := Bx.mk hq
  rw [← hq] at HBLK ⊢
  clear hq hmk
  have hcs : (is (List.replicate m v)).length = Nat.min 1 n := by rw [is_length, List.length_replicate]; exact HM.out
  have hpos : 0 < (is (List.replicate m v)).length → (some ⟨q, 0, none⟩ : Option Addr) = some ⟨q, 0, none⟩ ∧ ∃ ad, A = some ad ∧ ∀ j x, (is (List.replicate m v))[j]? = some x → w2.cell? (ad.add j) = some x := fun hp => by
    refine ⟨rfl, ?_⟩
    obtain ⟨ad, e, hc⟩ := HL.out (by simp)
    have hm1 : m ≤ 1 := by rw [HM.out]; exact Nat.min_le_left _ _
    refine ⟨ad, e, fun j x hx => ?_⟩
    have hj : j < m := by
      have := (List.getElem?_eq_some_iff.1 hx).1
      rwa [is_length, List.length_replicate] at this
    obtain rfl : j = 0 := by omega
    rw [is_get _ 0 (by rw [List.length_replicate]; exact hj)] at hx
    rw [← hx, hc 0 (by simp)]
    congr 2
    rw [List.getD_eq_getElem?_getD, List.getD_eq_getElem?_getD, List.getElem?_replicate, if_pos hj]; rfl
  have hfit : 0 + (is (List.replicate m v)).length ≤ (rpC n 0 v).length := by rw [hcs, rpC_len n 0 v (Nat.zero_le _), Nat.zero_add]; exact Nat.min_le_right _ _
  have hBq : w.heap.size ≤ q := Nat.le_of_eq HQ.out.symm
  have hgi : goInt (is (List.replicate m v)).length = .int .i64 (m : Int) := by rw [is_length, List.length_replicate]; rfl
  have hsp := rpC_splice n 0 m v (by rw [Nat.zero_add, HM.out]; exact Nat.min_le_right _ _)
  rw [Nat.zero_add] at hsp
  have HCS := Bx.mk hcs; have HPOS := Bx.mk hpos; have HFIT := Bx.mk hfit; have HGI := Bx.mk hgi; have HSP := Bx.mk hsp
  clear hcs hpos hfit hgi hsp
  go_wp2_with (with_reducible refine wpList_copy_splice rfl (.tmp 31) (.tmp 32) 65 65 rfl 3 Tryd.underlying65 size_int (some ⟨q, 0, none⟩) A n n 1 c rfl rfl q 0 (rpC n 0 v) 3 HBLK.out (is (List.replicate m v)) HCS.out HPOS.out HFIT.out (is_one _) w.heap.size w HB.out hBq ?_; intro w3 hg3 hb3; rw [HGI.out]; have HG3 : Bx (w3.heap[q]? = some (.cells (rpC n m v).toArray 3 (0, 0))) := ⟨by rw [← HSP.out]; exact hg3.out⟩; have HB3 := Bx.mk hb3; clear hg3 hb3)
  have hmn : m ≤ n ∧ (n ≠ 0 → 1 ≤ m) := by
    have := HM.out
    have h1 : Nat.min 1 n ≤ n := Nat.min_le_right _ _
    have h2 : n ≠ 0 → Nat.min 1 n = 1 := fun h => Nat.min_eq_left (by omega)
    exact ⟨by omega, fun h => by have := h2 h; omega⟩
  have hm1 := hmn.1
  have HM2 := Bx.mk hmn.2
  clear hmn HM HL HBLK HB HCS HPOS HFIT HGI HSP
  go_loopw [8] (fun x wr => ∃ k : Nat, k ≤ n ∧ Bx (n ≠ 0 → 1 ≤ k) ∧ x = .int .i64 (k : Nat) ∧ Bx (wr.heap[q]? = some (.cells (rpC n k v).toArray 3 (0, 0))) ∧ Bx (Below w.heap.size w wr)) (fun x _ => n - (intOf x).toNat)
  case atStart => exact ⟨m, hm1, HM2, rfl, HG3, HB3⟩
  case round =>
    obtain ⟨k, hk, HK1, rfl, HG, HB⟩ := hrel
    by_cases hlt : k < n
    · have hk1 := HK1.out (by omega)
      have ct1 := cut_from_ints (some ⟨q, 0, none⟩) n n k (by omega)
      rw [if_neg (by omega), Option.map_some, add_plain] at ct1
      have ct2 := cut_to_ints (some ⟨q, 0, none⟩) n n k (by omega) (Nat.le_refl _)
      obtain ⟨p, hp⟩ : ∃ p, p = Nat.min k (n - k) := ⟨_, rfl⟩
      have hp1 : 1 ≤ p := by rw [hp]; exact Nat.le_min.2 ⟨hk1, by omega⟩
      have hp2 : p ≤ k := by rw [hp]; exact Nat.min_le_left _ _
      have hp3 : k + p ≤ n := by have : p ≤ n - k := by rw [hp]; exact Nat.min_le_right _ _
                                 omega
      have HCS : Bx ((is (List.replicate p v)).length = Nat.min k (n - k)) := ⟨by rw [is_length, List.length_replicate]; exact hp⟩
      have HPOS : Bx (∀ j x, (is (List.replicate p v))[j]? = some x → wr.drew.cell? ((⟨q, 0, none⟩ : Addr).add j) = some x) := ⟨fun j x hx => by
        have hj : j < p := by
          have := (List.getElem?_eq_some_iff.1 hx).1
          rwa [is_length, List.length_replicate] at this
        rw [add_plain]
        have hc : wr.cell? ⟨q, j, none⟩ = (rpC n k v).toArray[j]? := cell_of_row wr q j _ _ (0, 0) HG.out
        show wr.cell? ⟨q, j, none⟩ = some x
        rw [hc, List.getElem?_toArray, ← hx]
        unfold rpC
        rw [is_get _ j (by rw [List.length_append, List.length_replicate]; omega), is_get _ j (by rw [List.length_replicate]; exact hj)]
        congr 2
        rw [List.getD_eq_getElem?_getD, List.getD_eq_getElem?_getD, List.getElem?_append_left (by rw [List.length_replicate]; omega), List.getElem?_replicate, List.getElem?_replicate, if_pos (by omega), if_pos hj]⟩
      have HFIT : Bx (k + (is (List.replicate p v)).length ≤ (rpC n k v).length) := ⟨by rw [is_length, List.length_replicate, rpC_len n k v hk]; exact hp3⟩
      have HGI : Bx (goInt (is (List.replicate p v)).length = .int .i64 (p : Int)) := ⟨by rw [is_length, List.length_replicate]; rfl⟩
      have HSP := Bx.mk (rpC_splice n k p v hp3)
      have HGd : Bx (wr.drew.heap[q]? = some (.cells (rpC n k v).toArray 3 (0, 0))) := ⟨HG.out⟩
      have HBd : Bx (Below w.heap.size w wr.drew) := ⟨HB.out.drew⟩
      clear hp
      go_wp2
      go_region_law ((refine step_copy_splice rfl (.tmp 41) (.tmp 44) 65 65 rfl 3 Tryd.underlying65 size_int (some ⟨q, k, none⟩) (some ⟨q, 0, none⟩) (n - k) (n - k) k n (by go_simp) (by go_simp) q k (rpC n k v) 3 HGd.out (is (List.replicate p v)) HCS.out (fun _ => ⟨rfl, _, rfl, HPOS.out⟩) HFIT.out (is_one _) w.heap.size w HBd.out hBq ?_; intro w5 hg5 hb5; rw [HGI.out]; have HG5 : Bx (w5.heap[q]? = some (.cells (rpC n (k + p) v).toArray 3 (0, 0))) := ⟨by rw [← HSP.out]; exact hg5.out⟩; have HB5 := Bx.mk hb5; clear hg5 hb5))
      all_goals
        have hw : IntKind.i64.wrap ((k : Int) + (p : Int)) = ((k + p : Nat) : Int) := by rw [IntKind.wrap_i64]; omega
        go_wp2
        go_roundw
        case rel =>
          (repeat apply Exists.intro)
          exact ⟨⟨k + p, hp3, ⟨fun _ => by omega⟩, by exact congrArg (Value.int .i64) hw, HG5, HB5⟩, rfl⟩
        case measure =>
          show n - (intOf (Value.int .i64 (IntKind.i64.wrap ((k : Int) + (p : Int))))).toNat < n - (intOf (Value.int .i64 (k : Int))).toNat
          rw [hw]
          simp [intOf]; omega
    · obtain rfl : k = n := by omega
      have HO : Bx (OI wr w.heap.size (.slice (some ⟨w.heap.size, 0, none⟩) k k) (List.replicate k v)) := ⟨by
        refine ⟨by rw [is_length, Nat.mul_one], .inr ⟨w.heap.size, k, (rpC k k v).toArray, by rw [List.length_replicate], Nat.le_refl _, by rw [← HQ.out]; exact HG.out, by simp, by unfold maxLen; omega, by simp [rpC_len], ?_⟩⟩
        unfold rpC
        simp [is]⟩
      go_wp2
      go_ret
      exact ⟨ret_sl HQ.out, HO.out, HB.out⟩
def fixN : Nat → Nat
  | 0 => 144
  | 1 => 112
  | 2 => 24
  | _ => 8
def fixV : Nat → Nat
  | 0 => 8
  | 1 => 9
  | 2 => 7
  | _ => 8
def fixP : Nat → List Nat
  | 0 => []
  | k + 1 => fixP k ++ List.replicate (fixN k) (fixV k)
def fixL : List Nat := fixP 4
theorem zl_replicate (n x : Nat) : zl (List.replicate n x) = List.replicate n (x : Int) := by simp [zl]
theorem fixP_len : ∀ k, k ≤ 4 → (fixP k).length ≤ 288
  | 0, _ => by simp [fixP]
  | 1, _ => by simp only [fixP, List.length_append, List.length_replicate, List.length_nil, fixN]; omega
  | 2, _ => by simp only [fixP, List.length_append, List.length_replicate, List.length_nil, fixN]; omega
  | 3, _ => by simp only [fixP, List.length_append, List.length_replicate, List.length_nil, fixN]; omega
  | 4, _ => by simp only [fixP, List.length_append, List.length_replicate, List.length_nil, fixN]; omega
/-- behind an append of what a call made -/
theorem app_end {w w1 w2 : World} {base : Nat} {T : Value} {l : List Int} (hT : OI w1 base T l) (hb : Below w.heap.size w w1) (hz : w.heap.size ≤ base) (hg : w1.grownBy w2 T.ownBlock) : Below w.heap.size w w2 :=
  hb.grown hg hb.size fun k hk => Nat.le_trans hz (OI.block hT k hk)
set_option maxRecDepth 100000 in
set_option maxHeartbeats 4000000 in
theorem Fixed_calls (w : World) : Calls Tryd.prog 53 #[] w fun e w' => ∃ v, e = .returned v ∧ OI w' w.heap.size v (zl fixL) ∧ Below w.heap.size w w' := by
  have i0 : ∀ w, (Instr.index 110 (.agg #[.int .i64 144, .int .i64 8, .int .i64 112, .int .i64 9, .int .i64 24, .int .i64 7, .int .i64 8, .int .i64 8]) (.int .i64 0)).run Tryd.prog w = .ok (.agg #[.int .i64 144, .int .i64 8]) w := fun _ => by kernel_rfl
  have i1 : ∀ w, (Instr.index 110 (.agg #[.int .i64 144, .int .i64 8, .int .i64 112, .int .i64 9, .int .i64 24, .int .i64 7, .int .i64 8, .int .i64 8]) (.int .i64 1)).run Tryd.prog w = .ok (.agg #[.int .i64 112, .int .i64 9]) w := fun _ => by kernel_rfl
  have i2 : ∀ w, (Instr.index 110 (.agg #[.int .i64 144, .int .i64 8, .int .i64 112, .int .i64 9, .int .i64 24, .int .i64 7, .int .i64 8, .int .i64 8]) (.int .i64 2)).run Tryd.prog w = .ok (.agg #[.int .i64 24, .int .i64 7]) w := fun _ => by kernel_rfl
  have i3 : ∀ w, (Instr.index 110 (.agg #[.int .i64 144, .int .i64 8, .int .i64 112, .int .i64 9, .int .i64 24, .int .i64 7, .int .i64 8, .int .i64 8]) (.int .i64 3)).run Tryd.prog w = .ok (.agg #[.int .i64 8, .int .i64 8]) w := fun _ => by kernel_rfl
  go_enter Tryd.func53, Tryd.ntmps53
  go_wp2
  go_loopw [1, 9] (fun t i wr => ∃ k : Nat, k ≤ 4 ∧ i = .int .i64 (k : Nat) ∧ Bx (OI wr w.heap.size t (zl (fixP k))) ∧ Bx (Below w.heap.size w wr)) (fun _ i _ => 4 - (intOf i).toNat)
  case atStart => exact ⟨0, Nat.zero_le _, rfl, ⟨OI.nil _ _⟩, ⟨Below.refl _ _⟩⟩
  case round =>
    obtain ⟨k, hk, rfl, HT, HB⟩ := hrel
    obtain rfl | rfl | rfl | rfl | rfl : k = 0 ∨ k = 1 ∨ k = 2 ∨ k = 3 ∨ k = 4 := by omega
    · have hb1 := (HB.out.alloc HB.out.size (.cells #[.int .i64 144, .int .i64 8] 109)).alloc (Nat.le_trans HB.out.size (by simp)) (.cells #[.int .i64 8] 3)
      have rp := Repeat_calls (some ⟨(wr.alloc (.cells #[.int .i64 144, .int .i64 8] 109)).heap.size, 0, none⟩) 8 1 144 _ (IR.lit (wr.alloc (.cells #[.int .i64 144, .int .i64 8] 109)) 3 [8] #[.int .i64 8] rfl) (by decide)
      rw [show (wr.alloc (.cells #[.int .i64 144, .int .i64 8] 109)).heap.size = wr.heap.size + 1 by simp] at rp
      have RP := Bx.mk rp
      have HB1 := Bx.mk hb1
      have HT1 := Bx.mk ((HT.out.below (below_alloc1 wr (.cells #[.int .i64 144, .int .i64 8] 109))).below (below_alloc1 _ (.cells #[.int .i64 8] 3)))
      have hfl := fixP_len 0 (by omega)
      have HFP : Bx (zl (fixP (0 + 1)) = zl (fixP 0) ++ List.replicate 144 ((8 : Nat) : Int)) := ⟨by show zl (_ ++ List.replicate _ _) = _; rw [zl_app, zl_replicate]; rfl⟩
      clear rp hb1
      go_wp2_with fail
      refine RP.out.mono ?_
      rintro e w2 ⟨rfl, ho2, hb2⟩
      have R2 := Bx.mk ho2.reads
      have T2 := Bx.mk (HT1.out.below hb2)
      have B2 := Bx.mk (below_then HB1.out HB1.out.size hb2)
      have hz2 : w.heap.size ≤ w2.heap.size := B2.out.size
      have hlen : ((zl (fixP 0)).length + 144) * 8 ≤ 140737492549632 := by rw [zl_length]; omega
      generalize (wr.alloc (.cells #[.int .i64 144, .int .i64 8] 109)).alloc (.cells #[.int .i64 8] 3) = w9 at *
      generalize w9.heap.size = z9 at R2 ⊢
      clear ho2 hb2 HT1 HB1 RP
      go_wp2_with (at_builtin; refine wpList_append_ints w2 rfl (.tmp 12) (.tmp 18) rfl w.heap.size u1 (zl (fixP 0)) (List.replicate 144 ((8 : Nat) : Int)) 144 List.length_replicate rfl T2.out _ _ rfl (by have := R2.out; rw [List.length_replicate] at this; exact this) hlen hz2 ?_; intro v3 w3 ho3 hg3 _; have T3 : Bx (OI w3 w.heap.size v3 (zl (fixP (0 + 1)))) := ⟨by rw [HFP.out]; exact ho3⟩; have B3 := Bx.mk (app_end T2.out B2.out (Nat.le_refl _) hg3); clear ho3 hg3)
      go_roundw
      case rel => exact ⟨0 + 1, by omega, rfl, T3, B3⟩
      case measure => simp [intOf]
    · have hb1 := (HB.out.alloc HB.out.size (.cells #[.int .i64 112, .int .i64 9] 109)).alloc (Nat.le_trans HB.out.size (by simp)) (.cells #[.int .i64 9] 3)
      have rp := Repeat_calls (some ⟨(wr.alloc (.cells #[.int .i64 112, .int .i64 9] 109)).heap.size, 0, none⟩) 9 1 112 _ (IR.lit (wr.alloc (.cells #[.int .i64 112, .int .i64 9] 109)) 3 [9] #[.int .i64 9] rfl) (by decide)
      rw [show (wr.alloc (.cells #[.int .i64 112, .int .i64 9] 109)).heap.size = wr.heap.size + 1 by simp] at rp
      have RP := Bx.mk rp
      have HB1 := Bx.mk hb1
      have HT1 := Bx.mk ((HT.out.below (below_alloc1 wr (.cells #[.int .i64 112, .int .i64 9] 109))).below (below_alloc1 _ (.cells #[.int .i64 9] 3)))
      have hfl := fixP_len 1 (by omega)
      have HFP : Bx (zl (fixP (1 + 1)) = zl (fixP 1) ++ List.replicate 112 ((9 : Nat) : Int)) := ⟨by show zl (_ ++ List.replicate _ _) = _; rw [zl_app, zl_replicate]; rfl⟩
      clear rp hb1
      go_wp2_with fail
      refine RP.out.mono ?_
      rintro e w2 ⟨rfl, ho2, hb2⟩
      have R2 := Bx.mk ho2.reads
      have T2 := Bx.mk (HT1.out.below hb2)
      have B2 := Bx.mk (below_then HB1.out HB1.out.size hb2)
      have hz2 : w.heap.size ≤ w2.heap.size := B2.out.size
      have hlen : ((zl (fixP 1)).length + 112) * 8 ≤ 140737492549632 := by rw [zl_length]; omega
      generalize (wr.alloc (.cells #[.int .i64 112, .int .i64 9] 109)).alloc (.cells #[.int .i64 9] 3) = w9 at *
      generalize w9.heap.size = z9 at R2 ⊢
      clear ho2 hb2 HT1 HB1 RP
      go_wp2_with (at_builtin; refine wpList_append_ints w2 rfl (.tmp 12) (.tmp 18) rfl w.heap.size u1 (zl (fixP 1)) (List.replicate 112 ((9 : Nat) : Int)) 112 List.length_replicate rfl T2.out _ _ rfl (by have := R2.out; rw [List.length_replicate] at this; exact this) hlen hz2 ?_; intro v3 w3 ho3 hg3 _; have T3 : Bx (OI w3 w.heap.size v3 (zl (fixP (1 + 1)))) := ⟨by rw [HFP.out]; exact ho3⟩; have B3 := Bx.mk (app_end T2.out B2.out (Nat.le_refl _) hg3); clear ho3 hg3)
      go_roundw
      case rel => exact ⟨1 + 1, by omega, rfl, T3, B3⟩
      case measure => simp [intOf]
    · have hb1 := (HB.out.alloc HB.out.size (.cells #[.int .i64 24, .int .i64 7] 109)).alloc (Nat.le_trans HB.out.size (by simp)) (.cells #[.int .i64 7] 3)
      have rp := Repeat_calls (some ⟨(wr.alloc (.cells #[.int .i64 24, .int .i64 7] 109)).heap.size, 0, none⟩) 7 1 24 _ (IR.lit (wr.alloc (.cells #[.int .i64 24, .int .i64 7] 109)) 3 [7] #[.int .i64 7] rfl) (by decide)
      rw [show (wr.alloc (.cells #[.int .i64 24, .int .i64 7] 109)).heap.size = wr.heap.size + 1 by simp] at rp
      have RP := Bx.mk rp
      have HB1 := Bx.mk hb1
      have HT1 := Bx.mk ((HT.out.below (below_alloc1 wr (.cells #[.int .i64 24, .int .i64 7] 109))).below (below_alloc1 _ (.cells #[.int .i64 7] 3)))
      have hfl := fixP_len 2 (by omega)
      have HFP : Bx (zl (fixP (2 + 1)) = zl (fixP 2) ++ List.replicate 24 ((7 : Nat) : Int)) := ⟨by show zl (_ ++ List.replicate _ _) = _; rw [zl_app, zl_replicate]; rfl⟩
      clear rp hb1
      go_wp2_with fail
      refine RP.out.mono ?_
      rintro e w2 ⟨rfl, ho2, hb2⟩
      have R2 := Bx.mk ho2.reads
      have T2 := Bx.mk (HT1.out.below hb2)
      have B2 := Bx.mk (below_then HB1.out HB1.out.size hb2)
      have hz2 : w.heap.size ≤ w2.heap.size := B2.out.size
      have hlen : ((zl (fixP 2)).length + 24) * 8 ≤ 140737492549632 := by rw [zl_length]; omega
      generalize (wr.alloc (.cells #[.int .i64 24, .int .i64 7] 109)).alloc (.cells #[.int .i64 7] 3) = w9 at *
      generalize w9.heap.size = z9 at R2 ⊢
      clear ho2 hb2 HT1 HB1 RP
      go_wp2_with (at_builtin; refine wpList_append_ints w2 rfl (.tmp 12) (.tmp 18) rfl w.heap.size u1 (zl (fixP 2)) (List.replicate 24 ((7 : Nat) : Int)) 24 List.length_replicate rfl T2.out _ _ rfl (by have := R2.out; rw [List.length_replicate] at this; exact this) hlen hz2 ?_; intro v3 w3 ho3 hg3 _; have T3 : Bx (OI w3 w.heap.size v3 (zl (fixP (2 + 1)))) := ⟨by rw [HFP.out]; exact ho3⟩; have B3 := Bx.mk (app_end T2.out B2.out (Nat.le_refl _) hg3); clear ho3 hg3)
      go_roundw
      case rel => exact ⟨2 + 1, by omega, rfl, T3, B3⟩
      case measure => simp [intOf]
    · have hb1 := (HB.out.alloc HB.out.size (.cells #[.int .i64 8, .int .i64 8] 109)).alloc (Nat.le_trans HB.out.size (by simp)) (.cells #[.int .i64 8] 3)
      have rp := Repeat_calls (some ⟨(wr.alloc (.cells #[.int .i64 8, .int .i64 8] 109)).heap.size, 0, none⟩) 8 1 8 _ (IR.lit (wr.alloc (.cells #[.int .i64 8, .int .i64 8] 109)) 3 [8] #[.int .i64 8] rfl) (by decide)
      rw [show (wr.alloc (.cells #[.int .i64 8, .int .i64 8] 109)).heap.size = wr.heap.size + 1 by simp] at rp
      have RP := Bx.mk rp
      have HB1 := Bx.mk hb1
      have HT1 := Bx.mk ((HT.out.below (below_alloc1 wr (.cells #[.int .i64 8, .int .i64 8] 109))).below (below_alloc1 _ (.cells #[.int .i64 8] 3)))
      have hfl := fixP_len 3 (by omega)
      have HFP : Bx (zl (fixP (3 + 1)) = zl (fixP 3) ++ List.replicate 8 ((8 : Nat) : Int)) := ⟨by show zl (_ ++ List.replicate _ _) = _; rw [zl_app, zl_replicate]; rfl⟩
      clear rp hb1
      go_wp2_with fail
      refine RP.out.mono ?_
      rintro e w2 ⟨rfl, ho2, hb2⟩
      have R2 := Bx.mk ho2.reads
      have T2 := Bx.mk (HT1.out.below hb2)
      have B2 := Bx.mk (below_then HB1.out HB1.out.size hb2)
      have hz2 : w.heap.size ≤ w2.heap.size := B2.out.size
      have hlen : ((zl (fixP 3)).length + 8) * 8 ≤ 140737492549632 := by rw [zl_length]; omega
      generalize (wr.alloc (.cells #[.int .i64 8, .int .i64 8] 109)).alloc (.cells #[.int .i64 8] 3) = w9 at *
      generalize w9.heap.size = z9 at R2 ⊢
      clear ho2 hb2 HT1 HB1 RP
      go_wp2_with (at_builtin; refine wpList_append_ints w2 rfl (.tmp 12) (.tmp 18) rfl w.heap.size u1 (zl (fixP 3)) (List.replicate 8 ((8 : Nat) : Int)) 8 List.length_replicate rfl T2.out _ _ rfl (by have := R2.out; rw [List.length_replicate] at this; exact this) hlen hz2 ?_; intro v3 w3 ho3 hg3 _; have T3 : Bx (OI w3 w.heap.size v3 (zl (fixP (3 + 1)))) := ⟨by rw [HFP.out]; exact ho3⟩; have B3 := Bx.mk (app_end T2.out B2.out (Nat.le_refl _) hg3); clear ho3 hg3)
      go_roundw
      case rel => exact ⟨3 + 1, by omega, rfl, T3, B3⟩
      case measure => simp [intOf]
    · go_wp2
      go_ret
      exact ⟨_, rfl, HT.out, HB.out⟩
theorem IR.take {w : World} {A : Option Addr} {l : List Int} (h : IR w A l) (k : Nat) : IR w A (l.take k) := fun hp => by
  have hp' : 0 < k ∧ 0 < l.length := by rw [List.length_take] at hp; omega
  obtain ⟨ad, rfl, hc⟩ := h hp'.2
  refine ⟨ad, rfl, fun j hj => ?_⟩
  have hj' : j < k ∧ j < l.length := by rw [List.length_take] at hj; omega
  rw [hc j hj'.2, List.getD_eq_getElem?_getD, List.getD_eq_getElem?_getD, List.getElem?_take, if_pos hj'.1]
theorem IR.drop {w : World} {A : Option Addr} {l : List Int} (h : IR w A l) (k c : Nat) (hc' : l.length ≤ c) : IR w (if c = k then A else A.map (·.add k)) (l.drop k) := fun hp => by
  have hp' : k < l.length := by rw [List.length_drop] at hp; omega
  obtain ⟨ad, rfl, hc⟩ := h (by omega)
  refine ⟨ad.add k, by rw [if_neg (by omega)]; rfl, fun j hj => ?_⟩
  have hj' : k + j < l.length := by rw [List.length_drop] at hj; omega
  rw [add_of_add, hc _ hj', List.getD_eq_getElem?_getD, List.getD_eq_getElem?_getD, List.getElem?_drop]
end Go.Proofs.YtoekecopfmohiaaDoor
