import Derived.Test.YtcfclhgilpajiaaDoorCrcPure
import Derived.Test.YtcfclhgilpajiaaDoorRowBase
import Derived.StillTailTactics
import Derived.Deep.DeepCutAuto
import Derived.Deep.CutBlock
/-
  The laws CrcPieces, CrcXor: their walks.
-/
namespace Go.Proofs.YtcfclhgilpajiaaDoor
open Go.RowKit

set_option maxHeartbeats 4000000 in
theorem CrcPieces_calls (A : Option Addr) (l : List Nat) (c : Nat) (B : Option Addr) (m : List Int) (d : Nat) (w : World) (hl : RB w A l) (hc : l.length ≤ c) (hm : RI w B m) (hg : Half w) :
    Calls Tryd.prog 3 #[.slice A l.length c, .slice B m.length d] w fun e w' => e = .returned (.bool true) ∧ Below w.heap.size w w' := by
  have HL := Bx.mk hl; have HG := Bx.mk hg; have HM := Bx.mk hm; have HC := Bx.mk hc
  have hlen := hl.2.1
  have hmlen := hm.2.1
  clear hl hg hm hc
  go_enter Tryd.func3, Tryd.ntmps3
  go_wp2_with fail
  refine (works_calls w HG.out).mono ?_
  rintro e w1 ⟨rfl, hb⟩
  have HG1 := Bx.mk (HG.out.below hb)
  have HL1 := Bx.mk (HL.out.below hb)
  have HM1 := Bx.mk (HM.out.below hb)
  have HB := Bx.mk hb
  clear hb
  go_wp2
  go_loop [5, 6, 7] (fun s r i => ∃ (k off c' : Nat) (A' : Option Addr), k ≤ m.length ∧ off ≤ l.length ∧ i = .int .i64 k ∧ s = .int .u32 ((moreS 0 (l.take off) : Nat) : Int) ∧ r = .slice A' (l.length - off) c' ∧ Bx (RB w1 A' (l.drop off)) ∧ Bx (l.length - off ≤ c')) (fun _ _ i => m.length - (intOf i).toNat)
  case atStart => exact ⟨0, 0, c, A, Nat.zero_le _, Nat.zero_le _, rfl, by rw [List.take_zero, moreS_nil]; rfl, rfl, HL1, ⟨HC.out⟩⟩
  case round =>
    obtain ⟨k, off, c', A', hk, hoff, rfl, rfl, rfl, HR, HCC⟩ := hrel
    have hsl := moreS_lt 0 (l.take off) (by decide) (take_mem HL.out.1)
    generalize hQ : moreS 0 (l.take off) = Q at hsl ⊢
    have HQ := Bx.mk hQ; clear hQ
    have hdl : (l.drop off).length = l.length - off := List.length_drop
    have HDL := Bx.mk hdl
    generalize hN : l.length - off = N at HCC HDL ⊢
    have hNle : N ≤ 140737488351232 := by omega
    have HN := Bx.mk hN; clear hN hdl
    by_cases hlt : k < m.length
    · obtain ⟨ad, rfl, hcell⟩ := HM1.out.2.2 (by omega)
      have hck := hcell k hlt
      generalize m.getD k 0 = X at hck
      clear hcell
      have hN1 : 0 < N + 1 := by omega
      have eN : (N : Int) + 1 = ((N + 1 : Nat) : Int) := by omega
      have EN := Bx.mk eN; clear eN
      go_wp2_with fail
      rw [EN.out]
      refine (Among_calls X (N + 1) w1 hN1 (by omega)).mono ?_
      rintro e w1 ⟨rfl, rfl⟩
      have hj := amg_lt X (N + 1) hN1
      generalize amg X (N + 1) = J at hj
      have hJN : J ≤ N := by omega
      have hcut := cut_to_bytes A' N c' J hJN HCC.out
      have hfrom := cut_from_bytes A' N c' J hJN
      have HR2 := Bx.mk (HR.out.drop J c' (by rw [HDL.out]; exact HCC.out))
      have M1 := More_calls Q A' ((l.drop off).take J) c' w1 hsl (HR.out.take J) HG1.out
      rw [List.length_take, HDL.out, Nat.min_eq_left hJN] at M1
      have HMc := Bx.mk M1
      clear M1
      generalize hA2 : (if c' = J then A' else A'.map (·.add J)) = A2 at hfrom HR2
      clear hA2
      go_wp2_with fail
      refine HMc.out.mono ?_
      rintro e w1 ⟨rfl, rfl⟩
      go_wp2
      go_round
      case rel =>
        refine ⟨k + 1, off + J, c' - J, A2, by omega, by have := HN.out; omega, by go_num, ?_, ?_, ?_, ?_⟩
        · rw [List.take_add, moreS_append, HQ.out]
        · have := HN.out
          rw [show l.length - (off + J) = N - J by omega]
        · rw [← List.drop_drop]; exact HR2
        · exact ⟨by have := HN.out; have := HCC.out; omega⟩
      case measure => simp [intOf]; omega
    · have hfin : moreS Q (l.drop off) = moreS 0 l := by rw [← HQ.out, ← moreS_append, List.take_append_drop]
      have M1 := More_calls Q A' (l.drop off) c' w1 hsl HR.out HG1.out
      rw [HDL.out, hfin] at M1
      have HMc := Bx.mk M1
      have HS := Bx.mk (Sum_calls A l c w1 HL1.out HG1.out)
      clear M1 hfin
      generalize moreS 0 l = Z at HMc HS
      go_wp2_with fail
      refine HMc.out.mono ?_
      rintro e w1 ⟨rfl, rfl⟩
      go_wp2_with fail
      refine HS.out.mono ?_
      rintro e w1 ⟨rfl, rfl⟩
      go_wp2
      go_ret
      exact ⟨rfl, HB.out⟩

/-- the xor of three lists, up to k, noughts behind -/
def xl (N : Nat) (a b c : List Nat) (k : Nat) : List Nat := (List.range N).map fun j => if j < k then a.getD j 0 ^^^ b.getD j 0 ^^^ c.getD j 0 else 0
theorem xl_length (N : Nat) (a b c : List Nat) (k : Nat) : (xl N a b c k).length = N := by simp [xl]
theorem xl_zero (N : Nat) (a b c : List Nat) : xl N a b c 0 = List.replicate N 0 := by
  apply List.ext_getElem
  · simp [xl]
  · intro i h1 h2; simp [xl]
theorem xl_succ (N : Nat) (a b c : List Nat) (k : Nat) (_h : k < N) : (xl N a b c k).set k (a.getD k 0 ^^^ b.getD k 0 ^^^ c.getD k 0) = xl N a b c (k + 1) := by
  apply List.ext_getElem
  · simp [xl]
  · intro i h1 h2
    rw [List.getElem_set]
    simp only [xl, List.getElem_map, List.getElem_range]
    by_cases hi : k = i
    · subst hi; rw [if_pos rfl, if_pos (by omega)]
    · rw [if_neg hi]
      by_cases h3 : i < k
      · rw [if_pos h3, if_pos (by omega)]
      · rw [if_neg h3, if_neg (by omega)]
theorem getD_lt {l : List Nat} (k : Nat) (hb : ∀ x ∈ l, x < 256) : l.getD k 0 < 256 := by
  by_cases h : k < l.length
  · exact mem_getD h hb
  · rw [List.getD_eq_getElem?_getD, List.getElem?_eq_none (by omega)]; decide
theorem xor256 (a b : Nat) (ha : a < 256) (hb : b < 256) : a ^^^ b < 256 := Nat.xor_lt_two_pow (n := 8) ha hb
theorem xl_lt (N : Nat) (a b c : List Nat) (k : Nat) (ha : ∀ x ∈ a, x < 256) (hb : ∀ x ∈ b, x < 256) (hc : ∀ x ∈ c, x < 256) : ∀ x ∈ xl N a b c k, x < 256 := by
  intro x hx
  obtain ⟨j, _, rfl⟩ := List.mem_map.1 hx
  split
  · exact xor256 _ _ (xor256 _ _ (getD_lt j ha) (getD_lt j hb)) (getD_lt j hc)
  · decide
theorem xl_full (a b c : List Nat) (hb : b.length = a.length) (hc : c.length = a.length) : xl a.length a b c a.length = List.zipWith (· ^^^ ·) (List.zipWith (· ^^^ ·) a b) c := by
  apply List.ext_getElem
  · simp [xl]; omega
  · intro i h1 h2
    have hi : i < a.length := by simpa [xl] using h1
    simp only [xl, List.getElem_map, List.getElem_range, List.getElem_zipWith]
    rw [if_pos hi, getD_getElem a i hi, getD_getElem b i (by omega), getD_getElem c i (by omega)]
theorem sums_cancel (a b c : List Nat) (hb : b.length = a.length) (hc : c.length = a.length) :
    moreS 0 a ^^^ moreS 0 b ^^^ moreS 0 c ^^^ moreS 0 (xl a.length a b c a.length) = 0 := by
  rw [xl_full a b c hb hc]
  unfold moreS
  have h1 := more_xor a b (nt 0) (nt 0) hb.symm
  have h2 := more_xor (List.zipWith (· ^^^ ·) a b) c (nt 0 ^^^ nt 0) (nt 0) (by simp; omega)
  rw [h1] at h2
  rw [show nt 0 ^^^ nt 0 ^^^ nt 0 = nt 0 by rw [Nat.xor_self, Nat.zero_xor]] at h2
  rw [h2]
  generalize moreN (nt 0) a = x
  generalize moreN (nt 0) b = y
  generalize moreN (nt 0) c = z
  simp only [nt_def]
  generalize (4294967295 : Nat) = m
  rw [show m ^^^ x ^^^ (m ^^^ y) ^^^ (m ^^^ z) ^^^ (m ^^^ (x ^^^ y ^^^ z)) = (m ^^^ m) ^^^ (m ^^^ m) ^^^ (x ^^^ x) ^^^ (y ^^^ y) ^^^ (z ^^^ z) by ac_rfl]
  simp

theorem min_three_run (a b c : Nat) (ats : Array TypeId) (ty : TypeId) (W : World) :
    (Builtin.min_ ats ty #[.int .i64 (a : Int), .int .i64 (b : Int), .int .i64 (c : Int)]).run Tryd.prog W = .ok (.int .i64 ((min a (min b c) : Nat) : Int)) W := by
  have e0 : Builtin.min_ ats ty #[.int .i64 (a : Int), .int .i64 (b : Int), .int .i64 (c : Int)] = (Builtin.min2 (.int .i64 (a : Int)) (.int .i64 (b : Int)) >>= fun s => Builtin.min2 s (.int .i64 (c : Int)) >>= fun s => pure s) := by
    simp only [Builtin.min_, List.foldlM_cons, List.foldlM_nil]
  have e1 : ∀ x y : Int, Builtin.min2 (.int .i64 x) (.int .i64 y) = pure (.int .i64 (if y < x then y else x)) := fun x y => by simp only [Builtin.min2]
  rw [e0, e1]
  have e2 : ((min a (min b c) : Nat) : Int) = (if (c : Int) < (if (b : Int) < (a : Int) then (b : Int) else (a : Int)) then (c : Int) else (if (b : Int) < (a : Int) then (b : Int) else (a : Int))) := by
    split <;> split at * <;> omega
  rw [e2]
  simp [e1]

set_option maxRecDepth 100000 in
set_option maxHeartbeats 4000000 in
theorem CrcXor_calls (A : Option Addr) (a : List Nat) (ca : Nat) (B : Option Addr) (b : List Nat) (cb : Nat) (C : Option Addr) (c : List Nat) (cc : Nat) (w : World)
    (ha : RB w A a) (hca : a.length ≤ ca) (hb : RB w B b) (hcb : b.length ≤ cb) (hc : RB w C c) (hcc : c.length ≤ cc) (hg : Half w) :
    Calls Tryd.prog 5 #[.slice A a.length ca, .slice B b.length cb, .slice C c.length cc] w fun e w' => e = .returned (.bool true) ∧ Below w.heap.size w w' := by
  have HA := Bx.mk ha; have HB := Bx.mk hb; have HC := Bx.mk hc; have HG := Bx.mk hg
  have hla := ha.2.1
  clear ha hb hc hg
  have hmin := min_three_run a.length b.length c.length
  obtain ⟨N, hN⟩ : ∃ N, N = min a.length (min b.length c.length) := ⟨_, rfl⟩
  rw [← hN] at hmin
  have hNa : N ≤ a.length := by omega
  have hNb : N ≤ b.length := by omega
  have hNc : N ≤ c.length := by omega
  clear hN
  have c1 := cut_to_bytes A a.length ca N hNa hca
  have c2 := cut_to_bytes B b.length cb N hNb hcb
  have c3 := cut_to_bytes C c.length cc N hNc hcc
  clear hca hcb hcc
  go_enter Tryd.func5, Tryd.ntmps5
  go_wp2_with fail
  refine (works_calls w HG.out).mono ?_
  rintro e w1 ⟨rfl, hbw⟩
  have HG1 := Bx.mk (HG.out.below hbw)
  have HA1 := Bx.mk ((HA.out.below hbw).take N)
  have HB1 := Bx.mk ((HB.out.below hbw).take N)
  have HC1 := Bx.mk ((HC.out.below hbw).take N)
  have HW := Bx.mk hbw
  clear hbw
  have hmk := fun W => make_bytes N (by omega) W
  go_wp2
  go_quiet (fail)
  go_wp2
  clear hmin c1 c2 c3 hmk
  have l1 : (a.take N).length = N := by rw [List.length_take]; omega
  have l2 : (b.take N).length = N := by rw [List.length_take]; omega
  have l3 : (c.take N).length = N := by rw [List.length_take]; omega
  clear hNa hNb hNc
  generalize a.take N = x at HA1 l1
  generalize b.take N = y at HB1 l2
  generalize c.take N = z at HC1 l3
  clear HA HB HC
  have hNle : N ≤ 140737488351232 := by have := HA1.out.2.1; omega
  have L1 := Bx.mk l1; have L2 := Bx.mk l2; have L3 := Bx.mk l3
  clear l1 l2 l3
  have HO0 : OB ((w1.drewN nq).alloc (.cells (madeCells #[.int .u8 0] N) 5)) w1.heap.size (.slice (some ⟨w1.heap.size, 0, none⟩) N N) (xl N x y z 0) := by
    rw [xl_zero]; exact own_made (w1.drewN nq) N (by omega)
  have HO := Bx.mk HO0
  have HBW := Bx.mk (below_alloc1 (w1.drewN nq) (.cells (madeCells #[.int .u8 0] N) 5))
  have HBW1 : Bx (Below w1.heap.size w1 ((w1.drewN nq).alloc (.cells (madeCells #[.int .u8 0] N) 5))) := ⟨below_then (below_drewN (Below.refl _ w1) nq) (Nat.le_refl _) HBW.out⟩
  clear HO0 HBW
  have hsz : w1.heap.size < ((w1.drewN nq).alloc (.cells (madeCells #[.int .u8 0] N) 5)).heap.size := by simp
  generalize (w1.drewN nq).alloc (.cells (madeCells #[.int .u8 0] N) 5) = w2 at HO HBW1 hsz ⊢
  generalize hg : w1.heap.size = g at HO HBW1 hsz ⊢
  have HGG := Bx.mk hg
  clear hg
  go_loopw [9] (fun i wr => ∃ k, k ≤ N ∧ i = .int .i64 (k : Nat) ∧ Bx (OB wr g (.slice (some ⟨g, 0, none⟩) N N) (xl N x y z k)) ∧ Bx (Below g w1 wr)) (fun i _ => N - (intOf i).toNat)
  case atStart => exact ⟨0, Nat.zero_le _, rfl, HO, HBW1⟩
  case round =>
    obtain ⟨k, hk, rfl, HOk, HBk⟩ := hrel
    have HBk' : Below w1.heap.size w1 wr := by rw [HGG.out]; exact HBk.out
    have HA2 := Bx.mk (HA1.out.below HBk')
    have HB2 := Bx.mk (HB1.out.below HBk')
    have HC2 := Bx.mk (HC1.out.below HBk')
    have HG2 := Bx.mk (HG1.out.below HBk')
    clear HBk'
    by_cases hlt : k < N
    · obtain ⟨a1, rfl, hd1⟩ := HA2.out.2.2 (by have := L1.out; omega)
      obtain ⟨a2, rfl, hd2⟩ := HB2.out.2.2 (by have := L2.out; omega)
      obtain ⟨a3, rfl, hd3⟩ := HC2.out.2.2 (by have := L3.out; omega)
      have hg1 := hd1 k (by have := L1.out; omega)
      have hg2 := hd2 k (by have := L2.out; omega)
      have hg3 := hd3 k (by have := L3.out; omega)
      clear hd1 hd2 hd3
      have hX := getD_lt k HA1.out.1
      have hY := getD_lt k HB1.out.1
      have hZ := getD_lt k HC1.out.1
      have hs := Bx.mk (xl_succ N x y z k hlt)
      generalize x.getD k 0 = X at hg1 hX hs
      generalize y.getD k 0 = Y at hg2 hY hs
      generalize z.getD k 0 = Z at hg3 hZ hs
      have e1 := u8_xor_nat X Y hX hY
      have hXY := xor256 X Y hX hY
      have e2 := u8_xor_nat (X ^^^ Y) Z hXY hZ
      generalize X ^^^ Y ^^^ Z = V at e2 hs
      generalize X ^^^ Y = U at e1 e2 hXY
      obtain ⟨g', hg', -, -, hgl, hcell, hfz⟩ := HOk.out.opened (by rw [xl_length]; omega)
      obtain rfl : g = g' := by injection hg' with h; injection h
      clear hg'
      have hck := hcell k (by rw [xl_length]; exact hlt)
      have hfk := hfz k
      generalize (xl N x y z k).getD k 0 = T at hck
      clear hcell hfz
      have HP := Bx.mk (HOk.out.put k V)

      go_upto_region 9 with (fail)
      go_still_tail 17, (by kernel_rfl)
      go_wp2
      go_roundw
      case rel => exact ⟨k + 1, by omega, by go_num, ⟨by rw [← hs.out]; exact HP.out⟩, ⟨(HBk.out.setCell (Nat.le_refl _) _).drew⟩⟩
      case measure => simp [intOf]; omega
    · have hk' : k = N := by omega
      have hx := L1.out
      have hres := sums_cancel x y z (by rw [L2.out, hx]) (by rw [L3.out, hx])
      rw [hx, ← hk'] at hres
      have K1 := Sum_calls A x ca wr HA2.out HG2.out
      have K2 := Sum_calls B y cb wr HB2.out HG2.out
      have K3 := Sum_calls C z cc wr HC2.out HG2.out
      have hxb := xl_lt N x y z k HA1.out.1 HB1.out.1 HC1.out.1
      have K4 := Sum_calls (some ⟨g, 0, none⟩) (xl N x y z k) N wr (HOk.out.rb' hxb (by rw [xl_length]; exact hNle)) HG2.out
      rw [hx] at K1
      rw [L2.out] at K2
      rw [L3.out] at K3
      rw [xl_length] at K4
      rw [show xl k x y z k = xl N x y z k by rw [hk']] at hres
      have m1 := moreS_lt 0 x (by decide) HA1.out.1
      have m2 := moreS_lt 0 y (by decide) HB1.out.1
      have m3 := moreS_lt 0 z (by decide) HC1.out.1
      have m4 := moreS_lt 0 _ (by decide) hxb
      have HK1 := Bx.mk K1; have HK2 := Bx.mk K2; have HK3 := Bx.mk K3; have HK4 := Bx.mk K4
      have HKN := Bx.mk hk'
      clear K1 K2 K3 K4 hk' hx hxb
      generalize moreS 0 x = S1 at HK1 m1 hres
      generalize moreS 0 y = S2 at HK2 m2 hres
      generalize moreS 0 z = S3 at HK3 m3 hres
      generalize moreS 0 (xl N x y z k) = S4 at HK4 m4 hres
      have f1 := u32_xor_nat S1 S2 m1 m2
      have q1 := xor_lt S1 S2 m1 m2
      have f2 := u32_xor_nat (S1 ^^^ S2) S3 q1 m3
      have q2 := xor_lt (S1 ^^^ S2) S3 q1 m3
      have f3 := u32_xor_nat (S1 ^^^ S2 ^^^ S3) S4 q2 m4
      rw [hres] at f3
      clear hres
      generalize S1 ^^^ S2 ^^^ S3 = U2 at f2 f3 q2
      generalize S1 ^^^ S2 = U1 at f1 f2 q1
      go_wp2_with fail
      refine HK1.out.mono ?_
      rintro e w3 ⟨rfl, rfl⟩
      go_wp2_with fail
      refine HK2.out.mono ?_
      rintro e w3 ⟨rfl, rfl⟩
      go_wp2_with fail
      refine HK3.out.mono ?_
      rintro e w3 ⟨rfl, rfl⟩
      go_wp2_with fail
      refine HK4.out.mono ?_
      rintro e w3 ⟨rfl, rfl⟩
      go_wp2
      go_ret
      exact ⟨rfl, below_then HW.out HW.out.size (by rw [HGG.out]; exact HBk.out)⟩
end Go.Proofs.YtcfclhgilpajiaaDoor
