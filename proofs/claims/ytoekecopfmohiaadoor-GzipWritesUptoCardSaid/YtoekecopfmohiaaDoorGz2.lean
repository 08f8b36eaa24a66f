import Derived.Test.YtoekecopfmohiaaDoorGz1
import Derived.Test.YtoekecopfmohiaaDoorInf4
import Derived.Laws.EntriesVeiled
/-
  gzip: Header: its walk.
-/
namespace Go.Proofs.YtoekecopfmohiaaDoor
open Go.RowKit

/-- the package's tables -/
structure Gz (w : World) : Prop where
  half : Half w
  gf : Gf w
  mag : ∀ i, i < 10 → w.cell? ⟨0, i, none⟩ = some (.int .u8 ((hMag.getD i 0 : Nat) : Int))
theorem Gz.below {w w1 : World} (h : Gz w) (hb : Below w.heap.size w w1) : Gz w1 := ⟨h.half.below hb, h.gf.below hb, fun i hi => cell_below hb (h.mag i hi)⟩
/-- what Header answers -/
def HdrPost (l : List Nat) (w : World) (e : Ending) (w' : World) : Prop := Below w.heap.size w w' ∧ match hdrN l with
  | .ok a => e = .returned (.tuple #[.int .i64 (a : Int), .int .i64 0])
  | .error x => x ≠ 0 ∧ e = .returned (.tuple #[.int .i64 0, .int .i64 (x : Int)])
theorem mag_cut (W : World) : (Instr.sliceAt 61 (.pointer (some ⟨0, 0, none⟩)) none (some (.int .i64 3)) none).run Tryd.prog W = .ok (.slice (some ⟨0, 0, none⟩) 3 10) W := by kernel_rfl
theorem hdr_err {l : List Nat} {w w' : World} {RF : Except Nat Nat} {x : Nat} (h : RF = hdrN l) (hx : RF = .error x) (h0 : x ≠ 0) (hb : Below w.heap.size w w') : HdrPost l w (.returned (.tuple #[.int .i64 0, .int .i64 (x : Int)])) w' := by
  refine ⟨hb, ?_⟩
  rw [← h, hx]
  exact ⟨h0, rfl⟩
theorem hdr_ok {l : List Nat} {w w' : World} {RF : Except Nat Nat} {a : Nat} (h : RF = hdrN l) (hx : RF = .ok a) (hb : Below w.heap.size w w') : HdrPost l w (.returned (.tuple #[.int .i64 (a : Int), .int .i64 0])) w' := by
  refine ⟨hb, ?_⟩
  rw [← h, hx]
/-- what is left of the first bytes' test -/
def magR (b : List Nat) : Nat → Except Nat Nat
  | 0 => magS b 0 (magS b 1 (magS b 2 (pre3 b)))
  | 1 => magS b 1 (magS b 2 (pre3 b))
  | 2 => magS b 2 (pre3 b)
  | _ => pre3 b
theorem magR_step (b : List Nat) (k : Nat) (h : k < 3) : magR b k = magS b k (magR b (k + 1)) := by
  obtain rfl | rfl | rfl : k = 0 ∨ k = 1 ∨ k = 2 := by omega
  all_goals rfl
theorem hMag_lt : ∀ k, k < 10 → hMag.getD k 0 < 256 := by decide
set_option maxRecDepth 100000 in
set_option maxHeartbeats 4000000 in
theorem Header_calls (A : Option Addr) (l : List Nat) (c : Nat) (w : World) (hl : RB w A l) (hc : l.length ≤ c) (hg : Gz w) :
    Calls Tryd.prog 26 #[.slice A l.length c] w (HdrPost l w) := by
  have HL := Bx.mk hl
  have HG := Bx.mk hg
  have hlen := hl.2.1
  obtain ⟨RF, hRF⟩ : ∃ RF, RF = hdrN l := ⟨_, rfl⟩
  have HRF := Bx.mk hRF
  have B1 : Bx (Blk (w.alloc (.cells #[.slice A l.length c] 22)) w.heap.size 22 #[.slice A l.length c]) := ⟨Blk.new _ _ _⟩
  have L1 := Bx.mk (below_alloc1 w (.cells #[.slice A l.length c] 22))
  have hmc := mag_cut
  clear hl hg hRF
  go_enter Tryd.func26, Tryd.ntmps26
  go_wp2
  generalize w.alloc (.cells #[.slice A l.length c] 22) = w1 at *
  obtain ⟨q1, hq1⟩ : ∃ q1, q1 = w.heap.size := ⟨_, rfl⟩
  rw [← hq1] at B1 ⊢
  have LQ : Bx (w.heap.size ≤ q1) := ⟨by omega⟩
  clear hq1 hmc
  have HF0 : Bx (RF = eb (magR l 0) (rstN l 4 0)) := ⟨HRF.out⟩
  have c1 : w1.cell? ⟨q1, 0, none⟩ = some (.slice A l.length c) := B1.out.cell 0
  have HL1 := Bx.mk (HL.out.below L1.out)
  have HG1 := Bx.mk (HG.out.below L1.out)
  go_loop [15] (fun s15 => ∃ k : Nat, k ≤ 3 ∧ s15 = .int .i64 (k : Nat) ∧ Bx (RF = eb (magR l k) (rstN l 4 0))) (fun s15 => 3 - (intOf s15).toNat)
  case atStart => exact ⟨0, by omega, rfl, HF0⟩
  case round =>
    obtain ⟨k, hk, rfl, HFk⟩ := hrel
    clear HF0
    by_cases hk3 : k < 3
    · have hk3i : (k : Int) < 3 := by omega
      have HFk2 := Bx.mk (HFk.out.trans (by rw [magR_step l k hk3]))
      have cm := HG1.out.mag k (by omega)
      have hXb := hMag_lt k (by omega)
      by_cases hlt : l.length ≤ k
      · have HE : Bx (RF = .error 7) := ⟨by rw [HFk2.out]; unfold magS; rw [if_pos hlt]; rfl⟩
        have hge : (l.length : Int) ≤ (k : Int) := by omega
        clear HFk HFk2
        generalize hMag.getD k 0 = X at *
        go_wp2
        go_ret2
        exact hdr_err HRF.out HE.out (by decide) L1.out
      · have hge : decide ((l.length : Int) ≤ (k : Int)) = false := decide_eq_false (by omega)
        obtain ⟨ad, rfl, hcell⟩ := HL1.out.2.2 (by omega)
        have cb := hcell k (by omega)
        have hki : (k : Int) < (l.length : Int) := by omega
        clear hcell
        by_cases hne : l.getD k 0 = hMag.getD k 0
        · have HE : Bx (RF = eb (magR l (k + 1)) (rstN l 4 0)) := ⟨by rw [HFk2.out]; unfold magS; rw [if_neg hlt, if_neg (fun h => h hne)]⟩
          rw [hne] at cb
          clear HFk HFk2 hne
          generalize hMag.getD k 0 = X at *
          go_wp2
          go_round
          case rel => exact ⟨k + 1, by omega, by go_num, HE⟩
          case measure => simp [intOf]; omega
        · have HE : Bx (RF = .error 120) := ⟨by rw [HFk2.out]; unfold magS; rw [if_neg hlt, if_pos hne]; rfl⟩
          have hnei : (((l.getD k 0 : Nat) : Int) != ((hMag.getD k 0 : Nat) : Int)) = true := by rw [bne_iff_ne]; omega
          clear HFk HFk2 hne
          generalize hMag.getD k 0 = X at *
          generalize l.getD k 0 = Y at *
          go_wp2
          go_ret2
          exact hdr_err HRF.out HE.out (by decide) L1.out
    · obtain rfl : k = 3 := by omega
      have HF3 : Bx (RF = eb (pre3 l) (rstN l 4 0)) := HFk
      clear HFk
      by_cases h4 : l.length < 4
      · have HE : Bx (RF = .error 7) := ⟨by rw [HF3.out]; unfold pre3; rw [if_pos h4]; rfl⟩
        have h4i : (l.length : Int) < 4 := by omega
        go_wp2
        go_ret2
        exact hdr_err HRF.out HE.out (by decide) L1.out
      have h4i : decide ((l.length : Int) < 4) = false := decide_eq_false (by omega)
      obtain ⟨ad, rfl, hcell⟩ := HL1.out.2.2 (by omega)
      have cb : w1.cell? ⟨ad.block, ad.off + 3, none⟩ = some (.int .u8 ((l.getD 3 0 : Nat) : Int)) := by rw [← add_succ ad 2]; exact hcell 3 (by omega)
      have h3i : (3 : Int) < (l.length : Int) := by omega
      have hxb : l.getD 3 0 < 256 := mem_getD (by omega) HL1.out.1
      have hand : bits .and .u8 ((l.getD 3 0 : Nat) : Int) 224 = ((l.getD 3 0 &&& 224 : Nat) : Int) := u8_and_nat _ 224 hxb (by decide)
      clear hcell
      by_cases h224 : l.getD 3 0 &&& 224 = 0
      case neg =>
        have HE : Bx (RF = .error 120) := ⟨by rw [HF3.out]; unfold pre3; rw [if_neg h4, if_pos h224]; rfl⟩
        have hne : (((l.getD 3 0 &&& 224 : Nat) : Int) != 0) = true := by rw [bne_iff_ne]; omega
        generalize l.getD 3 0 &&& 224 = Y at *
        generalize l.getD 3 0 = X at *
        go_wp2
        go_ret2
        exact hdr_err HRF.out HE.out (by decide) L1.out
      rw [h224] at hand
      by_cases h10 : l.length < 10
      · have HE : Bx (RF = .error 7) := ⟨by rw [HF3.out]; unfold pre3; rw [if_neg h4, if_neg (fun h => h h224), if_pos h10]; rfl⟩
        have h10i : (l.length : Int) < 10 := by omega
        clear h224
        generalize l.getD 3 0 = X at *
        go_wp2
        go_ret2
        exact hdr_err HRF.out HE.out (by decide) L1.out
      have h10i : decide ((l.length : Int) < 10) = false := decide_eq_false (by omega)
      have HF4 : Bx (RF = rstN l 4 0 10) := ⟨by rw [HF3.out]; unfold pre3; rw [if_neg h4, if_neg (fun h => h h224), if_neg h10]; rfl⟩
      clear h224 HF3
      generalize hX : l.getD 3 0 = X at cb hand hxb
      have HX := Bx.mk hX
      clear hX
      go_wp2
      have HCB : Bx (∀ W, Below w.heap.size w W → W.cell? ⟨ad.block, ad.off + 3, none⟩ = some (.int .u8 (X : Int))) := ⟨fun W hW => by
        obtain ⟨ad', had, hcl⟩ := HL.out.2.2 (by omega)
        injection had with had
        subst had
        have := cell_below hW (hcl 3 (by omega))
        rw [add_succ ad 2, HX.out] at this
        exact this⟩
      obtain ⟨PT, hPT⟩ : ∃ PT : Array Value, PT = #[.int .u8 4, .func (.func 49) #[] #[.pointer (some ⟨q1, 0, none⟩), .pointer (some ⟨w1.heap.size, 0, none⟩)], .int .u8 8, .func (.func 47) #[] #[.pointer (some ⟨q1, 0, none⟩), .pointer (some ⟨w1.heap.size, 0, none⟩)],
        .int .u8 16, .func (.func 47) #[] #[.pointer (some ⟨q1, 0, none⟩), .pointer (some ⟨w1.heap.size, 0, none⟩)], .int .u8 2, .func (.func 50) #[] #[.pointer (some ⟨q1, 0, none⟩), .pointer (some ⟨w1.heap.size, 0, none⟩)]] := ⟨_, rfl⟩
      have hb6 := below_alloc1 w1 (.cells #[.int .i64 10] 3)
      have hb7 := below_alloc1 (w1.alloc (.cells #[.int .i64 10] 3)) (.cells PT 70)
      have hb67 := below_then hb6 hb6.size hb7
      have B1z := Bx.mk (B1.out.below hb67 B1.out.lt)
      have b6 : Blk (w1.alloc (.cells #[.int .i64 10] 3)) w1.heap.size 3 #[.int .i64 10] := Blk.new _ _ _
      have B6z := Bx.mk (b6.below hb7 b6.lt)
      have B7z : Bx (Blk ((w1.alloc (.cells #[.int .i64 10] 3)).alloc (.cells PT 70)) (w1.alloc (.cells #[.int .i64 10] 3)).heap.size 70 PT) := ⟨Blk.new _ _ _⟩
      have LLz := Bx.mk (below_then L1.out L1.out.size hb67)
      have LQ6 : Bx (w.heap.size ≤ w1.heap.size) := ⟨L1.out.size⟩
      rw [← hPT]
      rw [show w1.heap.size + 1 = (w1.alloc (.cells #[.int .i64 10] 3)).heap.size by simp]
      have HPT := Bx.mk hPT
      clear hb6 hb7 hb67 b6 hPT
      generalize (w1.alloc (.cells #[.int .i64 10] 3)).alloc (.cells PT 70) = w3 at *
      generalize (w1.alloc (.cells #[.int .i64 10] 3)).heap.size = q7 at *
      generalize w1.heap.size = q6 at *
      clear c1 cb B1 L1 HL1 HG1 hand
      go_loopw [60] (fun s60 wr => ∃ k a : Nat, k ≤ 4 ∧ s60 = .int .i64 (k : Nat) ∧ a ≤ l.length ∧ Bx (Blk wr q1 22 #[.slice (some ad) l.length c]) ∧ Bx (Blk wr q6 3 #[.int .i64 (a : Int)]) ∧ Bx (Blk wr q7 70 PT) ∧ Bx (Below w.heap.size w wr) ∧ Bx (RF = rstN l (4 - k) k a)) (fun s60 _ => 4 - (intOf s60).toNat)
      case atStart => exact ⟨0, 10, by omega, rfl, by omega, B1z, B6z, B7z, LLz, HF4⟩
      case round =>
        obtain ⟨k, a, hk4, rfl, ha, B1, B6, B7, LL, FQ⟩ := hrel
        clear B1z B6z B7z LLz HF4
        have hkk : k = 0 ∨ k = 1 ∨ k = 2 ∨ k = 3 ∨ k = 4 := by omega
        have b7 := B7.out
        rw [HPT.out] at b7
        rcases hkk with rfl | rfl | rfl | rfl | rfl
        · have hand2 : bits .and .u8 (X : Int) 4 = ((X &&& 4 : Nat) : Int) := u8_and_nat X 4 hxb (by decide)
          have F2 : Bx (RF = if X &&& 4 = 0 then rstN l 3 1 a else eb (partP l 0 a) (rstN l 3 1)) := ⟨by rw [FQ.out]; show (if l.getD 3 0 &&& partF 0 = 0 then _ else _) = _; rw [HX.out]; rfl⟩
          have x0 : wr.cell? ⟨q7, 0, none⟩ = some (.int .u8 4) := b7.cell 0
          have x1 : wr.cell? ⟨q7, 1, none⟩ = some (.func (.func 49) #[] #[.pointer (some ⟨q1, 0, none⟩), .pointer (some ⟨q6, 0, none⟩)]) := b7.cell 1
          clear b7
          have hba := below_alloc1 wr (.cells #[.int .u8 4, .func (.func 49) #[] #[.pointer (some ⟨q1, 0, none⟩), .pointer (some ⟨q6, 0, none⟩)]] 70)
          have B8 : Bx (Blk (wr.alloc (.cells #[.int .u8 4, .func (.func 49) #[] #[.pointer (some ⟨q1, 0, none⟩), .pointer (some ⟨q6, 0, none⟩)]] 70)) wr.heap.size 70 #[.int .u8 4, .func (.func 49) #[] #[.pointer (some ⟨q1, 0, none⟩), .pointer (some ⟨q6, 0, none⟩)]]) := ⟨Blk.new _ _ _⟩
          have B1n := Bx.mk (B1.out.below hba B1.out.lt)
          have B6n := Bx.mk (B6.out.below hba B6.out.lt)
          have B7n := Bx.mk (B7.out.below hba B7.out.lt)
          have L8 := Bx.mk (below_then LL.out LL.out.size hba)
          go_upto_region 22 with (fail)
          generalize wr.alloc (.cells #[.int .u8 4, .func (.func 49) #[] #[.pointer (some ⟨q1, 0, none⟩), .pointer (some ⟨q6, 0, none⟩)]] 70) = w8 at *
          generalize wr.heap.size = q8 at *
          clear x0 x1 hba B1 B6 B7 LL FQ
          have y0 : w8.cell? ⟨q8, 0, none⟩ = some (.int .u8 4) := B8.out.cell 0
          have y1 : w8.cell? ⟨q8, 1, none⟩ = some (.func (.func 49) #[] #[.pointer (some ⟨q1, 0, none⟩), .pointer (some ⟨q6, 0, none⟩)]) := B8.out.cell 1
          have y2 : w8.cell? ⟨q1, 0, none⟩ = some (.slice (some ad) l.length c) := B1n.out.cell 0
          have y3 : w8.cell? ⟨ad.block, ad.off + 3, none⟩ = some (.int .u8 (X : Int)) := HCB.out w8 L8.out
          by_cases hz : X &&& 4 = 0
          · have F3 : Bx (RF = rstN l 3 1 a) := ⟨by rw [F2.out, if_pos hz]⟩
            rw [hz] at hand2
            clear F2 hz
            go_quiet (fail)
            go_wp2
            go_roundw
            case rel => exact ⟨1, a, by omega, rfl, ha, ⟨B1n.out⟩, ⟨B6n.out⟩, ⟨B7n.out⟩, ⟨below_drewN L8.out _⟩, F3⟩
            case measure => simp [intOf]
          · have F3 : Bx (RF = eb (partP l 0 a) (rstN l 3 1)) := ⟨by rw [F2.out, if_neg hz]⟩
            have hnz : (((X &&& 4 : Nat) : Int) == 0) = false := beq_false_of_ne (by omega)
            clear F2 hz
            generalize X &&& 4 = XF at *
            go_quiet (fail)
            have B1' : Bx (Blk (w8.drewN nq) q1 22 #[.slice (some ad) l.length c]) := ⟨B1n.out⟩
            have B6' : Bx (Blk (w8.drewN nq) q6 3 #[.int .i64 (a : Int)]) := ⟨B6n.out⟩
            have RBX : Bx (RB (w8.drewN nq) (some ad) l) := ⟨HL.out.below (below_drewN L8.out nq)⟩
            have HGX : Bx (Gz (w8.drewN nq)) := ⟨HG.out.below (below_drewN L8.out nq)⟩
            have HA : Bx (a ≤ l.length) := ⟨ha⟩
            have PC := Bx.mk (extra_calls q1 q6 (some ad) l c a (w8.drewN nq) B1'.out B6'.out RBX.out HA.out)
            have y1' : (w8.drewN nq).cell? ⟨q8, 1, none⟩ = some (.func (.func 49) #[] #[.pointer (some ⟨q1, 0, none⟩), .pointer (some ⟨q6, 0, none⟩)]) := y1
            have L8' := Bx.mk (below_drewN L8.out nq)
            have B7' : Bx (Blk (w8.drewN nq) q7 70 PT) := ⟨B7n.out⟩
            generalize w8.drewN nq = w9 at *
            clear y0 y1 y2 y3 B1n B6n B7n L8 B8
            go_wp2_with (go_at_call 49; fail)
            refine PC.out.mono ?_
            intro e wN hp
            have F4 : Bx (RF = eb (extraN l a) (rstN l 3 1)) := F3
            cases hr : extraN l a with
            | error x =>
              rw [hr] at hp F4
              obtain ⟨hx0, rfl, -, ho⟩ := hp
              have HE : Bx (RF = .error x) := ⟨F4.out⟩
              have L10 := Bx.mk (L8'.out.trans (ho.below _ LQ6.out L8'.out.size))
              have HX0 := Bx.mk hx0
              have hxn : ((x : Int) != 0) = true := by rw [bne_iff_ne]; omega
              clear ho PC hr F3 F4 hx0
              go_wp2
              go_ret2
              exact hdr_err HRF.out HE.out HX0.out L10.out
            | ok a' =>
              rw [hr] at hp F4
              obtain ⟨rfl, hb6, ho⟩ := hp
              have F5 : Bx (RF = rstN l 3 1 a') := ⟨F4.out⟩
              have L10 := Bx.mk (L8'.out.trans (ho.below _ LQ6.out L8'.out.size))
              have B1x := Bx.mk (B1'.out.only ho (B1'.out.ne_ B6'.out (by decide)))
              have B7x := Bx.mk (B7'.out.only ho (B7'.out.ne_ B6'.out (by decide)))
              have B6x := Bx.mk hb6
              have HA' : Bx (a' ≤ l.length) := ⟨((hp_part 0).mono l a a' hr ha).2⟩
              clear ho PC hr F3 F4 hb6
              go_wp2
              go_roundw
              case rel => exact ⟨1, a', by omega, rfl, HA'.out, B1x, B6x, B7x, L10, F5⟩
              case measure => simp [intOf]
        · have hand2 : bits .and .u8 (X : Int) 8 = ((X &&& 8 : Nat) : Int) := u8_and_nat X 8 hxb (by decide)
          have F2 : Bx (RF = if X &&& 8 = 0 then rstN l 2 2 a else eb (partP l 1 a) (rstN l 2 2)) := ⟨by rw [FQ.out]; show (if l.getD 3 0 &&& partF 1 = 0 then _ else _) = _; rw [HX.out]; rfl⟩
          have x0 : wr.cell? ⟨q7, 2, none⟩ = some (.int .u8 8) := b7.cell 2
          have x1 : wr.cell? ⟨q7, 3, none⟩ = some (.func (.func 47) #[] #[.pointer (some ⟨q1, 0, none⟩), .pointer (some ⟨q6, 0, none⟩)]) := b7.cell 3
          clear b7
          have hba := below_alloc1 wr (.cells #[.int .u8 8, .func (.func 47) #[] #[.pointer (some ⟨q1, 0, none⟩), .pointer (some ⟨q6, 0, none⟩)]] 70)
          have B8 : Bx (Blk (wr.alloc (.cells #[.int .u8 8, .func (.func 47) #[] #[.pointer (some ⟨q1, 0, none⟩), .pointer (some ⟨q6, 0, none⟩)]] 70)) wr.heap.size 70 #[.int .u8 8, .func (.func 47) #[] #[.pointer (some ⟨q1, 0, none⟩), .pointer (some ⟨q6, 0, none⟩)]]) := ⟨Blk.new _ _ _⟩
          have B1n := Bx.mk (B1.out.below hba B1.out.lt)
          have B6n := Bx.mk (B6.out.below hba B6.out.lt)
          have B7n := Bx.mk (B7.out.below hba B7.out.lt)
          have L8 := Bx.mk (below_then LL.out LL.out.size hba)
          go_upto_region 22 with (fail)
          generalize wr.alloc (.cells #[.int .u8 8, .func (.func 47) #[] #[.pointer (some ⟨q1, 0, none⟩), .pointer (some ⟨q6, 0, none⟩)]] 70) = w8 at *
          generalize wr.heap.size = q8 at *
          clear x0 x1 hba B1 B6 B7 LL FQ
          have y0 : w8.cell? ⟨q8, 0, none⟩ = some (.int .u8 8) := B8.out.cell 0
          have y1 : w8.cell? ⟨q8, 1, none⟩ = some (.func (.func 47) #[] #[.pointer (some ⟨q1, 0, none⟩), .pointer (some ⟨q6, 0, none⟩)]) := B8.out.cell 1
          have y2 : w8.cell? ⟨q1, 0, none⟩ = some (.slice (some ad) l.length c) := B1n.out.cell 0
          have y3 : w8.cell? ⟨ad.block, ad.off + 3, none⟩ = some (.int .u8 (X : Int)) := HCB.out w8 L8.out
          by_cases hz : X &&& 8 = 0
          · have F3 : Bx (RF = rstN l 2 2 a) := ⟨by rw [F2.out, if_pos hz]⟩
            rw [hz] at hand2
            clear F2 hz
            go_quiet (fail)
            go_wp2
            go_roundw
            case rel => exact ⟨2, a, by omega, rfl, ha, ⟨B1n.out⟩, ⟨B6n.out⟩, ⟨B7n.out⟩, ⟨below_drewN L8.out _⟩, F3⟩
            case measure => simp [intOf]
          · have F3 : Bx (RF = eb (partP l 1 a) (rstN l 2 2)) := ⟨by rw [F2.out, if_neg hz]⟩
            have hnz : (((X &&& 8 : Nat) : Int) == 0) = false := beq_false_of_ne (by omega)
            clear F2 hz
            generalize X &&& 8 = XF at *
            go_quiet (fail)
            have B1' : Bx (Blk (w8.drewN nq) q1 22 #[.slice (some ad) l.length c]) := ⟨B1n.out⟩
            have B6' : Bx (Blk (w8.drewN nq) q6 3 #[.int .i64 (a : Int)]) := ⟨B6n.out⟩
            have RBX : Bx (RB (w8.drewN nq) (some ad) l) := ⟨HL.out.below (below_drewN L8.out nq)⟩
            have HGX : Bx (Gz (w8.drewN nq)) := ⟨HG.out.below (below_drewN L8.out nq)⟩
            have HA : Bx (a ≤ l.length) := ⟨ha⟩
            have PC := Bx.mk (text_calls q1 q6 (some ad) l c a (w8.drewN nq) B1'.out B6'.out RBX.out hc HA.out)
            have y1' : (w8.drewN nq).cell? ⟨q8, 1, none⟩ = some (.func (.func 47) #[] #[.pointer (some ⟨q1, 0, none⟩), .pointer (some ⟨q6, 0, none⟩)]) := y1
            have L8' := Bx.mk (below_drewN L8.out nq)
            have B7' : Bx (Blk (w8.drewN nq) q7 70 PT) := ⟨B7n.out⟩
            generalize w8.drewN nq = w9 at *
            clear y0 y1 y2 y3 B1n B6n B7n L8 B8
            go_wp2_with (go_at_call 47; fail)
            refine PC.out.mono ?_
            intro e wN hp
            have F4 : Bx (RF = eb (textN l a) (rstN l 2 2)) := F3
            cases hr : textN l a with
            | error x =>
              rw [hr] at hp F4
              obtain ⟨hx0, rfl, -, ho⟩ := hp
              have HE : Bx (RF = .error x) := ⟨F4.out⟩
              have L10 := Bx.mk (L8'.out.trans (ho.below _ LQ6.out L8'.out.size))
              have HX0 := Bx.mk hx0
              have hxn : ((x : Int) != 0) = true := by rw [bne_iff_ne]; omega
              clear ho PC hr F3 F4 hx0
              go_wp2
              go_ret2
              exact hdr_err HRF.out HE.out HX0.out L10.out
            | ok a' =>
              rw [hr] at hp F4
              obtain ⟨rfl, hb6, ho⟩ := hp
              have F5 : Bx (RF = rstN l 2 2 a') := ⟨F4.out⟩
              have L10 := Bx.mk (L8'.out.trans (ho.below _ LQ6.out L8'.out.size))
              have B1x := Bx.mk (B1'.out.only ho (B1'.out.ne_ B6'.out (by decide)))
              have B7x := Bx.mk (B7'.out.only ho (B7'.out.ne_ B6'.out (by decide)))
              have B6x := Bx.mk hb6
              have HA' : Bx (a' ≤ l.length) := ⟨((hp_part 1).mono l a a' hr ha).2⟩
              clear ho PC hr F3 F4 hb6
              go_wp2
              go_roundw
              case rel => exact ⟨2, a', by omega, rfl, HA'.out, B1x, B6x, B7x, L10, F5⟩
              case measure => simp [intOf]
        · have hand2 : bits .and .u8 (X : Int) 16 = ((X &&& 16 : Nat) : Int) := u8_and_nat X 16 hxb (by decide)
          have F2 : Bx (RF = if X &&& 16 = 0 then rstN l 1 3 a else eb (partP l 2 a) (rstN l 1 3)) := ⟨by rw [FQ.out]; show (if l.getD 3 0 &&& partF 2 = 0 then _ else _) = _; rw [HX.out]; rfl⟩
          have x0 : wr.cell? ⟨q7, 4, none⟩ = some (.int .u8 16) := b7.cell 4
          have x1 : wr.cell? ⟨q7, 5, none⟩ = some (.func (.func 47) #[] #[.pointer (some ⟨q1, 0, none⟩), .pointer (some ⟨q6, 0, none⟩)]) := b7.cell 5
          clear b7
          have hba := below_alloc1 wr (.cells #[.int .u8 16, .func (.func 47) #[] #[.pointer (some ⟨q1, 0, none⟩), .pointer (some ⟨q6, 0, none⟩)]] 70)
          have B8 : Bx (Blk (wr.alloc (.cells #[.int .u8 16, .func (.func 47) #[] #[.pointer (some ⟨q1, 0, none⟩), .pointer (some ⟨q6, 0, none⟩)]] 70)) wr.heap.size 70 #[.int .u8 16, .func (.func 47) #[] #[.pointer (some ⟨q1, 0, none⟩), .pointer (some ⟨q6, 0, none⟩)]]) := ⟨Blk.new _ _ _⟩
          have B1n := Bx.mk (B1.out.below hba B1.out.lt)
          have B6n := Bx.mk (B6.out.below hba B6.out.lt)
          have B7n := Bx.mk (B7.out.below hba B7.out.lt)
          have L8 := Bx.mk (below_then LL.out LL.out.size hba)
          go_upto_region 22 with (fail)
          generalize wr.alloc (.cells #[.int .u8 16, .func (.func 47) #[] #[.pointer (some ⟨q1, 0, none⟩), .pointer (some ⟨q6, 0, none⟩)]] 70) = w8 at *
          generalize wr.heap.size = q8 at *
          clear x0 x1 hba B1 B6 B7 LL FQ
          have y0 : w8.cell? ⟨q8, 0, none⟩ = some (.int .u8 16) := B8.out.cell 0
          have y1 : w8.cell? ⟨q8, 1, none⟩ = some (.func (.func 47) #[] #[.pointer (some ⟨q1, 0, none⟩), .pointer (some ⟨q6, 0, none⟩)]) := B8.out.cell 1
          have y2 : w8.cell? ⟨q1, 0, none⟩ = some (.slice (some ad) l.length c) := B1n.out.cell 0
          have y3 : w8.cell? ⟨ad.block, ad.off + 3, none⟩ = some (.int .u8 (X : Int)) := HCB.out w8 L8.out
          by_cases hz : X &&& 16 = 0
          · have F3 : Bx (RF = rstN l 1 3 a) := ⟨by rw [F2.out, if_pos hz]⟩
            rw [hz] at hand2
            clear F2 hz
            go_quiet (fail)
            go_wp2
            go_roundw
            case rel => exact ⟨3, a, by omega, rfl, ha, ⟨B1n.out⟩, ⟨B6n.out⟩, ⟨B7n.out⟩, ⟨below_drewN L8.out _⟩, F3⟩
            case measure => simp [intOf]
          · have F3 : Bx (RF = eb (partP l 2 a) (rstN l 1 3)) := ⟨by rw [F2.out, if_neg hz]⟩
            have hnz : (((X &&& 16 : Nat) : Int) == 0) = false := beq_false_of_ne (by omega)
            clear F2 hz
            generalize X &&& 16 = XF at *
            go_quiet (fail)
            have B1' : Bx (Blk (w8.drewN nq) q1 22 #[.slice (some ad) l.length c]) := ⟨B1n.out⟩
            have B6' : Bx (Blk (w8.drewN nq) q6 3 #[.int .i64 (a : Int)]) := ⟨B6n.out⟩
            have RBX : Bx (RB (w8.drewN nq) (some ad) l) := ⟨HL.out.below (below_drewN L8.out nq)⟩
            have HGX : Bx (Gz (w8.drewN nq)) := ⟨HG.out.below (below_drewN L8.out nq)⟩
            have HA : Bx (a ≤ l.length) := ⟨ha⟩
            have PC := Bx.mk (text_calls q1 q6 (some ad) l c a (w8.drewN nq) B1'.out B6'.out RBX.out hc HA.out)
            have y1' : (w8.drewN nq).cell? ⟨q8, 1, none⟩ = some (.func (.func 47) #[] #[.pointer (some ⟨q1, 0, none⟩), .pointer (some ⟨q6, 0, none⟩)]) := y1
            have L8' := Bx.mk (below_drewN L8.out nq)
            have B7' : Bx (Blk (w8.drewN nq) q7 70 PT) := ⟨B7n.out⟩
            generalize w8.drewN nq = w9 at *
            clear y0 y1 y2 y3 B1n B6n B7n L8 B8
            go_wp2_with (go_at_call 47; fail)
            refine PC.out.mono ?_
            intro e wN hp
            have F4 : Bx (RF = eb (textN l a) (rstN l 1 3)) := F3
            cases hr : textN l a with
            | error x =>
              rw [hr] at hp F4
              obtain ⟨hx0, rfl, -, ho⟩ := hp
              have HE : Bx (RF = .error x) := ⟨F4.out⟩
              have L10 := Bx.mk (L8'.out.trans (ho.below _ LQ6.out L8'.out.size))
              have HX0 := Bx.mk hx0
              have hxn : ((x : Int) != 0) = true := by rw [bne_iff_ne]; omega
              clear ho PC hr F3 F4 hx0
              go_wp2
              go_ret2
              exact hdr_err HRF.out HE.out HX0.out L10.out
            | ok a' =>
              rw [hr] at hp F4
              obtain ⟨rfl, hb6, ho⟩ := hp
              have F5 : Bx (RF = rstN l 1 3 a') := ⟨F4.out⟩
              have L10 := Bx.mk (L8'.out.trans (ho.below _ LQ6.out L8'.out.size))
              have B1x := Bx.mk (B1'.out.only ho (B1'.out.ne_ B6'.out (by decide)))
              have B7x := Bx.mk (B7'.out.only ho (B7'.out.ne_ B6'.out (by decide)))
              have B6x := Bx.mk hb6
              have HA' : Bx (a' ≤ l.length) := ⟨((hp_part 2).mono l a a' hr ha).2⟩
              clear ho PC hr F3 F4 hb6
              go_wp2
              go_roundw
              case rel => exact ⟨3, a', by omega, rfl, HA'.out, B1x, B6x, B7x, L10, F5⟩
              case measure => simp [intOf]
        · have hand2 : bits .and .u8 (X : Int) 2 = ((X &&& 2 : Nat) : Int) := u8_and_nat X 2 hxb (by decide)
          have F2 : Bx (RF = if X &&& 2 = 0 then rstN l 0 4 a else eb (partP l 3 a) (rstN l 0 4)) := ⟨by rw [FQ.out]; show (if l.getD 3 0 &&& partF 3 = 0 then _ else _) = _; rw [HX.out]; rfl⟩
          have x0 : wr.cell? ⟨q7, 6, none⟩ = some (.int .u8 2) := b7.cell 6
          have x1 : wr.cell? ⟨q7, 7, none⟩ = some (.func (.func 50) #[] #[.pointer (some ⟨q1, 0, none⟩), .pointer (some ⟨q6, 0, none⟩)]) := b7.cell 7
          clear b7
          have hba := below_alloc1 wr (.cells #[.int .u8 2, .func (.func 50) #[] #[.pointer (some ⟨q1, 0, none⟩), .pointer (some ⟨q6, 0, none⟩)]] 70)
          have B8 : Bx (Blk (wr.alloc (.cells #[.int .u8 2, .func (.func 50) #[] #[.pointer (some ⟨q1, 0, none⟩), .pointer (some ⟨q6, 0, none⟩)]] 70)) wr.heap.size 70 #[.int .u8 2, .func (.func 50) #[] #[.pointer (some ⟨q1, 0, none⟩), .pointer (some ⟨q6, 0, none⟩)]]) := ⟨Blk.new _ _ _⟩
          have B1n := Bx.mk (B1.out.below hba B1.out.lt)
          have B6n := Bx.mk (B6.out.below hba B6.out.lt)
          have B7n := Bx.mk (B7.out.below hba B7.out.lt)
          have L8 := Bx.mk (below_then LL.out LL.out.size hba)
          go_upto_region 22 with (fail)
          generalize wr.alloc (.cells #[.int .u8 2, .func (.func 50) #[] #[.pointer (some ⟨q1, 0, none⟩), .pointer (some ⟨q6, 0, none⟩)]] 70) = w8 at *
          generalize wr.heap.size = q8 at *
          clear x0 x1 hba B1 B6 B7 LL FQ
          have y0 : w8.cell? ⟨q8, 0, none⟩ = some (.int .u8 2) := B8.out.cell 0
          have y1 : w8.cell? ⟨q8, 1, none⟩ = some (.func (.func 50) #[] #[.pointer (some ⟨q1, 0, none⟩), .pointer (some ⟨q6, 0, none⟩)]) := B8.out.cell 1
          have y2 : w8.cell? ⟨q1, 0, none⟩ = some (.slice (some ad) l.length c) := B1n.out.cell 0
          have y3 : w8.cell? ⟨ad.block, ad.off + 3, none⟩ = some (.int .u8 (X : Int)) := HCB.out w8 L8.out
          by_cases hz : X &&& 2 = 0
          · have F3 : Bx (RF = rstN l 0 4 a) := ⟨by rw [F2.out, if_pos hz]⟩
            rw [hz] at hand2
            clear F2 hz
            go_quiet (fail)
            go_wp2
            go_roundw
            case rel => exact ⟨4, a, by omega, rfl, ha, ⟨B1n.out⟩, ⟨B6n.out⟩, ⟨B7n.out⟩, ⟨below_drewN L8.out _⟩, F3⟩
            case measure => simp [intOf]
          · have F3 : Bx (RF = eb (partP l 3 a) (rstN l 0 4)) := ⟨by rw [F2.out, if_neg hz]⟩
            have hnz : (((X &&& 2 : Nat) : Int) == 0) = false := beq_false_of_ne (by omega)
            clear F2 hz
            generalize X &&& 2 = XF at *
            go_quiet (fail)
            have B1' : Bx (Blk (w8.drewN nq) q1 22 #[.slice (some ad) l.length c]) := ⟨B1n.out⟩
            have B6' : Bx (Blk (w8.drewN nq) q6 3 #[.int .i64 (a : Int)]) := ⟨B6n.out⟩
            have RBX : Bx (RB (w8.drewN nq) (some ad) l) := ⟨HL.out.below (below_drewN L8.out nq)⟩
            have HGX : Bx (Gz (w8.drewN nq)) := ⟨HG.out.below (below_drewN L8.out nq)⟩
            have HA : Bx (a ≤ l.length) := ⟨ha⟩
            have PC := Bx.mk (sum_calls q1 q6 (some ad) l c a (w8.drewN nq) B1'.out B6'.out RBX.out hc HA.out HGX.out.half)
            have y1' : (w8.drewN nq).cell? ⟨q8, 1, none⟩ = some (.func (.func 50) #[] #[.pointer (some ⟨q1, 0, none⟩), .pointer (some ⟨q6, 0, none⟩)]) := y1
            have L8' := Bx.mk (below_drewN L8.out nq)
            have B7' : Bx (Blk (w8.drewN nq) q7 70 PT) := ⟨B7n.out⟩
            generalize w8.drewN nq = w9 at *
            clear y0 y1 y2 y3 B1n B6n B7n L8 B8
            go_wp2_with (go_at_call 50; fail)
            refine PC.out.mono ?_
            intro e wN hp
            have F4 : Bx (RF = eb (sumN l a) (rstN l 0 4)) := F3
            cases hr : sumN l a with
            | error x =>
              rw [hr] at hp F4
              obtain ⟨hx0, rfl, -, ho⟩ := hp
              have HE : Bx (RF = .error x) := ⟨F4.out⟩
              have L10 := Bx.mk (L8'.out.trans (ho.below _ LQ6.out L8'.out.size))
              have HX0 := Bx.mk hx0
              have hxn : ((x : Int) != 0) = true := by rw [bne_iff_ne]; omega
              clear ho PC hr F3 F4 hx0
              go_wp2
              go_ret2
              exact hdr_err HRF.out HE.out HX0.out L10.out
            | ok a' =>
              rw [hr] at hp F4
              obtain ⟨rfl, hb6, ho⟩ := hp
              have F5 : Bx (RF = rstN l 0 4 a') := ⟨F4.out⟩
              have L10 := Bx.mk (L8'.out.trans (ho.below _ LQ6.out L8'.out.size))
              have B1x := Bx.mk (B1'.out.only ho (B1'.out.ne_ B6'.out (by decide)))
              have B7x := Bx.mk (B7'.out.only ho (B7'.out.ne_ B6'.out (by decide)))
              have B6x := Bx.mk hb6
              have HA' : Bx (a' ≤ l.length) := ⟨((hp_part 3).mono l a a' hr ha).2⟩
              clear ho PC hr F3 F4 hb6
              go_wp2
              go_roundw
              case rel => exact ⟨4, a', by omega, rfl, HA'.out, B1x, B6x, B7x, L10, F5⟩
              case measure => simp [intOf]
        · have HE : Bx (RF = .ok a) := ⟨FQ.out⟩
          have c6 : wr.cell? ⟨q6, 0, none⟩ = some (.int .i64 (a : Int)) := B6.out.cell 0
          go_wp2
          go_ret2
          exact hdr_ok HRF.out HE.out LL.out
end Go.Proofs.YtoekecopfmohiaaDoor
