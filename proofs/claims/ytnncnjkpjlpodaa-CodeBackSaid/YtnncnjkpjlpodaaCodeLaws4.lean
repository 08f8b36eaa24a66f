import Derived.Test.YtnncnjkpjlpodaaCodeBackPure
import Derived.Test.YtnncnjkpjlpodaaCodeLaws2
import Derived.Test.YtnncnjkpjlpodaaFlowLaws3
/-
  The law CodeBack: its walk.
-/
namespace Go.Proofs.Ytnncnjkpjlpodaa
open Go.RowKit

theorem Cd.step {w w' : World} {g y N a : Nat} {O Ln v v' : Value} {L : List Nat} (h : Cd w g O Ln L) (hw : Wr w y v N a) (hs : WStep y v w v' w') : Cd w' g O Ln L := by
  obtain ⟨b, h3⟩ := h.len
  refine ⟨(hs.blk h.blk (h.blk.ne_ hw.blk (by decide)) ?_).1, h.ord.step hw hs, b, h3.step hw hs⟩
  obtain ⟨l, -, ho⟩ := hw.own
  exact own_blk_ne ho h.blk (by decide)
theorem Cd.grown {w w' : World} {g base : Nat} {O Ln T : Value} {L : List Nat} {l : List Int} (h : Cd w g O Ln L) (hT : OI w base T l) (hg : w.grownBy w' T.ownBlock) (hO : ∀ q, T.ownBlock = some q → O.ownBlock ≠ some q ∧ Ln.ownBlock ≠ some q) : Cd w' g O Ln L := by
  obtain ⟨b, h3⟩ := h.len
  exact ⟨h.blk.grown hg (fun hc => own_blk_ne hT h.blk (by decide) hc.symm), own_keep h.ord fun q hq => hg.block q (own_block' h.ord q hq).2 (fun hc => (hO q hc.symm).1 hq), b, own_keep h3 fun q hq => hg.block q (own_block' h3 q hq).2 (fun hc => (hO q hc.symm).2 hq)⟩
/-- behind the append of a symbol -/
theorem sym_end {w w1 w2 : World} {g y N a base : Nat} {O Ln v T : Value} {L : List Nat} {l : List Int} {o : Obj} (hC : Cd w1 g O Ln L) (hw : Wr w1 y v N a) (hT : OI w1 base T l) (hb : Below w.heap.size w w1) (hz : w.heap.size ≤ base)
    (hO : ∀ q, (O.ownBlock = some q → q < base) ∧ (Ln.ownBlock = some q → q < base)) (hg : (w1.alloc o).grownBy w2 T.ownBlock) :
    Cd w2 g O Ln L ∧ Wr w2 y v N a ∧ Below w.heap.size w w2 := by
  have hC1 := hC.below (below_alloc1 w1 o)
  have hT1 := hT.below (below_alloc1 w1 o)
  refine ⟨hC1.grown hT1 hg fun q hq => ⟨fun hc => ?_, fun hc => ?_⟩, (hw.below (below_alloc1 w1 o)).heap fun q hq => hg.block q (Nat.lt_of_lt_of_le (hw.lt q hq) (by simp)) fun hc => ?_, (hb.alloc hb.size o).grown hg (Nat.le_trans hb.size (by simp)) fun k hk => Nat.le_trans hz (own_block' hT k hk).1⟩
  · have := (hO q).1 hc; have := OI.block hT q hq; omega
  · have := (hO q).2 hc; have := OI.block hT q hq; omega
  · rcases hq with rfl | hq
    · exact own_blk_ne hT hw.blk (by decide) hc.symm
    · obtain ⟨l, -, ho⟩ := hw.own
      exact own_own_ne hT ho (by decide) q hc.symm hq
theorem OI.only {w w' : World} {base r : Nat} {v : Value} {l : List Int} {cs : Array Value} (h : OI w base v l) (hb : Blk w r 60 cs) (ho : Only r w w') : OI w' base v l :=
  own_keep h fun q hq => ho.keep q fun hc => own_blk_ne h hb (show 3 ≠ 60 by decide) (by rw [hq, hc])
set_option maxRecDepth 100000 in
set_option maxHeartbeats 8000000 in
theorem CodeBack_calls (A : Option Addr) (l : List Int) (c : Nat) (B : Option Addr) (sy : List Int) (d : Nat) (w : World) (hl : RI w A l) (hs : RI w B sy) :
    Calls Try.prog 12 #[.slice A l.length c, .slice B sy.length d] w fun e w' => e = .returned (.bool true) ∧ Below w.heap.size w w' := by
  have HL : Bx (IR w A l) := ⟨hl.2.2⟩
  have HSY : Bx (IR w B sy) := ⟨hs.2.2⟩
  have hn := hl.2.1
  have hns := hs.2.1
  clear hl hs
  by_cases hok : ∃ L, l = zl L ∧ okL L
  · obtain ⟨L, rfl, hL⟩ := hok
    rw [zl_length] at hn ⊢
    have OK := Bx.mk hL
    have h288 := hL.1
    clear hL
    go_enter Try.func12, Try.ntmps12
    go_wp2_with fail
    refine (cworks_calls w).mono ?_
    rintro e w1 ⟨rfl, hb⟩
    have B1 := Bx.mk hb
    clear hb
    go_wp2_with fail
    refine (CNew_yes A L c w1 (HL.out.below B1.out) OK.out).mono ?_
    rintro e w2 ⟨g, O, Ln, rfl, -, hC, hb⟩
    have B2 := Bx.mk (below_then B1.out B1.out.size hb)
    have C2 := Bx.mk hC
    clear hb hC B1
    go_wp2_with fail
    refine (Write_calls w2).mono ?_
    rintro e w3 ⟨rfl, hwr, hw3⟩
    have C3 : Bx (Cd w3 g O Ln L) := ⟨by rw [hw3]; exact C2.out.below (below_alloc1 _ _)⟩
    have B3 : Bx (Below w.heap.size w w3) := ⟨by rw [hw3]; exact B2.out.alloc B2.out.size _⟩
    have hy : w.heap.size ≤ w2.heap.size := B2.out.size
    generalize w2.heap.size = y at hwr hy ⊢
    have W3 := Bx.mk hwr
    clear hwr hw3 C2 B2
    have W4 := Bx.mk (W3.out.below (below_alloc1 w3 (.cells #[] 3)))
    have C4 := Bx.mk (C3.out.below (below_alloc1 w3 (.cells #[] 3)))
    have T4 := Bx.mk (OI.empty w3)
    have B4 := Bx.mk (B3.out.alloc B3.out.size (.cells #[] 3))
    have SEP : Bx (∀ q, (O.ownBlock = some q → q < w3.heap.size) ∧ (Ln.ownBlock = some q → q < w3.heap.size)) := ⟨fun q => ⟨fun h => (own_block' C3.out.ord q h).2, fun h => by obtain ⟨b, h3⟩ := C3.out.len; exact (own_block' h3 q h).2⟩⟩
    have hzT : w.heap.size ≤ w3.heap.size := B3.out.size
    have hz4 : w3.heap.size ≤ (w3.alloc (.cells #[] 3)).heap.size := by simp
    go_wp2
    generalize w3.heap.size = base at T4 hzT hz4 SEP ⊢
    generalize w3.alloc (.cells #[] 3) = w4 at W4 C4 T4 B4 hz4 ⊢
    clear W3 C3 B3
    go_loopw [8, 9] (fun t i wr => ∃ (k : Nat) (v : Value) (tk : List Nat), k ≤ sy.length ∧ k ≤ 200 ∧ i = .int .i64 (k : Nat) ∧ Bx (∀ s ∈ tk, s < L.length ∧ L.getD s 0 ≠ 0) ∧ tk.length ≤ k ∧ sA L tk ≤ 15 * k ∧ Bx (Wr wr y v (sN L tk) (sA L tk)) ∧ Bx (Cd wr g O Ln L) ∧ Bx (OI wr base t (zl tk)) ∧ Bx (base ≤ wr.heap.size) ∧ Bx (Below w.heap.size w wr)) (fun _ i _ => sy.length - (intOf i).toNat)
    case atStart => exact ⟨0, _, [], Nat.zero_le _, by omega, rfl, ⟨fun x hx => by cases hx⟩, Nat.le_refl _, Nat.le_refl _, W4, C4, T4, ⟨hz4⟩, B4⟩
    case round =>
      obtain ⟨k, v, tk, hk, hk1, rfl, HK, hkl, hka, HW, HC, HT, HZT, HB⟩ := hrel
      by_cases hlt : k < sy.length ∧ k < 200
      · obtain ⟨hlt1, hlt2⟩ := hlt
        obtain ⟨ad, rfl, hd⟩ := (HSY.out.below HB.out) (by omega)
        have hx := hd k hlt1
        clear hd
        generalize sy.getD k 0 = x at hx
        have AM := Bx.mk (Among_calls x (L.length + 1) wr (by omega) (by omega))
        have hsl := amg_lt x (L.length + 1) (by omega)
        generalize amg x (L.length + 1) = s at AM hsl
        rw [show ((L.length + 1 : Nat) : Int) = (L.length : Int) + 1 by omega] at AM
        by_cases hyes : s < L.length ∧ L.getD s 0 ≠ 0
        · obtain ⟨hs1, hs0⟩ := hyes
          have h15 : L.getD s 0 ≤ 15 := by rw [List.getD_eq_getElem?_getD, List.getElem?_eq_getElem hs1]; exact OK.out.2.1 _ (List.getElem_mem hs1)
          have CW := Bx.mk (CWrite_yes g O Ln L s y v (sN L tk) (sA L tk) wr HC.out OK.out.2.2.1 OK.out.1 hs1 hs0 h15 HW.out (by omega))
          have HN := Bx.mk (sN_snoc L tk s)
          have HA := Bx.mk (sA_snoc L tk s)
          have HMEM : Bx (∀ z ∈ tk ++ [s], z < L.length ∧ L.getD z 0 ≠ 0) := ⟨fun z hz => (List.mem_append.1 hz).elim (HK.out z) (fun h => by rw [List.mem_singleton.1 h]; exact ⟨hs1, hs0⟩)⟩
          generalize revN (wrd L s) (L.getD s 0) = V at CW HN
          go_wp2_with fail
          refine AM.out.mono ?_
          rintro e w5 ⟨rfl, rfl⟩
          go_wp2_with fail
          refine CW.out.mono ?_
          rintro e w5 ⟨rfl, v5, hw5, hs5⟩
          have C5 := Bx.mk (HC.out.step HW.out hs5)
          have T5 := Bx.mk (HT.out.step HW.out hs5)
          have W5 := Bx.mk hw5
          have B5 := Bx.mk (HB.out.trans (hs5.below _ hy HB.out.size))
          have hz5 : base ≤ w5.heap.size := Nat.le_trans HZT.out hs5.size
          obtain ⟨al, rfl, hdl⟩ := (HL.out.below B5.out) (by rw [zl_length]; omega)
          have hls := hdl s (by rw [zl_length]; exact hs1)
          rw [zl_get] at hls
          have hlen5 : ((zl tk).length + 1) * 8 ≤ 140737488355328 := by rw [zl_length]; omega
          have hp : 0 < L.getD s 0 := by omega
          clear hw5 hs5 hdl CW hs0
          generalize L.getD s 0 = nn at *
          go_wp2_with (at_builtin; refine wpList_append_int w5 rfl (.tmp 74) (.tmp 76) rfl base u8 (zl tk) (s : Int) rfl T5.out rfl hlen5 hz5 ?_; intro v6 w6 ho6 hg6 _; have E6 := Bx.mk (sym_end C5.out W5.out T5.out B5.out hzT SEP.out hg6); have T6 : Bx (OI w6 base v6 (zl (tk ++ [s]))) := ⟨by rw [zl_app]; exact ho6⟩; have Z6 := Bx.mk (Nat.le_trans hz5 (Nat.le_trans (by simp) hg6.size)); clear hg6 ho6)
          go_roundw
          case rel => exact ⟨k + 1, v5, tk ++ [s], by omega, by omega, by go_num, HMEM, by rw [List.length_append, List.length_singleton]; omega, by rw [HA.out]; omega, ⟨by rw [HN.out, HA.out]; exact E6.out.2.1⟩, ⟨E6.out.1⟩, T6, Z6, ⟨E6.out.2.2⟩⟩
          case measure => simp [intOf]; omega
        · have CW := Bx.mk (CWrite_no g O Ln L (s : Int) (.pointer (some ⟨y, 0, none⟩)) wr HC.out (fun h => hyes ⟨by omega, by have := h.2.2; rwa [Int.toNat_natCast] at this⟩))
          go_wp2_with fail
          refine AM.out.mono ?_
          rintro e w5 ⟨rfl, rfl⟩
          go_wp2_with fail
          refine CW.out.mono ?_
          rintro e w5 ⟨rfl, rfl⟩
          by_cases hs1 : s < L.length
          · have hz : L.getD s 0 = 0 := by
              rcases Nat.eq_zero_or_pos (L.getD s 0) with h | h
              · exact h
              · exact absurd ⟨hs1, by omega⟩ hyes
            obtain ⟨al, rfl, hdl⟩ := (HL.out.below HB.out) (by rw [zl_length]; omega)
            have hls := hdl s (by rw [zl_length]; exact hs1)
            rw [zl_get, hz] at hls
            clear hdl hz hyes
            go_wp2
            go_roundw
            case rel => exact ⟨k + 1, v, tk, by omega, by omega, by go_num, HK, by omega, by omega, HW, HC, HT, HZT, HB⟩
            case measure => simp [intOf]; omega
          · clear hyes
            go_wp2
            go_roundw
            case rel => exact ⟨k + 1, v, tk, by omega, by omega, by go_num, HK, by omega, by omega, HW, HC, HT, HZT, HB⟩
            case measure => simp [intOf]; omega
      · have hk24 : sA L tk ≤ 3000 := by omega
        have hkl2 : tk.length ≤ 200 := by omega
        obtain ⟨TA, tc, hu⟩ := HT.out.form
        rw [zl_length] at hu
        subst hu
        by_cases hltk : k < sy.length
        all_goals
          go_wp2_with fail
          refine (wAll_calls y v _ _ wr HW.out (by omega)).mono ?_
          rintro e w5 ⟨b, v5, hbt, rfl, ho5, hb5⟩
          obtain ⟨A5, c5, rfl⟩ := ho5.form
          have R5 := Bx.mk (Reads.of_own ho5)
          have L5 : b.length ≤ 140737488351232 ∧ sA L tk ≤ 8 * b.length := by have := hbt.len; omega
          obtain ⟨L5a, L5b⟩ := L5
          have BT := Bx.mk hbt
          have G5 := Bx.mk (HW.out.below hb5).blk
          have C5 := Bx.mk (HC.out.below hb5)
          have T5 := Bx.mk (HT.out.below hb5)
          have B5 := Bx.mk (below_then HB.out HB.out.size hb5)
          clear ho5 hb5 hbt HW HT HB HC
          go_wp2_with fail
          refine (New_calls A5 b.length c5 w5).mono ?_
          rintro e w6 ⟨rfl, hw6⟩
          have H6 : Bx (Blk w6 w5.heap.size 60 #[.slice A5 b.length c5, .int .i64 ((0 : Nat) : Int), .bool true]) := ⟨by rw [hw6]; exact Blk.new _ _ _⟩
          have R6 : Bx (Reads w6 w5.heap.size 1 A5 b.length (bs b)) := ⟨by rw [hw6]; exact R5.out.alloc (Nat.le_refl _) _⟩
          have G6 : Bx (Blk w6 y 61 #[v, .int .i64 (sA L tk : Int), .bool true]) := ⟨by rw [hw6]; exact G5.out.alloc _⟩
          have C6 : Bx (Cd w6 g O Ln L) := ⟨by rw [hw6]; exact C5.out.below (below_alloc1 _ _)⟩
          have T6 : Bx (OI w6 base (.slice TA tk.length tc) (zl tk)) := ⟨by rw [hw6]; exact T5.out.below (below_alloc1 _ _)⟩
          have B6 : Bx (Below w.heap.size w w6) := ⟨by rw [hw6]; exact B5.out.alloc B5.out.size _⟩
          have hgr : y < w5.heap.size := G5.out.lt
          have hwr : w.heap.size ≤ w5.heap.size := B5.out.size
          have hr6 : w5.heap.size ≤ w6.heap.size := by rw [hw6]; simp
          generalize w5.heap.size = r at H6 R6 hgr hwr hr6 ⊢
          clear hw6 R5 G5 C5 T5 B5
          obtain ⟨w0, hw0⟩ : ∃ w0 : World, w0 = w6 := ⟨_, rfl⟩
          rw [← hw0] at H6 R6 G6 C6 T6 B6 hr6 ⊢
          clear hw0
          go_wp2
          go_loopw [13] (fun i wr => ∃ j : Nat, j ≤ tk.length ∧ i = .int .i64 (j : Nat) ∧ Bx (Blk wr r 60 #[.slice A5 b.length c5, .int .i64 ((sA L (tk.take j) : Nat) : Int), .bool true]) ∧ Bx (Only r w0 wr)) (fun i _ => tk.length - (intOf i).toNat)
          case atStart => exact ⟨0, Nat.zero_le _, rfl, H6, ⟨Only.refl _ _⟩⟩
          case round =>
            obtain ⟨j, hj, rfl, HR, HO⟩ := hrel
            have CR := C6.out.only H6.out HO.out (by decide) (by decide)
            have hale := sA_le L tk j
            by_cases hjl : j < tk.length
            · have RD := Read_calls g O Ln L r A5 b c5 (sA L (tk.take j)) wr CR OK.out.1 OK.out.2.2.1 HR.out (fun w' ho => RB.of_reads (R6.out.only (HO.out.trans ho) (Nat.le_refl _) hr6) BT.out.byte L5a) (by omega)
              have hxj := List.getElem?_eq_getElem hjl
              obtain ⟨m1, m2⟩ := HK.out _ (List.getElem_mem hjl)
              have h15 : L.getD tk[j] 0 ≤ 15 := by rw [List.getD_eq_getElem?_getD, List.getElem?_eq_getElem m1]; exact OK.out.2.1 _ (List.getElem_mem m1)
              rw [rdC_back L b tk OK.out.2.2.1 BT.out.sum L5b j _ hxj m1 m2 h15] at RD
              simp only at RD
              have hgd : tk.getD j 0 = tk[j] := by rw [List.getD_eq_getElem?_getD, hxj]; rfl
              have TR : Bx (∀ w', Only r w0 w' → ∃ ad, TA = some ad ∧ w'.cell? (ad.add j) = some (.int .i64 ((tk[j] : Nat) : Int))) := ⟨fun w' ho => by
                obtain ⟨ad, e, hod⟩ := (T6.out.only H6.out ho).ir (by rw [zl_length]; omega)
                have := hod j (by rw [zl_length]; exact hjl)
                rw [zl_get, hgd] at this
                exact ⟨ad, e, this⟩⟩
              have RDX := Bx.mk RD
              clear RD hxj m1 m2 h15 hgd CR hale
              generalize tk[j] = s at RDX TR
              go_wp2_with fail
              refine RDX.out.mono ?_
              rintro e w7 ⟨rfl, h7, o7⟩
              have O7 := Bx.mk (HO.out.trans o7)
              obtain ⟨ad, rfl, had⟩ := TR.out w7 O7.out
              have H7 := Bx.mk h7
              clear h7 o7 TR
              go_wp2
              go_roundw
              case rel => exact ⟨j + 1, by omega, by go_num, H7, O7⟩
              case measure => simp [intOf]; omega
            · obtain rfl : j = tk.length := by omega
              rw [List.take_length] at HR
              have R1 := Bx.mk (rAt_calls r _ _ wr HR.out)
              have R2 := Bx.mk (wLen_calls y _ _ wr (G6.out.only HO.out (Nat.ne_of_lt hgr)))
              have BB := Bx.mk (B6.out.trans (HO.out.below _ hwr B6.out.size))
              clear CR hale
              generalize sA L tk = p at *
              go_wp2_with fail
              refine R1.out.mono ?_
              rintro e w9 ⟨rfl, rfl⟩
              go_wp2_with fail
              refine R2.out.mono ?_
              rintro e w9 ⟨rfl, rfl⟩
              go_wp2
              go_ret
              exact ⟨rfl, BB.out⟩
  · have HN := Bx.mk hok
    clear hok
    go_enter Try.func12, Try.ntmps12
    go_wp2_with fail
    refine (cworks_calls w).mono ?_
    rintro e w1 ⟨rfl, hb⟩
    have B1 := Bx.mk hb
    clear hb
    go_wp2_with fail
    refine (CNew_no A l c w1 (HL.out.below B1.out) hn HN.out).mono ?_
    rintro e w2 ⟨rfl, hb⟩
    have B2 := Bx.mk (below_then B1.out B1.out.size hb)
    clear hb
    go_wp2
    go_ret
    exact ⟨rfl, B2.out⟩
end Go.Proofs.Ytnncnjkpjlpodaa
