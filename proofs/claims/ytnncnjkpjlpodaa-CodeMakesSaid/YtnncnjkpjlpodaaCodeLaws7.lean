import Derived.Test.YtnncnjkpjlpodaaCodeLaws6
/-
  The law CodeMakes: its walk.
-/
namespace Go.Proofs.Ytnncnjkpjlpodaa
open Go.RowKit

theorem CNew_far (A : Option Addr) (L : List Nat) (c : Nat) (w : World) (hl : IR w A (zl L)) (h : okL L) :
    Calls Try.prog 42 #[.slice A L.length c] w fun e w' => ∃ g O Ln, e = .returned (.tuple #[.pointer (some ⟨g, 0, none⟩), .int .i64 0]) ∧ w.heap.size ≤ g ∧ (∀ q, Ln.ownBlock = some q → w.heap.size ≤ q) ∧ Cd w' g O Ln L ∧ Below w.heap.size w w' :=
  (CNew_calls A L c w hl h.1 h.2.1).mono fun _ _ hp => hp.1 h.2.2
theorem Cd.heapk {w w' : World} {g : Nat} {O Ln : Value} {L : List Nat} (h : Cd w g O Ln L) (hk : ∀ q, q = g ∨ O.ownBlock = some q ∨ Ln.ownBlock = some q → w'.heap[q]? = w.heap[q]?) : Cd w' g O Ln L := by
  obtain ⟨b, h3⟩ := h.len
  exact ⟨(hk g (.inl rfl)).trans h.blk, own_keep h.ord fun q hq => hk q (.inr (.inl hq)), b, own_keep h3 fun q hq => hk q (.inr (.inr hq))⟩
/-- only blocks below B may be written -/
def Above (B : Nat) (w w' : World) : Prop := w'.heap.size = w.heap.size ∧ ∀ q, B ≤ q → w'.heap[q]? = w.heap[q]?
theorem Above.set {B g i : Nat} {w w' : World} (h : Above B w w') (hg : g < B) (u : Value) : Above B w (w'.setCell ⟨g, i, none⟩ u) :=
  ⟨by simp [World.setCell]; exact h.1, fun q hq => (Below.heap_setCell w' ⟨g, i, none⟩ u q (by show q ≠ g; omega)).trans (h.2 q hq)⟩
theorem addr_add0 (a : Addr) : a.add 0 = a := by cases a; simp [Addr.add]
set_option maxRecDepth 100000 in
set_option maxHeartbeats 8000000 in
theorem CodeMakes_calls (A : Option Addr) (ls : List Int) (c : Nat) (sy : Int) (w : World) (hl : RI w A ls) :
    Calls Try.prog 13 #[.slice A ls.length c, .int .i64 sy] w fun e w' => e = .returned (.bool true) ∧ Below w.heap.size w w' := by
  have HL : Bx (IR w A ls) := ⟨hl.2.2⟩
  have hn := hl.2.1
  clear hl
  go_enter Try.func13, Try.ntmps13
  go_wp2_with fail
  refine (Ints_calls A ls c w HL.out hn).mono ?_
  rintro e w1 ⟨v1, rfl, ho1, hb1⟩
  obtain ⟨A1, c1, rfl⟩ := ho1.form
  have O1 := Bx.mk ho1
  have B1 := Bx.mk hb1
  clear ho1 hb1
  have FX := Bx.mk fun W => Fixed_calls W
  have YF := Bx.mk fun W => yFixed_calls W
  have RMa := fun W (h : IR W A1 ls) => Room_calls A1 ls c1 W h hn
  have RMb := fun W (h : IR W A ls) => yRoom_calls A ls c W h hn
  have SMa := fun W (h : IR W A1 ls) (h2 : IR W A ls) => SameInts_calls A1 A ls ls c1 c W h h2 (by omega)
  rw [decide_eq_true rfl] at SMa
  have CKa := fun W (h : IR W A ls) => yCheck_calls A ls c W h hn
  generalize (32768 : Int) - (krI ls : Int) = K at RMa RMb
  have RA := Bx.mk RMa; have RB_ := Bx.mk RMb; have SA := Bx.mk SMa; have CK := Bx.mk CKa
  have SMf : Bx (∀ W (v v' : Value), OI W 0 v (zl fixL) → OI W 0 v' (zl fixL) → Calls Try.prog 53 #[v, v'] W fun e w' => e = .returned (.bool true) ∧ ∃ k, w' = W.drewN k) := ⟨fun W v v' h1 h2 => by
    obtain ⟨X, x, rfl⟩ := h1.form
    obtain ⟨Y, y, rfl⟩ := h2.form
    have := SameInts_calls X Y (zl fixL) (zl fixL) x y W h1.ir h2.ir (by rw [zl_length]; exact Nat.le_trans (fixP_len 4 (by omega)) (by omega))
    rwa [decide_eq_true rfl] at this⟩
  clear RMa RMb SMa CKa
  by_cases hok : ∃ L, ls = zl L ∧ okL L
  · obtain ⟨L, rfl, hL⟩ := hok
    have hcv := checkV_yes hL
    rw [hcv] at CK
    rw [zl_length] at *
    have OK := Bx.mk hL
    have hL288 := hL.1
    clear hL hcv
    go_wp2_with fail
    refine (CNew_far A1 L c1 w1 O1.out.ir OK.out).mono ?_
    rintro e w2 ⟨g, O, Ln, rfl, hg, hln, hC, hb⟩
    have C2 := Bx.mk hC
    have O2 := Bx.mk (O1.out.below hb)
    have B2 := Bx.mk (below_then B1.out B1.out.size hb)
    have hq1 : ∀ q, (Value.slice A1 L.length c1).ownBlock = some q → q < w1.heap.size := fun q hq => (own_block' O1.out q hq).2
    have SEP : Bx (∀ q, (q = g ∨ O.ownBlock = some q ∨ Ln.ownBlock = some q) → w1.heap.size ≤ q) := ⟨fun q hq => by
      rcases hq with rfl | hq | hq
      · exact hg
      · have := OI.block hC.ord q hq; omega
      · exact hln q hq⟩
    have Q1 := Bx.mk hq1
    have hz12 : w.heap.size ≤ w1.heap.size := B1.out.size
    generalize w1.heap.size = z1 at SEP Q1 hz12 ⊢
    clear hC hb hg hln hq1 O1 B1
    go_wp2_with fail
    refine (CK.out w2 (HL.out.below B2.out)).mono ?_
    rintro e w3 ⟨rfl, rfl⟩
    go_wp2_with fail
    refine (RA.out w2 O2.out.ir).mono ?_
    rintro e w3 ⟨rfl, rfl⟩
    go_wp2_with fail
    refine (RB_.out w2 (HL.out.below B2.out)).mono ?_
    rintro e w3 ⟨rfl, rfl⟩
    go_wp2_with fail
    refine (SA.out w2 O2.out.ir (HL.out.below B2.out)).mono ?_
    rintro e w3 ⟨rfl, k3, hw3⟩
    have C3 : Bx (Cd w3 g O Ln L) := ⟨by rw [hw3]; exact C2.out.below (below_drewN (Below.refl _ _) k3)⟩
    have O3 : Bx (OI w3 w.heap.size (.slice A1 L.length c1) (zl L)) := ⟨by rw [hw3]; exact O2.out⟩
    have B3 : Bx (Below w.heap.size w w3) := ⟨by rw [hw3]; exact below_drewN B2.out k3⟩
    clear hw3 C2 O2 B2
    go_wp2_with fail
    refine (FX.out w3).mono ?_
    rintro e w4 ⟨vf, rfl, hof, hb4⟩
    have C4 := Bx.mk (C3.out.below hb4)
    have O4 := Bx.mk (O3.out.below hb4)
    have B4 := Bx.mk (below_then B3.out B3.out.size hb4)
    have F4 := Bx.mk (OI.le hof (Nat.zero_le _))
    clear hof hb4 C3 O3 B3
    go_wp2_with fail
    refine (YF.out w4).mono ?_
    rintro e w5 ⟨vy, rfl, hoy, hb5⟩
    have C5 := Bx.mk (C4.out.below hb5)
    have O5 := Bx.mk (O4.out.below hb5)
    have B5 := Bx.mk (below_then B4.out B4.out.size hb5)
    have SMX := Bx.mk (SMf.out w5 vf vy (F4.out.below hb5) (OI.le hoy (Nat.zero_le _)))
    clear hoy hb5 C4 O4 B4 F4
    go_wp2_with fail
    refine SMX.out.mono ?_
    rintro e w6 ⟨rfl, k6, hw6⟩
    have C6 : Bx (Cd w6 g O Ln L) := ⟨by rw [hw6]; exact C5.out.below (below_drewN (Below.refl _ _) k6)⟩
    have O6 : Bx (OI w6 w.heap.size (.slice A1 L.length c1) (zl L)) := ⟨by rw [hw6]; exact O5.out⟩
    have B6 : Bx (Below w.heap.size w w6) := ⟨by rw [hw6]; exact below_drewN B5.out k6⟩
    clear hw6 C5 O5 B5 SMX SMf FX YF RA RB_ SA CK
    go_wp2
    go_loopw [8] (fun i wr => ∃ (k : Nat) (lx : List Int), k ≤ L.length ∧ i = .int .i64 (k : Nat) ∧ lx.length = L.length ∧ Bx (OI wr w.heap.size (.slice A1 L.length c1) lx) ∧ Bx (Above z1 w6 wr) ∧ Bx (Below w.heap.size w wr)) (fun i _ => L.length - (intOf i).toNat)
    case atStart => exact ⟨0, zl L, Nat.zero_le _, rfl, zl_length L, O6, ⟨rfl, fun _ _ => rfl⟩, B6⟩
    case round =>
      obtain ⟨k, lx, hk, rfl, hlx, HO, HA, HB⟩ := hrel
      have HLX := Bx.mk hlx
      by_cases hlt : k < L.length
      · obtain ⟨ga, rfl, -, hga, -, hcell, hfz⟩ := HO.out.opened (by omega)
        have hcj := hcell k (by omega)
        have hfj := hfz k
        have HP := Bx.mk (HO.out.put k 7)
        have HAP := Bx.mk (HA.out.set (g := ga) (i := k) (Q1.out ga rfl) (.int .i64 7))
        have HBP := Bx.mk (HB.out.setCell (p := ⟨ga, k, none⟩) hga (.int .i64 7))
        clear hcell hfz hlx
        generalize lx.getD k 0 = X at hcj
        go_wp2
        go_roundw
        case rel => exact ⟨k + 1, lx.set k 7, by omega, by go_num, by rw [List.length_set]; exact HLX.out, HP, HAP, HBP⟩
        case measure => simp [intOf]; omega
      · have C7 := Bx.mk (C6.out.heapk (w' := wr) fun q hq => HA.out.2 q (SEP.out q hq))
        clear hlx
        go_wp2_with fail
        refine (Words_calls A L c wr (HL.out.below HB.out) hL288 OK.out.2.1 OK.out.2.2.1).mono ?_
        rintro e w8 ⟨q, rfl, hW, -, hb8⟩
        have C8 := Bx.mk (C7.out.below hb8)
        have W8 := Bx.mk hW
        have B8 := Bx.mk (below_then HB.out HB.out.size hb8)
        clear hW hb8 C7 HO HA HB
        have L15 := Bx.mk (getD15 OK.out.2.1)
        go_wp2
        go_loop [10, 11] (fun m i => ∃ k : Nat, k ≤ L.length ∧ i = .int .i64 (k : Nat) ∧ m = .int .i64 (nz ((zl L).take k) : Nat) ∧ nz ((zl L).take k) ≤ k) (fun _ i => L.length - (intOf i).toNat)
        case atStart => exact ⟨0, Nat.zero_le _, rfl, rfl, Nat.le_refl _⟩
        case round =>
          obtain ⟨j, hj, rfl, rfl, hnb⟩ := hrel
          by_cases hjl : j < L.length
          · obtain ⟨u, k1, k2, -⟩ := W8.out.cell j hjl
            obtain ⟨Aj, cj, rfl⟩ := k2.form
            have hwl := wordF_length L j
            rw [zl_length, hwl] at k1 k2
            have hsn := snoc_filter (fun x => decide (0 < x)) (zl L) j (by rw [zl_length]; exact hjl)
            rw [zl_get] at hsn
            have HSN : Bx (nz ((zl L).take (j + 1)) = nz ((zl L).take j) + if decide ((0 : Int) < (L.getD j 0 : Nat)) then 1 else 0) := ⟨hsn⟩
            clear hsn
            by_cases h0 : L.getD j 0 = 0
            · have WN := Bx.mk (Word_no g O Ln L (j : Int) w8 C8.out (fun h => h.2.2 (by rw [Int.toNat_natCast]; exact h0)))
              rw [h0] at HSN k1
              have HS2 : Bx (nz ((zl L).take (j + 1)) = nz ((zl L).take j)) := ⟨by rw [HSN.out]; simp⟩
              clear HSN hwl k2 h0
              generalize nz ((zl L).take j) = N at *
              go_wp2_with fail
              refine WN.out.mono ?_
              rintro e w9 ⟨rfl, rfl⟩
              go_wp2
              go_round
              case rel => exact ⟨j + 1, by omega, by go_num, by rw [HS2.out], by rw [HS2.out]; omega⟩
              case measure => simp [intOf]; omega
            · have WY := Bx.mk (Word_yes g O Ln L j w8 C8.out OK.out.2.2.1 hL288 hjl h0 (L15.out j))
              have hwf : wordF L j = hiL (wrd L j) (L.getD j 0) := by unfold wordF; rw [if_pos h0]
              have rh := refHigh_calls Aj (wordF L j) cj w8 k2.ir (by rw [hwf]; exact hiL_bit _ _) (by rw [hwl]; have := L15.out j; omega)
              rw [hwl, hwf, hV_hi, Nat.mod_eq_of_lt (wrd_fit L OK.out.2.2.1 j hjl h0 (L15.out j))] at rh
              have RH := Bx.mk rh
              have HS2 : Bx (nz ((zl L).take (j + 1)) = nz ((zl L).take j) + 1) := ⟨by rw [HSN.out, if_pos (decide_eq_true (by omega))]⟩
              have hp0 : 0 < L.getD j 0 := by omega
              clear HSN hwl k2 h0 hwf rh
              generalize nz ((zl L).take j) = N at *
              generalize wrd L j = V at *
              generalize L.getD j 0 = n at *
              have hne : ((n : Int) == 0) = false := beq_false_of_ne (by omega)
              go_wp2_with fail
              refine WY.out.mono ?_
              rintro e w9 ⟨rfl, rfl⟩
              go_wp2_with fail
              refine RH.out.mono ?_
              rintro e w9 ⟨rfl, rfl⟩
              go_wp2
              go_round
              case rel => exact ⟨j + 1, by omega, by go_num, by rw [HS2.out]; go_num, by rw [HS2.out]; omega⟩
              case measure => simp [intOf]; omega
          · obtain rfl : j = L.length := by omega
            rw [show (zl L).take L.length = zl L from List.take_of_length_le (by rw [zl_length]; exact Nat.le_refl _), nz_ord L OK.out.2.1]
            have hcc := C8.out
            obtain ⟨OA, oc, hO⟩ := hcc.ord.form
            rw [zl_length] at hO
            subst hO
            have SY := Bx.mk (Symbols_calls g (cnt L) OA (ordN L 15).length oc Ln w8 hcc.blk)
            have WORKS := Bx.mk fun W => cworks_calls W
            have WN := Bx.mk fun (s : Int) h => Word_no g _ Ln L s w8 hcc h
            clear hnb hcc
            generalize (ordN L 15).length = NS at *
            by_cases hin : 0 ≤ sy ∧ sy < L.length
            · obtain ⟨hin1, hin2⟩ := hin
              obtain ⟨s, rfl⟩ := Int.eq_ofNat_of_zero_le hin1
              have hs : s < L.length := by omega
              obtain ⟨ad, rfl, hd⟩ := (HL.out.below B8.out) (by rw [zl_length]; omega)
              have hls := hd s (by rw [zl_length]; exact hs)
              rw [zl_get] at hls
              have hlw : IntKind.i64.wrap ((L.length : Int) - 1) = (L.length : Int) - 1 := by rw [IntKind.wrap_i64]; omega
              have hmin : (if (L.length : Int) - 1 < (s : Int) then (L.length : Int) - 1 else (s : Int)) = (s : Int) := by rw [if_neg (by omega)]
              have hmax : (if (0 : Int) < (s : Int) then (s : Int) else 0) = (s : Int) := by split <;> omega
              clear hd
              rcases Nat.eq_zero_or_pos s with rfl | hs0
              · rw [addr_add0] at hls
                clear hmin hmax
                by_cases h0 : L.getD 0 0 = 0
                · have W0 := Bx.mk (WN.out ((0 : Nat) : Int) (fun h => h.2.2 (by rw [Int.toNat_natCast]; exact h0)))
                  rw [h0] at hls
                  clear WN h0
                  go_wp2_with fail
                  refine W0.out.mono ?_
                  rintro e w9 ⟨rfl, rfl⟩
                  go_wp2_with fail
                  refine SY.out.mono ?_
                  rintro e w9 ⟨rfl, rfl⟩
                  go_wp2_with fail
                  refine (WORKS.out w8).mono ?_
                  rintro e w9 ⟨rfl, hb9⟩
                  have B9 := Bx.mk (below_then B8.out B8.out.size hb9)
                  clear hb9
                  go_wp2
                  go_ret
                  exact ⟨rfl, B9.out⟩
                · have W0 := Bx.mk (Word_yes g _ Ln L 0 w8 C8.out OK.out.2.2.1 hL288 hs h0 (L15.out 0))
                  have hp0 : 0 < L.getD 0 0 := by omega
                  clear WN h0
                  generalize wrd L 0 = V at *
                  generalize L.getD 0 0 = n at *
                  go_wp2_with fail
                  refine W0.out.mono ?_
                  rintro e w9 ⟨rfl, rfl⟩
                  go_wp2_with fail
                  refine SY.out.mono ?_
                  rintro e w9 ⟨rfl, rfl⟩
                  go_wp2_with fail
                  refine (WORKS.out w8).mono ?_
                  rintro e w9 ⟨rfl, hb9⟩
                  have B9 := Bx.mk (below_then B8.out B8.out.size hb9)
                  clear hb9
                  go_wp2
                  go_ret
                  exact ⟨rfl, B9.out⟩
              · by_cases h0 : L.getD s 0 = 0
                · have W0 := Bx.mk (WN.out (s : Int) (fun h => h.2.2 (by rw [Int.toNat_natCast]; exact h0)))
                  rw [h0] at hls
                  clear WN h0
                  go_wp2_with fail
                  refine W0.out.mono ?_
                  rintro e w9 ⟨rfl, rfl⟩
                  go_wp2_with fail
                  refine SY.out.mono ?_
                  rintro e w9 ⟨rfl, rfl⟩
                  go_wp2_with fail
                  refine (WORKS.out w8).mono ?_
                  rintro e w9 ⟨rfl, hb9⟩
                  have B9 := Bx.mk (below_then B8.out B8.out.size hb9)
                  clear hb9
                  go_wp2
                  go_ret
                  exact ⟨rfl, B9.out⟩
                · have W0 := Bx.mk (Word_yes g _ Ln L s w8 C8.out OK.out.2.2.1 hL288 hs h0 (L15.out s))
                  have hp0 : 0 < L.getD s 0 := by omega
                  clear WN h0
                  generalize wrd L s = V at *
                  generalize L.getD s 0 = n at *
                  go_wp2_with fail
                  refine W0.out.mono ?_
                  rintro e w9 ⟨rfl, rfl⟩
                  go_wp2_with fail
                  refine SY.out.mono ?_
                  rintro e w9 ⟨rfl, rfl⟩
                  go_wp2_with fail
                  refine (WORKS.out w8).mono ?_
                  rintro e w9 ⟨rfl, hb9⟩
                  have B9 := Bx.mk (below_then B8.out B8.out.size hb9)
                  clear hb9
                  go_wp2
                  go_ret
                  exact ⟨rfl, B9.out⟩
            · have W0 := Bx.mk (WN.out sy (fun h => hin ⟨h.1, h.2.1⟩))
              by_cases hneg : sy < 0
              · clear WN hin
                go_wp2_with fail
                refine W0.out.mono ?_
                rintro e w9 ⟨rfl, rfl⟩
                go_wp2_with fail
                refine SY.out.mono ?_
                rintro e w9 ⟨rfl, rfl⟩
                go_wp2_with fail
                refine (WORKS.out w8).mono ?_
                rintro e w9 ⟨rfl, hb9⟩
                have B9 := Bx.mk (below_then B8.out B8.out.size hb9)
                clear hb9
                go_wp2
                go_ret
                exact ⟨rfl, B9.out⟩
              · have hge : (L.length : Int) ≤ sy := by omega
                clear WN hin
                go_wp2_with fail
                refine W0.out.mono ?_
                rintro e w9 ⟨rfl, rfl⟩
                go_wp2_with fail
                refine SY.out.mono ?_
                rintro e w9 ⟨rfl, rfl⟩
                go_wp2_with fail
                refine (WORKS.out w8).mono ?_
                rintro e w9 ⟨rfl, hb9⟩
                have B9 := Bx.mk (below_then B8.out B8.out.size hb9)
                clear hb9
                go_wp2
                go_ret
                exact ⟨rfl, B9.out⟩
  · have hcv := checkV_no hok
    rw [hcv] at CK
    have HN := Bx.mk hok
    clear hok hcv
    go_wp2_with fail
    refine (CNew_no A1 ls c1 w1 O1.out.ir hn HN.out).mono ?_
    rintro e w2 ⟨rfl, hb⟩
    have O2 := Bx.mk (O1.out.below hb)
    have B2 := Bx.mk (below_then B1.out B1.out.size hb)
    clear hb O1 B1
    go_wp2_with fail
    refine (CK.out w2 (HL.out.below B2.out)).mono ?_
    rintro e w3 ⟨rfl, rfl⟩
    go_wp2_with fail
    refine (RA.out w2 O2.out.ir).mono ?_
    rintro e w3 ⟨rfl, rfl⟩
    go_wp2_with fail
    refine (RB_.out w2 (HL.out.below B2.out)).mono ?_
    rintro e w3 ⟨rfl, rfl⟩
    go_wp2_with fail
    refine (SA.out w2 O2.out.ir (HL.out.below B2.out)).mono ?_
    rintro e w3 ⟨rfl, k3, hw3⟩
    have B3 : Bx (Below w.heap.size w w3) := ⟨by rw [hw3]; exact below_drewN B2.out k3⟩
    clear hw3 O2 B2
    go_wp2_with fail
    refine (FX.out w3).mono ?_
    rintro e w4 ⟨vf, rfl, hof, hb4⟩
    have B4 := Bx.mk (below_then B3.out B3.out.size hb4)
    have F4 := Bx.mk (OI.le hof (Nat.zero_le _))
    clear hof hb4 B3
    go_wp2_with fail
    refine (YF.out w4).mono ?_
    rintro e w5 ⟨vy, rfl, hoy, hb5⟩
    have B5 := Bx.mk (below_then B4.out B4.out.size hb5)
    have SMX := Bx.mk (SMf.out w5 vf vy (F4.out.below hb5) (OI.le hoy (Nat.zero_le _)))
    clear hoy hb5 B4 F4
    go_wp2_with fail
    refine SMX.out.mono ?_
    rintro e w6 ⟨rfl, k6, hw6⟩
    have B6 : Bx (Below w.heap.size w w6) := ⟨by rw [hw6]; exact below_drewN B5.out k6⟩
    clear hw6
    go_wp2
    go_ret
    exact ⟨rfl, B6.out⟩
end Go.Proofs.Ytnncnjkpjlpodaa
