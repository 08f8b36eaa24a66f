import Derived.Test.YtkcifjgfgommoaaDoorDigRef2
import Derived.Deep.DeepCutAuto
import Derived.Deep.CutBlock
import Derived.Deep.RegionHeld3
/-
  The reference's block.
-/
namespace Go.Proofs.YtkcifjgfgommoaaDoor
open Go.RowKit

theorem step_append_words {ops : Array Oper} {o : Oper} {a : Act} {K : Act → World → Prop} {Q : Exit → Act → World → Prop} {E : Prop} (w : World) (hgd : o.guard = none) (s x : Operand)
    (ho : o.op = .call { callee := .builtin .append, args := #[s, x], argTypes := #[44, 44] })
    (base : Nat) (v : Value) (xs l : List Nat) (hs : a.eval s = v) (hown : OW w base v xs) (A : Option Addr) (c : Nat) (hx : a.eval x = .slice A l.length c) (hr : RW w A l)
    (hlen : (xs.length + l.length) * 4 ≤ 140737488355328) (hbase : base ≤ w.heap.size)
    (h : ∀ v' w', OW w' base v' (xs ++ l) → w.grownBy w' v.ownBlock → (v'.ownBlock = v.ownBlock ∨ v'.ownBlock = some w.heap.size) → K (a.put o.dst v') w') :
    if Region.wanted o (yielded ops a.tmps) = true then Oper.wp Tryd.prog o a w K Q else E := by
  have hw : Region.wanted o (yielded ops a.tmps) = true := by simp [Region.wanted, hgd]
  rw [if_pos hw]
  obtain ⟨i, hi, hzz⟩ := Option.map_eq_some_iff.1 info_word
  simp only [Prod.mk.injEq] at hzz
  obtain ⟨hz, h1, hb⟩ := hzz
  refine wp_append_any w s x 44 ho base 38 i (.int .u32 0) 1 4 Tryd.underlying44 hi hz h1 hb rfl (by omega) v xs.length (ws xs) hs hown w.heap.size A l.length c (ws l) hx hr.reads (ws_one l)
    (by unfold maxLen; omega) (by omega) hbase ?_
  intro v' w' ho' hg hat
  exact h v' w' (by unfold OW; rw [ws_app, List.length_append]; exact ho') hg hat
theorem wordOf_cut (b : List Nat) (k : Nat) : wordOf ((b.drop (4 * k)).take 4) 0 = wordOf b k := by
  have h : ∀ j, j < 4 → ((b.drop (4 * k)).take 4).getD j 0 = b.getD (4 * k + j) 0 := fun j hj => by
    rw [List.getD_eq_getElem?_getD, List.getElem?_take, if_pos hj, List.getElem?_drop, ← List.getD_eq_getElem?_getD]
  unfold wordOf
  rw [show 4 * 0 = 0 from rfl, h 0 (by omega), h (0 + 1) (by omega), h (0 + 2) (by omega), h (0 + 3) (by omega)]
  rfl
theorem wordsK_succ (b : List Nat) (k : Nat) : (List.range (k + 1)).map (wordOf b) = (List.range k).map (wordOf b) ++ [wordOf b k] := by
  rw [List.range_succ, List.map_append]; rfl
/-- the memory inside block: the words that are mixed, those of the block -/
structure BS (w : World) (gv kv gm km : Nat) (V M : List Nat) (wr : World) : Prop where
  v : OW wr w.heap.size (.slice (some ⟨gv, 0, none⟩) 16 kv) V
  m : OW wr w.heap.size (.slice (some ⟨gm, 0, none⟩) 16 km) M
  ne : gm ≠ gv
  bel : Below w.heap.size w wr
theorem OW.len16 {w : World} {base g k : Nat} {l : List Nat} (h : OW w base (.slice (some ⟨g, 0, none⟩) 16 k) l) (hl : 0 < l.length) : l.length = 16 := by
  obtain ⟨_, _, e, _⟩ := h.opened hl
  exact e.symm
theorem OW.mono {w : World} {base base' : Nat} {v : Value} {l : List Nat} (h : OW w base v l) (hb : base' ≤ base) : OW w base' v l := by
  obtain ⟨h0, h⟩ := h
  refine ⟨h0, ?_⟩
  rcases h with h | ⟨g, cap, cur, he, hbb, r⟩
  · exact .inl h
  · exact .inr ⟨g, cap, cur, he, Nat.le_trans hb hbb, r⟩
theorem OW.lt {w : World} {base g k n : Nat} {l : List Nat} (h : OW w base (.slice (some ⟨g, 0, none⟩) n k) l) (hl : 0 < l.length) : base ≤ g ∧ g < w.heap.size := by
  obtain ⟨g', e, _, a, b, _⟩ := h.opened hl
  have : g = g' := by simpa using e
  subst this
  exact ⟨a, b⟩
theorem OW.at_ {w : World} {base g k n : Nat} {l : List Nat} (h : OW w base (.slice (some ⟨g, 0, none⟩) n k) l) (j : Nat) (hj : j < l.length) : w.cell? ⟨g, j, none⟩ = some (.int .u32 ((l.getD j 0 : Nat) : Int)) ∧ w.frozen? ⟨g, j, none⟩ = false := by
  obtain ⟨g', e, _, a, b, hc, hf⟩ := h.opened (by omega)
  have : g = g' := by simpa using e
  subst this
  exact ⟨hc j hj, hf j⟩
/-- behind the mixing -/
theorem BS.mixed {w wr w' : World} {gv kv gm km : Nat} {V M V' : List Nat} (s : BS w gv kv gm km V M wr) (hV : 0 < V.length) (h1 : OW w' w.heap.size (.slice (some ⟨gv, 0, none⟩) 16 kv) V') (h2 : ∀ q, q ≠ gv → w'.heap[q]? = wr.heap[q]?) (h3 : Below gv wr w') : BS w gv kv gm km V' M w' :=
  ⟨h1, s.m.same (h2 gm s.ne), s.ne, s.bel.trans (h3.mono (s.v.lt hV).1)⟩
theorem BS.drewN {w wr : World} {gv kv gm km : Nat} {V M : List Nat} (s : BS w gv kv gm km V M wr) (n : Nat) : BS w gv kv gm km V M (wr.drewN n) := ⟨s.v, s.m, s.ne, below_drewN s.bel n⟩
theorem BS.setV {w wr : World} {gv kv gm km : Nat} {V M : List Nat} (s : BS w gv kv gm km V M wr) (hV : 0 < V.length) (j z : Nat) : BS w gv kv gm km (V.set j z) M (wr.setCell ⟨gv, j, none⟩ (.int .u32 (z : Int))) :=
  ⟨s.v.put j z, s.m.same (Below.heap_setCell wr _ _ gm s.ne), s.ne, s.bel.setCell (p := ⟨gv, j, none⟩) (s.v.lt hV).1 _⟩
theorem lanes_col : ∀ i, i < 4 → lanesF.getD (4 * i) 0 = i ∧ lanesF.getD (4 * i + 1) 0 = 4 + i ∧ lanesF.getD (4 * i + 2) 0 = 8 + i ∧ lanesF.getD (4 * i + 3) 0 = 12 + i := by decide
theorem lanes_dia : ∀ i, i < 4 → lanesF.getD (4 * (4 + i)) 0 = i ∧ lanesF.getD (4 * (4 + i) + 1) 0 = 4 + (i + 1) % 4 ∧ lanesF.getD (4 * (4 + i) + 2) 0 = 8 + (i + 2) % 4 ∧ lanesF.getD (4 * (4 + i) + 3) 0 = 12 + (i + 3) % 4 := by decide
theorem mix_col (M : List Nat) (r i : Nat) (V : List Nat) (hi : i < 4) : mixRow M r (i + 1) V = mixN (mixRow M r i V) i (4 + i) (8 + i) (12 + i) (M.getD (rowsF.getD (16 * r + 2 * i) 0) 0) (M.getD (rowsF.getD (16 * r + (2 * i + 1)) 0) 0) := by
  show mixAt M r i _ = _
  unfold mixAt
  obtain ⟨a, b, c, d⟩ := lanes_col i hi
  rw [a, b, c, d]
theorem mix_dia (M : List Nat) (r i : Nat) (V : List Nat) (hi : i < 4) : mixRow M r (4 + (i + 1)) V = mixN (mixRow M r (4 + i) V) i (4 + (i + 1) % 4) (8 + (i + 2) % 4) (12 + (i + 3) % 4) (M.getD (rowsF.getD (16 * r + (8 + 2 * i)) 0) 0) (M.getD (rowsF.getD (16 * r + (9 + 2 * i)) 0) 0) := by
  show mixAt M r (4 + i) _ = _
  unfold mixAt
  obtain ⟨a, b, c, d⟩ := lanes_dia i hi
  rw [a, b, c, d, show 2 * (4 + i) = 8 + 2 * i by omega, show 8 + 2 * i + 1 = 9 + 2 * i by omega]
  rfl
set_option maxRecDepth 100000 in
set_option maxHeartbeats 8000000 in
theorem block_calls (A B : Option Addr) (h b : List Nat) (ch cb taken : Nat) (last : Bool) (w : World) (hA : RW w A h) (hl : h.length = 8) (hh : W32 h) (hB : RB w B b) (hbl : b.length = 64) (hcb : 64 ≤ cb) (ht : taken < 9223372036854775808) :
    Calls Tryd.prog 24 #[.slice A 8 ch, .slice B 64 cb, .int .i64 taken, .bool last] w fun e w' =>
      ∃ v, e = .returned v ∧ OW w' w.heap.size v (pressN h b taken last) ∧ Below w.heap.size w w' := by
  have HA := Bx.mk hA; have HB := Bx.mk hB; have HL := Bx.mk hl; have HBL := Bx.mk hbl; have HH := Bx.mk hh
  have HBW : Bx (W32 (blockW b)) := ⟨blockW_w32 b hB.1⟩
  have HV := Bx.mk (firstV_w32 hh hl taken (by omega) last)
  have HPR : Bx (pressN h b taken last = (List.range 8).map fun i => h.getD i 0 ^^^ ((mixAll (blockW b) 10 (firstV h taken last)).getD i 0 ^^^ (mixAll (blockW b) 10 (firstV h taken last)).getD (i + 8) 0)) := ⟨rfl⟩
  clear hA hB hl hh hbl
  go_enter Tryd.func24, Tryd.ntmps24
  go_upto_block 0 with fail
  have OM : Bx (OW (w.alloc (.cells #[] 38)) w.heap.size (.slice (some ⟨w.heap.size, 0, none⟩) 0 0) ((List.range 0).map (wordOf b))) := ⟨ownW_empty w⟩
  have EM := Bx.mk (below_alloc1 w (.cells #[] 38))
  generalize w.alloc (.cells #[] 38) = w1 at *
  go_cut [9] (fun s9 wx => ∃ gm km, s9 = .slice (some ⟨gm, 0, none⟩) 16 km ∧ Bx (OW wx w.heap.size (.slice (some ⟨gm, 0, none⟩) 16 km) (blockW b)) ∧ Bx (Below w.heap.size w wx))
  case first =>
    clear HPR HV HBW
    go_wp2
    go_loopw [9, 10] (fun v i w' => ∃ k : Nat, k ≤ 16 ∧ i = .int .i64 k ∧ Bx (OW w' w.heap.size v ((List.range k).map (wordOf b))) ∧ Bx (Below w.heap.size w w')) (fun _ i _ => 16 - (intOf i).toNat)
    case atStart => exact ⟨0, by omega, rfl, OM, EM⟩
    case round =>
      obtain ⟨k, hk, rfl, MK, EK⟩ := hrel
      by_cases hlt : k < 16
      · have hsl : ∀ W, (Instr.slice 22 (.slice B 64 cb) (some (.int .i64 (4 * (k : Int)))) (some (.int .i64 (4 * (k : Int) + 4))) none).run Tryd.prog W = .ok (.slice (if cb = 4 * k then B else B.map (·.add (4 * k))) 4 (cb - 4 * k)) W := fun W => by
          have := cut_mid_bytes B 64 cb (4 * k) (4 * k + 4) (by omega) (by omega) hcb W
          rw [show 4 * k + 4 - 4 * k = 4 by omega, show ((4 * k : Nat) : Int) = 4 * (k : Int) by omega, show ((4 * k + 4 : Nat) : Int) = 4 * (k : Int) + 4 by omega] at this
          exact this
        have RD := Bx.mk (fun W (hW : Below w.heap.size w W) => rword_calls (if cb = 4 * k then B else B.map (·.add (4 * k))) ((b.drop (4 * k)).take 4) (cb - 4 * k) W (((HB.out.below hW).drop (4 * k) cb (by rw [HBL.out]; omega)).take 4) (by rw [List.length_take, List.length_drop, HBL.out]; omega))
        rw [wordOf_cut] at RD
        have HS := Bx.mk (wordsK_succ b k)
        have HLN : Bx (((List.range k).map (wordOf b)).length = k) := ⟨by simp⟩
        generalize (if cb = 4 * k then B else B.map (·.add (4 * k))) = B2 at *
        generalize (List.range k).map (wordOf b) = MM at *
        generalize wordOf b k = X at *
        go_wp2_with fail
        refine (RD.out wr EK.out).mono ?_
        rintro e w2 ⟨rfl, n2, rfl⟩
        have MK2 : Bx (OW (wr.drewN n2) w.heap.size u9 MM) := MK
        have EK2 := Bx.mk (below_drewN EK.out n2)
        generalize wr.drewN n2 = w2 at *
        clear MK EK hsl RD
        have RL : Bx (RW (w2.alloc (.cells #[.int .u32 (X : Int)] 38)) (some ⟨w2.heap.size, 0, none⟩) [X]) := ⟨fun _ => ⟨_, rfl, fun j hj => by
          obtain rfl : j = 0 := by simpa using hj
          rw [add_plain, World.cell?_alloc_at _ _ _ _ rfl]; rfl⟩⟩
        have MK3 := Bx.mk (MK2.out.kept (below_alloc1 w2 (.cells #[.int .u32 (X : Int)] 38)))
        have EK3 := Bx.mk (EK2.out.alloc EK2.out.size (.cells #[.int .u32 (X : Int)] 38))
        have HZ : Bx ((MM.length + [X].length) * 4 ≤ 140737488355328) := ⟨by rw [HLN.out]; show (k + 1) * 4 ≤ _; omega⟩
        have HSZ := Bx.mk EK3.out.size
        go_wp2_with (at_builtin; refine wpList_append_words _ rfl (.tmp 22) (.tmp 31) rfl w.heap.size _ MM [X] rfl MK3.out (some ⟨w2.heap.size, 0, none⟩) 1 rfl RL.out HZ.out HSZ.out ?_; intro v' w' ho' hg _)
        have EW : Bx (Below w.heap.size w w') := ⟨EK3.out.grown hg HSZ.out (fun k hk => MK3.out.block k hk)⟩
        go_roundw
        case rel => exact ⟨k + 1, by omega, by go_num, ⟨by rw [HS.out]; exact ho'⟩, EW⟩
        case measure => simp [intOf]; omega
      · obtain rfl : k = 16 := by omega
        have HF : Bx ((List.range 16).map (wordOf b) = blockW b) := ⟨rfl⟩
        rw [HF.out] at MK
        obtain ⟨A9, c9, rfl⟩ := MK.out.form
        obtain ⟨g, rfl, _⟩ := MK.out.opened (by simp [blockW])
        have h16 : (blockW b).length = 16 := by simp [blockW]
        rw [h16] at MK ⊢
        go_wp2
        go_meet
        case rel => exact ⟨g, c9, rfl, MK, EK⟩
  case rest =>
    obtain ⟨gm, km, rfl, MB, EB⟩ := hcut
    clear OM EM
    have BL : Bx (OW (wc.alloc (.cells #[] 38)) wc.heap.size (.slice (some ⟨wc.heap.size, 0, none⟩) 0 0) []) := ⟨ownW_empty wc⟩
    have RA : Bx (RW (wc.alloc (.cells #[] 38)) A h) := ⟨(HA.out.below EB.out).below (below_alloc1 wc _)⟩
    have EV := Bx.mk (below_alloc1 wc (.cells #[] 38))
    have hzz : Bx (wc.heap.size ≤ (wc.alloc (.cells #[] 38)).heap.size) := ⟨by simp⟩
    have HN : Bx ((([] : List Nat).length + h.length) * 4 ≤ 140737488355328) := ⟨by rw [HL.out]; decide⟩
    have HXA : Bx (Value.slice A 8 ch = .slice A h.length ch) := ⟨by rw [HL.out]⟩
    go_wp2_with (first | (at_builtin; refine wpList_append_words (wc.alloc (.cells #[] 38)) rfl (.tmp 33) (.tmp 34) rfl wc.heap.size _ [] h (by rfl) BL.out A ch HXA.out RA.out HN.out hzz.out ?_; intro v3 w3 ho3 hg3 _; have O3 : Bx (OW w3 wc.heap.size v3 h) := ⟨ho3⟩; have E3 : Bx (Below wc.heap.size wc w3) := ⟨EV.out.grown hg3 hzz.out (fun k hk => BL.out.block k hk)⟩; clear ho3 hg3 BL EV RA HXA HN hzz) | (go_at_call 23; fail))
    refine (start_calls w3).mono ?_
    rintro e w4 ⟨v4, rfl, ho4, hb4⟩
    obtain ⟨A4, c4, rfl⟩ := ho4.form
    have O4 := Bx.mk (O3.out.kept hb4)
    have E4 := Bx.mk (below_then E3.out E3.out.size hb4)
    have R4 := Bx.mk ho4.rw_
    have HN : Bx ((h.length + ivL.length) * 4 ≤ 140737488355328) := ⟨by rw [HL.out]; decide⟩
    have hzz := Bx.mk E4.out.size
    clear ho4 hb4 O3 E3
    go_upto_region 7 with (at_builtin; refine wpList_append_words w4 rfl (.tmp 35) (.tmp 36) rfl wc.heap.size _ h ivL (by rfl) O4.out A4 c4 (by rfl) R4.out HN.out hzz.out ?_; intro v5 w5 ho5 hg5 _; have O5 : Bx (OW w5 wc.heap.size v5 (h ++ ivL)) := ⟨ho5⟩; have E5 : Bx (Below wc.heap.size wc w5) := ⟨E4.out.grown hg5 hzz.out (fun k hk => O4.out.block k hk)⟩; clear ho5 hg5 O4 E4 R4 HN hzz)
    have HU : Bx ((h ++ ivL).length = 16) := ⟨by rw [List.length_append, HL.out]; rfl⟩
    obtain ⟨A5, kv, rfl⟩ := O5.out.form
    obtain ⟨gv, rfl, _⟩ := O5.out.opened (by rw [HU.out]; decide)
    rw [HU.out] at O5 ⊢
    have SB : Bx (BS w gv kv gm km (h ++ ivL) (blockW b) w5) := ⟨⟨O5.out.mono EB.out.size, MB.out.kept E5.out, by
      have h1 := (O5.out.lt (by rw [HU.out]; decide)).1
      have h2 := (MB.out.lt (by simp [blockW])).2
      omega, below_then EB.out EB.out.size E5.out⟩⟩
    clear O5 E5 EB MB
    have hu : W32 (h ++ ivL) := fun z hz => by rcases List.mem_append.1 hz with h1 | h1; exact HH.out z h1; exact ivL_w32 z h1
    have HF : Bx (firstV h taken last = if last then (((h ++ ivL).set 12 ((h ++ ivL).getD 12 0 ^^^ taken % 4294967296)).set 13 (((h ++ ivL).set 12 ((h ++ ivL).getD 12 0 ^^^ taken % 4294967296)).getD 13 0 ^^^ taken / 4294967296)).set 14 (4294967295 - (((h ++ ivL).set 12 ((h ++ ivL).getD 12 0 ^^^ taken % 4294967296)).set 13 (((h ++ ivL).set 12 ((h ++ ivL).getD 12 0 ^^^ taken % 4294967296)).getD 13 0 ^^^ taken / 4294967296)).getD 14 0) else ((h ++ ivL).set 12 ((h ++ ivL).getD 12 0 ^^^ taken % 4294967296)).set 13 (((h ++ ivL).set 12 ((h ++ ivL).getD 12 0 ^^^ taken % 4294967296)).getD 13 0 ^^^ taken / 4294967296)) := ⟨rfl⟩
    generalize firstV h taken last = V0 at *
    generalize h ++ ivL = U at *
    have x12 := u32_xor_nat (U.getD 12 0) (taken % 4294967296) (hu.get 12) (by omega)
    obtain ⟨c12, f12⟩ := SB.out.v.at_ 12 (by rw [HU.out]; decide)
    have l12 : U.getD 12 0 ^^^ taken % 4294967296 < 4294967296 := Nat.xor_lt_two_pow (n := 32) (hu.get 12) (Nat.mod_lt _ (by omega))
    have hu2 := hu.set_ 12 l12
    generalize U.getD 12 0 ^^^ taken % 4294967296 = Y12 at *
    have S7 := Bx.mk (SB.out.setV (by rw [HU.out]; decide) 12 Y12)
    have HU2 : Bx ((U.set 12 Y12).length = 16) := ⟨by rw [List.length_set]; exact HU.out⟩
    generalize U.getD 12 0 = X12 at *
    generalize U.set 12 Y12 = U2 at *
    have x13 := u32_xor_nat (U2.getD 13 0) (taken / 4294967296) (hu2.get 13) (by omega)
    obtain ⟨c13, f13⟩ := S7.out.v.at_ 13 (by rw [HU2.out]; decide)
    have l13 : U2.getD 13 0 ^^^ taken / 4294967296 < 4294967296 := Nat.xor_lt_two_pow (n := 32) (hu2.get 13) (by omega)
    have hu3 := hu2.set_ 13 l13
    generalize U2.getD 13 0 ^^^ taken / 4294967296 = Y13 at *
    have S8 := Bx.mk (S7.out.setV (by rw [HU2.out]; decide) 13 Y13)
    have HU3 : Bx ((U2.set 13 Y13).length = 16) := ⟨by rw [List.length_set]; exact HU2.out⟩
    generalize U2.getD 13 0 = X13 at *
    generalize U2.set 13 Y13 = U3 at *
    have hd1 : (taken : Int) % 4294967296 = ((taken % 4294967296 : Nat) : Int) := by omega
    have hd2 : (taken : Int) / 4294967296 = ((taken / 4294967296 : Nat) : Int) := by omega
    have hd3 : ((taken / 4294967296 : Nat) : Int) % 4294967296 = ((taken / 4294967296 : Nat) : Int) := by omega
    generalize taken % 4294967296 = T0 at *
    generalize taken / 4294967296 = T1 at *
    clear SB S7
    go_upto_if 55 with fail
    go_cut [9, 11] (fun s9 s11 wx => s9 = .slice (some ⟨gm, 0, none⟩) 16 km ∧ s11 = .slice (some ⟨gv, 0, none⟩) 16 kv ∧ Bx (BS w gv kv gm km V0 (blockW b) wx))
    case first =>
      clear HPR HV
      clear x12 c12 f12 x13 c13 f13 hd1 hd2 hd3
      generalize (w5.setCell ⟨gv, 12, none⟩ (.int .u32 (Y12 : Int))).setCell ⟨gv, 13, none⟩ (.int .u32 (Y13 : Int)) = w7 at *
      obtain ⟨c14, f14⟩ := S8.out.v.at_ 14 (by rw [HU3.out]; decide)
      have hl14 := hu3.get 14
      have S9 := Bx.mk (S8.out.setV (by rw [HU3.out]; decide) 14 (4294967295 - U3.getD 14 0))
      generalize U3.getD 14 0 = X14 at *
      cases last
      · go_wp2
        go_meet
        case rel => exact ⟨rfl, rfl, ⟨by rw [show V0 = U3 by simpa using HF.out]; exact S8.out⟩⟩
      · have HX := Bx.mk (flip_nat X14 hl14)
        go_wp2
        go_meet
        case rel => exact ⟨rfl, rfl, ⟨by rw [show V0 = U3.set 14 (4294967295 - X14) by simpa using HF.out, HX.out]; exact S9.out⟩⟩
    case rest =>
      obtain ⟨rfl, rfl, S1⟩ := hcut
      clear HF x12 c12 f12 x13 c13 f13 hd1 hd2 hd3 S8 hu hu2 hu3 HU HU2 HU3 l12 l13
      have HBL16 : Bx ((blockW b).length = 16) := ⟨by simp [blockW]⟩
      go_upto_block 2 with fail
      go_cut [9, 11] (fun s9 s11 wx => s9 = .slice (some ⟨gm, 0, none⟩) 16 km ∧ s11 = .slice (some ⟨gv, 0, none⟩) 16 kv ∧ Bx (BS w gv kv gm km (mixAll (blockW b) 10 V0) (blockW b) wx))
      case first =>
        clear HPR
        go_wp2_with fail
        go_loopw [12] (fun i w' => ∃ r : Nat, r ≤ 10 ∧ i = .int .i64 r ∧ Bx (BS w gv kv gm km (mixAll (blockW b) r V0) (blockW b) w')) (fun i _ => 10 - (intOf i).toNat)
        case atStart => exact ⟨0, by omega, rfl, S1⟩
        case round =>
          obtain ⟨r, hr, rfl, SR⟩ := hrel
          by_cases hlt : r < 10
          · have hdec : decide ((r : Int) < 10) = true := by simp; omega
            go_wp2_with fail
            generalize wr = wo at *
            have S0 : Bx (BS w gv kv gm km (mixRow (blockW b) r 0 (mixAll (blockW b) r V0)) (blockW b) wo) := SR
            clear SR
            go_loopw [13] (fun i w' => ∃ q : Nat, q ≤ 4 ∧ i = .int .i64 q ∧ Bx (BS w gv kv gm km (mixRow (blockW b) r q (mixAll (blockW b) r V0)) (blockW b) w')) (fun i _ => 4 - (intOf i).toNat)
            case atStart => exact ⟨0, by omega, rfl, S0⟩
            case round =>
              obtain ⟨q, hq, rfl, SQ⟩ := hrel
              obtain rfl | rfl | rfl | rfl | rfl : q = 0 ∨ q = 1 ∨ q = 2 ∨ q = 3 ∨ q = 4 := by omega
              · have d1 : ∀ W, Calls Tryd.prog 30 #[.int .i64 (r : Int), .int .i64 0] W fun e w' => e = .returned (.int .i64 ((rowsF.getD (16 * r + 0) 0 : Nat) : Int)) ∧ w' = W := fun W => row_calls (r : Int) 0 W (by omega) (by omega) (by omega) (by omega)
                have d2 : ∀ W, Calls Tryd.prog 30 #[.int .i64 (r : Int), .int .i64 1] W fun e w' => e = .returned (.int .i64 ((rowsF.getD (16 * r + 1) 0 : Nat) : Int)) ∧ w' = W := fun W => row_calls (r : Int) 1 W (by omega) (by omega) (by omega) (by omega)
                have r1 := rows_lt r hlt 0 (by omega)
                have r2 := rows_lt r hlt 1 (by omega)
                have HX : Bx (mixRow (blockW b) r 1 (mixAll (blockW b) r V0) = mixN (mixRow (blockW b) r 0 (mixAll (blockW b) r V0)) 0 4 8 12 ((blockW b).getD (rowsF.getD (16 * r + 0) 0) 0) ((blockW b).getD (rowsF.getD (16 * r + 1) 0) 0)) := ⟨mix_col (blockW b) r 0 _ (by omega)⟩
                have m1 := (SQ.out.m.at_ (rowsF.getD (16 * r + 0) 0) (by rw [HBL16.out]; exact r1)).1
                have m2 := (SQ.out.m.at_ (rowsF.getD (16 * r + 1) 0) (by rw [HBL16.out]; exact r2)).1
                have lx1 := HBW.out.get (rowsF.getD (16 * r + 0) 0)
                have lx2 := HBW.out.get (rowsF.getD (16 * r + 1) 0)
                have HQ16 := Bx.mk (mixRow_w32 (blockW b) r (mixAll_w32 (blockW b) HV.out.1 r) 0)
                have HQL : Bx ((mixRow (blockW b) r 0 (mixAll (blockW b) r V0)).length = 16) := ⟨by rw [mixRow_len, mixAll_len]; exact HV.out.2⟩
                generalize mixRow (blockW b) r 0 (mixAll (blockW b) r V0) = V at *
                generalize (blockW b).getD (rowsF.getD (16 * r + 0) 0) 0 = X1 at *
                generalize (blockW b).getD (rowsF.getD (16 * r + 1) 0) 0 = X2 at *
                generalize rowsF.getD (16 * r + 0) 0 = R1 at *
                generalize rowsF.getD (16 * r + 1) 0 = R2 at *
                have D1 := Bx.mk d1; have D2 := Bx.mk d2
                have ir1 : (R1 : Int) < 16 := by omega
                have ir2 : (R2 : Int) < 16 := by omega
                clear d1 d2
                go_wp2
                refine wp_region_still_tail 23 (by kernel_rfl) (by kernel_rfl) ?_
                simp only [List.take_succ_cons, List.take_zero, List.drop_succ_cons, List.drop_zero]
                change wpStill _ _ wr.drew (fun a' => wpList _ _ _ _ a' wr.drew) _ _
                have S2 : Bx (BS w gv kv gm km V (blockW b) wr.drew) := ⟨SQ.out.drewN 1⟩
                have m1' : wr.drew.cell? ⟨gm, R1, none⟩ = some (.int .u32 (X1 : Int)) := m1
                have m2' : wr.drew.cell? ⟨gm, R2, none⟩ = some (.int .u32 (X2 : Int)) := m2
                clear m1 m2 SQ
                generalize wr.drew = w2 at *
                iterate 12 still_step
                refine wpStill_step (fun K hK => ?_)
                go_simp
                refine ⟨_, (D1.out _), hK _ ?_⟩
                clear hK K
                iterate 7 still_step
                refine wpStill_step (fun K hK => ?_)
                go_simp
                refine ⟨_, (D2.out _), hK _ ?_⟩
                clear hK K
                repeat still_step
                refine wpStill_nil ?_
                have MC : Calls Tryd.prog 29 #[.slice (some ⟨gv, 0, none⟩) 16 kv, .int .i64 0, .int .i64 4, .int .i64 8, .int .i64 12, .int .u32 X1, .int .u32 X2] w2 _ := mixing_calls w.heap.size gv kv V 0 4 8 12 X1 X2 w2 S2.out.v HQL.out HQ16.out lx1 lx2 (by omega) (by omega)
                have MC2 := Bx.mk MC
                clear MC m1' m2'
                go_wp2_with fail
                refine MC2.out.mono ?_
                rintro e w3 ⟨rfl, k1, k2, k3⟩
                have S3 : Bx (BS w gv kv gm km (mixRow (blockW b) r 1 (mixAll (blockW b) r V0)) (blockW b) w3) := ⟨by rw [HX.out]; exact S2.out.mixed (by rw [HQL.out]; decide) k1 k2 k3⟩
                clear k1 k2 k3 MC2 S2
                go_wp2_with fail
                go_roundw
                case rel => exact ⟨1, by omega, by go_num, S3⟩
                case measure => simp [intOf]
              · have d1 : ∀ W, Calls Tryd.prog 30 #[.int .i64 (r : Int), .int .i64 2] W fun e w' => e = .returned (.int .i64 ((rowsF.getD (16 * r + 2) 0 : Nat) : Int)) ∧ w' = W := fun W => row_calls (r : Int) 2 W (by omega) (by omega) (by omega) (by omega)
                have d2 : ∀ W, Calls Tryd.prog 30 #[.int .i64 (r : Int), .int .i64 3] W fun e w' => e = .returned (.int .i64 ((rowsF.getD (16 * r + 3) 0 : Nat) : Int)) ∧ w' = W := fun W => row_calls (r : Int) 3 W (by omega) (by omega) (by omega) (by omega)
                have r1 := rows_lt r hlt 2 (by omega)
                have r2 := rows_lt r hlt 3 (by omega)
                have HX : Bx (mixRow (blockW b) r 2 (mixAll (blockW b) r V0) = mixN (mixRow (blockW b) r 1 (mixAll (blockW b) r V0)) 1 5 9 13 ((blockW b).getD (rowsF.getD (16 * r + 2) 0) 0) ((blockW b).getD (rowsF.getD (16 * r + 3) 0) 0)) := ⟨mix_col (blockW b) r 1 _ (by omega)⟩
                have m1 := (SQ.out.m.at_ (rowsF.getD (16 * r + 2) 0) (by rw [HBL16.out]; exact r1)).1
                have m2 := (SQ.out.m.at_ (rowsF.getD (16 * r + 3) 0) (by rw [HBL16.out]; exact r2)).1
                have lx1 := HBW.out.get (rowsF.getD (16 * r + 2) 0)
                have lx2 := HBW.out.get (rowsF.getD (16 * r + 3) 0)
                have HQ16 := Bx.mk (mixRow_w32 (blockW b) r (mixAll_w32 (blockW b) HV.out.1 r) 1)
                have HQL : Bx ((mixRow (blockW b) r 1 (mixAll (blockW b) r V0)).length = 16) := ⟨by rw [mixRow_len, mixAll_len]; exact HV.out.2⟩
                generalize mixRow (blockW b) r 1 (mixAll (blockW b) r V0) = V at *
                generalize (blockW b).getD (rowsF.getD (16 * r + 2) 0) 0 = X1 at *
                generalize (blockW b).getD (rowsF.getD (16 * r + 3) 0) 0 = X2 at *
                generalize rowsF.getD (16 * r + 2) 0 = R1 at *
                generalize rowsF.getD (16 * r + 3) 0 = R2 at *
                have D1 := Bx.mk d1; have D2 := Bx.mk d2
                have ir1 : (R1 : Int) < 16 := by omega
                have ir2 : (R2 : Int) < 16 := by omega
                clear d1 d2
                go_wp2
                refine wp_region_still_tail 23 (by kernel_rfl) (by kernel_rfl) ?_
                simp only [List.take_succ_cons, List.take_zero, List.drop_succ_cons, List.drop_zero]
                change wpStill _ _ wr.drew (fun a' => wpList _ _ _ _ a' wr.drew) _ _
                have S2 : Bx (BS w gv kv gm km V (blockW b) wr.drew) := ⟨SQ.out.drewN 1⟩
                have m1' : wr.drew.cell? ⟨gm, R1, none⟩ = some (.int .u32 (X1 : Int)) := m1
                have m2' : wr.drew.cell? ⟨gm, R2, none⟩ = some (.int .u32 (X2 : Int)) := m2
                clear m1 m2 SQ
                generalize wr.drew = w2 at *
                iterate 12 still_step
                refine wpStill_step (fun K hK => ?_)
                go_simp
                refine ⟨_, (D1.out _), hK _ ?_⟩
                clear hK K
                iterate 7 still_step
                refine wpStill_step (fun K hK => ?_)
                go_simp
                refine ⟨_, (D2.out _), hK _ ?_⟩
                clear hK K
                repeat still_step
                refine wpStill_nil ?_
                have MC : Calls Tryd.prog 29 #[.slice (some ⟨gv, 0, none⟩) 16 kv, .int .i64 1, .int .i64 5, .int .i64 9, .int .i64 13, .int .u32 X1, .int .u32 X2] w2 _ := mixing_calls w.heap.size gv kv V 1 5 9 13 X1 X2 w2 S2.out.v HQL.out HQ16.out lx1 lx2 (by omega) (by omega)
                have MC2 := Bx.mk MC
                clear MC m1' m2'
                go_wp2_with fail
                refine MC2.out.mono ?_
                rintro e w3 ⟨rfl, k1, k2, k3⟩
                have S3 : Bx (BS w gv kv gm km (mixRow (blockW b) r 2 (mixAll (blockW b) r V0)) (blockW b) w3) := ⟨by rw [HX.out]; exact S2.out.mixed (by rw [HQL.out]; decide) k1 k2 k3⟩
                clear k1 k2 k3 MC2 S2
                go_wp2_with fail
                go_roundw
                case rel => exact ⟨2, by omega, by go_num, S3⟩
                case measure => simp [intOf]
              · have d1 : ∀ W, Calls Tryd.prog 30 #[.int .i64 (r : Int), .int .i64 4] W fun e w' => e = .returned (.int .i64 ((rowsF.getD (16 * r + 4) 0 : Nat) : Int)) ∧ w' = W := fun W => row_calls (r : Int) 4 W (by omega) (by omega) (by omega) (by omega)
                have d2 : ∀ W, Calls Tryd.prog 30 #[.int .i64 (r : Int), .int .i64 5] W fun e w' => e = .returned (.int .i64 ((rowsF.getD (16 * r + 5) 0 : Nat) : Int)) ∧ w' = W := fun W => row_calls (r : Int) 5 W (by omega) (by omega) (by omega) (by omega)
                have r1 := rows_lt r hlt 4 (by omega)
                have r2 := rows_lt r hlt 5 (by omega)
                have HX : Bx (mixRow (blockW b) r 3 (mixAll (blockW b) r V0) = mixN (mixRow (blockW b) r 2 (mixAll (blockW b) r V0)) 2 6 10 14 ((blockW b).getD (rowsF.getD (16 * r + 4) 0) 0) ((blockW b).getD (rowsF.getD (16 * r + 5) 0) 0)) := ⟨mix_col (blockW b) r 2 _ (by omega)⟩
                have m1 := (SQ.out.m.at_ (rowsF.getD (16 * r + 4) 0) (by rw [HBL16.out]; exact r1)).1
                have m2 := (SQ.out.m.at_ (rowsF.getD (16 * r + 5) 0) (by rw [HBL16.out]; exact r2)).1
                have lx1 := HBW.out.get (rowsF.getD (16 * r + 4) 0)
                have lx2 := HBW.out.get (rowsF.getD (16 * r + 5) 0)
                have HQ16 := Bx.mk (mixRow_w32 (blockW b) r (mixAll_w32 (blockW b) HV.out.1 r) 2)
                have HQL : Bx ((mixRow (blockW b) r 2 (mixAll (blockW b) r V0)).length = 16) := ⟨by rw [mixRow_len, mixAll_len]; exact HV.out.2⟩
                generalize mixRow (blockW b) r 2 (mixAll (blockW b) r V0) = V at *
                generalize (blockW b).getD (rowsF.getD (16 * r + 4) 0) 0 = X1 at *
                generalize (blockW b).getD (rowsF.getD (16 * r + 5) 0) 0 = X2 at *
                generalize rowsF.getD (16 * r + 4) 0 = R1 at *
                generalize rowsF.getD (16 * r + 5) 0 = R2 at *
                have D1 := Bx.mk d1; have D2 := Bx.mk d2
                have ir1 : (R1 : Int) < 16 := by omega
                have ir2 : (R2 : Int) < 16 := by omega
                clear d1 d2
                go_wp2
                refine wp_region_still_tail 23 (by kernel_rfl) (by kernel_rfl) ?_
                simp only [List.take_succ_cons, List.take_zero, List.drop_succ_cons, List.drop_zero]
                change wpStill _ _ wr.drew (fun a' => wpList _ _ _ _ a' wr.drew) _ _
                have S2 : Bx (BS w gv kv gm km V (blockW b) wr.drew) := ⟨SQ.out.drewN 1⟩
                have m1' : wr.drew.cell? ⟨gm, R1, none⟩ = some (.int .u32 (X1 : Int)) := m1
                have m2' : wr.drew.cell? ⟨gm, R2, none⟩ = some (.int .u32 (X2 : Int)) := m2
                clear m1 m2 SQ
                generalize wr.drew = w2 at *
                iterate 12 still_step
                refine wpStill_step (fun K hK => ?_)
                go_simp
                refine ⟨_, (D1.out _), hK _ ?_⟩
                clear hK K
                iterate 7 still_step
                refine wpStill_step (fun K hK => ?_)
                go_simp
                refine ⟨_, (D2.out _), hK _ ?_⟩
                clear hK K
                repeat still_step
                refine wpStill_nil ?_
                have MC : Calls Tryd.prog 29 #[.slice (some ⟨gv, 0, none⟩) 16 kv, .int .i64 2, .int .i64 6, .int .i64 10, .int .i64 14, .int .u32 X1, .int .u32 X2] w2 _ := mixing_calls w.heap.size gv kv V 2 6 10 14 X1 X2 w2 S2.out.v HQL.out HQ16.out lx1 lx2 (by omega) (by omega)
                have MC2 := Bx.mk MC
                clear MC m1' m2'
                go_wp2_with fail
                refine MC2.out.mono ?_
                rintro e w3 ⟨rfl, k1, k2, k3⟩
                have S3 : Bx (BS w gv kv gm km (mixRow (blockW b) r 3 (mixAll (blockW b) r V0)) (blockW b) w3) := ⟨by rw [HX.out]; exact S2.out.mixed (by rw [HQL.out]; decide) k1 k2 k3⟩
                clear k1 k2 k3 MC2 S2
                go_wp2_with fail
                go_roundw
                case rel => exact ⟨3, by omega, by go_num, S3⟩
                case measure => simp [intOf]
              · have d1 : ∀ W, Calls Tryd.prog 30 #[.int .i64 (r : Int), .int .i64 6] W fun e w' => e = .returned (.int .i64 ((rowsF.getD (16 * r + 6) 0 : Nat) : Int)) ∧ w' = W := fun W => row_calls (r : Int) 6 W (by omega) (by omega) (by omega) (by omega)
                have d2 : ∀ W, Calls Tryd.prog 30 #[.int .i64 (r : Int), .int .i64 7] W fun e w' => e = .returned (.int .i64 ((rowsF.getD (16 * r + 7) 0 : Nat) : Int)) ∧ w' = W := fun W => row_calls (r : Int) 7 W (by omega) (by omega) (by omega) (by omega)
                have r1 := rows_lt r hlt 6 (by omega)
                have r2 := rows_lt r hlt 7 (by omega)
                have HX : Bx (mixRow (blockW b) r 4 (mixAll (blockW b) r V0) = mixN (mixRow (blockW b) r 3 (mixAll (blockW b) r V0)) 3 7 11 15 ((blockW b).getD (rowsF.getD (16 * r + 6) 0) 0) ((blockW b).getD (rowsF.getD (16 * r + 7) 0) 0)) := ⟨mix_col (blockW b) r 3 _ (by omega)⟩
                have m1 := (SQ.out.m.at_ (rowsF.getD (16 * r + 6) 0) (by rw [HBL16.out]; exact r1)).1
                have m2 := (SQ.out.m.at_ (rowsF.getD (16 * r + 7) 0) (by rw [HBL16.out]; exact r2)).1
                have lx1 := HBW.out.get (rowsF.getD (16 * r + 6) 0)
                have lx2 := HBW.out.get (rowsF.getD (16 * r + 7) 0)
                have HQ16 := Bx.mk (mixRow_w32 (blockW b) r (mixAll_w32 (blockW b) HV.out.1 r) 3)
                have HQL : Bx ((mixRow (blockW b) r 3 (mixAll (blockW b) r V0)).length = 16) := ⟨by rw [mixRow_len, mixAll_len]; exact HV.out.2⟩
                generalize mixRow (blockW b) r 3 (mixAll (blockW b) r V0) = V at *
                generalize (blockW b).getD (rowsF.getD (16 * r + 6) 0) 0 = X1 at *
                generalize (blockW b).getD (rowsF.getD (16 * r + 7) 0) 0 = X2 at *
                generalize rowsF.getD (16 * r + 6) 0 = R1 at *
                generalize rowsF.getD (16 * r + 7) 0 = R2 at *
                have D1 := Bx.mk d1; have D2 := Bx.mk d2
                have ir1 : (R1 : Int) < 16 := by omega
                have ir2 : (R2 : Int) < 16 := by omega
                clear d1 d2
                go_wp2
                refine wp_region_still_tail 23 (by kernel_rfl) (by kernel_rfl) ?_
                simp only [List.take_succ_cons, List.take_zero, List.drop_succ_cons, List.drop_zero]
                change wpStill _ _ wr.drew (fun a' => wpList _ _ _ _ a' wr.drew) _ _
                have S2 : Bx (BS w gv kv gm km V (blockW b) wr.drew) := ⟨SQ.out.drewN 1⟩
                have m1' : wr.drew.cell? ⟨gm, R1, none⟩ = some (.int .u32 (X1 : Int)) := m1
                have m2' : wr.drew.cell? ⟨gm, R2, none⟩ = some (.int .u32 (X2 : Int)) := m2
                clear m1 m2 SQ
                generalize wr.drew = w2 at *
                iterate 12 still_step
                refine wpStill_step (fun K hK => ?_)
                go_simp
                refine ⟨_, (D1.out _), hK _ ?_⟩
                clear hK K
                iterate 7 still_step
                refine wpStill_step (fun K hK => ?_)
                go_simp
                refine ⟨_, (D2.out _), hK _ ?_⟩
                clear hK K
                repeat still_step
                refine wpStill_nil ?_
                have MC : Calls Tryd.prog 29 #[.slice (some ⟨gv, 0, none⟩) 16 kv, .int .i64 3, .int .i64 7, .int .i64 11, .int .i64 15, .int .u32 X1, .int .u32 X2] w2 _ := mixing_calls w.heap.size gv kv V 3 7 11 15 X1 X2 w2 S2.out.v HQL.out HQ16.out lx1 lx2 (by omega) (by omega)
                have MC2 := Bx.mk MC
                clear MC m1' m2'
                go_wp2_with fail
                refine MC2.out.mono ?_
                rintro e w3 ⟨rfl, k1, k2, k3⟩
                have S3 : Bx (BS w gv kv gm km (mixRow (blockW b) r 4 (mixAll (blockW b) r V0)) (blockW b) w3) := ⟨by rw [HX.out]; exact S2.out.mixed (by rw [HQL.out]; decide) k1 k2 k3⟩
                clear k1 k2 k3 MC2 S2
                go_wp2_with fail
                go_roundw
                case rel => exact ⟨4, by omega, by go_num, S3⟩
                case measure => simp [intOf]
              · have S4 : Bx (BS w gv kv gm km (mixRow (blockW b) r (4 + 0) (mixAll (blockW b) r V0)) (blockW b) wr) := SQ
                clear SQ
                rw [show ((4 : Nat) : Int) = 4 from rfl]
                go_wp2_with fail
                generalize wr = wp at *
                go_loopw [14] (fun i w' => ∃ q : Nat, q ≤ 4 ∧ i = .int .i64 q ∧ Bx (BS w gv kv gm km (mixRow (blockW b) r (4 + q) (mixAll (blockW b) r V0)) (blockW b) w')) (fun i _ => 4 - (intOf i).toNat)
                case atStart => exact ⟨0, by omega, rfl, S4⟩
                case round =>
                  obtain ⟨q, hq, rfl, SQ⟩ := hrel
                  obtain rfl | rfl | rfl | rfl | rfl : q = 0 ∨ q = 1 ∨ q = 2 ∨ q = 3 ∨ q = 4 := by omega
                  · have d1 : ∀ W, Calls Tryd.prog 30 #[.int .i64 (r : Int), .int .i64 8] W fun e w' => e = .returned (.int .i64 ((rowsF.getD (16 * r + 8) 0 : Nat) : Int)) ∧ w' = W := fun W => row_calls (r : Int) 8 W (by omega) (by omega) (by omega) (by omega)
                    have d2 : ∀ W, Calls Tryd.prog 30 #[.int .i64 (r : Int), .int .i64 9] W fun e w' => e = .returned (.int .i64 ((rowsF.getD (16 * r + 9) 0 : Nat) : Int)) ∧ w' = W := fun W => row_calls (r : Int) 9 W (by omega) (by omega) (by omega) (by omega)
                    have r1 := rows_lt r hlt 8 (by omega)
                    have r2 := rows_lt r hlt 9 (by omega)
                    have HX : Bx (mixRow (blockW b) r 5 (mixAll (blockW b) r V0) = mixN (mixRow (blockW b) r 4 (mixAll (blockW b) r V0)) 0 5 10 15 ((blockW b).getD (rowsF.getD (16 * r + 8) 0) 0) ((blockW b).getD (rowsF.getD (16 * r + 9) 0) 0)) := ⟨mix_dia (blockW b) r 0 _ (by omega)⟩
                    have m1 := (SQ.out.m.at_ (rowsF.getD (16 * r + 8) 0) (by rw [HBL16.out]; exact r1)).1
                    have m2 := (SQ.out.m.at_ (rowsF.getD (16 * r + 9) 0) (by rw [HBL16.out]; exact r2)).1
                    have lx1 := HBW.out.get (rowsF.getD (16 * r + 8) 0)
                    have lx2 := HBW.out.get (rowsF.getD (16 * r + 9) 0)
                    have HQ16 := Bx.mk (mixRow_w32 (blockW b) r (mixAll_w32 (blockW b) HV.out.1 r) 4)
                    have HQL : Bx ((mixRow (blockW b) r 4 (mixAll (blockW b) r V0)).length = 16) := ⟨by rw [mixRow_len, mixAll_len]; exact HV.out.2⟩
                    generalize mixRow (blockW b) r 4 (mixAll (blockW b) r V0) = V at *
                    generalize (blockW b).getD (rowsF.getD (16 * r + 8) 0) 0 = X1 at *
                    generalize (blockW b).getD (rowsF.getD (16 * r + 9) 0) 0 = X2 at *
                    generalize rowsF.getD (16 * r + 8) 0 = R1 at *
                    generalize rowsF.getD (16 * r + 9) 0 = R2 at *
                    have D1 := Bx.mk d1; have D2 := Bx.mk d2
                    have ir1 : (R1 : Int) < 16 := by omega
                    have ir2 : (R2 : Int) < 16 := by omega
                    clear d1 d2
                    go_wp2
                    refine wp_region_still_tail 30 (by kernel_rfl) (by kernel_rfl) ?_
                    simp only [List.take_succ_cons, List.take_zero, List.drop_succ_cons, List.drop_zero]
                    change wpStill _ _ wr.drew (fun a' => wpList _ _ _ _ a' wr.drew) _ _
                    have S2 : Bx (BS w gv kv gm km V (blockW b) wr.drew) := ⟨SQ.out.drewN 1⟩
                    have m1' : wr.drew.cell? ⟨gm, R1, none⟩ = some (.int .u32 (X1 : Int)) := m1
                    have m2' : wr.drew.cell? ⟨gm, R2, none⟩ = some (.int .u32 (X2 : Int)) := m2
                    clear m1 m2 SQ
                    generalize wr.drew = w2 at *
                    iterate 19 still_step
                    refine wpStill_step (fun K hK => ?_)
                    go_simp
                    refine ⟨_, (D1.out _), hK _ ?_⟩
                    clear hK K
                    iterate 7 still_step
                    refine wpStill_step (fun K hK => ?_)
                    go_simp
                    refine ⟨_, (D2.out _), hK _ ?_⟩
                    clear hK K
                    repeat still_step
                    refine wpStill_nil ?_
                    have MC : Calls Tryd.prog 29 #[.slice (some ⟨gv, 0, none⟩) 16 kv, .int .i64 0, .int .i64 5, .int .i64 10, .int .i64 15, .int .u32 X1, .int .u32 X2] w2 _ := mixing_calls w.heap.size gv kv V 0 5 10 15 X1 X2 w2 S2.out.v HQL.out HQ16.out lx1 lx2 (by omega) (by omega)
                    have MC2 := Bx.mk MC
                    clear MC m1' m2'
                    go_wp2_with fail
                    refine MC2.out.mono ?_
                    rintro e w3 ⟨rfl, k1, k2, k3⟩
                    have S3 : Bx (BS w gv kv gm km (mixRow (blockW b) r 5 (mixAll (blockW b) r V0)) (blockW b) w3) := ⟨by rw [HX.out]; exact S2.out.mixed (by rw [HQL.out]; decide) k1 k2 k3⟩
                    clear k1 k2 k3 MC2 S2
                    go_wp2_with fail
                    go_roundw
                    case rel => exact ⟨1, by omega, by go_num, S3⟩
                    case measure => simp [intOf]
                  · have d1 : ∀ W, Calls Tryd.prog 30 #[.int .i64 (r : Int), .int .i64 10] W fun e w' => e = .returned (.int .i64 ((rowsF.getD (16 * r + 10) 0 : Nat) : Int)) ∧ w' = W := fun W => row_calls (r : Int) 10 W (by omega) (by omega) (by omega) (by omega)
                    have d2 : ∀ W, Calls Tryd.prog 30 #[.int .i64 (r : Int), .int .i64 11] W fun e w' => e = .returned (.int .i64 ((rowsF.getD (16 * r + 11) 0 : Nat) : Int)) ∧ w' = W := fun W => row_calls (r : Int) 11 W (by omega) (by omega) (by omega) (by omega)
                    have r1 := rows_lt r hlt 10 (by omega)
                    have r2 := rows_lt r hlt 11 (by omega)
                    have HX : Bx (mixRow (blockW b) r 6 (mixAll (blockW b) r V0) = mixN (mixRow (blockW b) r 5 (mixAll (blockW b) r V0)) 1 6 11 12 ((blockW b).getD (rowsF.getD (16 * r + 10) 0) 0) ((blockW b).getD (rowsF.getD (16 * r + 11) 0) 0)) := ⟨mix_dia (blockW b) r 1 _ (by omega)⟩
                    have m1 := (SQ.out.m.at_ (rowsF.getD (16 * r + 10) 0) (by rw [HBL16.out]; exact r1)).1
                    have m2 := (SQ.out.m.at_ (rowsF.getD (16 * r + 11) 0) (by rw [HBL16.out]; exact r2)).1
                    have lx1 := HBW.out.get (rowsF.getD (16 * r + 10) 0)
                    have lx2 := HBW.out.get (rowsF.getD (16 * r + 11) 0)
                    have HQ16 := Bx.mk (mixRow_w32 (blockW b) r (mixAll_w32 (blockW b) HV.out.1 r) 5)
                    have HQL : Bx ((mixRow (blockW b) r 5 (mixAll (blockW b) r V0)).length = 16) := ⟨by rw [mixRow_len, mixAll_len]; exact HV.out.2⟩
                    generalize mixRow (blockW b) r 5 (mixAll (blockW b) r V0) = V at *
                    generalize (blockW b).getD (rowsF.getD (16 * r + 10) 0) 0 = X1 at *
                    generalize (blockW b).getD (rowsF.getD (16 * r + 11) 0) 0 = X2 at *
                    generalize rowsF.getD (16 * r + 10) 0 = R1 at *
                    generalize rowsF.getD (16 * r + 11) 0 = R2 at *
                    have D1 := Bx.mk d1; have D2 := Bx.mk d2
                    have ir1 : (R1 : Int) < 16 := by omega
                    have ir2 : (R2 : Int) < 16 := by omega
                    clear d1 d2
                    go_wp2
                    refine wp_region_still_tail 30 (by kernel_rfl) (by kernel_rfl) ?_
                    simp only [List.take_succ_cons, List.take_zero, List.drop_succ_cons, List.drop_zero]
                    change wpStill _ _ wr.drew (fun a' => wpList _ _ _ _ a' wr.drew) _ _
                    have S2 : Bx (BS w gv kv gm km V (blockW b) wr.drew) := ⟨SQ.out.drewN 1⟩
                    have m1' : wr.drew.cell? ⟨gm, R1, none⟩ = some (.int .u32 (X1 : Int)) := m1
                    have m2' : wr.drew.cell? ⟨gm, R2, none⟩ = some (.int .u32 (X2 : Int)) := m2
                    clear m1 m2 SQ
                    generalize wr.drew = w2 at *
                    iterate 19 still_step
                    refine wpStill_step (fun K hK => ?_)
                    go_simp
                    refine ⟨_, (D1.out _), hK _ ?_⟩
                    clear hK K
                    iterate 7 still_step
                    refine wpStill_step (fun K hK => ?_)
                    go_simp
                    refine ⟨_, (D2.out _), hK _ ?_⟩
                    clear hK K
                    repeat still_step
                    refine wpStill_nil ?_
                    have MC : Calls Tryd.prog 29 #[.slice (some ⟨gv, 0, none⟩) 16 kv, .int .i64 1, .int .i64 6, .int .i64 11, .int .i64 12, .int .u32 X1, .int .u32 X2] w2 _ := mixing_calls w.heap.size gv kv V 1 6 11 12 X1 X2 w2 S2.out.v HQL.out HQ16.out lx1 lx2 (by omega) (by omega)
                    have MC2 := Bx.mk MC
                    clear MC m1' m2'
                    go_wp2_with fail
                    refine MC2.out.mono ?_
                    rintro e w3 ⟨rfl, k1, k2, k3⟩
                    have S3 : Bx (BS w gv kv gm km (mixRow (blockW b) r 6 (mixAll (blockW b) r V0)) (blockW b) w3) := ⟨by rw [HX.out]; exact S2.out.mixed (by rw [HQL.out]; decide) k1 k2 k3⟩
                    clear k1 k2 k3 MC2 S2
                    go_wp2_with fail
                    go_roundw
                    case rel => exact ⟨2, by omega, by go_num, S3⟩
                    case measure => simp [intOf]
                  · have d1 : ∀ W, Calls Tryd.prog 30 #[.int .i64 (r : Int), .int .i64 12] W fun e w' => e = .returned (.int .i64 ((rowsF.getD (16 * r + 12) 0 : Nat) : Int)) ∧ w' = W := fun W => row_calls (r : Int) 12 W (by omega) (by omega) (by omega) (by omega)
                    have d2 : ∀ W, Calls Tryd.prog 30 #[.int .i64 (r : Int), .int .i64 13] W fun e w' => e = .returned (.int .i64 ((rowsF.getD (16 * r + 13) 0 : Nat) : Int)) ∧ w' = W := fun W => row_calls (r : Int) 13 W (by omega) (by omega) (by omega) (by omega)
                    have r1 := rows_lt r hlt 12 (by omega)
                    have r2 := rows_lt r hlt 13 (by omega)
                    have HX : Bx (mixRow (blockW b) r 7 (mixAll (blockW b) r V0) = mixN (mixRow (blockW b) r 6 (mixAll (blockW b) r V0)) 2 7 8 13 ((blockW b).getD (rowsF.getD (16 * r + 12) 0) 0) ((blockW b).getD (rowsF.getD (16 * r + 13) 0) 0)) := ⟨mix_dia (blockW b) r 2 _ (by omega)⟩
                    have m1 := (SQ.out.m.at_ (rowsF.getD (16 * r + 12) 0) (by rw [HBL16.out]; exact r1)).1
                    have m2 := (SQ.out.m.at_ (rowsF.getD (16 * r + 13) 0) (by rw [HBL16.out]; exact r2)).1
                    have lx1 := HBW.out.get (rowsF.getD (16 * r + 12) 0)
                    have lx2 := HBW.out.get (rowsF.getD (16 * r + 13) 0)
                    have HQ16 := Bx.mk (mixRow_w32 (blockW b) r (mixAll_w32 (blockW b) HV.out.1 r) 6)
                    have HQL : Bx ((mixRow (blockW b) r 6 (mixAll (blockW b) r V0)).length = 16) := ⟨by rw [mixRow_len, mixAll_len]; exact HV.out.2⟩
                    generalize mixRow (blockW b) r 6 (mixAll (blockW b) r V0) = V at *
                    generalize (blockW b).getD (rowsF.getD (16 * r + 12) 0) 0 = X1 at *
                    generalize (blockW b).getD (rowsF.getD (16 * r + 13) 0) 0 = X2 at *
                    generalize rowsF.getD (16 * r + 12) 0 = R1 at *
                    generalize rowsF.getD (16 * r + 13) 0 = R2 at *
                    have D1 := Bx.mk d1; have D2 := Bx.mk d2
                    have ir1 : (R1 : Int) < 16 := by omega
                    have ir2 : (R2 : Int) < 16 := by omega
                    clear d1 d2
                    go_wp2
                    refine wp_region_still_tail 30 (by kernel_rfl) (by kernel_rfl) ?_
                    simp only [List.take_succ_cons, List.take_zero, List.drop_succ_cons, List.drop_zero]
                    change wpStill _ _ wr.drew (fun a' => wpList _ _ _ _ a' wr.drew) _ _
                    have S2 : Bx (BS w gv kv gm km V (blockW b) wr.drew) := ⟨SQ.out.drewN 1⟩
                    have m1' : wr.drew.cell? ⟨gm, R1, none⟩ = some (.int .u32 (X1 : Int)) := m1
                    have m2' : wr.drew.cell? ⟨gm, R2, none⟩ = some (.int .u32 (X2 : Int)) := m2
                    clear m1 m2 SQ
                    generalize wr.drew = w2 at *
                    iterate 19 still_step
                    refine wpStill_step (fun K hK => ?_)
                    go_simp
                    refine ⟨_, (D1.out _), hK _ ?_⟩
                    clear hK K
                    iterate 7 still_step
                    refine wpStill_step (fun K hK => ?_)
                    go_simp
                    refine ⟨_, (D2.out _), hK _ ?_⟩
                    clear hK K
                    repeat still_step
                    refine wpStill_nil ?_
                    have MC : Calls Tryd.prog 29 #[.slice (some ⟨gv, 0, none⟩) 16 kv, .int .i64 2, .int .i64 7, .int .i64 8, .int .i64 13, .int .u32 X1, .int .u32 X2] w2 _ := mixing_calls w.heap.size gv kv V 2 7 8 13 X1 X2 w2 S2.out.v HQL.out HQ16.out lx1 lx2 (by omega) (by omega)
                    have MC2 := Bx.mk MC
                    clear MC m1' m2'
                    go_wp2_with fail
                    refine MC2.out.mono ?_
                    rintro e w3 ⟨rfl, k1, k2, k3⟩
                    have S3 : Bx (BS w gv kv gm km (mixRow (blockW b) r 7 (mixAll (blockW b) r V0)) (blockW b) w3) := ⟨by rw [HX.out]; exact S2.out.mixed (by rw [HQL.out]; decide) k1 k2 k3⟩
                    clear k1 k2 k3 MC2 S2
                    go_wp2_with fail
                    go_roundw
                    case rel => exact ⟨3, by omega, by go_num, S3⟩
                    case measure => simp [intOf]
                  · have d1 : ∀ W, Calls Tryd.prog 30 #[.int .i64 (r : Int), .int .i64 14] W fun e w' => e = .returned (.int .i64 ((rowsF.getD (16 * r + 14) 0 : Nat) : Int)) ∧ w' = W := fun W => row_calls (r : Int) 14 W (by omega) (by omega) (by omega) (by omega)
                    have d2 : ∀ W, Calls Tryd.prog 30 #[.int .i64 (r : Int), .int .i64 15] W fun e w' => e = .returned (.int .i64 ((rowsF.getD (16 * r + 15) 0 : Nat) : Int)) ∧ w' = W := fun W => row_calls (r : Int) 15 W (by omega) (by omega) (by omega) (by omega)
                    have r1 := rows_lt r hlt 14 (by omega)
                    have r2 := rows_lt r hlt 15 (by omega)
                    have HX : Bx (mixRow (blockW b) r 8 (mixAll (blockW b) r V0) = mixN (mixRow (blockW b) r 7 (mixAll (blockW b) r V0)) 3 4 9 14 ((blockW b).getD (rowsF.getD (16 * r + 14) 0) 0) ((blockW b).getD (rowsF.getD (16 * r + 15) 0) 0)) := ⟨mix_dia (blockW b) r 3 _ (by omega)⟩
                    have m1 := (SQ.out.m.at_ (rowsF.getD (16 * r + 14) 0) (by rw [HBL16.out]; exact r1)).1
                    have m2 := (SQ.out.m.at_ (rowsF.getD (16 * r + 15) 0) (by rw [HBL16.out]; exact r2)).1
                    have lx1 := HBW.out.get (rowsF.getD (16 * r + 14) 0)
                    have lx2 := HBW.out.get (rowsF.getD (16 * r + 15) 0)
                    have HQ16 := Bx.mk (mixRow_w32 (blockW b) r (mixAll_w32 (blockW b) HV.out.1 r) 7)
                    have HQL : Bx ((mixRow (blockW b) r 7 (mixAll (blockW b) r V0)).length = 16) := ⟨by rw [mixRow_len, mixAll_len]; exact HV.out.2⟩
                    generalize mixRow (blockW b) r 7 (mixAll (blockW b) r V0) = V at *
                    generalize (blockW b).getD (rowsF.getD (16 * r + 14) 0) 0 = X1 at *
                    generalize (blockW b).getD (rowsF.getD (16 * r + 15) 0) 0 = X2 at *
                    generalize rowsF.getD (16 * r + 14) 0 = R1 at *
                    generalize rowsF.getD (16 * r + 15) 0 = R2 at *
                    have D1 := Bx.mk d1; have D2 := Bx.mk d2
                    have ir1 : (R1 : Int) < 16 := by omega
                    have ir2 : (R2 : Int) < 16 := by omega
                    clear d1 d2
                    go_wp2
                    refine wp_region_still_tail 30 (by kernel_rfl) (by kernel_rfl) ?_
                    simp only [List.take_succ_cons, List.take_zero, List.drop_succ_cons, List.drop_zero]
                    change wpStill _ _ wr.drew (fun a' => wpList _ _ _ _ a' wr.drew) _ _
                    have S2 : Bx (BS w gv kv gm km V (blockW b) wr.drew) := ⟨SQ.out.drewN 1⟩
                    have m1' : wr.drew.cell? ⟨gm, R1, none⟩ = some (.int .u32 (X1 : Int)) := m1
                    have m2' : wr.drew.cell? ⟨gm, R2, none⟩ = some (.int .u32 (X2 : Int)) := m2
                    clear m1 m2 SQ
                    generalize wr.drew = w2 at *
                    iterate 19 still_step
                    refine wpStill_step (fun K hK => ?_)
                    go_simp
                    refine ⟨_, (D1.out _), hK _ ?_⟩
                    clear hK K
                    iterate 7 still_step
                    refine wpStill_step (fun K hK => ?_)
                    go_simp
                    refine ⟨_, (D2.out _), hK _ ?_⟩
                    clear hK K
                    repeat still_step
                    refine wpStill_nil ?_
                    have MC : Calls Tryd.prog 29 #[.slice (some ⟨gv, 0, none⟩) 16 kv, .int .i64 3, .int .i64 4, .int .i64 9, .int .i64 14, .int .u32 X1, .int .u32 X2] w2 _ := mixing_calls w.heap.size gv kv V 3 4 9 14 X1 X2 w2 S2.out.v HQL.out HQ16.out lx1 lx2 (by omega) (by omega)
                    have MC2 := Bx.mk MC
                    clear MC m1' m2'
                    go_wp2_with fail
                    refine MC2.out.mono ?_
                    rintro e w3 ⟨rfl, k1, k2, k3⟩
                    have S3 : Bx (BS w gv kv gm km (mixRow (blockW b) r 8 (mixAll (blockW b) r V0)) (blockW b) w3) := ⟨by rw [HX.out]; exact S2.out.mixed (by rw [HQL.out]; decide) k1 k2 k3⟩
                    clear k1 k2 k3 MC2 S2
                    go_wp2_with fail
                    go_roundw
                    case rel => exact ⟨4, by omega, by go_num, S3⟩
                    case measure => simp [intOf]
                  · go_wp2_with fail
                    go_roundw
                    case rel => exact ⟨r + 1, by omega, by go_num, SQ⟩
                    case measure => simp [intOf]; omega
          · obtain rfl : r = 10 := by omega
            go_wp2_with fail
            go_meet
            case rel => exact ⟨rfl, rfl, SR⟩
      case rest =>
        obtain ⟨rfl, rfl, S4⟩ := hcut
        clear S1
        have HW16 : Bx ((mixAll (blockW b) 10 V0).length = 16 ∧ W32 (mixAll (blockW b) 10 V0)) := ⟨by rw [mixAll_len]; exact HV.out.2, mixAll_w32 _ HV.out.1 _⟩
        generalize mixAll (blockW b) 10 V0 = V at *
        have OO : Bx (OW (wc.alloc (.cells #[] 38)) wc.heap.size (.slice (some ⟨wc.heap.size, 0, none⟩) 0 0) []) := ⟨ownW_empty wc⟩
        have SC : Bx (BS w gv kv gm km V (blockW b) (wc.alloc (.cells #[] 38))) := ⟨⟨S4.out.v.kept (below_alloc1 wc _), S4.out.m.kept (below_alloc1 wc _), S4.out.ne, S4.out.bel.alloc S4.out.bel.size _⟩⟩
        have HGV : Bx (gv < wc.heap.size) := ⟨(S4.out.v.lt (by rw [HW16.out.1]; decide)).2⟩
        have HSZ0 : Bx (w.heap.size ≤ wc.heap.size) := ⟨S4.out.bel.size⟩
        have EW0 := Bx.mk (below_alloc1 wc (.cells #[] 38))
        have SX := S4
        clear S4
        go_wp2_with fail
        generalize wc.alloc (.cells #[] 38) = w1 at *
        go_loopw [15, 16] (fun v i w' => ∃ k : Nat, k ≤ 8 ∧ i = .int .i64 k ∧ Bx (OW w' wc.heap.size v ((List.range k).map fun i => h.getD i 0 ^^^ (V.getD i 0 ^^^ V.getD (i + 8) 0))) ∧ Bx (Below wc.heap.size wc w')) (fun _ i _ => 8 - (intOf i).toNat)
        case atStart => exact ⟨0, by omega, rfl, OO, EW0⟩
        case round =>
          obtain ⟨k, hk, rfl, OK, EK⟩ := hrel
          by_cases hlt : k < 8
          · obtain ⟨ad, rfl, hcell⟩ := HA.out (by rw [HL.out]; decide)
            have CH : Bx (∀ W, Below wc.heap.size wc W → W.cell? (ad.add k) = some (.int .u32 ((h.getD k 0 : Nat) : Int))) := ⟨fun W hW => cell_below hW (cell_below SX.out.bel (hcell k (by rw [HL.out]; exact hlt)))⟩
            have CV : Bx (∀ W, Below wc.heap.size wc W → W.cell? ⟨gv, k, none⟩ = some (.int .u32 ((V.getD k 0 : Nat) : Int))) := ⟨fun W hW => cell_below hW (SX.out.v.at_ k (by rw [HW16.out.1]; omega)).1⟩
            have CV8 : Bx (∀ W, Below wc.heap.size wc W → W.cell? ⟨gv, k + 8, none⟩ = some (.int .u32 ((V.getD (k + 8) 0 : Nat) : Int))) := ⟨fun W hW => cell_below hW (SX.out.v.at_ (k + 8) (by rw [HW16.out.1]; omega)).1⟩
            have HS : Bx ((List.range (k + 1)).map (fun i => h.getD i 0 ^^^ (V.getD i 0 ^^^ V.getD (i + 8) 0)) = (List.range k).map (fun i => h.getD i 0 ^^^ (V.getD i 0 ^^^ V.getD (i + 8) 0)) ++ [(h.getD k 0 ^^^ V.getD k 0) ^^^ V.getD (k + 8) 0]) := ⟨by rw [List.range_succ, List.map_append, Nat.xor_assoc]; rfl⟩
            have HLN : Bx (((List.range k).map (fun i => h.getD i 0 ^^^ (V.getD i 0 ^^^ V.getD (i + 8) 0))).length = k) := ⟨by simp⟩
            have xa := HH.out.get k
            have xb := HW16.out.2.get k
            have xc := HW16.out.2.get (k + 8)
            have y1 := u32_xor_nat (h.getD k 0) (V.getD k 0) xa xb
            have y2 := u32_xor_nat (h.getD k 0 ^^^ V.getD k 0) (V.getD (k + 8) 0) (Nat.xor_lt_two_pow (n := 32) xa xb) xc
            clear xa xb xc
            generalize (List.range k).map (fun i => h.getD i 0 ^^^ (V.getD i 0 ^^^ V.getD (i + 8) 0)) = OUT at *
            generalize (h.getD k 0 ^^^ V.getD k 0) ^^^ V.getD (k + 8) 0 = X3 at *
            generalize h.getD k 0 ^^^ V.getD k 0 = X2 at *
            generalize h.getD k 0 = X1 at *
            generalize V.getD k 0 = V1 at *
            generalize V.getD (k + 8) 0 = V8 at *
            have ik : (k : Int) < 8 := by omega
            have ik1 : IntKind.i64.wrap ((k : Int) + 8) = (k : Int) + 8 := IntWalk.i64_in _ (by omega)
            have ik2 : (0 : Int) ≤ (k : Int) + 8 := by omega
            have ik3 : ((k : Int) + 8).toNat = k + 8 := by omega
            have ik4 : (k : Int) + 8 < 16 := by omega
            have EK2 := EK.out
            have EK3 : Bx (Below wc.heap.size wc (wr.drew.alloc (.cells #[.int .u32 (X3 : Int)] 38))) := ⟨EK2.drew.alloc EK2.size _⟩
            have OO2 : Bx (OW (wr.drew.alloc (.cells #[.int .u32 (X3 : Int)] 38)) wc.heap.size u15 OUT) := ⟨OW.kept (w := wr.drew) OK.out (below_alloc1 wr.drew _)⟩
            have RL : Bx (RW (wr.drew.alloc (.cells #[.int .u32 (X3 : Int)] 38)) (some ⟨wr.heap.size, 0, none⟩) [X3]) := ⟨fun _ => ⟨_, rfl, fun j hj => by
              obtain rfl : j = 0 := by simpa using hj
              rw [add_plain]
              exact (Blk.cell (Blk.new wr.drew _ _) 0).trans rfl⟩⟩
            have ik5 : (k : Int) < 16 := by omega
            have HZ : Bx ((OUT.length + [X3].length) * 4 ≤ 140737488355328) := ⟨by rw [HLN.out]; show (k + 1) * 4 ≤ _; omega⟩
            have HSZ : Bx (wc.heap.size ≤ (wr.drew.alloc (.cells #[.int .u32 (X3 : Int)] 38)).heap.size) := ⟨EK3.out.size⟩
            go_wp2
            refine wp_region_noPanic ?_
            refine wp_region_held_drew (S := fun x => Below wc.heap.size wc x) (by kernel_rfl) (by first | assumption | exact Below.drew (by assumption)) (fun _ => ?_)
            refine takeH (i := 0) (v := ?_) rfl rfl (by kernel_rfl) (by kernel_rfl) (by kernel_rfl) (fun _ _ _ h => h) (Or.inl ⟨by rfl, ?_⟩) (by assumption) ?_
            rotate_left
            · (intro w hSw; go_simp; first | done | with_reducible rfl)
            simp only [List.setIfInBounds_toArray, List.set_cons_zero, List.set_cons_succ]
            refine takeH (i := 1) (v := ?_) rfl rfl (by kernel_rfl) (by kernel_rfl) (by kernel_rfl) (fun _ _ _ h => h) (Or.inl ⟨by rfl, ?_⟩) (by assumption) ?_
            rotate_left
            · (intro w hSw; go_simp; first | done | with_reducible rfl)
            simp only [List.setIfInBounds_toArray, List.set_cons_zero, List.set_cons_succ]
            refine takeH (i := 2) (v := ?_) rfl rfl (by kernel_rfl) (by kernel_rfl) (by kernel_rfl) (fun _ _ _ h => h) (Or.inl ⟨by rfl, ?_⟩) (by assumption) ?_
            rotate_left
            · (intro w hSw; go_simp; first | done | with_reducible rfl)
            simp only [List.setIfInBounds_toArray, List.set_cons_zero, List.set_cons_succ]
            refine takeH (i := 3) (v := ?_) rfl rfl (by kernel_rfl) (by kernel_rfl) (by kernel_rfl) (fun _ _ _ h => h) (Or.inl ⟨by rfl, ?_⟩) (by assumption) ?_
            rotate_left
            · (intro w hSw; go_simp; first | done | with_reducible rfl)
            simp only [List.setIfInBounds_toArray, List.set_cons_zero, List.set_cons_succ]
            refine takeH (i := 4) (v := ?_) rfl rfl (by kernel_rfl) (by kernel_rfl) (by kernel_rfl) (fun _ _ _ h => h) (Or.inl ⟨by rfl, ?_⟩) (by assumption) ?_
            rotate_left
            · (intro w hSw; have c1 := CH.out w hSw; go_simp; first | done | with_reducible rfl)
            simp only [List.setIfInBounds_toArray, List.set_cons_zero, List.set_cons_succ]
            refine takeH (i := 5) (v := ?_) rfl rfl (by kernel_rfl) (by kernel_rfl) (by kernel_rfl) (fun _ _ _ h => h) (Or.inl ⟨by rfl, ?_⟩) (by assumption) ?_
            rotate_left
            · (intro w hSw; go_simp; first | done | with_reducible rfl)
            simp only [List.setIfInBounds_toArray, List.set_cons_zero, List.set_cons_succ]
            refine takeH (i := 6) (v := ?_) rfl rfl (by kernel_rfl) (by kernel_rfl) (by kernel_rfl) (fun _ _ _ h => h) (Or.inl ⟨by rfl, ?_⟩) (by assumption) ?_
            rotate_left
            · (intro w hSw; go_simp; first | done | with_reducible rfl)
            simp only [List.setIfInBounds_toArray, List.set_cons_zero, List.set_cons_succ]
            refine takeH (i := 7) (v := ?_) rfl rfl (by kernel_rfl) (by kernel_rfl) (by kernel_rfl) (fun _ _ _ h => h) (Or.inl ⟨by rfl, ?_⟩) (by assumption) ?_
            rotate_left
            · (intro w hSw; go_simp; first | done | with_reducible rfl)
            simp only [List.setIfInBounds_toArray, List.set_cons_zero, List.set_cons_succ]
            refine takeH (i := 8) (v := ?_) rfl rfl (by kernel_rfl) (by kernel_rfl) (by kernel_rfl) (fun _ _ _ h => h) (Or.inl ⟨by rfl, ?_⟩) (by assumption) ?_
            rotate_left
            · (intro w hSw; have c1 := CV.out w hSw; go_simp; first | done | with_reducible rfl)
            simp only [List.setIfInBounds_toArray, List.set_cons_zero, List.set_cons_succ]
            refine takeH (i := 9) (v := ?_) rfl rfl (by kernel_rfl) (by kernel_rfl) (by kernel_rfl) (fun _ _ _ h => h) (Or.inl ⟨by rfl, ?_⟩) (by assumption) ?_
            rotate_left
            · (intro w hSw; go_simp; first | done | with_reducible rfl)
            simp only [List.setIfInBounds_toArray, List.set_cons_zero, List.set_cons_succ]
            refine takeH (i := 10) (v := ?_) rfl rfl (by kernel_rfl) (by kernel_rfl) (by kernel_rfl) (fun _ _ _ h => h) (Or.inl ⟨by rfl, ?_⟩) (by assumption) ?_
            rotate_left
            · (intro w hSw; go_simp; first | done | with_reducible rfl)
            simp only [List.setIfInBounds_toArray, List.set_cons_zero, List.set_cons_succ]
            refine takeH (i := 11) (v := ?_) rfl rfl (by kernel_rfl) (by kernel_rfl) (by kernel_rfl) (fun _ _ _ h => h) (Or.inl ⟨by rfl, ?_⟩) (by assumption) ?_
            rotate_left
            · (intro w hSw; go_simp; first | done | with_reducible rfl)
            simp only [List.setIfInBounds_toArray, List.set_cons_zero, List.set_cons_succ]
            refine takeH (i := 12) (v := ?_) rfl rfl (by kernel_rfl) (by kernel_rfl) (by kernel_rfl) (fun _ _ _ h => h) (Or.inl ⟨by rfl, ?_⟩) (by assumption) ?_
            rotate_left
            · (intro w hSw; go_simp; first | done | with_reducible rfl)
            simp only [List.setIfInBounds_toArray, List.set_cons_zero, List.set_cons_succ]
            refine takeH (i := 13) (v := ?_) rfl rfl (by kernel_rfl) (by kernel_rfl) (by kernel_rfl) (fun _ _ _ h => h) (Or.inl ⟨by rfl, ?_⟩) (by assumption) ?_
            rotate_left
            · (intro w hSw; go_simp; first | done | with_reducible rfl)
            simp only [List.setIfInBounds_toArray, List.set_cons_zero, List.set_cons_succ]
            refine takeH (i := 14) (v := ?_) rfl rfl (by kernel_rfl) (by kernel_rfl) (by kernel_rfl) (fun _ _ _ h => h) (Or.inl ⟨by rfl, ?_⟩) (by assumption) ?_
            rotate_left
            · (intro w hSw; have c1 := CV8.out w hSw; go_simp; first | done | with_reducible rfl)
            simp only [List.setIfInBounds_toArray, List.set_cons_zero, List.set_cons_succ]
            refine takeH (i := 15) (v := ?_) rfl rfl (by kernel_rfl) (by kernel_rfl) (by kernel_rfl) (fun _ _ _ h => h) (Or.inl ⟨by rfl, ?_⟩) (by assumption) ?_
            rotate_left
            · (intro w hSw; go_simp; first | done | with_reducible rfl)
            simp only [List.setIfInBounds_toArray, List.set_cons_zero, List.set_cons_succ]
            refine wpAnyH_ready (rs := [16]) (by kernel_rfl) (by simp) ?_
            refine AllReadyH.cons rfl (fun K hK => ?_) AllReadyH.nil
            go_simp
            refine hK.out _ _ EK3.out (fun _ => ?_)
            clear hK K
            refine wpAnyH_ready (rs := [17]) (by kernel_rfl) (by simp) ?_
            refine AllReadyH.cons rfl (fun K hK => ?_) AllReadyH.nil
            refine step_append_words (wr.drew.alloc (.cells #[.int .u32 (X3 : Int)] 38)) rfl (.tmp 134) (.tmp 150) rfl wc.heap.size _ OUT [X3] (by rfl) OO2.out (some ⟨wr.heap.size, 0, none⟩) 1 (by rfl) RL.out HZ.out HSZ.out ?_
            intro v' w' ho' hg _
            have OO3 : Bx (OW w' wc.heap.size v' (OUT ++ [X3])) := ⟨ho'⟩
            have EK4 : Bx (Below wc.heap.size wc w') := ⟨EK3.out.grown hg HSZ.out (fun k hk => OO2.out.block k hk)⟩
            clear ho' hg
            go_simp
            refine hK.out _ _ EK4.out (fun _ => ?_)
            clear hK K
            refine takeH (i := 18) (v := ?_) rfl rfl (by kernel_rfl) (by kernel_rfl) (by kernel_rfl) (fun _ _ _ h => h) (Or.inl ⟨by rfl, ?_⟩) (by assumption) ?_
            rotate_left
            · (intro w hSw; go_simp; first | done | with_reducible rfl)
            simp only [List.setIfInBounds_toArray, List.set_cons_zero, List.set_cons_succ]
            refine wpAnyH_done (by kernel_rfl) ?_ _
            refine NoPanic.normal ?_
            go_wp2_with fail
            go_roundw
            case rel => exact ⟨k + 1, by omega, by go_num, ⟨by rw [HS.out]; exact OO3.out⟩, EK4⟩
            case measure => simp [intOf]; omega
          · obtain rfl : k = 8 := by omega
            go_wp2_with fail
            go_ret
            exact ⟨_, rfl, by rw [HPR.out]; exact OK.out.mono HSZ0.out, below_then SX.out.bel SX.out.bel.size EK.out⟩
end Go.Proofs.YtkcifjgfgommoaaDoor
