import Derived.Test.YtnncnjkpjlpodaaCodeWorks
import Derived.Test.YtnncnjkpjlpodaaFlowRef2
/-
  The reference: Words.
-/
namespace Go.Proofs.Ytnncnjkpjlpodaa
open Go.RowKit

/-- a number's bits, the highest first -/
def hiL (x n : Nat) : List Nat := (lowL x n).reverse
theorem hiL_length (x n : Nat) : (hiL x n).length = n := by unfold hiL; rw [List.length_reverse, lowL_length]
theorem hiL_bit (x n : Nat) : Bit (hiL x n) := fun y hy => lowL_bit x n y (List.mem_reverse.1 hy)
/-- the words that are known when n is looked at, up to symbol j -/
def wF (L : List Nat) (n j i : Nat) : List Nat :=
  if L.getD i 0 ≠ 0 ∧ (L.getD i 0 < n ∨ (L.getD i 0 = n ∧ i < j)) then hiL (wrd L i) (L.getD i 0) else []
/-- slices of slices that the call owns: block q, n of them, what each holds -/
def WO (w : World) (q n : Nat) (f : Nat → List Nat) : Prop :=
  ∃ cs : Array Value, Blk w q 42 cs ∧ cs.size = n ∧ ∀ i, i < n → ∃ v, cs[i]? = some v ∧ OI w (q + 1) v (zl (f i))
theorem WO.below {w w' : World} {q n : Nat} {f : Nat → List Nat} (h : WO w q n f) (hb : Below w.heap.size w w') : WO w' q n f := by
  obtain ⟨cs, h1, h2, h3⟩ := h
  exact ⟨cs, h1.below hb h1.lt, h2, fun i hi => let ⟨v, a, b⟩ := h3 i hi; ⟨v, a, b.below hb⟩⟩
theorem WO.cong {w : World} {q n : Nat} {f f' : Nat → List Nat} (h : WO w q n f) (hf : ∀ i, i < n → f i = f' i) : WO w q n f' := by
  obtain ⟨cs, h1, h2, h3⟩ := h
  exact ⟨cs, h1, h2, fun i hi => by rw [← hf i hi]; exact h3 i hi⟩
theorem WO.cell {w : World} {q n : Nat} {f : Nat → List Nat} (h : WO w q n f) (i : Nat) (hi : i < n) : ∃ v, w.cell? ⟨q, i, none⟩ = some v ∧ OI w (q + 1) v (zl (f i)) ∧ w.frozen? ⟨q, i, none⟩ = false := by
  obtain ⟨cs, h1, h2, h3⟩ := h
  obtain ⟨v, a, b⟩ := h3 i hi
  exact ⟨v, (h1.cell i).trans a, b, h1.frozen i⟩
theorem WO.put {w : World} {q n : Nat} {f : Nat → List Nat} (h : WO w q n f) (i : Nat) (hi : i < n) (v : Value) (l : List Nat) (hv : OI w (q + 1) v (zl l)) : WO (w.setCell ⟨q, i, none⟩ v) q n (fun k => if k = i then l else f k) := by
  obtain ⟨cs, h1, h2, h3⟩ := h
  have key : ∀ {u : Value} {m : List Int}, OI w (q + 1) u m → OI (w.setCell ⟨q, i, none⟩ v) (q + 1) u m := fun hu =>
    ownsRow_setCell_other hu (a := ⟨q, i, none⟩) (fun hc => by have := OI.block hu q hc; omega) _
  refine ⟨_, h1.set_ i v, by rw [Array.size_setIfInBounds]; exact h2, fun k hk => ?_⟩
  by_cases hki : k = i
  · subst hki
    refine ⟨v, ?_, ?_⟩
    · rw [Array.getElem?_setIfInBounds, if_pos rfl, if_pos (by omega)]
    · simp only [if_pos]; exact key hv
  · obtain ⟨u, a, b⟩ := h3 k hk
    refine ⟨u, ?_, ?_⟩
    · rw [Array.getElem?_setIfInBounds, if_neg (fun h => hki h.symm)]; exact a
    · simp only [if_neg hki]; exact key b
theorem info_ints : (Try.prog.info? 42).map (fun i => (i.zero, i.size, i.bytes)) = some (some (.slice none 0 0), 1, 24) := by kernel_rfl
theorem make_rows (m : Nat) (hm : m ≤ 1048576) (w : World) :
    (Instr.makeSlice 73 (.int .i64 (m : Int)) (.int .i64 (m : Int))).run Try.prog w = .ok (.slice (some ⟨w.heap.size, 0, none⟩) m m) (w.alloc (.cells (madeCells #[.slice none 0 0] m) 42)) :=
  run_make_row' 73 42 (.slice none 0 0) 24 Try.underlying73 info_ints rfl .i64 .i64 m (by omega) (by omega) w
theorem WO.made (w : World) (m : Nat) : WO (w.alloc (.cells (madeCells #[.slice none 0 0] m) 42)) w.heap.size m (fun _ => []) := by
  refine ⟨_, Blk.new w _ _, by rw [size_madeCells]; first | done | simp, fun i hi => ⟨.slice none 0 0, ?_, OI.nil _ _⟩⟩
  rw [← Array.getElem?_toList, toList_madeCells_one, List.getElem?_replicate, if_pos hi]
theorem wF_start (L : List Nat) (i : Nat) : wF L 1 0 i = [] := by unfold wF; rw [if_neg (by omega)]
theorem wF_hit (L : List Nat) (n j : Nat) (hn : 1 ≤ n) (h : L.getD j 0 = n) : (fun k => if k = j then hiL (wrd L j) n else wF L n j k) = wF L n (j + 1) := by
  funext k
  by_cases hk : k = j
  · subst hk
    rw [if_pos rfl]
    unfold wF
    rw [if_pos (by omega), h]
  · rw [if_neg hk]
    unfold wF
    by_cases h1 : L.getD k 0 ≠ 0 ∧ (L.getD k 0 < n ∨ (L.getD k 0 = n ∧ k < j))
    · rw [if_pos h1, if_pos (by omega)]
    · rw [if_neg h1, if_neg (by omega)]
theorem wF_miss (L : List Nat) (n j : Nat) (h : L.getD j 0 ≠ n) : wF L n j = wF L n (j + 1) := by
  funext k
  unfold wF
  by_cases h1 : L.getD k 0 ≠ 0 ∧ (L.getD k 0 < n ∨ (L.getD k 0 = n ∧ k < j))
  · rw [if_pos h1, if_pos (by omega)]
  · rw [if_neg h1, if_neg]
    intro h2
    rcases h2.2 with h3 | ⟨h3, h4⟩
    · exact h1 ⟨h2.1, .inl h3⟩
    · rcases Nat.lt_or_ge k j with h5 | h5
      · exact h1 ⟨h2.1, .inr ⟨h3, h5⟩⟩
      · obtain rfl : k = j := by omega
        exact h h3
theorem wF_next (L : List Nat) (n : Nat) (i : Nat) (hi : i < L.length) : wF L n L.length i = wF L (n + 1) 0 i := by
  unfold wF
  by_cases h1 : L.getD i 0 ≠ 0 ∧ (L.getD i 0 < n ∨ (L.getD i 0 = n ∧ i < L.length))
  · rw [if_pos h1, if_pos (by omega)]
  · rw [if_neg h1, if_neg (by omega)]
/-- all words -/
def wordF (L : List Nat) (i : Nat) : List Nat := if L.getD i 0 ≠ 0 then hiL (wrd L i) (L.getD i 0) else []
theorem wF_end (L : List Nat) (i : Nat) (h : L.getD i 0 ≤ 15) : wF L 16 0 i = wordF L i := by
  unfold wF wordF
  by_cases h0 : L.getD i 0 ≠ 0
  · rw [if_pos ⟨h0, .inl (by omega)⟩, if_pos h0]
  · rw [if_neg (fun h => h0 h.1), if_neg h0]
theorem getD15 {L : List Nat} (h : ∀ x ∈ L, x ≤ 15) (i : Nat) : L.getD i 0 ≤ 15 := by
  rcases Nat.lt_or_ge i L.length with h1 | h1
  · rw [List.getD_eq_getElem?_getD, List.getElem?_eq_getElem h1]; exact h _ (List.getElem_mem h1)
  · rw [List.getD_eq_getElem?_getD, List.getElem?_eq_none h1]; exact Nat.zero_le _
set_option maxRecDepth 100000 in
set_option maxHeartbeats 4000000 in
theorem Words_calls (A : Option Addr) (L : List Nat) (c : Nat) (w : World) (hl : IR w A (zl L)) (hn : L.length ≤ 288) (h15 : ∀ x ∈ L, x ≤ 15) (hk : kr L ≤ 32768) :
    Calls Try.prog 47 #[.slice A L.length c] w fun e w' => ∃ q, e = .returned (.slice (some ⟨q, 0, none⟩) L.length L.length) ∧ WO w' q L.length (wordF L) ∧ w.heap.size ≤ q ∧ Below w.heap.size w w' := by
  have HL := Bx.mk hl
  have H15 := Bx.mk (getD15 h15)
  have HK := Bx.mk hk
  have hmk := make_rows L.length (by omega)
  have W0 := Bx.mk ((WO.made w L.length).cong (fun i _ => (wF_start L i).symm))
  have B0 := Bx.mk (below_alloc1 w (.cells (madeCells #[.slice none 0 0] L.length) 42))
  clear hl h15 hk
  go_enter Try.func47, Try.ntmps47
  go_wp2
  have hq : w.heap.size < (w.alloc (.cells (madeCells #[.slice none 0 0] L.length) 42)).heap.size := by simp
  have hqw : w.heap.size ≤ w.heap.size := Nat.le_refl _
  generalize w.alloc (.cells (madeCells #[.slice none 0 0] L.length) 42) = w1 at W0 B0 hq ⊢
  obtain ⟨q, hqq⟩ : ∃ q, q = w.heap.size := ⟨_, rfl⟩
  rw [← hqq] at W0 hq ⊢
  have HQ := Bx.mk hqq
  clear hqw hqq hmk
  go_loopw [4, 5] (fun x i wr => ∃ n : Nat, 1 ≤ n ∧ n ≤ 16 ∧ i = .int .i64 (n : Nat) ∧ x = .int .i64 (fc L n : Nat) ∧ Bx (WO wr q L.length (wF L n 0)) ∧ Bx (q < wr.heap.size) ∧ Bx (Below w.heap.size w wr)) (fun _ i _ => 16 - (intOf i).toNat)
  case atStart => exact ⟨1, by omega, by omega, rfl, rfl, W0, ⟨hq⟩, B0⟩
  case round =>
    obtain ⟨n, hn1, hn2, rfl, rfl, HW, HZ, HB⟩ := hrel
    by_cases hlt : n ≤ 15
    · have hd15 : decide ((n : Int) ≤ 15) = true := by simp; omega
      have hfit := fc_fit L HK.out n hlt
      have hp15 : 2 ^ n ≤ 32768 := Nat.le_trans (Nat.pow_le_pow_right (by decide) hlt) (by decide)
      have hcn : cnt L n = (syms L n 0).length := by unfold cnt; rw [if_neg (by omega)]
      have HCN := Bx.mk hcn
      have hb1 : fc L n + (syms L n 0).length ≤ 32768 := by omega
      have HFIT : Bx (fc L n + (syms L n 0).length ≤ 2 ^ n) := ⟨by omega⟩
      clear hfit hp15 hcn
      go_wp2
      obtain ⟨wo, hwo⟩ : ∃ wo : World, wo = wr := ⟨_, rfl⟩
      rw [← hwo]
      rw [← hwo] at HW HZ HB
      clear hwo
      go_loopw [4, 6] (fun x i wr => ∃ j : Nat, j ≤ L.length ∧ i = .int .i64 (j : Nat) ∧ x = .int .i64 ((fc L n + (syms (L.take j) n 0).length : Nat) : Int) ∧ Bx (WO wr q L.length (wF L n j)) ∧ Bx (q < wr.heap.size) ∧ Bx (Below w.heap.size w wr)) (fun _ i _ => L.length - (intOf i).toNat)
      case atStart => exact ⟨0, Nat.zero_le _, rfl, by simp [syms], HW, HZ, HB⟩
      case round =>
        obtain ⟨j, hj, rfl, rfl, HWj, HZj, HBj⟩ := hrel
        have hsl : (syms (L.take j) n 0).length ≤ (syms L n 0).length := by
          conv => rhs; rw [← List.take_append_drop j L, syms_app, List.length_append]
          omega
        by_cases hjl : j < L.length
        · obtain ⟨ad, rfl, hd⟩ := (HL.out.below HBj.out) (by rw [zl_length]; omega)
          have hg := hd j (by rw [zl_length]; exact hjl)
          rw [zl_get] at hg
          have HT := syms_take L n j hjl
          by_cases hx : L.getD j 0 = n
          · rw [if_pos hx] at HT
            have HT2 : Bx ((syms (L.take (j + 1)) n 0).length = (syms (L.take j) n 0).length + 1) := ⟨by rw [HT, List.length_append]; rfl⟩
            have hwd : wrd L j = fc L n + (syms (L.take j) n 0).length := by unfold wrd; rw [hx]; rfl
            have HF := Bx.mk (wF_hit L n j hn1 hx)
            have hi := High_calls (fc L n + (syms (L.take j) n 0).length) n wr (by omega) (by omega)
            rw [show (lowL (fc L n + (syms (L.take j) n 0).length) n).reverse = hiL (wrd L j) n by rw [hwd]; rfl] at hi
            rw [hx] at hg
            have HI := Bx.mk hi
            clear HT hi hwd hd hx
            generalize decide (fc L n + (syms (L.take j) n 0).length < 2 ^ n) = okb at HI
            generalize hS : fc L n + (syms (L.take j) n 0).length = S at *
            have HS := Bx.mk hS
            have hSb : S ≤ 32768 := by omega
            clear hS hsl
            go_wp2_with fail
            refine HI.out.mono ?_
            rintro e w5 ⟨v5, rfl, ho5, hb5⟩
            have hv5 := OI.le ho5 (show q + 1 ≤ wr.heap.size from HZj.out)
            obtain ⟨A5, c5, rfl⟩ := hv5.form
            have W5 := (HWj.out.below hb5)
            have W6 := Bx.mk (W5.put j hjl _ _ hv5)
            obtain ⟨u, k1, -, k2⟩ := W5.cell j hjl
            have Z6 : Bx (q < w5.heap.size) := ⟨Nat.lt_of_lt_of_le HZj.out hb5.size⟩
            have B6 := Bx.mk ((below_then HBj.out HBj.out.size hb5).setCell (p := ⟨q, j, none⟩) (Nat.le_of_eq HQ.out.symm) (.slice A5 (zl (hiL (wrd L j) n)).length c5))
            generalize (zl (hiL (wrd L j) n)).length = zz at *
            clear ho5 hb5 hv5 W5
            go_wp2
            go_roundw
            case rel => exact ⟨j + 1, by omega, by go_num, by rw [HT2.out, ← Nat.add_assoc, HS.out]; go_num, ⟨by rw [← HF.out]; exact W6.out⟩, ⟨by simp [World.setCell]; exact Z6.out⟩, B6⟩
            case measure => simp [intOf]; omega
          · rw [if_neg hx, List.append_nil] at HT
            have HF : Bx (WO wr q L.length (wF L n (j + 1))) := ⟨by rw [← wF_miss L n j hx]; exact HWj.out⟩
            have hne : (((L.getD j 0 : Nat) : Int) == (n : Int)) = false := beq_false_of_ne (by omega)
            have HT2 := Bx.mk HT
            clear HT hd hx
            generalize L.getD j 0 = X at *
            generalize hS : fc L n + (syms (L.take j) n 0).length = S at *
            have HS := Bx.mk hS
            clear hS hsl
            go_wp2
            go_roundw
            case rel => exact ⟨j + 1, by omega, by go_num, by rw [HT2.out, HS.out], HF, HZj, HBj⟩
            case measure => simp [intOf]; omega
        · obtain rfl : j = L.length := by omega
          rw [List.take_length]
          have HW2 : Bx (WO wr q L.length (wF L (n + 1) 0)) := ⟨HWj.out.cong fun i hi => wF_next L n i hi⟩
          have HFC : Bx (fc L (n + 1) = 2 * (fc L n + (syms L n 0).length)) := ⟨by rw [← HCN.out]; rfl⟩
          clear hsl
          generalize fc L n + (syms L n 0).length = S at *
          go_wp2
          go_roundw
          case rel => exact ⟨n + 1, by omega, by omega, by go_num, by rw [HFC.out]; first | (congr 1; done) | (congr 1; omega), HW2, HZj, HBj⟩
          case measure => simp [intOf]; omega
    · obtain rfl : n = 16 := by omega
      have HW2 : Bx (WO wr q L.length (wordF L)) := ⟨HW.out.cong fun i hi => wF_end L i (H15.out i)⟩
      go_wp2
      go_ret
      exact ⟨q, rfl, HW2.out, Nat.le_of_eq HQ.out.symm, HB.out⟩
end Go.Proofs.Ytnncnjkpjlpodaa
