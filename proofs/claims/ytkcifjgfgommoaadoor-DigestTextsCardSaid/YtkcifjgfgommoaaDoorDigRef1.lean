import Derived.Test.YtkcifjgfgommoaaDoorDig6
import Derived.StillTailTactics
/-
  The reference's words: slices of words that a call owns; word, right, start, digit, row.
-/
namespace Go.Proofs.YtkcifjgfgommoaaDoor
open Go.RowKit

theorem ws_app (l m : List Nat) : ws (l ++ m) = ws l ++ ws m := by simp [ws]
theorem ws_at (l : List Nat) (j : Nat) (h : j < l.length) : (ws l)[j]? = some (.int .u32 ((l.getD j 0 : Nat) : Int)) := by
  unfold ws
  rw [List.getElem?_map, List.getD_eq_getElem?_getD, List.getElem?_eq_getElem h]; rfl
theorem ws_set (l : List Nat) (j x : Nat) : ws (l.set j x) = (ws l).set j (.int .u32 (x : Int)) := by
  unfold ws; rw [List.map_set]
/-- words that are read -/
def RW (w : World) (A : Option Addr) (l : List Nat) : Prop := 0 < l.length → ∃ ad, A = some ad ∧ ∀ j, j < l.length → w.cell? (ad.add j) = some (.int .u32 ((l.getD j 0 : Nat) : Int))
theorem RW.below {w w1 : World} {A : Option Addr} {l : List Nat} (h : RW w A l) (hb : Below w.heap.size w w1) : RW w1 A l :=
  fun hn => let ⟨ad, e, hc⟩ := h hn; ⟨ad, e, fun j hj => cell_below hb (hc j hj)⟩
theorem RW.reads {w : World} {A : Option Addr} {l : List Nat} (h : RW w A l) : Reads w w.heap.size 1 A l.length (ws l) := by
  refine ⟨by rw [ws_len, Nat.mul_one], fun hn => ?_⟩
  obtain ⟨ad, rfl, hc⟩ := h hn
  refine ⟨ad, rfl, ?_, fun j u hu => ?_⟩
  · have := World.block_lt_of_cell? w _ (hc 0 hn)
    rwa [block_of_add] at this
  · have hj : j < l.length := by
      have := (List.getElem?_eq_some_iff.1 hu).1
      rwa [ws_len] at this
    rw [ws_at l j hj] at hu
    rw [hc j hj]; exact hu
/-- words that the call owns -/
def OW (w : World) (base : Nat) (v : Value) (l : List Nat) : Prop := w.ownsRow base 38 1 v l.length (ws l)
theorem OW.form {w : World} {base : Nat} {v : Value} {l : List Nat} (h : OW w base v l) : ∃ A c, v = .slice A l.length c := by
  rcases h.2 with ⟨rfl, h0⟩ | ⟨g, cap, cur, rfl, _⟩
  · exact ⟨none, 0, by rw [h0]⟩
  · exact ⟨_, cap, rfl⟩
theorem info_word : (Tryd.prog.info? 38).map (fun i => (i.zero, i.size, i.bytes)) = some (some (.int .u32 0), 1, 4) := by kernel_rfl
/-- 'append(v, l...)', words onto words that the call owns -/
theorem wpList_append_words {ops : Array Oper} {rest : List Oper} {o : Oper} {a : Act} {Q : Exit → Act → World → Prop} (w : World) (hgd : o.guard = none) (s x : Operand)
    (ho : o.op = .call { callee := .builtin .append, args := #[s, x], argTypes := #[44, 44] })
    (base : Nat) (v : Value) (xs l : List Nat) (hs : a.eval s = v) (hown : OW w base v xs) (A : Option Addr) (c : Nat) (hx : a.eval x = .slice A l.length c) (hr : RW w A l)
    (hlen : (xs.length + l.length) * 4 ≤ 140737488355328) (hbase : base ≤ w.heap.size)
    (h : ∀ v' w', OW w' base v' (xs ++ l) → w.grownBy w' v.ownBlock → (v'.ownBlock = v.ownBlock ∨ v'.ownBlock = some w.heap.size) → wpList Tryd.prog ops Q rest (a.put o.dst v') w') :
    wpList Tryd.prog ops Q (o :: rest) a w := by
  obtain ⟨i, hi, hzz⟩ := Option.map_eq_some_iff.1 info_word
  simp only [Prod.mk.injEq] at hzz
  obtain ⟨hz, h1, hb⟩ := hzz
  refine wpList_append_any w hgd s x 44 ho base 38 i (.int .u32 0) 1 4 Tryd.underlying44 hi hz h1 hb rfl (by omega) v xs.length (ws xs) hs hown w.heap.size A l.length c (ws l) hx hr.reads (ws_one l)
    (by unfold maxLen; omega) (by omega) hbase ?_
  intro v' w' ho' hg hat
  exact h v' w' (by unfold OW; rw [ws_app, List.length_append]; exact ho') hg hat
theorem ownW_empty (w : World) : OW (w.alloc (.cells #[] 38)) w.heap.size (.slice (some ⟨w.heap.size, 0, none⟩) 0 0) [] :=
  ⟨rfl, .inr ⟨w.heap.size, 0, #[], rfl, Nat.le_refl _, heap_alloc_new w _, Nat.le_refl _, by unfold maxLen; omega, rfl, rfl⟩⟩
theorem OW.block {w : World} {base : Nat} {v : Value} {l : List Nat} (h : OW w base v l) (k : Nat) (hk : v.ownBlock = some k) : base ≤ k := by
  rcases h.2 with ⟨rfl, _⟩ | ⟨g, cap, cur, rfl, hb, _⟩
  · simp [Value.ownBlock] at hk
  · have : g = k := by simpa [Value.ownBlock] using hk
    omega
theorem OW.opened {w : World} {base : Nat} {A : Option Addr} {n c : Nat} {l : List Nat} (h : OW w base (.slice A n c) l) (hp : 0 < l.length) :
    ∃ g, A = some ⟨g, 0, none⟩ ∧ n = l.length ∧ base ≤ g ∧ g < w.heap.size ∧ (∀ j, j < l.length → w.cell? ⟨g, j, none⟩ = some (.int .u32 ((l.getD j 0 : Nat) : Int))) ∧ (∀ j, w.frozen? ⟨g, j, none⟩ = false) := by
  obtain ⟨_, h⟩ := h
  rcases h with ⟨_, h0⟩ | ⟨g, cap, cur, he, hb, hh, h1, h2, h3, h4⟩
  · omega
  · simp only [Value.slice.injEq] at he
    obtain ⟨rfl, rfl, rfl⟩ := he
    refine ⟨g, rfl, rfl, hb, (Array.getElem?_eq_some_iff.1 hh).1, fun j hj => ?_, fun j => by simp [World.frozen?, hh]⟩
    have hx : cur.toList[j]? = some (.int .u32 ((l.getD j 0 : Nat) : Int)) := by
      have : (List.take (l.length * 1) cur.toList)[j]? = some (.int .u32 ((l.getD j 0 : Nat) : Int)) := by rw [h4, ws_at l j hj]
      rw [List.getElem?_take] at this
      split at this
      · exact this
      · cases this
    simp only [World.cell?, hh]
    simpa using hx
theorem OW.put {w : World} {base g n c : Nat} {l : List Nat} (h : OW w base (.slice (some ⟨g, 0, none⟩) n c) l) (j x : Nat) :
    OW (w.setCell ⟨g, j, none⟩ (.int .u32 (x : Int))) base (.slice (some ⟨g, 0, none⟩) n c) (l.set j x) := by
  obtain ⟨h0, h⟩ := h
  refine ⟨by rw [ws_len, Nat.mul_one], ?_⟩
  rcases h with ⟨he, _⟩ | ⟨g', cap, cur, he, hb, hh, h1, h2, h3, h4⟩
  · cases he
  · simp only [Value.slice.injEq, Option.some.injEq, Addr.mk.injEq] at he
    obtain ⟨⟨rfl, _, _⟩, rfl, rfl⟩ := he
    refine .inr ⟨g, c, cur.setIfInBounds j (.int .u32 (x : Int)), by rw [List.length_set], hb, ?_, by rw [List.length_set]; exact h1, h2, by rw [Array.size_setIfInBounds]; exact h3, ?_⟩
    · simp [World.setCell, Array.getElem?_modify, hh]
    · rw [List.length_set, Array.toList_setIfInBounds, List.take_set, h4, ws_set]
theorem OW.kept {w w' : World} {base : Nat} {v : Value} {l : List Nat} (h : OW w base v l) (hb : Below w.heap.size w w') : OW w' base v l := by
  obtain ⟨h0, h⟩ := h
  refine ⟨h0, ?_⟩
  rcases h with h | ⟨g, cap, cur, he, hbb, hh, r⟩
  · exact .inl h
  · exact .inr ⟨g, cap, cur, he, hbb, (hb.block g (Array.getElem?_eq_some_iff.1 hh).1).trans hh, r⟩
/-- .. where its own block alone is as it was -/
theorem OW.same {w w' : World} {base g n c : Nat} {l : List Nat} (h : OW w base (.slice (some ⟨g, 0, none⟩) n c) l) (hb : w'.heap[g]? = w.heap[g]?) : OW w' base (.slice (some ⟨g, 0, none⟩) n c) l := by
  obtain ⟨h0, h⟩ := h
  refine ⟨h0, ?_⟩
  rcases h with h | ⟨g', cap, cur, he, hbb, hh, r⟩
  · exact .inl h
  · have he2 := he
    simp only [Value.slice.injEq, Option.some.injEq, Addr.mk.injEq] at he2
    obtain ⟨⟨rfl, _, _⟩, _, _⟩ := he2
    exact .inr ⟨g, cap, cur, he, hbb, hb.trans hh, r⟩
theorem OW.rw_ {w : World} {base : Nat} {A : Option Addr} {n c : Nat} {l : List Nat} (h : OW w base (.slice A n c) l) : RW w A l := fun hp => by
  obtain ⟨g, rfl, _, _, _, hc, _⟩ := h.opened hp
  exact ⟨_, rfl, fun j hj => by rw [add_plain]; exact hc j hj⟩
theorem word_sum (a b c d : Nat) (ha : a < 256) (hb : b < 256) (hc : c < 256) : ((a ||| b <<< 8) ||| c <<< 16) ||| d <<< 24 = a + b * 256 + c * 65536 + d * 16777216 := by
  rw [Nat.or_comm a, ← Nat.shiftLeft_add_eq_or_of_lt (by omega : a < 2 ^ 8)]
  have e1 : b <<< 8 + a < 2 ^ 16 := by rw [Nat.shiftLeft_eq]; omega
  rw [Nat.or_comm (b <<< 8 + a), ← Nat.shiftLeft_add_eq_or_of_lt e1]
  have e2 : c <<< 16 + (b <<< 8 + a) < 2 ^ 24 := by rw [Nat.shiftLeft_eq, Nat.shiftLeft_eq]; omega
  rw [Nat.or_comm (c <<< 16 + (b <<< 8 + a)), ← Nat.shiftLeft_add_eq_or_of_lt e2, Nat.shiftLeft_eq, Nat.shiftLeft_eq, Nat.shiftLeft_eq]
  omega
set_option maxHeartbeats 1000000 in
theorem rword_calls (A : Option Addr) (l : List Nat) (c : Nat) (w : World) (hA : RB w A l) (hl : l.length = 4) :
    Calls Tryd.prog 28 #[.slice A 4 c] w fun e w' => e = .returned (.int .u32 ((wordOf l 0 : Nat) : Int)) ∧ ∃ k, w' = w.drewN k := by
  obtain ⟨hb, _, hc⟩ := hA
  obtain ⟨ad, rfl, hcell⟩ := hc (by omega)
  have c0 := hcell 0 (by omega)
  rw [show ad.add 0 = ad by unfold Addr.add; rw [if_pos rfl]] at c0
  have c1 := hcell 1 (by omega)
  have c2 := hcell 2 (by omega)
  have c3 := hcell 3 (by omega)
  rw [show ad.add 1 = ⟨ad.block, ad.off + 1, none⟩ from add_succ ad 0] at c1
  rw [show ad.add 2 = ⟨ad.block, ad.off + 2, none⟩ from add_succ ad 1] at c2
  rw [show ad.add 3 = ⟨ad.block, ad.off + 3, none⟩ from add_succ ad 2] at c3
  have b0 := byte_lt hb 0
  have b1 := byte_lt hb 1
  have b2 := byte_lt hb 2
  have b3 := byte_lt hb 3
  have hs := word_sum (l.getD 0 0) (l.getD 1 0) (l.getD 2 0) (l.getD 3 0) b0 b1 b2
  have HW : Bx (wordOf l 0 = l.getD 0 0 + l.getD 1 0 * 256 + l.getD 2 0 * 65536 + l.getD 3 0 * 16777216) := ⟨hs⟩
  clear hs hcell hc hb hl
  generalize wordOf l 0 = WW at *
  generalize l.getD 0 0 = x0 at *
  generalize l.getD 1 0 = x1 at *
  generalize l.getD 2 0 = x2 at *
  generalize l.getD 3 0 = x3 at *
  have w0 : IntKind.u32.wrap (x0 : Int) = x0 := by rw [IntKind.wrap_u32]; omega
  have w1 : IntKind.u32.wrap (x1 : Int) = x1 := by rw [IntKind.wrap_u32]; omega
  have w2 : IntKind.u32.wrap (x2 : Int) = x2 := by rw [IntKind.wrap_u32]; omega
  have w3 : IntKind.u32.wrap (x3 : Int) = x3 := by rw [IntKind.wrap_u32]; omega
  have m1 : IntKind.u32.wrap ((x1 : Int) * 256) = (x1 : Int) * 256 := by rw [IntKind.wrap_u32]; omega
  have m2 : IntKind.u32.wrap ((x2 : Int) * 65536) = (x2 : Int) * 65536 := by rw [IntKind.wrap_u32]; omega
  have m3 : IntKind.u32.wrap ((x3 : Int) * 16777216) = (x3 : Int) * 16777216 := by rw [IntKind.wrap_u32]; omega
  have s1 : IntKind.u32.wrap ((x0 : Int) + (x1 : Int) * 256) = (x0 : Int) + (x1 : Int) * 256 := by rw [IntKind.wrap_u32]; omega
  have s2 : IntKind.u32.wrap ((x0 : Int) + (x1 : Int) * 256 + (x2 : Int) * 65536) = (x0 : Int) + (x1 : Int) * 256 + (x2 : Int) * 65536 := by rw [IntKind.wrap_u32]; omega
  have s3 : IntKind.u32.wrap ((x0 : Int) + (x1 : Int) * 256 + (x2 : Int) * 65536 + (x3 : Int) * 16777216) = (x0 : Int) + (x1 : Int) * 256 + (x2 : Int) * 65536 + (x3 : Int) * 16777216 := by rw [IntKind.wrap_u32]; omega
  go_enter Tryd.func28, Tryd.ntmps28
  go_wp2
  go_quiet (fail)
  go_wp2
  go_ret
  exact ⟨ret_int (by rw [HW.out]; omega), _, rfl⟩
theorem right_calls (x n : Nat) (w : World) (hx : x < 4294967296) (hn : n = 16 ∨ n = 12 ∨ n = 8 ∨ n = 7) :
    Calls Tryd.prog 33 #[.int .u32 x, .int .u64 n] w fun e w' => e = .returned (.int .u32 (rotr x n : Nat)) ∧ w' = w := by
  have hs := rotr_split x n hx
  have hlt : x >>> n < 4294967296 := by rw [Nat.shiftRight_eq_div_pow]; exact Nat.lt_of_le_of_lt (Nat.div_le_self _ _) hx
  have ho := u32_or_nat (x >>> n) ((x <<< (32 - n)) % 4294967296) hlt (by omega)
  rw [Nat.or_comm, ← hs] at ho
  clear hs hlt
  generalize rotr x n = R at ho
  rw [Nat.shiftRight_eq_div_pow, Nat.shiftLeft_eq] at ho
  have HO := Bx.mk ho
  clear ho
  rcases hn with rfl | rfl | rfl | rfl
  all_goals
    go_enter Tryd.func33, Tryd.ntmps33
    go_wp2
    go_ret
    exact ⟨ret_int (by have h := HO.out; simpa using h), rfl⟩
theorem start_calls (w : World) : Calls Tryd.prog 23 #[] w fun e w' => ∃ v, e = .returned v ∧ OW w' w.heap.size v ivL ∧ Below w.heap.size w w' := by
  go_enter Tryd.func23, Tryd.ntmps23
  go_wp2
  go_ret
  refine ⟨_, rfl, ?_, (Below.refl _ _).alloc (Nat.le_refl _) _⟩
  exact ⟨rfl, .inr ⟨w.heap.size, 8, _, rfl, Nat.le_refl _, heap_alloc_new w _, Nat.le_refl _, by unfold maxLen; omega, rfl, rfl⟩⟩
/-- a digit's value; 16: none -/
def digV (c : Nat) : Nat := if 48 ≤ c ∧ c ≤ 57 then c - 48 else if 97 ≤ c ∧ c ≤ 102 then c - 87 else 16
theorem digit_calls (c : Nat) (w : World) (hc : c < 256) : Calls Tryd.prog 26 #[.int .u8 c] w fun e w' => e = .returned (.int .u8 (digV c : Nat)) ∧ w' = w := by
  by_cases h1 : 48 ≤ c
  · by_cases h2 : c ≤ 57
    · have hv : digV c = c - 48 := if_pos ⟨h1, h2⟩
      have HV := Bx.mk hv
      clear hv
      go_enter Tryd.func26, Tryd.ntmps26
      go_wp2
      go_ret
      exact ⟨ret_int (by rw [HV.out]; omega), rfl⟩
    · by_cases h3 : 97 ≤ c
      · by_cases h4 : c ≤ 102
        · have hv : digV c = c - 87 := by unfold digV; rw [if_neg (by omega), if_pos ⟨h3, h4⟩]
          have HV := Bx.mk hv
          clear hv
          go_enter Tryd.func26, Tryd.ntmps26
          go_wp2
          go_ret
          exact ⟨ret_int (by rw [HV.out]; omega), rfl⟩
        · have hv : digV c = 16 := by unfold digV; rw [if_neg (by omega), if_neg (by omega)]
          have HV := Bx.mk hv
          clear hv
          go_enter Tryd.func26, Tryd.ntmps26
          go_wp2
          go_ret
          exact ⟨ret_int (by rw [HV.out]; rfl), rfl⟩
      · have hv : digV c = 16 := by unfold digV; rw [if_neg (by omega), if_neg (by omega)]
        have HV := Bx.mk hv
        clear hv
        go_enter Tryd.func26, Tryd.ntmps26
        go_wp2
        go_ret
        exact ⟨ret_int (by rw [HV.out]; rfl), rfl⟩
  · have hv : digV c = 16 := by unfold digV; rw [if_neg (by omega), if_neg (by omega)]
    have HV := Bx.mk hv
    clear hv
    have h3 : ¬ 97 ≤ c := by omega
    go_enter Tryd.func26, Tryd.ntmps26
    go_wp2
    go_ret
    exact ⟨ret_int (by rw [HV.out]; rfl), rfl⟩
def ALL : ByteArray := { data := (([48, 49, 50, 51, 52, 53, 54, 55, 56, 57, 97, 98, 99, 100, 101, 102, 101, 97, 52, 56, 57, 102, 100, 54, 49, 99, 48, 50, 98, 55, 53, 51, 98, 56, 99, 48, 53, 50, 102, 100].append [97, 101, 51, 54, 55, 49, 57, 52, 55, 57, 51, 49, 100, 99, 98, 101, 50, 54, 53, 97, 52, 48, 102, 56, 57, 48, 53, 55, 50, 52, 97, 102, 101, 49, 98, 99, 54, 56, 51, 100]).append ([50, 99, 54, 97, 48, 98, 56, 51, 52, 100, 55, 53, 102, 101, 49, 57, 99, 53, 49, 102, 101, 100, 52, 97, 48, 55, 54, 51, 57, 50, 56, 98, 100, 98, 55, 101, 99, 49, 51, 57].append [53, 48, 102, 52, 56, 54, 50, 97, 54, 102, 101, 57, 98, 51, 48, 56, 99, 50, 100, 55, 49, 52, 97, 53, 97, 50, 56, 52, 55, 54, 49, 53, 102, 98, 57, 101, 51, 99, 100, 48])).toArray }
theorem all_rows : ∀ J, J < 160 → digV ((sb ALL).getD J 0) = rowsF.getD J 0 ∧ (sb ALL).getD J 0 < 256 := by decide +kernel
set_option maxRecDepth 100000 in
theorem row_calls (r i : Int) (w : World) (hr0 : 0 ≤ r) (hr : r < 10) (hi0 : 0 ≤ i) (hi : i < 16) :
    Calls Tryd.prog 30 #[.int .i64 r, .int .i64 i] w fun e w' => e = .returned (.int .i64 ((rowsF.getD (16 * r.toNat + i.toNat) 0 : Nat) : Int)) ∧ w' = w := by
  obtain ⟨R, rfl⟩ := Int.eq_ofNat_of_zero_le hr0
  obtain ⟨I, rfl⟩ := Int.eq_ofNat_of_zero_le hi0
  have hix : ∀ W, (Instr.index 9 (.string ALL) (.int .i64 (16 * (R : Int) + (I : Int)))).run Tryd.prog W = .ok (.int .u8 (((sb ALL).getD (16 * R + I) 0 : Nat) : Int)) W := fun W => by
    have := str_index ALL (16 * R + I) (by rw [sb_len]; show 16 * R + I < 160; omega) W
    rw [show ((16 * R + I : Nat) : Int) = 16 * (R : Int) + (I : Int) by omega] at this
    exact this
  have hv := all_rows (16 * R + I) (by omega)
  have HD := Bx.mk (fun W => digit_calls _ W hv.2)
  have HV : Bx (digV ((sb ALL).getD (16 * R + I) 0) = rowsF.getD (16 * (R : Int).toNat + (I : Int).toNat) 0) := ⟨hv.1⟩
  have hlt : digV ((sb ALL).getD (16 * R + I) 0) < 17 := by unfold digV; split <;> (try split) <;> omega
  clear hv
  go_enter Tryd.func30, Tryd.ntmps30
  go_upto_region 2 with fail
  change Code.wp _ _ _ ⟨#[.int .i64 (R : Int), .int .i64 (I : Int), undef, undef, .int .i64 0, .string ALL, undef, undef, undef, undef, undef, undef, undef, undef], []⟩ w
  generalize (sb ALL).getD (16 * R + I) 0 = C at *
  generalize ALL = S at *
  go_wp2_with fail
  refine (HD.out w).mono ?_
  rintro e w1 ⟨rfl, rfl⟩
  go_wp2
  go_ret
  exact ⟨ret_int (by rw [HV.out]), rfl⟩
end Go.Proofs.YtkcifjgfgommoaaDoor
