import Derived.Test.YtkcifjgfgommoaaDoorDigRef3
import Derived.Lib.AppendZeros
/-
  The reference: noughts appended; Keyed, as plain functions.
-/
namespace Go.Proofs.YtkcifjgfgommoaaDoor
open Go.RowKit

theorem zeroCells_u8 (m : Nat) : Builtin.zeroCells (Value.int .u8 0).cells m = (List.replicate m (Value.int .u8 0)).toArray := by
  apply Array.ext'
  apply List.ext_getElem
  · simp [Builtin.zeroCells, Value.cells]
  · intro i h1 h2
    simp [Builtin.zeroCells, Value.cells, Nat.mod_one]
/-- append(v, make([]byte, m)...), onto bytes that the call owns -/
theorem run_append_zeros (w : World) (base : Nat) (ty : TypeId) (v : Value) (xs : List Nat) (m : Nat) (hown : OB w base v xs) (hpos : 0 < xs.length) (hm : 0 < m) (hlen : xs.length + m ≤ 1000000) (hbase : base ≤ w.heap.size) :
    ∃ v' w', (Builtin.append_ #[22, 3] ty #[v, .int .i64 (m : Int)]).run Tryd.prog w = .ok v' w' ∧ OB w' base v' (xs ++ List.replicate m 0) ∧ w.grownBy w' v.ownBlock := by
  obtain ⟨i, hi, hzz⟩ := Option.map_eq_some_iff.1 info_byte
  simp only [Prod.mk.injEq] at hzz
  obtain ⟨hz, h1, hb⟩ := hzz
  have ht : Tryd.prog.underlying 22 = some (.slice 5) := Tryd.underlying22
  have hti : Tryd.prog.underlying 3 = some (.int .i64) := Tryd.underlying3
  have hw : IntKind.i64.wrap (m : Int) = m := by rw [IntKind.wrap_i64]; omega
  have hneg : ¬ ((m : Int) < 0) := by omega
  have hm0 : m ≠ 0 := by omega
  have h48 : ¬ (281474976710656 < (m : Int)) := by omega
  have hbs : bs (xs ++ List.replicate m 0) = bs xs ++ List.replicate m (.int .u8 0) := by rw [bs_append, bs_replicate]; rfl
  have hL : (xs ++ List.replicate m 0).length = xs.length + m := by simp
  rcases hown.2 with ⟨_, h0⟩ | ⟨g, cap, cur, rfl, hbg, hg, hnc, hcm, hcs, htake⟩
  · omega
  · by_cases hroom : xs.length + m ≤ cap
    · have hcs' : cur.size = cap := by rw [hcs, Nat.mul_one]
      have hst := run_storeCells_at Tryd.prog g xs.length 5 (List.replicate m (.int .u8 0)) 0 cur w hg (by simp; omega) (fun u hu => by rw [List.eq_of_mem_replicate hu]; rfl)
      simp only [Nat.add_zero] at hst
      refine ⟨.slice (some ⟨g, 0, none⟩) (xs.length + m) cap, w.setRow g (cur.toList.take xs.length ++ List.replicate m (Value.int .u8 0) ++ cur.toList.drop (xs.length + (List.replicate m (Value.int .u8 0)).length)).toArray, ?_, ⟨by rw [hL, bs_length, hL, Nat.mul_one], .inr ⟨g, cap, _, by rw [hL], hbg, setRow_heap w g cur _ 5 _ hg, by rw [hL]; exact hroom, hcm, ?_, ?_⟩⟩, ⟨rfl, rfl, rfl, by simp, fun k _ hk => setRow_other w g k _ (fun e => hk (by simp [Value.ownBlock, e]))⟩⟩
      · simp [Builtin.append_, run_underlying ht, run_underlying hti, sizeOf, typeInfo, zeroValue, hi, hz, h1, hb, asInt, asIntOf, hw, hneg, hm0, hroom, zeroCells_u8, Addr.add_lit, h48]
        simp at hst
        rw [hst]; rfl
      · simp only [List.size_toArray, List.length_append, List.length_take, List.length_drop, Array.length_toList, List.length_replicate]
        omega
      · rw [hL, Nat.mul_one, hbs]
        rw [Nat.mul_one] at htake
        rw [htake]
        have : xs.length + m = (bs xs ++ List.replicate m (Value.int .u8 0)).length := by rw [List.length_append, bs_length, List.length_replicate]
        rw [this]
        exact List.take_left
    · have hge := grownCap_ge w (xs.length + m) cap 5
      have hcm2 : grownCap w (xs.length + m) cap 5 ≤ maxLen := grownCap_le_maxLen w (xs.length + m) cap 5 (by unfold maxLen; omega)
      have holds : ∀ j u, (bs xs)[j]? = some u → w.cell? ((⟨g, 0, none⟩ : Addr).add j) = some u := hown.cells (g := g) rfl
      have hfo := run_firstCells_some (P := Tryd.prog) w.drew 1 xs.length ⟨g, 0, none⟩ xs.length cap (bs xs) (by rw [bs_length, Nat.mul_one]) (by simpa using holds)
      have hfit : Builtin.nextslicecap (xs.length + m) cap * 1 ≤ 281474976710656 := growslice_fits (by omega) (by omega)
      have h63 : ¬ (9223372036854775807 < ((xs.length : Int) + (m : Int))) := by omega
      have h48' : ¬ (281474976710656 < Builtin.nextslicecap (xs.length + m) cap) := by omega
      refine ⟨.slice (some ⟨w.heap.size, 0, none⟩) (xs.length + m) (grownCap w (xs.length + m) cap 5), w.drew.alloc (.cells ((bs xs ++ List.replicate m (Value.int .u8 0)).toArray ++ Builtin.zeroCells (Value.int .u8 0).cells (grownCap w (xs.length + m) cap 5 - (xs.length + m))) 5), ?_, ⟨by rw [hL, bs_length, hL, Nat.mul_one], .inr ⟨w.heap.size, _, _, by rw [hL], hbase, heap_alloc_new w.drew _, by rw [hL]; exact hge, hcm2, ?_, ?_⟩⟩, ⟨rfl, rfl, rfl, by simp, fun k hk _ => Below.heap_alloc w.drew _ k hk⟩⟩
      · simp [Builtin.append_, run_underlying ht, run_underlying hti, sizeOf, typeInfo, zeroValue, hi, hz, h1, hb, asInt, asIntOf, hw, hneg, hm0, hroom, zeroCells_u8, h48, h48', h63, hfo, Question.forced, newRow, grownCap]
        congr 2
        rw [← List.append_toArray, Array.append_assoc]
        congr 1
        apply Array.ext'
        simp
      · simp only [Array.size_append, List.size_toArray, List.length_append, bs_length, List.length_replicate, size_zeroCells, Nat.mul_one]
        rw [show (Value.int .u8 0).cells.size = 1 from rfl, Nat.mul_one]
        omega
      · rw [hL, Nat.mul_one, hbs, Array.toList_append]
        have : xs.length + m = (bs xs ++ List.replicate m (Value.int .u8 0)).length := by rw [List.length_append, bs_length, List.length_replicate]
        rw [this]
        exact List.take_left
/-- 'append(v, make([]byte, m)...)' -/
theorem wpList_append_zeros {ops : Array Oper} {rest : List Oper} {o : Oper} {a : Act} {Q : Exit → Act → World → Prop} (w : World) (hgd : o.guard = none) (s x : Operand)
    (ho : o.op = .call { callee := .builtin .append, args := #[s, x], argTypes := #[22, 3] })
    (base : Nat) (v : Value) (xs : List Nat) (m : Nat) (hs : a.eval s = v) (hown : OB w base v xs) (hx : a.eval x = .int .i64 (m : Int)) (hpos : 0 < xs.length) (hm : 0 < m) (hlen : xs.length + m ≤ 1000000) (hbase : base ≤ w.heap.size)
    (h : ∀ v' w', OB w' base v' (xs ++ List.replicate m 0) → w.grownBy w' v.ownBlock → wpList Tryd.prog ops Q rest (a.put o.dst v') w') :
    wpList Tryd.prog ops Q (o :: rest) a w := by
  obtain ⟨v', w', hr, h1, h2⟩ := run_append_zeros w base o.type v xs m hown hpos hm hlen hbase
  exact Lib.wpList_append_run w hgd s x _ _ ho v _ hs hx v' w' hr (h v' w' h1 h2)
/-- the message: the key with noughts, and the text -/
def refM (key b : List Nat) : List Nat := (if key.length = 0 then [] else pad key) ++ b
theorem xor_first : ∀ k, k ≤ 32 → (1779033703 ^^^ 16842784) ^^^ (256 * k) = 1779033703 ^^^ ((16842752 ||| k * 256) ||| 32) := by decide +kernel
theorem pad_key (key b : List Nat) (hk : key.length ≤ 32) : pad (pad key ++ b) = pad key := by
  unfold pad
  have h1 : (key.take 64 ++ List.replicate (64 - key.length) 0).length = 64 := by simp; omega
  rw [List.take_append_of_le_length (by omega), List.take_of_length_le (by omega)]
  rw [List.length_append, h1, show 64 - (64 + b.length) = 0 by omega, List.replicate_zero, List.append_nil]
theorem ref_run (key b : List Nat) (hk : key.length ≤ 32) : runN (firstH key.length) 0 (refM key b) = keyH key b := by
  unfold refM keyH
  by_cases h : key.length = 0
  · rw [if_pos h, if_pos h, List.nil_append, h]
  · rw [if_neg h, if_neg h]
    have hl : (pad key ++ b).length = 64 + b.length := by rw [List.length_append, pad_len]
    by_cases hb : b.length = 0
    · obtain rfl : b = [] := List.eq_nil_of_length_eq_zero hb
      rw [runN_last _ _ _ (by rw [hl]; simp), pad_key _ _ hk, hl]
      unfold comeN
      rw [if_pos ⟨rfl, rfl⟩, decide_eq_true hb]
      rfl
    · rw [runN_more _ _ _ (by omega), pad_key _ _ hk, decide_eq_false hb]
      unfold comeN
      rw [if_neg (by simp [hb]), show (pad key ++ b).drop 64 = b by rw [show 64 = (pad key).length from (pad_len key).symm]; exact List.drop_left]
/-- how long the message is with noughts behind -/
def upT (n : Nat) : Nat := if n = 0 then 64 else (n + 63) / 64 * 64
/-- what the loop over the blocks still makes -/
def restN (h M : List Nat) (i : Nat) : List Nat := if i < upT M.length then runN h i (M.drop i) else h
theorem upT_ge (n : Nat) : n ≤ upT n ∧ upT n % 64 = 0 ∧ 0 < upT n ∧ upT n < n + 64 + (if n = 0 then 1 else 0) := by
  unfold upT
  split <;> omega
theorem rest_step (h M : List Nat) (i : Nat) (hi : i < upT M.length) (h64 : i % 64 = 0) (hM : i ≤ M.length) :
    restN h M i = restN (pressN h (((M ++ List.replicate (upT M.length - M.length) 0).drop i).take 64) (if upT M.length ≤ i + 64 then M.length else i + 64) (decide (upT M.length ≤ i + 64))) M (i + 64) := by
  have hb : ((M ++ List.replicate (upT M.length - M.length) 0).drop i).take 64 = pad (M.drop i) := by
    have hu := upT_ge M.length
    unfold pad
    refine getD_ext _ _ (by simp; omega) fun j hj => ?_
    have hj64 : j < 64 := by rw [List.length_take] at hj; omega
    rw [List.getD_eq_getElem?_getD, List.getElem?_take, if_pos hj64, List.getElem?_drop]
    rcases Nat.lt_or_ge (i + j) M.length with h1 | h1
    · rw [List.getElem?_append_left h1, List.getD_eq_getElem?_getD, List.getElem?_append_left (by simp; omega), List.getElem?_take, if_pos hj64, List.getElem?_drop]
    · rw [List.getElem?_append_right h1, List.getD_eq_getElem?_getD, List.getElem?_append_right (by simp; omega), List.getElem?_replicate, List.getElem?_replicate]
      simp only [List.length_take, List.length_drop]
      split <;> split <;> rfl
  rw [hb]
  unfold restN
  rw [if_pos hi]
  have hu := upT_ge M.length
  by_cases hl : upT M.length ≤ i + 64
  · rw [runN_last _ _ _ (by rw [List.length_drop]; omega), if_pos hl, decide_eq_true hl, if_neg (by omega), List.length_drop, show i + (M.length - i) = M.length by omega]
  · rw [runN_more _ _ _ (by
      rw [List.length_drop]
      unfold upT at hl
      split at hl <;> omega), if_neg hl, decide_eq_false hl, if_pos (by omega), List.drop_drop]
end Go.Proofs.YtkcifjgfgommoaaDoor
