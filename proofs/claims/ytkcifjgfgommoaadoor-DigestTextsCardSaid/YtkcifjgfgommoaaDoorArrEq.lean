import Derived.Test.YtkcifjgfgommoaaDoorDigWorks
import Derived.Laws.StructEq
/-
  Arrays of bytes: equal, or not.
-/
namespace Go.Proofs.YtkcifjgfgommoaaDoor
open Go.RowKit

theorem part_u8 (w : World) (l : List Nat) (i : Nat) (hi : i < l.length) : (part 5 (u8s l) (i * 1)).run Tryd.prog w = .ok (.int .u8 ((l.getD i 0 : Nat) : Int)) w := by
  obtain ⟨x, hq, hx⟩ := Option.map_eq_some_iff.1 info_byte
  have hs : x.size = 1 := by simp only [Prod.mk.injEq] at hx; exact hx.2.1
  have hagg : (isAgg 5).run Tryd.prog w = .ok false w := by
    unfold isAgg
    rw [Sem.run_bind, run_underlying Tryd.underlying5 w]
    rfl
  have hv := u8s_get l i hi
  simp [part, hagg, sizeOf, typeInfo, hq, hs, hv]
theorem sizeOf_u8 (w : World) : (sizeOf 5).run Tryd.prog w = .ok 1 w := by
  obtain ⟨x, hq, hx⟩ := Option.map_eq_some_iff.1 info_byte
  have hs : x.size = 1 := by simp only [Prod.mk.injEq] at hx; exact hx.2.1
  simp [sizeOf, typeInfo, hq, hs]
theorem eq_loop (d : Nat) (l m : List Nat) (hl : l.length = 32) (hm : m.length = 32) (w : World) : ∀ is : List Nat, (∀ i ∈ is, i < 32) →
    (forIn (m := Sem) is ((none, ()) : Option Bool × Unit) fun i _ => do
      let a ← part 5 (u8s l) (i * 1)
      let b ← part 5 (u8s m) (i * 1)
      let c ← Op.equalIn (d + 1) 5 a b
      if (!c) = true then pure (ForInStep.done (some false, ())) else pure (ForInStep.yield (none, ()))).run Tryd.prog w = .ok (if is.all (fun i => l.getD i 0 == m.getD i 0) then (none, ()) else (some false, ())) w
  | [], _ => by simp [Sem.run_pure]
  | i :: is, h => by
    have hi := h i (by simp)
    have ih := eq_loop d l m hl hm w is (fun j hj => h j (by simp [hj]))
    simp only [List.forIn_cons, Sem.run_bind, part_u8 w l i (by omega), part_u8 w m i (by omega), Result.andThen_ok, run_equalIn_int w d 5 .u8 .u8 _ _ Tryd.underlying5, List.all_cons]
    by_cases he : l.getD i 0 = m.getD i 0
    · have h1 : (((l.getD i 0 : Nat) : Int) == ((m.getD i 0 : Nat) : Int)) = true := beq_iff_eq.2 (by omega)
      have h2 : (l.getD i 0 == m.getD i 0) = true := beq_iff_eq.2 he
      simp only [h1, h2, Bool.not_true, Bool.false_eq_true, if_false, Sem.run_pure, Result.andThen_ok, Bool.true_and]
      exact ih
    · have h1 : (((l.getD i 0 : Nat) : Int) == ((m.getD i 0 : Nat) : Int)) = false := beq_false_of_ne (by omega)
      have h2 : (l.getD i 0 == m.getD i 0) = false := beq_false_of_ne he
      simp only [h1, h2, Bool.not_false, if_true, Sem.run_pure, Result.andThen_ok, Bool.false_and, Bool.false_eq_true, if_false]
theorem all_eq (l m : List Nat) (hl : l.length = 32) (hm : m.length = 32) : (List.range' 0 32 1).all (fun i => l.getD i 0 == m.getD i 0) = decide (l = m) := by
  rw [Bool.eq_iff_iff, List.all_eq_true, decide_eq_true_iff]
  constructor
  · intro h
    refine getD_ext l m (by omega) fun i hi => ?_
    have := h i (by rw [List.mem_range'_1]; omega)
    exact beq_iff_eq.1 this
  · rintro rfl i _
    exact beq_self_eq_true _
theorem equalIn_u8s (d : Nat) (l m : List Nat) (hl : l.length = 32) (hm : m.length = 32) (w : World) : (Op.equalIn (d + 1 + 1) 24 (.agg (u8s l)) (.agg (u8s m))).run Tryd.prog w = .ok (decide (l = m)) w := by
  have hu : Tryd.prog.underlying 24 = some (.array 32 5) := by kernel_rfl
  rw [Op.equalIn]
  simp only [Sem.run_bind, run_underlying hu, Result.andThen_ok, sizeOf_u8]
  rw [Std.Legacy.Range.forIn_eq_forIn_range']
  have h := eq_loop d l m hl hm w (List.range' 0 32 1) (fun i hi => by rw [List.mem_range'_1] at hi; omega)
  rw [all_eq l m hl hm] at h
  rw [show List.range' [:32].start [:32].size [:32].step = List.range' 0 32 1 from rfl, h]
  by_cases he : l = m
  · rw [decide_eq_true he]; simp [Sem.run_pure]
  · rw [decide_eq_false he]; simp [Sem.run_pure]
theorem eql_u8s (l m : List Nat) (hl : l.length = 32) (hm : m.length = 32) (w : World) : (binOp .eql 24 (.agg (u8s l)) (.agg (u8s m))).run Tryd.prog w = .ok (.bool (decide (l = m))) w := by
  rw [run_eql_struct, show (10000 : Nat) = 9998 + 1 + 1 from rfl, equalIn_u8s 9998 l m hl hm w]; rfl
/-- a new array of bytes, and what is stored into it -/
theorem wpList_store_new {ops : Array Oper} {rest : List Oper} {op : Oper} {a : Act} {Q : Exit → Act → World → Prop} (W : World) (K : List Nat) (hK : K.length = 32) (hgd : op.guard = none) (x y : Operand) (ho : op.op = .store 24 x y)
    (hx : a.eval x = .pointer (some ⟨W.heap.size, 0, none⟩)) (hy : a.eval y = .agg (u8s K))
    (h : ∀ w', Blk w' W.heap.size 24 (u8s K) → Below W.heap.size W w' → wpList Tryd.prog ops Q rest (a.put op.dst undef) w') :
    wpList Tryd.prog ops Q (op :: rest) a (W.alloc (.cells #[.int .u8 0, .int .u8 0, .int .u8 0, .int .u8 0, .int .u8 0, .int .u8 0, .int .u8 0, .int .u8 0, .int .u8 0, .int .u8 0, .int .u8 0, .int .u8 0, .int .u8 0, .int .u8 0, .int .u8 0, .int .u8 0, .int .u8 0, .int .u8 0, .int .u8 0, .int .u8 0, .int .u8 0, .int .u8 0, .int .u8 0, .int .u8 0, .int .u8 0, .int .u8 0, .int .u8 0, .int .u8 0, .int .u8 0, .int .u8 0, .int .u8 0, .int .u8 0] 24)) := by
  have B : Blk (W.alloc (.cells #[.int .u8 0, .int .u8 0, .int .u8 0, .int .u8 0, .int .u8 0, .int .u8 0, .int .u8 0, .int .u8 0, .int .u8 0, .int .u8 0, .int .u8 0, .int .u8 0, .int .u8 0, .int .u8 0, .int .u8 0, .int .u8 0, .int .u8 0, .int .u8 0, .int .u8 0, .int .u8 0, .int .u8 0, .int .u8 0, .int .u8 0, .int .u8 0, .int .u8 0, .int .u8 0, .int .u8 0, .int .u8 0, .int .u8 0, .int .u8 0, .int .u8 0, .int .u8 0] 24)) W.heap.size 24 (u8s Z32) := Blk.new W _ _
  refine wpList_store_mid hgd 24 x y ho W.heap.size 0 (u8s K) hx hy (B.there _ (by rw [u8s_size, u8s_size, hK]; rfl)) (infoO' K hK) (u8s_one K) ?_
  exact h _ (B.setAll (by rw [u8s_size, u8s_size, hK]; rfl)) (below_setCells _ (Nat.le_refl _) _ _ ((Below.refl _ _).alloc (Nat.le_refl _) _))
theorem wpList_load_arr {ops : Array Oper} {rest : List Oper} {op : Oper} {a : Act} {W : World} {Q : Exit → Act → World → Prop} (q : Nat) (K : List Nat) (hB : Blk W q 24 (u8s K)) (hK : K.length = 32) (hgd : op.guard = none) (x : Operand) (ho : op.op = .load 24 x) (hx : a.eval x = .pointer (some ⟨q, 0, none⟩))
    (h : wpList Tryd.prog ops Q rest (a.put op.dst (.agg (u8s K))) W) : wpList Tryd.prog ops Q (op :: rest) a W :=
  wpList_load_mid hgd 24 x ho q 0 hx (b8 K) (.array 32 5) (Blk.range hB) (by kernel_rfl) rfl (infoO K hK) h
theorem wpList_load_arrG {ops : Array Oper} {rest : List Oper} {op : Oper} {a : Act} {W : World} {Q : Exit → Act → World → Prop} (q : Nat) (K : List Nat) (hB : Blk W q 24 (u8s K)) (hK : K.length = 32) (x : Operand) (ho : op.op = .load 24 x) (hx : a.eval x = .pointer (some ⟨q, 0, none⟩))
    (hw : Region.wanted op (yielded ops a.tmps) = true) (h : wpList Tryd.prog ops Q rest (a.put op.dst (.agg (u8s K))) W) : wpList Tryd.prog ops Q (op :: rest) a W :=
  wpList_step fun _ hK' => by
    rw [if_pos hw]
    exact wp_load_mid 24 x ho q 0 hx (b8 K) (.array 32 5) (Blk.range hB) (by kernel_rfl) rfl (infoO K hK) (hK' _ _ h)
/-- .. into an array that lies there -/
theorem wpList_store_arr {ops : Array Oper} {rest : List Oper} {op : Oper} {a : Act} {Q : Exit → Act → World → Prop} (W : World) (q : Nat) (c : Array Value) (K : List Nat) (hB : Blk W q 24 c) (hc : c.size = 32) (hK : K.length = 32) (hgd : op.guard = none) (x y : Operand) (ho : op.op = .store 24 x y)
    (hx : a.eval x = .pointer (some ⟨q, 0, none⟩)) (hy : a.eval y = .agg (u8s K))
    (h : ∀ w', Blk w' q 24 (u8s K) → Below q W w' → (∀ k, k ≠ q → w'.heap[k]? = W.heap[k]?) → wpList Tryd.prog ops Q rest (a.put op.dst undef) w') :
    wpList Tryd.prog ops Q (op :: rest) a W := by
  refine wpList_store_mid hgd 24 x y ho q 0 (u8s K) hx hy (hB.there _ (by rw [u8s_size, hK, hc])) (infoO' K hK) (u8s_one K) ?_
  exact h _ (hB.setAll (by rw [u8s_size, hK, hc])) (below_setCells q (Nat.le_refl _) _ _ (Below.refl _ _)) (fun k hk => setCells_heap q _ 0 W k hk)
/-- the result that lies in a cell, read at the return -/
theorem load_arr (w : World) (q : Nat) (K : List Nat) (hB : Blk w q 24 (u8s K)) (hK : K.length = 32) : (loadVar 24 ⟨q, 0, none⟩).run Tryd.prog w = .ok (.agg (u8s K)) w :=
  run_loadVar_mid (P := Tryd.prog) w q 0 24 (b8 K) (.array 32 5) (Blk.range hB) (by kernel_rfl) rfl (infoO K hK)
end Go.Proofs.YtkcifjgfgommoaaDoor
