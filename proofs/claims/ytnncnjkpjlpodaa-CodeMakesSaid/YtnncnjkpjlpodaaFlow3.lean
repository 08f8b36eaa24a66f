import Derived.Test.YtnncnjkpjlpodaaFlow2
import Derived.Test.YtnncnjkpjlpodaaFlowPure2
import Derived.StillTailTactics
import Derived.Deep.DeepCutAuto
import Derived.Deep.CutBlock
/-
  The writer of bits: Write, is, whole, bit.
-/
namespace Go.Proofs.Ytnncnjkpjlpodaa
open Go.RowKit

/-- a writer at block g: the value of its bytes, the number that they hold, and how many bits it is -/
structure Wr (w : World) (g : Nat) (v : Value) (N a : Nat) : Prop where
  blk : Blk w g 61 #[v, .int .i64 (a : Int), .bool true]
  own : ∃ l, Bts l N a ∧ OB w (g + 1) v l
/-- what a call of the writer may change -/
structure WStep (g : Nat) (v : Value) (w : World) (v' : Value) (w' : World) : Prop where
  below : ∀ B, B ≤ g → B ≤ w.heap.size → Below B w w'
  size : w.heap.size ≤ w'.heap.size
  keep : ∀ q, q < w.heap.size → q ≠ g → v.ownBlock ≠ some q → w'.heap[q]? = w.heap[q]?
  own : ∀ q, v'.ownBlock = some q → v.ownBlock = some q ∨ w.heap.size ≤ q
theorem WStep.refl (g : Nat) (v : Value) (w : World) : WStep g v w v w := ⟨fun B _ _ => Below.refl B w, Nat.le_refl _, fun _ _ _ _ => rfl, fun _ h => .inl h⟩
theorem WStep.trans {g : Nat} {v v1 v2 : Value} {w w1 w2 : World} (h : WStep g v w v1 w1) (h' : WStep g v1 w1 v2 w2) : WStep g v w v2 w2 :=
  ⟨fun B h1 h2 => (h.below B h1 h2).trans (h'.below B h1 (Nat.le_trans h2 h.size)), Nat.le_trans h.size h'.size,
   fun q hq hg ho => (h'.keep q (Nat.lt_of_lt_of_le hq h.size) hg (fun hc => (h.own q hc).elim ho (fun h2 => by omega))).trans (h.keep q hq hg ho),
   fun q hq => (h'.own q hq).elim (h.own q) (fun h2 => .inr (Nat.le_trans h.size h2))⟩
theorem WStep.only {g : Nat} {v : Value} {w w' : World} (h : Only g w w') : WStep g v w v w' := ⟨h.below, Nat.le_of_eq h.size.symm, fun q _ hg _ => h.keep q hg, fun _ h => .inl h⟩

theorem WStep.setOwn {g q i : Nat} {v : Value} {w : World} (hv : v.ownBlock = some q) (hq : g ≤ q) (u : Value) : WStep g v w v (w.setCell ⟨q, i, none⟩ u) :=
  ⟨fun B h1 _ => (Below.refl B w).setCell (p := ⟨q, i, none⟩) (Nat.le_trans h1 hq) u, by simp [World.setCell], fun k _ _ ho => Below.heap_setCell w ⟨q, i, none⟩ u k (fun hc => ho (by rw [hv]; exact congrArg some hc.symm)), fun _ h => .inl h⟩
theorem WStep.setG {g i : Nat} {v : Value} {w : World} (u : Value) : WStep g v w v (w.setCell ⟨g, i, none⟩ u) := WStep.only (Only.set g i u w)
theorem WStep.drew {g : Nat} {v : Value} {w : World} : WStep g v w v w.drew := ⟨fun B _ _ => (Below.refl B w).drew, Nat.le_refl _, fun _ _ _ _ => rfl, fun _ h => .inl h⟩
theorem WStep.alloc {g : Nat} {v : Value} {w : World} (o : Obj) : WStep g v w v (w.alloc o) :=
  ⟨fun B _ h2 => (Below.refl B w).alloc h2 o, by simp, fun q hq _ _ => Below.heap_alloc w o q hq, fun _ h => .inl h⟩
theorem WStep.grown {g : Nat} {v v' : Value} {w w' : World} (hg : w.grownBy w' v.ownBlock) (hv : ∀ k, v.ownBlock = some k → g ≤ k) (hat : v'.ownBlock = v.ownBlock ∨ v'.ownBlock = some w.heap.size) : WStep g v w v' w' :=
  ⟨fun B h1 h2 => (Below.refl B w).grown hg h2 (fun k hk => Nat.le_trans h1 (hv k hk)), hg.size, fun q hq _ ho => hg.block q hq (fun hc => ho hc.symm),
   fun q hq => hat.elim (fun h => .inl (by rw [← h]; exact hq)) (fun h => .inr (by rw [h] at hq; injection hq with hq; omega))⟩
theorem OB.below {w w' : World} {base : Nat} {v : Value} {l : List Nat} (h : OB w base v l) (hb : Below w.heap.size w w') : OB w' base v l := by
  refine ⟨h.1, h.2.imp id ?_⟩
  rintro ⟨g, cap, cur, hv, hg, hh, r⟩
  exact ⟨g, cap, cur, hv, hg, (hb.block g (Array.getElem?_eq_some_iff.1 hh).1).trans hh, r⟩
theorem OB.ne {w : World} {g : Nat} {v : Value} {l : List Nat} (h : OB w (g + 1) v l) : v.ownBlock ≠ some g := fun hc => by have := own_block h g hc; omega
theorem own_nil (w : World) (base : Nat) : OB w base (.slice none 0 0) [] := ⟨rfl, .inl ⟨rfl, rfl⟩⟩
theorem Write_calls (w : World) :
    Calls Try.prog 15 #[] w fun e w' => e = .returned (.pointer (some ⟨w.heap.size, 0, none⟩)) ∧ Wr w' w.heap.size (.slice none 0 0) 0 0 ∧ w' = w.alloc (.cells #[.slice none 0 0, .int .i64 0, .bool true] 61) := by
  go_enter Try.func15, Try.ntmps15
  go_wp2
  go_ret
  exact ⟨rfl, ⟨Blk.new _ _ _, [], Bts.nil, own_nil _ _⟩, rfl⟩
theorem wIs_nil (w : World) : Calls Try.prog 60 #[.pointer none] w fun e w' => e = .returned (.bool false) ∧ w = w' := by
  go_enter Try.func60, Try.ntmps60
  go_wp2
  go_ret
  exact ⟨rfl, rfl⟩
theorem wIs_calls (g : Nat) (v u : Value) (m : Bool) (w : World) (h : Blk w g 61 #[v, u, .bool m]) :
    Calls Try.prog 60 #[.pointer (some ⟨g, 0, none⟩)] w fun e w' => e = .returned (.bool m) ∧ w = w' := by
  have h2 : w.cell? ⟨g, 2, none⟩ = some (.bool m) := h.cell 2
  have H := Bx.mk h
  clear h
  go_enter Try.func60, Try.ntmps60
  go_wp2
  go_ret
  exact ⟨rfl, rfl⟩
theorem whole_calls (g : Nat) (t : TypeId) (v u : Value) (a : Nat) (w : World) (h : Blk w g t #[v, .int .i64 (a : Int), u]) :
    Calls Try.prog 63 #[.pointer (some ⟨g, 0, none⟩)] w fun e w' => e = .returned (.bool (decide (a % 8 = 0))) ∧ w = w' := by
  have h1 : w.cell? ⟨g, 1, none⟩ = some (.int .i64 (a : Int)) := h.cell 1
  have hand := i64_and7 (a : Int)
  rw [show (a : Int) % 8 = ((a % 8 : Nat) : Int) by omega] at hand
  generalize a % 8 = R at hand ⊢
  clear h
  go_enter Try.func63, Try.ntmps63
  go_wp2
  go_ret
  exact ⟨ret_bool (by apply Bool.eq_iff_iff.2; simp), rfl⟩

theorem pow2_u8 (R : Nat) (h : R < 8) : IntKind.u8.wrap (2 ^ R) = ((2 ^ R : Nat) : Int) := by
  rw [IntKind.wrap_u8']
  obtain rfl | rfl | rfl | rfl | rfl | rfl | rfl | rfl : R = 0 ∨ R = 1 ∨ R = 2 ∨ R = 3 ∨ R = 4 ∨ R = 5 ∨ R = 6 ∨ R = 7 := by omega
  all_goals decide

/-- the writer behind the append -/
theorem wBit_store (g : Nat) (A : Option Addr) (l : List Nat) (c : Nat) (u : Value) (o : Obj) (w w' : World) (v' : Value) (_hb : Blk w g 61 #[.slice A l.length c, u, .bool true]) (hO : OB w (g + 1) (.slice A l.length c) l)
    (hba : Blk (w.alloc o) g 61 #[.slice A l.length c, u, .bool true]) (hoa : OB (w.alloc o) (g + 1) (.slice A l.length c) l) (ho : OB w' (g + 1) v' (l ++ [0]))
    (hg : (w.alloc o).grownBy w' (Value.slice A l.length c).ownBlock) (hat : v'.ownBlock = (Value.slice A l.length c).ownBlock ∨ v'.ownBlock = some (w.alloc o).heap.size) :
    ∃ (g' c' : Nat), v' = .slice (some ⟨g', 0, none⟩) (l.length + 1) c' ∧ w'.cell? ⟨g, 0, none⟩ = some (.slice A l.length c) ∧ w'.frozen? ⟨g, 0, none⟩ = false ∧
      (w'.setCell ⟨g, 0, none⟩ v').cell? ⟨g, 0, none⟩ = some v' ∧ (w'.setCell ⟨g, 0, none⟩ v').cell? ⟨g, 1, none⟩ = some u ∧ (w'.setCell ⟨g, 0, none⟩ v').frozen? ⟨g, 1, none⟩ = false ∧
      (w'.setCell ⟨g, 0, none⟩ v').cell? ⟨g', l.length, none⟩ = some (.int .u8 0) ∧ (w'.setCell ⟨g, 0, none⟩ v').frozen? ⟨g', l.length, none⟩ = false ∧ g + 1 ≤ g' ∧
      (∀ x : Nat, Blk ((w'.setCell ⟨g, 0, none⟩ v').setCell ⟨g', l.length, none⟩ (.int .u8 (x : Int))) g 61 #[v', u, .bool true] ∧ OB ((w'.setCell ⟨g, 0, none⟩ v').setCell ⟨g', l.length, none⟩ (.int .u8 (x : Int))) (g + 1) v' (l ++ [x]) ∧
        WStep g (.slice A l.length c) w v' ((w'.setCell ⟨g, 0, none⟩ v').setCell ⟨g', l.length, none⟩ (.int .u8 (x : Int)))) := by
  obtain ⟨A', c', hv⟩ := ho.form
  rw [List.length_append, List.length_singleton] at hv
  subst hv
  obtain ⟨g', rfl, -, hbg, -, -, -⟩ := ho.opened (by simp)
  have hb' : Blk w' g 61 #[.slice A l.length c, u, .bool true] := hba.grown hg (fun hc => hO.ne hc.symm)
  have hb2 := hb'.set_ 0 (.slice (some ⟨g', 0, none⟩) (l.length + 1) c')
  have ho2 : OB (w'.setCell ⟨g, 0, none⟩ (.slice (some ⟨g', 0, none⟩) (l.length + 1) c')) (g + 1) (.slice (some ⟨g', 0, none⟩) (l.length + 1) c') (l ++ [0]) := ownsRow_setCell_other ho (a := ⟨g, 0, none⟩) ho.ne _
  obtain ⟨g2, hg2, -, -, -, hcell, hfz⟩ := ho2.opened (by simp)
  obtain rfl : g' = g2 := by injection hg2 with h; injection h
  refine ⟨g', c', rfl, hb'.cell 0, hb'.frozen 0, hb2.cell 0, hb2.cell 1, hb2.frozen 1, ?_, hfz _, hbg, fun x => ⟨hb2.far (p := ⟨g', l.length, none⟩) (by show g ≠ g'; omega) _, ?_, ?_⟩⟩
  · rw [hcell l.length (by simp)]
    simp [List.getD_eq_getElem?_getD]
  · have := ho2.put l.length x
    rwa [List.set_append_right _ _ (Nat.le_refl _), Nat.sub_self] at this
  · exact (((WStep.alloc o).trans (WStep.grown hg (fun k hk => Nat.le_trans (Nat.le_succ g) (own_block hoa k hk)) hat)).trans (WStep.setG _)).trans (WStep.setOwn rfl (by omega) _)
set_option maxRecDepth 100000 in
set_option maxHeartbeats 2000000 in
theorem wBit_calls (g : Nat) (v : Value) (N a on : Nat) (w : World) (h : Wr w g v N a) (ho : on ≤ 1) (ha : a ≤ 1125899906809856) :
    Calls Try.prog 59 #[.pointer (some ⟨g, 0, none⟩), .int .i64 (on : Int)] w fun e w' => e = .returned (.tuple #[]) ∧ ∃ v', Wr w' g v' (N + on * 2 ^ a) (a + 1) ∧ WStep g v w v' w' := by
  obtain ⟨hb, l, hB, hO⟩ := h
  have WH := Bx.mk (whole_calls g _ v (.bool true) a w hb)
  have hgl := hb.lt
  have HB := Bx.mk hb
  have HO := Bx.mk hO
  have HBT := Bx.mk hB
  have h0 : w.cell? ⟨g, 0, none⟩ = some v := hb.cell 0
  have h1 : w.cell? ⟨g, 1, none⟩ = some (.int .i64 (a : Int)) := hb.cell 1
  have f0 := hb.frozen 0
  have f1 := hb.frozen 1
  have hlen := hB.len
  obtain ⟨A, c, rfl⟩ := hO.form
  have hand := i64_and7 (a : Int)
  rw [show (a : Int) % 8 = ((a % 8 : Nat) : Int) by omega] at hand
  have hR : a % 8 < 8 := Nat.mod_lt _ (by decide)
  clear hb hO hB
  by_cases h8 : a % 8 = 0
  · rw [decide_eq_true h8] at WH
    have HN := Bx.mk (HBT.out.grow h8 on ho)
    have hK : a / 8 = l.length := by omega
    have HOA := Bx.mk (HO.out.below (below_alloc1 w (.cells #[.int .u8 0] 5)))
    have HBA := Bx.mk (HB.out.alloc (.cells #[.int .u8 0] 5))
    have f0A : (w.alloc (.cells #[.int .u8 0] 5)).cell? ⟨g, 0, none⟩ = some (.slice A l.length c) := HBA.out.cell 0
    have k1 : (a : Int) / 8 < (l.length : Int) + 1 := by omega
    have k2 : (0 : Int) ≤ (a : Int) / 8 := by omega
    have k3 : ((a : Int) / 8).toNat = l.length := by omega
    have hon : IntKind.u8.wrap (on : Int) = (on : Int) := by rw [IntKind.wrap_u8']; omega
    have hor : bits .or .u8 0 (on : Int) = (on : Int) := by have := u8_or_nat 0 on (by omega) (by omega); rwa [Nat.zero_or] at this
    rw [h8] at hand
    have hlb : l.length + 1 ≤ 140737488355328 := by omega
    have hsz : g < (w.alloc (.cells #[.int .u8 0] 5)).heap.size := HBA.out.lt
    have WS := Bx.mk (WStep.alloc (g := g) (v := .slice A l.length c) (w := w) (.cells #[.int .u8 0] 5))
    have RL := Bx.mk (RB.lit w 5 [0] #[.int .u8 0] rfl (by decide) (by decide))
    clear hlen hK h8 hR
    go_enter Try.func59, Try.ntmps59
    go_wp2_with fail
    refine WH.out.mono ?_
    rintro e w1 ⟨rfl, rfl⟩
    go_wp2_with (at_builtin; refine wpList_append_bytes _ rfl _ _ rfl (g + 1) _ l [0] rfl HOA.out (some ⟨w.heap.size, 0, none⟩) 1 rfl RL.out hlb (by omega) ?_; intro v' w' ho' hg hat; obtain ⟨g', c', X⟩ := wBit_store g A l c (.int .i64 (a : Int)) (.cells #[.int .u8 0] 5) w w' v' HB.out HO.out HBA.out HOA.out ho' hg hat; obtain ⟨hv, q0, q1, q2, q3, q4, q5, q6, q7, q8⟩ := X; have Q8 := Bx.mk q8; subst hv; clear ho' hg hat q8)
    generalize w'.setCell ⟨g, 0, none⟩ (.slice (some ⟨g', 0, none⟩) (l.length + 1) c') = w2 at q2 q3 q4 q5 q6 Q8 ⊢
    go_still_tail 24, (by kernel_rfl)
    go_wp2
    go_end0
    obtain ⟨z1, z2, z3⟩ := Q8.out on
    exact ⟨rfl, _, ⟨z1.set_ 1 (.int .i64 ((a : Int) + 1)), _, HN.out, ownsRow_setCell_other z2 (a := ⟨g, 1, none⟩) z2.ne (.int .i64 ((a : Int) + 1))⟩, (z3.trans (WStep.setG _)).trans WStep.drew⟩
  · rw [decide_eq_false h8] at WH
    obtain ⟨l1, l2⟩ := HBT.out.last h8
    have HN := Bx.mk (HBT.out.put h8 on ho)
    obtain ⟨g', rfl, -, hbg, -, hcell, hfz⟩ := HO.out.opened (by omega)
    have hck := hcell (a / 8) l1
    have hfk := hfz (a / 8)
    have hX : l.getD (a / 8) 0 < 256 := mem_getD l1 HBT.out.byte
    have hor : bits .or .u8 ((l.getD (a / 8) 0 : Nat) : Int) ((on * 2 ^ (a % 8) : Nat) : Int) = ((l.getD (a / 8) 0 + on * 2 ^ (a % 8) : Nat) : Int) := by
      have hp : 2 ^ (a % 8) ≤ 128 := Nat.le_trans (Nat.pow_le_pow_right (by decide) (show a % 8 ≤ 7 by omega)) (by decide)
      have hq : on * 2 ^ (a % 8) ≤ 1 * 2 ^ (a % 8) := Nat.mul_le_mul_right _ ho
      rw [u8_or_nat _ _ hX (by omega), Nat.or_comm, nat_join (a % 8) (on * 2 ^ (a % 8)) _ (Nat.mul_mod_left _ _) l2, Nat.add_comm]
    have hsh : IntKind.u8.wrap ((on : Int) * 2 ^ (a % 8)) = ((on * 2 ^ (a % 8) : Nat) : Int) := by
      have hp := pow2_u8 (a % 8) hR
      have e0 : (2 : Int) ^ (a % 8) = ((2 ^ (a % 8) : Nat) : Int) := by rw [Int.natCast_pow]; rfl
      have hp2 : 2 ^ (a % 8) ≤ 128 := Nat.le_trans (Nat.pow_le_pow_right (by decide) (show a % 8 ≤ 7 by omega)) (by decide)
      have hq : on * 2 ^ (a % 8) ≤ 1 * 2 ^ (a % 8) := Nat.mul_le_mul_right _ ho
      rw [e0, IntKind.wrap_u8', ← Int.natCast_mul]
      omega
    have hon : IntKind.u8.wrap (on : Int) = (on : Int) := by rw [IntKind.wrap_u8']; omega
    have HP := Bx.mk (HO.out.put (a / 8) (l.getD (a / 8) 0 + on * 2 ^ (a % 8)))
    have hK : a / 8 < l.length := l1
    generalize l.getD (a / 8) 0 + on * 2 ^ (a % 8) = V at hor HP HN
    generalize on * 2 ^ (a % 8) = M at hor hsh
    generalize l.getD (a / 8) 0 = X at hck hor
    generalize a % 8 = R at hand hR hsh h8 WH
    have k1 : (a : Int) / 8 < (l.length : Int) := by omega
    have k2 : (0 : Int) ≤ (a : Int) / 8 := by omega
    have k3 : ((a : Int) / 8).toNat = a / 8 := by omega
    clear hcell hfz l1 l2 hX hlen
    go_enter Try.func59, Try.ntmps59
    go_wp2_with fail
    refine WH.out.mono ?_
    rintro e w1 ⟨rfl, rfl⟩
    go_wp2
    go_still_tail 24, (by kernel_rfl)
    go_wp2
    go_end0
    refine ⟨rfl, _, ⟨((HB.out.far (p := ⟨g', a / 8, none⟩) (by show g ≠ g'; omega) (.int .u8 (V : Int))).set_ 1 (.int .i64 ((a : Int) + 1))), _, HN.out, ownsRow_setCell_other HP.out (a := ⟨g, 1, none⟩) (by simp [Value.ownBlock]; omega) (.int .i64 ((a : Int) + 1))⟩, ?_⟩
    exact ((WStep.setOwn rfl (by omega) _).trans (WStep.setG _)).trans WStep.drew
end Go.Proofs.Ytnncnjkpjlpodaa
