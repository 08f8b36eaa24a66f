import Derived.Test.YtnncnjkpjlpodaaCode1
import Derived.WalkSpells
import Derived.Deep.DeepCutAuto
/-
  Codes: New.
-/
namespace Go.Proofs.Ytnncnjkpjlpodaa
open Go.RowKit

theorem IR.reads {w : World} {A : Option Addr} {l : List Int} (h : IR w A l) : Reads w w.heap.size 1 A l.length (is l) := by
  refine ⟨by rw [is_length, Nat.mul_one], fun hn => ?_⟩
  obtain ⟨ad, rfl, hc⟩ := h hn
  refine ⟨ad, rfl, ?_, fun j u hu => ?_⟩
  · have := World.block_lt_of_cell? w _ (hc 0 hn)
    rwa [block_of_add] at this
  · have hj : j < l.length := by
      have := (List.getElem?_eq_some_iff.1 hu).1
      rwa [is_length] at this
    rw [is_get l j hj] at hu
    rw [hc j hj]; exact hu
theorem CloneI_calls (A : Option Addr) (l : List Int) (c : Nat) (w : World) (hl : IR w A l) (hn : l.length * 8 ≤ 140737488351232) :
    Calls Try.prog 67 #[.slice A l.length c] w fun e w' => ∃ v, e = .returned v ∧ OI w' w.heap.size v l ∧ Below w.heap.size w w' := by
  have HL := Bx.mk (hl.below (below_alloc1 w (.cells #[] 3))).reads
  have hx := fun W a n c => Lib.run_eql_slice_nil (P := Try.prog) W 42 3 a n c 0 0 Try.underlying42
  cases A with
  | none =>
    have h0 : l = [] := by
      rcases l with _ | ⟨x, l⟩
      · rfl
      · obtain ⟨ad, h, _⟩ := hl (by simp)
        cases h
    subst h0
    clear hl HL
    go_enter Try.func67, Try.ntmps67
    go_wp2
    go_ret
    exact ⟨_, rfl, OI.nil _ _, Below.refl _ _⟩
  | some ad =>
    clear hl
    go_enter Try.func67, Try.ntmps67
    go_wp2_with (at_builtin; refine wpList_append_ints _ rfl _ _ rfl w.heap.size _ [] l l.length rfl rfl (OI.empty w) (some ad) c rfl HL.out ?hl (by simp) ?_; (case hl => simp; omega); intro v' w' ho hg _)
    go_ret
    exact ⟨_, rfl, ho, (below_alloc1 w _).grown hg (by simp) (fun k hk => OI.block (OI.empty w) k hk)⟩
theorem cIs_nil (w : World) : Calls Try.prog 68 #[.pointer none] w fun e w' => e = .returned (.bool false) ∧ w = w' := by
  go_enter Try.func68, Try.ntmps68
  go_wp2
  go_ret
  exact ⟨rfl, rfl⟩
/-- the cells of a code: how many of each length, the order, the lengths, whether it is made -/
def cdC (f : Nat → Nat) (O Ln : Value) (m : Bool) : Array Value :=
  #[.int .i64 (f 0 : Int), .int .i64 (f 1 : Int), .int .i64 (f 2 : Int), .int .i64 (f 3 : Int), .int .i64 (f 4 : Int), .int .i64 (f 5 : Int), .int .i64 (f 6 : Int), .int .i64 (f 7 : Int),
    .int .i64 (f 8 : Int), .int .i64 (f 9 : Int), .int .i64 (f 10 : Int), .int .i64 (f 11 : Int), .int .i64 (f 12 : Int), .int .i64 (f 13 : Int), .int .i64 (f 14 : Int), .int .i64 (f 15 : Int), O, Ln, .bool m]
theorem cdC_get (f : Nat → Nat) (O Ln : Value) (m : Bool) (n : Nat) (h : n ≤ 15) : (cdC f O Ln m)[n]? = some (.int .i64 (f n : Int)) := by
  obtain rfl | rfl | rfl | rfl | rfl | rfl | rfl | rfl | rfl | rfl | rfl | rfl | rfl | rfl | rfl | rfl : n = 0 ∨ n = 1 ∨ n = 2 ∨ n = 3 ∨ n = 4 ∨ n = 5 ∨ n = 6 ∨ n = 7 ∨ n = 8 ∨ n = 9 ∨ n = 10 ∨ n = 11 ∨ n = 12 ∨ n = 13 ∨ n = 14 ∨ n = 15 := by omega
  all_goals rfl
theorem cdC_set (f : Nat → Nat) (O Ln : Value) (m : Bool) (n x : Nat) (h : n ≤ 15) : (cdC f O Ln m).setIfInBounds n (.int .i64 (x : Int)) = cdC (fun i => if i = n then x else f i) O Ln m := by
  obtain rfl | rfl | rfl | rfl | rfl | rfl | rfl | rfl | rfl | rfl | rfl | rfl | rfl | rfl | rfl | rfl : n = 0 ∨ n = 1 ∨ n = 2 ∨ n = 3 ∨ n = 4 ∨ n = 5 ∨ n = 6 ∨ n = 7 ∨ n = 8 ∨ n = 9 ∨ n = 10 ∨ n = 11 ∨ n = 12 ∨ n = 13 ∨ n = 14 ∨ n = 15 := by omega
  all_goals rfl
theorem cdC_order (f : Nat → Nat) (O Ln O' : Value) (m : Bool) : (cdC f O Ln m).setIfInBounds 16 O' = cdC f O' Ln m := rfl
theorem cIs_calls (g : Nat) (f : Nat → Nat) (O Ln : Value) (m : Bool) (w : World) (h : Blk w g 78 (cdC f O Ln m)) :
    Calls Try.prog 68 #[.pointer (some ⟨g, 0, none⟩)] w fun e w' => e = .returned (.bool m) ∧ w = w' := by
  have h2 : w.cell? ⟨g, 18, none⟩ = some (.bool m) := h.cell 18
  clear h
  go_enter Try.func68, Try.ntmps68
  go_wp2
  go_ret
  exact ⟨rfl, rfl⟩
/-- a code in the making: g its block; how many so far, in which order -/
structure CdS (w : World) (g b1 : Nat) (A1 : Option Addr) (c1 : Nat) (L : List Nat) (f : Nat → Nat) (ord : List Nat) (wr : World) : Prop where
  ex : ∃ O, Blk wr g 78 (cdC f O (.slice A1 L.length c1) true) ∧ OI wr (g + 1) O (zl ord)
  ln : OI wr b1 (.slice A1 L.length c1) (zl L)
  lt : b1 ≤ g ∧ w.heap.size ≤ b1 ∧ ∀ q, (Value.slice A1 L.length c1).ownBlock = some q → q < g
  be : Below w.heap.size w wr
/-- one symbol more: the store, and what the append finds -/
theorem CdS.more {w : World} {g b1 : Nat} {A1 : Option Addr} {c1 : Nat} {L : List Nat} {f : Nat → Nat} {ord : List Nat} {wr : World} (h : CdS w g b1 A1 c1 L f ord wr) (n : Nat) (hn : n ≤ 15) (X : Nat) (O : Value)
    (hb : Blk wr g 78 (cdC f O (.slice A1 L.length c1) true)) (ho : OI wr (g + 1) O (zl ord)) :
    (wr.drew.setCell ⟨g, n, none⟩ (.int .i64 ((X : Int) + 1))).cell? ⟨g, 16, none⟩ = some O ∧ OI (wr.drew.setCell ⟨g, n, none⟩ (.int .i64 ((X : Int) + 1))) (g + 1) O (zl ord) ∧ g + 1 ≤ (wr.drew.setCell ⟨g, n, none⟩ (.int .i64 ((X : Int) + 1))).heap.size ∧
    ∀ (j : Nat) (v5 : Value) (w5 : World), OI w5 (g + 1) v5 (zl ord ++ [(j : Int)]) → ((wr.drew.setCell ⟨g, n, none⟩ (.int .i64 ((X : Int) + 1))).alloc (.cells #[.int .i64 (j : Int)] 3)).grownBy w5 O.ownBlock →
      w5.cell? ⟨g, 16, none⟩ = some O ∧ w5.frozen? ⟨g, 16, none⟩ = false ∧ CdS w g b1 A1 c1 L (fun i => if i = n then X + 1 else f i) (ord ++ [j]) (w5.setCell ⟨g, 16, none⟩ v5) := by
  have hb1 : Blk wr.drew g 78 (cdC f O (.slice A1 L.length c1) true) := hb
  have hb4 := hb1.set_ n (.int .i64 ((X + 1 : Nat) : Int))
  rw [cdC_set _ _ _ _ _ _ hn, show ((X + 1 : Nat) : Int) = (X : Int) + 1 by omega] at hb4
  have ho4 : OI (wr.drew.setCell ⟨g, n, none⟩ (.int .i64 ((X : Int) + 1))) (g + 1) O (zl ord) := ownsRow_setCell_other (w := wr.drew) ho (a := ⟨g, n, none⟩) (fun hc => by have := OI.block ho g hc; omega) _
  have ln4 : OI (wr.drew.setCell ⟨g, n, none⟩ (.int .i64 ((X : Int) + 1))) b1 (.slice A1 L.length c1) (zl L) := ownsRow_setCell_other (w := wr.drew) h.ln (a := ⟨g, n, none⟩) (own_blk_ne h.ln hb (by decide)) _
  have be4 : Below w.heap.size w (wr.drew.setCell ⟨g, n, none⟩ (.int .i64 ((X : Int) + 1))) := (below_drewN h.be 1).setCell (p := ⟨g, n, none⟩) (Nat.le_trans h.lt.2.1 h.lt.1) _
  generalize wr.drew.setCell ⟨g, n, none⟩ (.int .i64 ((X : Int) + 1)) = W at hb4 ho4 ln4 be4 ⊢
  refine ⟨hb4.cell 16, ho4, hb4.lt, fun j v5 w5 h5 hg => ?_⟩
  have hOg : some g ≠ O.ownBlock := fun hc => by have := OI.block ho4 g hc.symm; omega
  have hb5 := (hb4.alloc (.cells #[.int .i64 (j : Int)] 3)).grown hg hOg
  have ln5 : OI w5 b1 (.slice A1 L.length c1) (zl L) := own_keep ln4 fun q hq => (hg.block q (Nat.lt_of_lt_of_le (own_block' ln4 q hq).2 (by simp)) (fun hc => by have := OI.block ho4 q hc.symm; have := h.lt.2.2 q hq; omega)).trans (Below.heap_alloc W _ q (own_block' ln4 q hq).2)
  have be5 : Below w.heap.size w w5 := (be4.alloc be4.size _).grown hg (Nat.le_trans be4.size (by simp)) (fun k hk => by have := OI.block ho4 k hk; have := h.lt.1; have := h.lt.2.1; omega)
  have hb6 := hb5.set_ 16 v5
  rw [cdC_order] at hb6
  have hv5 : v5.ownBlock ≠ some g := fun hc => by have := OI.block h5 g hc; omega
  refine ⟨hb5.cell 16, hb5.frozen 16, ⟨v5, hb6, ?_⟩, ownsRow_setCell_other ln5 (a := ⟨g, 16, none⟩) (own_blk_ne ln5 hb5 (by decide)) _, h.lt, be5.setCell (p := ⟨g, 16, none⟩) (Nat.le_trans h.lt.2.1 h.lt.1) _⟩
  rw [zl_app]
  exact ownsRow_setCell_other h5 (a := ⟨g, 16, none⟩) hv5 _
def upF (L : List Nat) (n j : Nat) : Nat → Nat := fun i => if i < n then cnt L i else if i = n then (syms (L.take j) n 0).length else 0
theorem upF_next (L : List Nat) (n : Nat) (hn : 1 ≤ n) : upF L n L.length = upF L (n + 1) 0 := by
  funext i
  unfold upF
  rw [List.take_length]
  by_cases h1 : i < n
  · rw [if_pos h1, if_pos (by omega)]
  · by_cases h2 : i = n
    · subst h2
      rw [if_neg h1, if_pos rfl, if_pos (by omega)]
      unfold cnt; rw [if_neg (by omega)]
    · rw [if_neg h1, if_neg h2, if_neg (by omega)]
      by_cases h3 : i = n + 1
      · rw [if_pos h3]; rfl
      · rw [if_neg h3]
theorem upF_hit (L : List Nat) (n j : Nat) (hj : j < L.length) (h : L.getD j 0 = n) : (fun i => if i = n then upF L n j n + 1 else upF L n j i) = upF L n (j + 1) := by
  funext i
  unfold upF
  rw [syms_take L n j hj, if_pos h]
  by_cases h2 : i = n
  · subst h2
    rw [if_pos rfl, if_neg (by omega), if_pos rfl, if_neg (by omega), if_pos rfl, List.length_append]; rfl
  · rw [if_neg h2]
    by_cases h1 : i < n
    · rw [if_pos h1, if_pos h1]
    · rw [if_neg h1, if_neg h2, if_neg h1, if_neg h2]
theorem upF_miss (L : List Nat) (n j : Nat) (hj : j < L.length) (h : L.getD j 0 ≠ n) : upF L n j = upF L n (j + 1) ∧ syms (L.take (j + 1)) n 0 = syms (L.take j) n 0 := by
  have e : syms (L.take (j + 1)) n 0 = syms (L.take j) n 0 := by rw [syms_take L n j hj, if_neg h, List.append_nil]
  exact ⟨by funext i; unfold upF; rw [e], e⟩
theorem syms_le (L : List Nat) (n : Nat) : ∀ i, (syms L n i).length ≤ L.length := by
  induction L with
  | nil => intro i; exact Nat.le_refl _
  | cons x r ih =>
    intro i
    have := ih (i + 1)
    simp only [syms]
    split <;> simp <;> omega
theorem syms_small (L : List Nat) (n j : Nat) (h : L.length ≤ 288) : (syms (L.take j) n 0).length ≤ 288 := by
  have := syms_le (L.take j) n 0
  rw [List.length_take] at this
  omega
theorem ord_small (L : List Nat) (h : L.length ≤ 288) : ∀ n, (ordN L n).length ≤ 288 * n
  | 0 => by simp [ordN]
  | n + 1 => by
    have := ord_small L h n
    have := syms_le L (n + 1) 0
    simp only [ordN, List.length_append]
    omega
/-- a code that New made: its block, its order, its lengths -/
structure Cd (w : World) (g : Nat) (O Ln : Value) (L : List Nat) : Prop where
  blk : Blk w g 78 (cdC (cnt L) O Ln true)
  ord : OI w (g + 1) O (zl (ordN L 15))
  len : ∃ b, OI w b Ln (zl L)
/-- no code, or one of length one -/
def oneC (L : List Nat) : Prop := (ordN L 15).length = 0 ∨ ((ordN L 15).length = 1 ∧ cnt L 1 = 1)
instance (L : List Nat) : Decidable (oneC L) := by unfold oneC; exact inferInstance
def goodC (L : List Nat) : Prop := kr L ≤ 32768 ∧ (kr L = 32768 ∨ oneC L)
/-- what New answers to lengths from 0 to 15, at most 288 of them -/
def NewPost (L : List Nat) (w : World) (e : Ending) (w' : World) : Prop :=
  (goodC L → ∃ g O Ln, e = .returned (.tuple #[.pointer (some ⟨g, 0, none⟩), .int .i64 0]) ∧ w.heap.size ≤ g ∧ (∀ q, Ln.ownBlock = some q → w.heap.size ≤ q) ∧ Cd w' g O Ln L ∧ Below w.heap.size w w') ∧
  (¬ goodC L → e = .returned (.tuple #[.pointer none, .int .i64 100]) ∧ Below w.heap.size w w')
set_option maxRecDepth 1000000 in
set_option maxHeartbeats 8000000 in
theorem CNew_calls (A : Option Addr) (l : List Nat) (c : Nat) (w : World) (hl : IR w A (zl l)) (hn : l.length ≤ 288) (h15 : ∀ x ∈ l, x ≤ 15) :
    Calls Try.prog 42 #[.slice A l.length c] w (NewPost l w) := by
  have hod : (zl l).any oddB = false := by
    rw [List.any_eq_false]
    intro x hx
    obtain ⟨y, hy, rfl⟩ := List.mem_map.1 hx
    have := h15 y hy
    unfold oddB; simp; omega
  have CT := Contains_calls A (zl l) c w hl (by rw [zl_length]; omega)
  have CL := CloneI_calls A (zl l) c w hl (by rw [zl_length]; omega)
  rw [zl_length, hod] at CT
  rw [zl_length] at CL
  have C1 := Bx.mk CT; have C2 := Bx.mk CL
  have HL := Bx.mk hl
  have H15 := Bx.mk h15
  clear CT CL hod hl h15
  go_enter Try.func42, Try.ntmps42
  go_wp2_with fail
  refine C1.out.mono ?_
  rintro e w1 ⟨rfl, rfl⟩
  go_wp2_with fail
  refine C2.out.mono ?_
  rintro e w1 ⟨v1, rfl, ho1, hb1⟩
  obtain ⟨A1, c1, rfl⟩ := ho1.form
  rw [zl_length] at ho1 ⊢
  have hS : CdS w w1.heap.size w.heap.size A1 c1 l (upF l 1 0) [] (w1.alloc (.cells (cdC (upF l 1 0) (.slice none 0 0) (.slice A1 l.length c1) true) 78)) := by
    refine ⟨⟨_, Blk.new _ _ _, OI.nil _ _⟩, ho1.below (below_alloc1 _ _), ⟨hb1.size, Nat.le_refl _, fun q hq => (own_block' ho1 q hq).2⟩, hb1.alloc hb1.size _⟩
  have hf : cdC (upF l 1 0) (.slice none 0 0) (.slice A1 l.length c1) true = #[.int .i64 0, .int .i64 0, .int .i64 0, .int .i64 0, .int .i64 0, .int .i64 0, .int .i64 0, .int .i64 0, .int .i64 0, .int .i64 0, .int .i64 0, .int .i64 0, .int .i64 0, .int .i64 0, .int .i64 0, .int .i64 0, .slice none 0 0, .slice A1 l.length c1, .bool true] := by
    rfl
  rw [hf] at hS
  have S1 := Bx.mk hS
  have Z1 := hb1.size
  clear ho1 hb1 hS hf
  go_wp2
  generalize w1.alloc (.cells #[.int .i64 0, .int .i64 0, .int .i64 0, .int .i64 0, .int .i64 0, .int .i64 0, .int .i64 0, .int .i64 0, .int .i64 0, .int .i64 0, .int .i64 0, .int .i64 0, .int .i64 0, .int .i64 0, .int .i64 0, .int .i64 0, .slice none 0 0, .slice A1 l.length c1, .bool true] 78) = w2 at S1 ⊢
  generalize w1.heap.size = g at S1 Z1 ⊢
  go_loopw [6] (fun i wr => ∃ n : Nat, 1 ≤ n ∧ n ≤ 16 ∧ i = .int .i64 (n : Nat) ∧ Bx (CdS w g w.heap.size A1 c1 l (upF l n 0) (ordN l (n - 1)) wr)) (fun i _ => 16 - (intOf i).toNat)
  case atStart => exact ⟨1, by omega, by omega, rfl, S1⟩
  case round =>
    obtain ⟨n, hn1, hn2, rfl, HS⟩ := hrel
    by_cases hlt : n ≤ 15
    · have hd15 : decide ((n : Int) ≤ 15) = true := by simp; omega
      go_wp2
      have HS0 : Bx (CdS w g w.heap.size A1 c1 l (upF l n 0) (ordN l (n - 1) ++ syms (l.take 0) n 0) wr) := ⟨by rw [List.take_zero, show syms [] n 0 = [] from rfl, List.append_nil]; exact HS.out⟩
      clear HS S1
      go_loopw [29] (fun i wr => ∃ j : Nat, j ≤ l.length ∧ i = .int .i64 (j : Nat) ∧ Bx (CdS w g w.heap.size A1 c1 l (upF l n j) (ordN l (n - 1) ++ syms (l.take j) n 0) wr)) (fun i _ => l.length - (intOf i).toNat)
      case atStart => exact ⟨0, Nat.zero_le _, rfl, HS0⟩
      case round =>
        obtain ⟨j, hj, rfl, HS⟩ := hrel
        by_cases hjl : j < l.length
        · obtain ⟨ad, rfl, hd⟩ := (HL.out.below HS.out.be) (by rw [zl_length]; omega)
          have hg := hd j (by rw [zl_length]; exact hjl)
          rw [zl_get] at hg
          have hx15 : l.getD j 0 ≤ 15 := by rw [List.getD_eq_getElem?_getD, List.getElem?_eq_getElem hjl]; exact H15.out _ (List.getElem_mem hjl)
          by_cases hx : l.getD j 0 = n
          · have HF := Bx.mk (upF_hit l n j hjl hx)
            have HO := Bx.mk (syms_take l n j hjl)
            rw [if_pos hx] at HO
            rw [hx] at hg
            clear hd hx15 hx
            obtain ⟨O, hb, ho⟩ := HS.out.ex
            have hck : wr.cell? ⟨g, n, none⟩ = some (.int .i64 (upF l n j n : Int)) := (hb.cell n).trans (cdC_get _ _ _ _ n hlt)
            have hfk := hb.frozen n
            have hsl : (syms (l.take j) n 0).length ≤ 288 := syms_small l n j hn
            have hsl2 : (ordN l (n - 1) ++ syms (l.take j) n 0).length ≤ 288 * 17 := by rw [List.length_append]; have := ord_small l hn (n - 1); omega
            have hub : upF l n j n ≤ 288 := by unfold upF; rw [if_neg (by omega), if_pos rfl]; exact hsl
            have HBK := Bx.mk hb
            have HOI := Bx.mk ho
            generalize upF l n j n = X at hck hub HF
            have hn16 : (n : Int) < 16 := by omega
            have hn16' : n < 16 := by omega
            have hw1 : IntKind.i64.wrap ((X : Int) + 1) = (X : Int) + 1 := by rw [IntKind.wrap_i64]; omega
            clear hb ho
            go_wp2
            go_still_tail 10, (by kernel_rfl)
            change wpList _ _ _ _ _ wr.drew
            obtain ⟨q1, q2, q3, q4⟩ := HS.out.more n hlt X O HBK.out HOI.out
            have q5 : wr.drew.cell? ⟨g, n, none⟩ = some (.int .i64 (X : Int)) := hck
            have q6 : wr.drew.frozen? ⟨g, n, none⟩ = false := hfk
            have Q2 := Bx.mk q2; have Q4 := Bx.mk q4
            have hol : ((zl (ordN l (n - 1) ++ syms (l.take j) n 0)).length + 1) * 8 ≤ 140737488355328 := by rw [zl_length]; omega
            clear q2 q4 hck hfk
            generalize wr.drew = wd at q1 Q2 q3 Q4 q5 q6 ⊢
            go_upto_region 13 with fail
            generalize wd.setCell ⟨g, n, none⟩ (.int .i64 ((X : Int) + 1)) = W4 at q1 Q2 q3 Q4 ⊢
            go_wp2_with (at_builtin; refine wpList_append_int W4 rfl (.tmp 51) (.tmp 53) rfl (g + 1) O _ (j : Int) rfl Q2.out rfl hol q3 ?_; intro v5 w5 ho5 hg5 _; obtain ⟨A5, c5, hv5⟩ := ho5.form; have hl5 := hv5; rw [List.length_append, zl_length, List.length_append, List.length_singleton] at hl5; subst hl5; obtain ⟨r1, r2, r3⟩ := Q4.out j _ w5 ho5 hg5; have R3 := Bx.mk r3; clear ho5 hg5 r3 hv5)
            go_roundw
            case rel => exact ⟨j + 1, by omega, by go_num, ⟨by rw [← HF.out, HO.out, ← List.append_assoc]; exact R3.out⟩⟩
            case measure => simp [intOf]; omega
          · obtain ⟨hm1, hm2⟩ := upF_miss l n j hjl hx
            have HS2 : Bx (CdS w g w.heap.size A1 c1 l (upF l n (j + 1)) (ordN l (n - 1) ++ syms (l.take (j + 1)) n 0) wr) := ⟨by rw [← hm1, hm2]; exact HS.out⟩
            have hne : (((l.getD j 0 : Nat) : Int) == (n : Int)) = false := beq_false_of_ne (by omega)
            clear hd hm1 hm2 hx
            generalize l.getD j 0 = X at hg hx15 hne
            go_wp2
            go_roundw
            case rel => exact ⟨j + 1, by omega, by go_num, HS2⟩
            case measure => simp [intOf]; omega
        · obtain rfl : j = l.length := by omega
          have HS2 : Bx (CdS w g w.heap.size A1 c1 l (upF l (n + 1) 0) (ordN l (n + 1 - 1)) wr) := ⟨by
            rw [← upF_next l n hn1, Nat.add_sub_cancel, show ordN l n = ordN l (n - 1) ++ syms l n 0 by
              obtain ⟨m, rfl⟩ : ∃ m, n = m + 1 := ⟨n - 1, by omega⟩
              rfl]
            have := HS.out
            rwa [List.take_length] at this⟩
          go_wp2
          go_roundw
          case rel => exact ⟨n + 1, by omega, by omega, by go_num, HS2⟩
          case measure => simp [intOf]; omega
    · obtain rfl : n = 16 := by omega
      obtain ⟨O, hb, ho⟩ := HS.out.ex
      rw [show upF l 16 0 = upF l 16 0 from rfl, show (16 - 1 : Nat) = 15 from rfl] at *
      obtain ⟨A5, c5, rfl⟩ := ho.form
      rw [zl_length] at hb ho
      have e16 : wr.cell? ⟨g, 16, none⟩ = some (.slice A5 (ordN l 15).length c5) := hb.cell 16
      have e1 : wr.cell? ⟨g, 1, none⟩ = some (.int .i64 (cnt l 1 : Int)) := hb.cell 1
      have CD : Bx (Cd wr g (.slice A5 (ordN l 15).length c5) (.slice A1 l.length c1) l) := ⟨hb, ho, _, HS.out.ln⟩
      have BE := Bx.mk HS.out.be
      have LNB : Bx (∀ q, (Value.slice A1 l.length c1).ownBlock = some q → w.heap.size ≤ q) := ⟨fun q hq => (own_block' HS.out.ln q hq).1⟩
      have RM := fun q => Calls.quiet_of_same ((Room_calls A (zl l) c (wr.drewN q) (HL.out.below (below_drewN HS.out.be q)) (by rw [zl_length]; omega)).mono fun e w' h => ⟨h.1, h.2.symm⟩)
      rw [zl_length, krI_zl] at RM
      have hkr : kr l ≤ 16384 * 288 := by have := krI_le (zl l); rw [krI_zl, zl_length] at this; omega
      obtain ⟨one, hone⟩ : ∃ b : Bool, b = decide (oneC l) := ⟨_, rfl⟩
      obtain ⟨m, hm⟩ : ∃ m, m = (ordN l 15).length := ⟨_, rfl⟩
      obtain ⟨X, hX⟩ : ∃ X, X = cnt l 1 := ⟨_, rfl⟩
      obtain ⟨K, hK⟩ : ∃ K, K = kr l := ⟨_, rfl⟩
      have HONE : Bx (one = decide (m = 0 ∨ (m = 1 ∧ X = 1))) := ⟨by rw [hone, hm, hX]; rfl⟩
      rw [← hm] at e16
      have HM := Bx.mk hm
      rw [← hX] at e1
      rw [← hK] at RM hkr
      have RMX := Bx.mk RM
      have HK := Bx.mk hK
      have HO := Bx.mk hone
      clear hb ho HS RM hone S1 hm hX hK
      go_upto_region 15 with fail
      go_cut [9, 10] (fun s9 s10 wx => s9 = .int .i64 (32768 - (K : Int)) ∧ s10 = .bool one ∧ ∃ q, wx = wr.drewN q)
      case first =>
        by_cases h0 : m = 0
        · subst h0
          have hv : one = true := by rw [HONE.out]; simp
          subst hv
          clear HONE
          go_quiet ((go_at_call 44; with_reducible exact RMX.out _))
          go_wp2
          go_meet
          exact ⟨rfl, rfl, _, rfl⟩
        · by_cases h1 : m = 1
          · subst h1
            by_cases hX : X = 1
            · subst hX
              have hv : one = true := by rw [HONE.out]; simp
              subst hv
              clear HONE
              go_quiet ((go_at_call 44; with_reducible exact RMX.out _))
              go_wp2
              go_meet
              exact ⟨rfl, rfl, _, rfl⟩
            · have hv : one = false := by rw [HONE.out]; simp [hX]
              subst hv
              have hne : ((X : Int) == 1) = false := beq_false_of_ne (by omega)
              clear HONE hX
              go_quiet ((go_at_call 44; with_reducible exact RMX.out _))
              go_wp2
              go_meet
              exact ⟨rfl, rfl, _, rfl⟩
          · have hv : one = false := by rw [HONE.out]; simp [h0, h1]
            subst hv
            have hne : ((m : Int) == 0) = false := beq_false_of_ne (by omega)
            have hne1 : ((m : Int) == 1) = false := beq_false_of_ne (by omega)
            clear HONE h0 h1
            go_quiet ((go_at_call 44; with_reducible exact RMX.out _))
            go_wp2
            go_meet
            exact ⟨rfl, rfl, _, rfl⟩
      case rest =>
        obtain ⟨rfl, rfl, q, rfl⟩ := hcut
        have CDq : Bx (Cd (wr.drewN q) g (.slice A5 m c5) (.slice A1 l.length c1) l) := ⟨by have := CD.out; rw [← HM.out] at this; exact ⟨this.blk, this.ord, this.len⟩⟩
        have BEq := Bx.mk (below_drewN BE.out q)
        clear CD BE RMX e16 e1
        by_cases h1 : 32768 < K
        · have hno : ¬ goodC l := fun h => by have := h.1; have := HK.out; omega
          have HNO := Bx.mk hno
          clear hno
          go_wp2
          go_ret2
          exact ⟨fun h => absurd h HNO.out, fun _ => ⟨rfl, BEq.out⟩⟩
        · cases one
          · have hn1 : ¬ oneC l := fun h => by have := HO.out; rw [decide_eq_true h] at this; cases this
            by_cases h2 : K < 32768
            · have hno : ¬ goodC l := fun h => by have := HK.out; exact h.2.elim (fun h3 => by omega) hn1
              have HNO := Bx.mk hno
              clear hno hn1
              go_wp2
              go_ret2
              exact ⟨fun h => absurd h HNO.out, fun _ => ⟨rfl, BEq.out⟩⟩
            · have hyes : goodC l := ⟨by have := HK.out; omega, .inl (by have := HK.out; omega)⟩
              have HY := Bx.mk hyes
              have hK2 : K = 32768 := by omega
              subst hK2
              clear hyes hn1 h1 h2
              go_wp2
              go_ret2
              exact ⟨fun _ => ⟨g, _, _, rfl, Z1, LNB.out, CDq.out, BEq.out⟩, fun h => absurd HY.out h⟩
          · have hyes : goodC l := ⟨by have := HK.out; omega, .inr (of_decide_eq_true HO.out.symm)⟩
            have HY := Bx.mk hyes
            clear hyes
            go_wp2
            all_goals go_ret2
            all_goals exact ⟨fun _ => ⟨g, _, _, rfl, Z1, LNB.out, CDq.out, BEq.out⟩, fun h => absurd HY.out h⟩
end Go.Proofs.Ytnncnjkpjlpodaa
