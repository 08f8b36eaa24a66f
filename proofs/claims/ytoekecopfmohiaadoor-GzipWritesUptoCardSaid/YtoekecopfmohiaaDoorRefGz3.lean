import Derived.Test.YtoekecopfmohiaaDoorRefGz2
import Derived.Test.YtoekecopfmohiaaDoorDef5
/-
  The reference of deflate: Runs: words.
-/
namespace Go.Proofs.YtoekecopfmohiaaDoor
open Go.RowKit

/-- the bits so far, in a row above the words -/
structure Sr (W2 : World) (v : Value) (fs : List Fd) (wr : World) : Prop where
  own : ∃ l, OI wr W2.heap.size v (zl l) ∧ Bd l fs
  be : Below W2.heap.size W2 wr
theorem Sr.drewN {W2 : World} {v : Value} {fs : List Fd} {wr : World} (h : Sr W2 v fs wr) (n : Nat) : Sr W2 v fs (wr.drewN n) :=
  ⟨let ⟨l, a, b⟩ := h.own; ⟨l, a.kept (below_drewN (Below.refl _ _) n), b⟩, below_drewN h.be n⟩
theorem Sr.below {W2 : World} {v : Value} {fs : List Fd} {wr w' : World} (h : Sr W2 v fs wr) (hb : Below wr.heap.size wr w') : Sr W2 v fs w' :=
  ⟨let ⟨l, a, b⟩ := h.own; ⟨l, a.kept hb, b⟩, below_then h.be h.be.size hb⟩
/-- 'append(v, bits...)' -/
theorem sr_app {ops : Array Oper} {rest : List Oper} {o : Oper} {a : Act} {Q : Exit → Act → World → Prop} (W : World) (hgd : o.guard = none) (s x : Operand)
    (ho : o.op = .call { callee := .builtin .append, args := #[s, x], argTypes := #[65, 65] })
    (W2 : World) (v : Value) (fs gs : List Fd) (hS : Sr W2 v fs W) (m : List Nat) (hB : Bd m gs) (A : Option Addr) (c : Nat) (hs : a.eval s = v) (hx : a.eval x = .slice A m.length c) (hr : Reads W W.heap.size 1 A m.length (is (zl m)))
    (hlen : (fA fs + m.length) * 8 ≤ 140737492549632)
    (h : ∀ v' w', Sr W2 v' (fs ++ gs) w' → wpList Tryd.prog ops Q rest (a.put o.dst v') w') : wpList Tryd.prog ops Q (o :: rest) a W := by
  obtain ⟨l, hown, hb⟩ := hS.own
  refine wpList_append_ints W hgd s x ho W2.heap.size v (zl l) (zl m) m.length (zl_length _) hs hown A c hx hr (by rw [zl_length, hb.len]; exact hlen) hS.be.size ?_
  intro v' w' ho' hg _
  refine h v' w' ⟨⟨l ++ m, by rw [zl_app]; exact ho', hb.app hB⟩, ?_⟩
  exact bapp_endI hown hS.be (Nat.le_refl _) hg
/-- a word, wherever the bits stand -/
theorem word_cell {W2 : World} {q : Nat} (hW : WO W2 q 288 (wordF fixLn)) (s : Nat) (hs : s < 288) : ∃ A c, ∀ wr, Below W2.heap.size W2 wr → wr.cell? ⟨q, s, none⟩ = some (.slice A (wordF fixLn s).length c) ∧ Reads wr wr.heap.size 1 A (wordF fixLn s).length (is (zl (wordF fixLn s))) := by
  obtain ⟨v, hc, ho, -⟩ := hW.cell s hs
  obtain ⟨A, c, hv⟩ := ho.form
  subst hv
  rw [zl_length] at hc
  refine ⟨A, c, fun wr hb => ⟨cell_below hb hc, ?_⟩⟩
  have := (ho.below hb).reads
  rw [zl_length] at this
  exact this
theorem OI.head3 (w : World) : OI (w.alloc (.cells #[.int .i64 1, .int .i64 1, .int .i64 0] 3)) w.heap.size (.slice (some ⟨w.heap.size, 0, none⟩) 3 3) (zl [1, 1, 0]) :=
  ⟨rfl, .inr ⟨w.heap.size, 3, #[.int .i64 1, .int .i64 1, .int .i64 0], rfl, Nat.le_refl _, heap_alloc_new w _, by decide, by decide, rfl, rfl⟩⟩
theorem sr_head (w : World) : Sr w (.slice (some ⟨w.heap.size, 0, none⟩) 3 3) [(3, 3)] (w.alloc (.cells #[.int .i64 1, .int .i64 1, .int .i64 0] 3)) :=
  ⟨⟨_, OI.head3 w, Bd.head⟩, below_alloc1 w _⟩
theorem copG_lt (c k left : Nat) (h : left < 3) : copG c k left = List.replicate left (litF c) := by
  cases k with
  | zero => rfl
  | succ k => simp only [copG]; rw [if_neg (by omega)]; rfl
theorem copG_ge (c k left : Nat) (h : 3 ≤ left) : copG c (k + 1) left = cpyF (atN (min left 258)) (min left 258) ++ copG c k (left - min left 258) := by
  simp only [copG]; rw [if_pos h]
theorem whole_A (b : List Nat) (hb : ∀ x ∈ b, x < 256) : fA (wholeF copF b) ≤ 9 * b.length + 10 := by
  have h2 := (runsF_A copF (fun c n hc hn => ⟨(copF_A c n (by omega) hn).1, (copF_A c n (by omega) hn).2.1⟩) (b.length + 1) b hb).1
  unfold wholeF
  rw [blkF_A]; omega
theorem cpy_len {l : List Nat} {n : Nat} (h : Bd l (cpyF (atN n) n)) (h3 : 3 ≤ n) (hn : n < 259) : l.length ≤ 30 := by
  obtain ⟨-, -, -, a4, a5, -⟩ := atN_ok n hn h3
  rw [h.len]
  simp only [cpyF, fA]
  omega
end Go.Proofs.YtoekecopfmohiaaDoor
