import Derived.Test.YtnncnjkpjlpodaaMem
/-
  Slices of ints that the call owns.
-/
namespace Go.Proofs.Ytnncnjkpjlpodaa
open Go.RowKit

def is (l : List Int) : List Value := l.map fun x => Value.int .i64 x
theorem is_length (l : List Int) : (is l).length = l.length := by simp [is]
theorem is_append (l m : List Int) : is (l ++ m) = is l ++ is m := by simp [is]
theorem is_get (l : List Int) (j : Nat) (h : j < l.length) : (is l)[j]? = some (.int .i64 (l.getD j 0)) := by
  unfold is
  rw [List.getElem?_map, List.getD_eq_getElem?_getD, List.getElem?_eq_getElem h]; rfl
theorem is_set (l : List Int) (j : Nat) (x : Int) : is (l.set j x) = (is l).set j (.int .i64 x) := by
  unfold is; rw [List.map_set]
def OI (w : World) (base : Nat) (v : Value) (l : List Int) : Prop := w.ownsRow base 3 1 v l.length (is l)
theorem OI.form {w : World} {base : Nat} {v : Value} {l : List Int} (h : OI w base v l) : ∃ A c, v = .slice A l.length c := by
  rcases h.2 with ⟨rfl, h0⟩ | ⟨g, cap, cur, rfl, _⟩
  · exact ⟨none, 0, by rw [h0]⟩
  · exact ⟨_, cap, rfl⟩
theorem OI.nil (w : World) (base : Nat) : OI w base (.slice none 0 0) [] := ⟨rfl, .inl ⟨rfl, rfl⟩⟩
theorem OI.empty (w : World) : OI (w.alloc (.cells #[] 3)) w.heap.size (.slice (some ⟨w.heap.size, 0, none⟩) 0 0) [] :=
  ⟨rfl, .inr ⟨w.heap.size, 0, #[], rfl, Nat.le_refl _, heap_alloc_new w _, Nat.le_refl _, by unfold maxLen; omega, rfl, rfl⟩⟩
theorem OI.block {w : World} {base : Nat} {v : Value} {l : List Int} (h : OI w base v l) (k : Nat) (hk : v.ownBlock = some k) : base ≤ k := by
  rcases h.2 with ⟨rfl, _⟩ | ⟨g, cap, cur, rfl, hb, _⟩
  · simp [Value.ownBlock] at hk
  · have : g = k := by simpa [Value.ownBlock] using hk
    omega
theorem OI.opened {w : World} {base : Nat} {A : Option Addr} {n c : Nat} {l : List Int} (h : OI w base (.slice A n c) l) (hp : 0 < l.length) :
    ∃ g, A = some ⟨g, 0, none⟩ ∧ n = l.length ∧ base ≤ g ∧ g < w.heap.size ∧ (∀ j, j < l.length → w.cell? ⟨g, j, none⟩ = some (.int .i64 (l.getD j 0))) ∧ (∀ j, w.frozen? ⟨g, j, none⟩ = false) := by
  obtain ⟨_, h⟩ := h
  rcases h with ⟨_, h0⟩ | ⟨g, cap, cur, he, hb, hh, h1, h2, h3, h4⟩
  · omega
  · simp only [Value.slice.injEq] at he
    obtain ⟨rfl, rfl, rfl⟩ := he
    refine ⟨g, rfl, rfl, hb, (Array.getElem?_eq_some_iff.1 hh).1, fun j hj => ?_, fun j => by simp [World.frozen?, hh]⟩
    have hx : cur.toList[j]? = some (.int .i64 (l.getD j 0)) := by
      have : (List.take (l.length * 1) cur.toList)[j]? = some (.int .i64 (l.getD j 0)) := by rw [h4, is_get l j hj]
      rw [List.getElem?_take] at this
      split at this
      · exact this
      · cases this
    simp only [World.cell?, hh]
    simpa using hx
theorem OI.put {w : World} {base g n c : Nat} {l : List Int} (h : OI w base (.slice (some ⟨g, 0, none⟩) n c) l) (j : Nat) (x : Int) :
    OI (w.setCell ⟨g, j, none⟩ (.int .i64 x)) base (.slice (some ⟨g, 0, none⟩) n c) (l.set j x) := by
  obtain ⟨h0, h⟩ := h
  refine ⟨by rw [is_length, Nat.mul_one], ?_⟩
  rcases h with ⟨he, _⟩ | ⟨g', cap, cur, he, hb, hh, h1, h2, h3, h4⟩
  · cases he
  · simp only [Value.slice.injEq, Option.some.injEq, Addr.mk.injEq] at he
    obtain ⟨⟨rfl, _, _⟩, rfl, rfl⟩ := he
    refine .inr ⟨g, c, cur.setIfInBounds j (.int .i64 x), by rw [List.length_set], hb, ?_, by rw [List.length_set]; exact h1, h2, by rw [Array.size_setIfInBounds]; exact h3, ?_⟩
    · simp [World.setCell, Array.getElem?_modify, hh]
    · rw [List.length_set, Array.toList_setIfInBounds, List.take_set, h4, is_set]
/-- ints that are read -/
def IR (w : World) (A : Option Addr) (l : List Int) : Prop := 0 < l.length → ∃ ad, A = some ad ∧ ∀ j, j < l.length → w.cell? (ad.add j) = some (.int .i64 (l.getD j 0))
theorem IR.below {w w1 : World} {A : Option Addr} {l : List Int} (h : IR w A l) (hb : Below w.heap.size w w1) : IR w1 A l :=
  fun hn => let ⟨ad, e, hc⟩ := h hn; ⟨ad, e, fun j hj => cell_below hb (hc j hj)⟩
theorem OI.ir {w : World} {base : Nat} {A : Option Addr} {n c : Nat} {l : List Int} (h : OI w base (.slice A n c) l) : IR w A l := fun hp => by
  obtain ⟨g, rfl, _, _, _, hc, _⟩ := h.opened hp
  exact ⟨_, rfl, fun j hj => by rw [add_plain]; exact hc j hj⟩
theorem info_int : (Try.prog.info? 3).map (fun i => (i.zero, i.size, i.bytes)) = some (some (.int .i64 0), 1, 8) := by kernel_rfl
/-- 'append(v, x)' -/
theorem wpList_append_int {ops : Array Oper} {rest : List Oper} {o : Oper} {a : Act} {Q : Exit → Act → World → Prop} (W : World) (hgd : o.guard = none) (s x : Operand)
    (ho : o.op = .call { callee := .builtin .append, args := #[s, x], argTypes := #[42, 42] })
    (base : Nat) (v : Value) (xs : List Int) (y : Int) (hs : a.eval s = v) (hown : OI W base v xs) (hx : a.eval x = .slice (some ⟨W.heap.size, 0, none⟩) 1 1)
    (hlen : (xs.length + 1) * 8 ≤ 140737488355328) (hbase : base ≤ W.heap.size)
    (h : ∀ v' w', OI w' base v' (xs ++ [y]) → (W.alloc (.cells #[.int .i64 y] 3)).grownBy w' v.ownBlock → (v'.ownBlock = v.ownBlock ∨ v'.ownBlock = some (W.heap.size + 1)) → wpList Try.prog ops Q rest (a.put o.dst v') w') :
    wpList Try.prog ops Q (o :: rest) a (W.alloc (.cells #[.int .i64 y] 3)) := by
  obtain ⟨i, hi, hzz⟩ := Option.map_eq_some_iff.1 info_int
  simp only [Prod.mk.injEq] at hzz
  obtain ⟨hz, h1, hb⟩ := hzz
  have hr : Reads (W.alloc (.cells #[.int .i64 y] 3)) (W.heap.size + 1) 1 (some ⟨W.heap.size, 0, none⟩) 1 [.int .i64 y] :=
    ⟨rfl, fun _ => ⟨_, rfl, by simp, fun j u hu => by
      rw [add_plain, World.cell?_alloc_at _ _ _ _ rfl]
      rcases j with _ | j
      · simpa using hu
      · simp at hu⟩⟩
  refine wpList_append_any _ hgd s x 42 ho base 3 i (.int .i64 0) 1 8 Try.underlying42 hi hz h1 hb rfl (by omega) v xs.length (is xs) hs (hown.alloc _) (W.heap.size + 1) (some ⟨W.heap.size, 0, none⟩) 1 1 [.int .i64 y] hx hr
    (fun u hu => by rw [List.mem_singleton.1 hu]; rfl) (by unfold maxLen; omega) hlen (by simp; omega) ?_
  intro v' w' ho' hg hat
  exact h v' w' (by unfold OI; rw [is_append, List.length_append]; exact ho') hg (by simpa using hat)
theorem OI.kept {w w' : World} {base : Nat} {v : Value} {l : List Int} (h : OI w base v l) (hb : Below w.heap.size w w') : OI w' base v l := by
  obtain ⟨h0, h⟩ := h
  refine ⟨h0, ?_⟩
  rcases h with h | ⟨g, cap, cur, he, hbb, hh, r⟩
  · exact .inl h
  · exact .inr ⟨g, cap, cur, he, hbb, (hb.block g (Array.getElem?_eq_some_iff.1 hh).1).trans hh, r⟩
theorem OB.kept {w w' : World} {base : Nat} {v : Value} {l : List Nat} (h : OB w base v l) (hb : Below w.heap.size w w') : OB w' base v l := by
  obtain ⟨h0, h⟩ := h
  refine ⟨h0, ?_⟩
  rcases h with h | ⟨g, cap, cur, he, hbb, hh, r⟩
  · exact .inl h
  · exact .inr ⟨g, cap, cur, he, hbb, (hb.block g (Array.getElem?_eq_some_iff.1 hh).1).trans hh, r⟩
end Go.Proofs.Ytnncnjkpjlpodaa
