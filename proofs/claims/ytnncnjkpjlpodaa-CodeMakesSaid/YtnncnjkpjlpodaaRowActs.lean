import Derived.Test.YtnncnjkpjlpodaaRowAct
import Derived.Deep.Slices
/-
  A slice of Acts that came in, opened.
-/
namespace Go.Proofs.Ytnncnjkpjlpodaa
open Go.ChangeShapes Go.WideShapes Go.ChangeAt Go.RowKit Go.Deep

structure AV where
  d : Int
  n : Int
  b : Int
  D : Option Addr
  len : Nat
  cap : Nat
  dl : List Nat
instance : Inhabited AV := ⟨⟨0, 0, 0, none, 0, 0, []⟩⟩
/-- an Act in memory; of its bytes the first fifty -/
structure AtAct (w : World) (p : Addr) (x : AV) : Prop where
  c0 : w.cell? p = some (.int .i64 x.d)
  c1 : w.cell? ⟨p.block, p.off + 1, none⟩ = some (.int .i64 x.n)
  c2 : w.cell? ⟨p.block, p.off + 2, none⟩ = some (.int .i64 x.b)
  c3 : w.cell? ⟨p.block, p.off + 3, none⟩ = some (.slice x.D x.len x.cap)
  nb : -9223372036854775808 ≤ x.n ∧ x.n ≤ 9223372036854775807
  bb : -9223372036854775808 ≤ x.b ∧ x.b ≤ 9223372036854775807
  lc : x.len ≤ x.cap
  lm : x.cap ≤ 9223372036854775807
  dlen : x.dl.length = min x.len 50
  rb : RB w x.D x.dl
theorem AtAct.below {w w1 : World} {p : Addr} {x : AV} (h : AtAct w p x) (hb : Below w.heap.size w w1) : AtAct w1 p x :=
  ⟨cell_below hb h.c0, cell_below hb h.c1, cell_below hb h.c2, cell_below hb h.c3, h.nb, h.bb, h.lc, h.lm, h.dlen, h.rb.below hb⟩
def AR (w : World) (A : Option Addr) (L : List AV) : Prop := 0 < L.length → ∃ ad, A = some ad ∧ ∀ k x, L[k]? = some x → AtAct w (ad.add (k * 4)) x
theorem AR.below {w w1 : World} {A : Option Addr} {L : List AV} (h : AR w A L) (hb : Below w.heap.size w w1) : AR w1 A L :=
  fun hp => let ⟨ad, e, hc⟩ := h hp; ⟨ad, e, fun k x hx => (hc k x hx).below hb⟩
theorem rb_take_of_row {w : World} {a : Option Addr} {len cap : Nat} {zs : List Int} (h : IsRow .u8 w a len cap zs) (k : Nat) (hk : k ≤ 140737488351232) : ∃ l : List Nat, l.length = min len k ∧ RB w a l ∧ len ≤ cap ∧ cap ≤ maxLen := by
  rcases h with ⟨rfl, rfl, rfl, rfl⟩ | ⟨x, rfl, hl, hm, hz, hc, hw⟩
  · exact ⟨[], by simp, RB.nil _ _, Nat.le_refl _, by unfold maxLen; omega⟩
  · refine ⟨(zs.take (min len k)).map Int.toNat, by simp; omega, ⟨?_, by simp; omega, fun _ => ⟨x, rfl, fun j hj => ?_⟩⟩, hl, hm⟩
    · intro y hy
      obtain ⟨z, hz', rfl⟩ := List.mem_map.1 hy
      have := bounds_u8 (hw z (List.mem_of_mem_take hz'))
      omega
    · have hj' : j < min len k ∧ j < zs.length := by
        rw [List.length_map, List.length_take] at hj; omega
      rw [hc j hj'.2]
      have hb := bounds_u8 (hw zs[j] (List.getElem_mem hj'.2))
      have e1 : zs.getD j 0 = zs[j] := by rw [List.getD_eq_getElem?_getD, List.getElem?_eq_getElem hj'.2]; rfl
      have e2 : ((zs.take (min len k)).map Int.toNat).getD j 0 = (zs[j]).toNat := by
        rw [List.getD_eq_getElem?_getD, List.getElem?_map, List.getElem?_take, if_pos hj'.1, List.getElem?_eq_getElem hj'.2]; rfl
      rw [e1, e2, Int.toNat_of_nonneg hb.1]
theorem isRow_cell {H : Type} {enc : TypeId × Value → H} {W : World} {base fuel : Nat} {held : Bool} {u : Value} {x : DataW H × List MemPlace}
    (h : DataW.trod enc Try.prog W base (fun _ => true) held fuel 26 [u] = some x) : ∃ a len cap zs, u = .slice a len cap ∧ IsRow .u8 W a len cap zs := by
  rcases open_ints Try.underlying26 Try.underlying5 (by kernel_rfl) h with ⟨hcs, _⟩ | ⟨x, l, c, zs, hcs, _, hl, hm, hz, _, hcell, hwz⟩
  · simp at hcs
    exact ⟨none, 0, 0, [], hcs, .inl ⟨rfl, rfl, rfl, rfl⟩⟩
  · simp at hcs
    exact ⟨_, _, _, zs, hcs, .inr ⟨_, rfl, hl, hm, by simpa using hz, hcell, hwz⟩⟩
theorem cells_bytes : Try.prog.cellsOf 26 = 1 := by kernel_rfl
theorem addr_at (a : Addr) (i : Nat) (w : World) (v : Value) (h : w.cell? (a.add (i + 1)) = some v) : w.cell? ⟨a.block, a.off + (i + 1), none⟩ = some v := by rwa [add_succ] at h
theorem acts_open {H : Type} {enc : TypeId × Value → H} {W : World} {base : Nat} {held : Bool} {A : Option Addr} {len cap : Nat} {d : DataW H} {ps : List MemPlace}
    (h : DataW.Trod enc Try.prog W base (fun _ => true) held 22 (.slice A len cap) d ps) : ∃ L : List AV, L.length = len ∧ len ≤ cap ∧ cap ≤ maxLen ∧ AR W A L := by
  obtain ⟨fuel, hf⟩ := h
  rcases open_slice Try.underlying22 hf with ⟨hcs, _⟩ | ⟨a, l, c, m, n, D, Pl, hcs, _, hl, hm, hmm, _, hx⟩
  · simp [Value.cells] at hcs
    obtain ⟨rfl, rfl, rfl⟩ := hcs
    exact ⟨[], rfl, Nat.le_refl _, by unfold maxLen; omega, fun hp => absurd hp (by simp)⟩
  · simp [Value.cells] at hcs
    obtain ⟨rfl, rfl, rfl⟩ := hcs
    simp at hmm
    have key : ∀ i, i < len → ∃ x : AV, AtAct W (a.add (i * 4)) x := by
      intro i hi
      obtain ⟨cs', h1, h2⟩ := hx i (by omega)
      rw [cells_act] at h1
      obtain ⟨-, hlen, hc⟩ := World.cells?_some h1
      obtain ⟨y0, y1, y2, y3, k, -, -, h0, h3, h4, h5⟩ := Joins.trod_struct4 Try.underlying28 h2
      rw [cells_int] at h0 h3 h4
      rw [cells_bytes] at h5
      match cs', hlen with
      | [u0, u1, u2, u3], _ =>
        simp at h0 h3 h4 h5
        obtain ⟨d0, e0, -, -⟩ := DataW.trod_int Try.underlying3 h0
        obtain ⟨n0, e1, -, w1⟩ := DataW.trod_int Try.underlying3 h3
        obtain ⟨b0, e2, -, w2⟩ := DataW.trod_int Try.underlying3 h4
        obtain ⟨da, dn, dc, zs, e3, R⟩ := isRow_cell h5
        simp at e0 e1 e2
        subst e0; subst e1; subst e2; subst e3
        obtain ⟨dl, q1, q2, q3, q4⟩ := rb_take_of_row R 50 (by decide)
        refine ⟨⟨d0, n0, b0, da, dn, dc, dl⟩, ?_, addr_at _ 0 _ _ ?_, addr_at _ 1 _ _ ?_, addr_at _ 2 _ _ ?_, bounds_i64 w1, bounds_i64 w2, q3, q4, q1, q2⟩
        · have := hc 0 (by omega); simpa [Addr.add] using this
        · simpa using hc 1 (by omega)
        · simpa using hc 2 (by omega)
        · simpa using hc 3 (by omega)
    obtain ⟨V, hV⟩ := choose_lt (α := AV) (p := fun i x => AtAct W (a.add (i * 4)) x) key
    refine ⟨(List.range len).map V, by simp, hl, hm, fun _ => ⟨a, rfl, fun k x hk => ?_⟩⟩
    rw [List.getElem?_map] at hk
    rcases Nat.lt_or_ge k len with h1 | h1
    · rw [List.getElem?_range h1] at hk
      simp at hk
      subst hk
      exact hV k h1
    · rw [List.getElem?_eq_none (by simpa using h1)] at hk; cases hk
end Go.Proofs.Ytnncnjkpjlpodaa
