import Derived.Test.YtkcifjgfgommoaaDoorProg
import Derived.WalkKit
import Derived.Outline
import Derived.BigQuiet
import Derived.Deep.QuietTactic
import Derived.Deep.Draws
/-
  Words used by all texts of this seat: a fact kept from the walk, a slice of bytes that is read, small laws on numbers.
-/
namespace Go.Proofs.YtkcifjgfgommoaaDoor
open Go.RowKit

/-- A fact that the walk does not look into. -/
structure Bx (p : Prop) : Prop where mk :: (out : p)

theorem ret_nat {k : IntKind} {a b : Nat} (h : a = b) : Ending.returned (.int k (a : Int)) = .returned (.int k (b : Int)) := by rw [h]
theorem ret_int {k : IntKind} {a b : Int} (h : a = b) : Ending.returned (.int k a) = .returned (.int k b) := by rw [h]
theorem ret_bool {a b : Bool} (h : a = b) : Ending.returned (.bool a) = .returned (.bool b) := by rw [h]

/-- A slice of bytes that is read: its address (whatever it is where nothing is in it) and what lies there. -/
def RB (w : World) (A : Option Addr) (l : List Nat) : Prop :=
  (∀ x ∈ l, x < 256) ∧ l.length ≤ 140737488351232 ∧ (0 < l.length → ∃ ad, A = some ad ∧ ∀ j, j < l.length → w.cell? (ad.add j) = some (.int .u8 ((l.getD j 0 : Nat) : Int)))
theorem cell_below {w w1 : World} (h : Below w.heap.size w w1) {a : Addr} {v : Value} (hc : w.cell? a = some v) : w1.cell? a = some v := (h.cell (World.block_lt_of_cell? w a hc)).trans hc
theorem RB.below {w w1 : World} {A : Option Addr} {l : List Nat} (h : RB w A l) (hb : Below w.heap.size w w1) : RB w1 A l :=
  ⟨h.1, h.2.1, fun hn => let ⟨ad, e, hc⟩ := h.2.2 hn; ⟨ad, e, fun j hj => cell_below hb (hc j hj)⟩⟩
theorem RB.nil (w : World) (A : Option Addr) : RB w A [] := ⟨by simp, by simp, fun h => absurd h (by simp)⟩
theorem below_alloc1 (w : World) (o : Obj) : Below w.heap.size w (w.alloc o) := (Below.refl _ _).alloc (Nat.le_refl _) o
theorem below_drewN {B : Nat} {w W : World} (h : Below B w W) (n : Nat) : Below B w (W.drewN n) := ⟨h.os, h.tape, h.output, h.size, h.block⟩
theorem below_then {B : Nat} {w w1 w2 : World} (h : Below B w w1) (hB : B ≤ w1.heap.size) (k : Below w1.heap.size w1 w2) : Below B w w2 := h.trans (k.mono hB)

theorem mem_getD {l : List Nat} {k : Nat} (h : k < l.length) (hb : ∀ x ∈ l, x < 256) : l.getD k 0 < 256 := by
  rw [List.getD_eq_getElem?_getD, List.getElem?_eq_getElem h]; exact hb _ (List.getElem_mem h)
theorem take_mem {l : List Nat} {k : Nat} (hb : ∀ x ∈ l, x < 256) : ∀ x ∈ l.take k, x < 256 := fun x hx => hb x (List.mem_of_mem_take hx)
theorem getD_getElem (l : List Nat) (k : Nat) (h : k < l.length) : l.getD k 0 = l[k] := by
  rw [List.getD_eq_getElem?_getD, List.getElem?_eq_getElem h]; rfl
theorem foldl_snoc {β : Type} (f : β → Nat → β) (c : β) (l : List Nat) (k : Nat) (h : k < l.length) : (l.take (k + 1)).foldl f c = f ((l.take k).foldl f c) (l.getD k 0) := by
  rw [List.take_succ_eq_append_getElem h, List.foldl_append, getD_getElem l k h]; rfl

theorem add_plain (g j : Nat) : (⟨g, 0, none⟩ : Addr).add j = ⟨g, j, none⟩ := by unfold Addr.add; split <;> simp_all
/-- A block that has just been made, as a slice of bytes. -/
theorem RB.made (w : World) (cs : Array Value) (t : TypeId) (l : List Nat) (hb : ∀ x ∈ l, x < 256) (hl : l.length ≤ 140737488351232) (hc : ∀ j, j < l.length → cs[j]? = some (.int .u8 ((l.getD j 0 : Nat) : Int))) :
    RB (w.alloc (.cells cs t)) (some ⟨w.heap.size, 0, none⟩) l :=
  ⟨hb, hl, fun _ => ⟨_, rfl, fun j hj => by
    rw [add_plain, World.cell?_alloc_at _ _ _ _ rfl]; exact hc j hj⟩⟩
theorem RB.owned {w : World} {base : Nat} {e : TypeId} {A : Option Addr} {n c : Nat} {l : List Nat} (h : w.ownsRow base e 1 (.slice A n c) n (l.map fun (x : Nat) => Value.int .u8 (x : Int)))
    (hb : ∀ x ∈ l, x < 256) (hl : l.length ≤ 140737488351232) : RB w A l := by
  refine ⟨hb, hl, fun hp => ?_⟩
  obtain ⟨hn, h⟩ := h
  rw [List.length_map, Nat.mul_one] at hn
  rcases h with ⟨_, h0⟩ | ⟨g, cap, cur, he, _, hh, h1, h2, h3, h4⟩
  · omega
  · simp only [Value.slice.injEq] at he
    obtain ⟨rfl, _, rfl⟩ := he
    refine ⟨_, rfl, fun j hj => ?_⟩
    rw [add_plain]
    have hx : cur.toList[j]? = some (.int .u8 ((l.getD j 0 : Nat) : Int)) := by
      have : (List.take (n * 1) cur.toList)[j]? = some (.int .u8 ((l.getD j 0 : Nat) : Int)) := by
        rw [h4, List.getElem?_map, List.getD_eq_getElem?_getD, List.getElem?_eq_getElem hj]; rfl
      rw [List.getElem?_take] at this
      split at this
      · exact this
      · cases this
    simp only [World.cell?, hh]
    simpa using hx
theorem add_succ (a : Addr) (n : Nat) : a.add (n + 1) = ⟨a.block, a.off + (n + 1), none⟩ := by unfold Addr.add; rw [if_neg (by omega)]
theorem ret_pair {k : IntKind} {a b : Nat} {y : Value} (h : a = b) : Ending.returned (.tuple #[.int k (a : Int), y]) = .returned (.tuple #[.int k (b : Int), y]) := by rw [h]
theorem ret_bpair {a b : Bool} {y : Value} (h : a = b) : Ending.returned (.tuple #[.bool a, y]) = .returned (.tuple #[.bool b, y]) := by rw [h]
end Go.Proofs.YtkcifjgfgommoaaDoor
