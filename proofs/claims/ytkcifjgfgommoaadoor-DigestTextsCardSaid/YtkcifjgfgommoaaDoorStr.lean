import Derived.Test.YtkcifjgfgommoaaDoorDig4
import Derived.Lib.Bytealg
import Derived.Laws.IdiomStrings
/-
  Strings: their bytes as numbers; string(b), []byte(s), IndexByte.
-/
namespace Go.Proofs.YtkcifjgfgommoaaDoor
open Go.RowKit

/-- a string's bytes -/
def sb (s : ByteArray) : List Nat := s.data.toList.map (·.toNat)
/-- the string of bytes -/
def st (l : List Nat) : ByteArray := ⟨(l.map UInt8.ofNat).toArray⟩
theorem sb_len (s : ByteArray) : (sb s).length = s.size := by simp [sb]
theorem st_size (l : List Nat) : (st l).size = l.length := by
  show ((l.map UInt8.ofNat).toArray).size = _
  simp
theorem sb_mem (s : ByteArray) : ∀ x ∈ sb s, x < 256 := fun x hx => by
  obtain ⟨c, _, rfl⟩ := List.mem_map.1 hx
  exact c.toNat_lt
theorem sb_st (l : List Nat) (h : ∀ x ∈ l, x < 256) : sb (st l) = l := by
  unfold sb st
  simp only [List.map_map]
  conv => rhs; rw [← List.map_id l]
  apply List.map_congr_left
  intro x hx
  have := h x hx
  simp only [Function.comp]
  rw [UInt8.toNat_ofNat']
  show x % 2 ^ 8 = id x
  simp; omega
theorem st_sb (s : ByteArray) : st (sb s) = s := by
  unfold sb st
  rw [List.map_map]
  have : (s.data.toList.map (UInt8.ofNat ∘ fun x => x.toNat)) = s.data.toList := by
    conv => rhs; rw [← List.map_id s.data.toList]
    apply List.map_congr_left
    intro x _
    simp
  rw [this]
theorem st_inj {l m : List Nat} (hl : ∀ x ∈ l, x < 256) (hm : ∀ x ∈ m, x < 256) (h : st l = st m) : l = m := by rw [← sb_st l hl, ← sb_st m hm, h]
theorem sb_inj {s t : ByteArray} (h : sb s = sb t) : s = t := by rw [← st_sb s, ← st_sb t, h]

/-- string(b) -/
theorem conv_str (w : World) (A : Option Addr) (c : Nat) (l : List Nat) (h : RB w A l) : (convert 22 9 (.slice A l.length c)).run Tryd.prog w = .ok (.string (st l)) w := by
  rcases l with _ | ⟨x, l⟩
  · cases A with
    | none => simp [convert, run_underlying Tryd.underlying22, run_underlying Tryd.underlying9, run_underlying Tryd.underlying5, Conv.bytesToString, Sem.run_pure]; rfl
    | some a => exact run_convert_bytes_back w 22 9 5 a c [] Tryd.underlying22 Tryd.underlying5 Tryd.underlying9 (fun j hj => absurd hj (by simp))
  · obtain ⟨a, rfl, hc⟩ := h.2.2 (by simp)
    have := run_convert_bytes_back w 22 9 5 a c ((x :: l).map UInt8.ofNat) Tryd.underlying22 Tryd.underlying5 Tryd.underlying9 (fun j hj => by
      rw [List.length_map] at hj
      rw [hc j hj, List.getElem_map, UInt8.toNat_ofNat', getD_getElem _ j hj]
      have hb := h.1 _ (List.getElem_mem hj)
      rw [Nat.mod_eq_of_lt (by simpa using hb)])
    rw [List.length_map] at this
    exact this
/-- []byte(s): the bytes, in memory of its own -/
theorem conv_bts (w : World) (s : ByteArray) (hs : s.size ≤ 140737488351232) : ∃ c w', (convert 9 22 (.string s)).run Tryd.prog w = .ok (.slice (some ⟨w.heap.size, 0, none⟩) (sb s).length c) w' ∧ RB w' (some ⟨w.heap.size, 0, none⟩) (sb s) ∧ (sb s).length ≤ c ∧ Below w.heap.size w w' := by
  have h := run_bytes_of_string (P := Tryd.prog) w 9 22 5 s Tryd.underlying9 Tryd.underlying22 Tryd.underlying5
  refine ⟨_, _, by rw [sb_len]; exact h, ⟨sb_mem s, by rw [sb_len]; exact hs, fun _ => ⟨_, rfl, fun j hj => ?_⟩⟩, ?_, ?_⟩
  · rw [add_plain, show w.heap.size = w.drew.heap.size from rfl, World.cell?_alloc_mark]
    unfold bytesRow
    rw [sb_len] at hj
    have hj' : j < s.data.size := hj
    rw [Array.getElem?_append_left (by simpa using hj'), Array.getElem?_map, Array.getElem?_eq_getElem hj']
    unfold sb
    rw [List.getD_eq_getElem?_getD, List.getElem?_map, Array.getElem?_toList, Array.getElem?_eq_getElem hj']
    rfl
  · rw [sb_len]; exact grownCap_ge w s.size 0 5
  · exact (Below.refl _ _).drew.alloc (Nat.le_refl _) _
theorem stringsliteIndexByte_calls (s : ByteArray) (c : Int) (w : World) :
    Calls Tryd.prog 31 #[.string s, .int .u8 c] w fun e w' => e = .returned (.int .i64 (Lib.indexByte s.data.toList c.toNat.toUInt8)) ∧ w = w' := by
  go_enter Tryd.func31, Tryd.ntmps31
  go_wp2
  rw [run_callFunc_extern Tryd.func34 (by kernel_rfl) (by kernel_rfl) (by kernel_rfl) (e := Extern.BytealgIndexByte.indexByte) (by kernel_rfl), Lib.run_indexByteString]
  simp only [Result.andThen]
  rw [Oper.upon_value]
  go_wp2
  go_ret
  exact ⟨rfl, rfl⟩
theorem IndexByte_calls (s : ByteArray) (c : Int) (w : World) :
    Calls Tryd.prog 25 #[.string s, .int .u8 c] w fun e w' => e = .returned (.int .i64 (Lib.indexByte s.data.toList c.toNat.toUInt8)) ∧ w = w' := by
  go_enter Tryd.func25, Tryd.ntmps25
  go_wp2_with fail
  refine (stringsliteIndexByte_calls s c _).mono ?_
  rintro e w1 ⟨rfl, rfl⟩
  go_wp2
  go_ret
  exact ⟨rfl, rfl⟩
/-- the base 16's digits -/
def DIG : ByteArray := { data := #[48, 49, 50, 51, 52, 53, 54, 55, 56, 57, 97, 98, 99, 100, 101, 102] }
/-- the digit's value, or -1 -/
def hexv (c : Nat) : Int := if 48 ≤ c ∧ c ≤ 57 then (c : Int) - 48 else if 97 ≤ c ∧ c ≤ 102 then (c : Int) - 87 else -1
def hexd (n : Nat) : Nat := if n < 10 then 48 + n else 87 + n
theorem hexv_256 : ∀ c, c < 256 → Lib.indexByte DIG.data.toList c.toUInt8 = hexv c := by decide +kernel
theorem DigIndex_calls (c : Nat) (hc : c < 256) (w : World) :
    Calls Tryd.prog 25 #[.string DIG, .int .u8 (c : Int)] w fun e w' => e = .returned (.int .i64 (hexv c)) ∧ w = w' :=
  (IndexByte_calls DIG (c : Int) w).mono fun e w' h => ⟨by rw [h.1, Int.toNat_natCast, hexv_256 c hc], h.2⟩
theorem dig_index (n : Nat) (k : IntKind) (hn : n < 16) (W : World) : (Instr.index 9 (.string DIG) (.int k (n : Int))).run Tryd.prog W = .ok (.int .u8 ((hexd n : Nat) : Int)) W := by
  rw [run_index_string W 9 DIG k (n : Int) Tryd.underlying9, dif_pos ⟨by omega, by show (n : Int) < ((16 : Nat) : Int); omega⟩]
  obtain rfl | rfl | rfl | rfl | rfl | rfl | rfl | rfl | rfl | rfl | rfl | rfl | rfl | rfl | rfl | rfl : n = 0 ∨ n = 1 ∨ n = 2 ∨ n = 3 ∨ n = 4 ∨ n = 5 ∨ n = 6 ∨ n = 7 ∨ n = 8 ∨ n = 9 ∨ n = 10 ∨ n = 11 ∨ n = 12 ∨ n = 13 ∨ n = 14 ∨ n = 15 := by omega
  all_goals rfl
/-- an element of an array of bytes, by value -/
theorem run_index_cell {P : Program} (w : World) (t e : TypeId) (n : Nat) (ek : IntKind) (cs : Array Value) (k : IntKind) (i : Nat) (v : Value) (h : P.underlying t = some (.array n e)) (he : P.underlying e = some (.int ek)) (hi : (P.info? e).map (·.size) = some 1) (hin : i < n) (hv : cs[i]? = some v) :
    (Instr.index t (.agg cs) (.int k (i : Int))).run P w = .ok v w := by
  have h1 : (0 : Int) ≤ (i : Int) ∧ (i : Int) < (n : Int) := by omega
  cases hq : P.info? e with
  | none => simp [hq] at hi
  | some x =>
    have hs : x.size = 1 := by simpa [hq] using hi
    have hagg : (isAgg e).run P w = .ok false w := by
      unfold isAgg
      rw [Sem.run_bind, run_underlying he w]
      rfl
    simp [Instr.index, run_underlying h, asIntOf, h1, part, hagg, sizeOf, typeInfo, hq, hs, hv]
    intro hc; omega
end Go.Proofs.YtkcifjgfgommoaaDoor
