import Derived.Test.YtoekecopfmohiaaDoorBaseAll
import Derived.Lib.Bytealg
import Derived.Laws.IdiomStrings
/-
  Strings: their bytes as numbers; string(b), []byte(s), IndexByte.
-/
namespace Go.Proofs.YtoekecopfmohiaaDoor
open Go.RowKit
/-- a string's bytes -/
def sb (s : ByteArray) : List Nat := s.data.toList.map (·.toNat)
/-- the string of bytes -/
def st (l : List Nat) : ByteArray := ⟨(l.map UInt8.ofNat).toArray⟩
theorem sb_len (s : ByteArray) : (sb s).length = s.size := by simp [sb]
theorem st_size (l : List Nat) : (st l).size = l.length := by
  show ((l.map UInt8.ofNat).toArray).size = _
  simp
theorem sb_mem (s : ByteArray) : ∀ x ∈ sb s, x < 256 := fun x hx => by
  obtain ⟨c, _, rfl⟩ := List.mem_map.1 hx
  exact c.toNat_lt
theorem sb_st (l : List Nat) (h : ∀ x ∈ l, x < 256) : sb (st l) = l := by
  unfold sb st
  simp only [List.map_map]
  conv => rhs; rw [← List.map_id l]
  apply List.map_congr_left
  intro x hx
  have := h x hx
  simp only [Function.comp]
  rw [UInt8.toNat_ofNat']
  show x % 2 ^ 8 = id x
  simp; omega
theorem st_sb (s : ByteArray) : st (sb s) = s := by
  unfold sb st
  rw [List.map_map]
  have : (s.data.toList.map (UInt8.ofNat ∘ fun x => x.toNat)) = s.data.toList := by
    conv => rhs; rw [← List.map_id s.data.toList]
    apply List.map_congr_left
    intro x _
    simp
  rw [this]
theorem st_inj {l m : List Nat} (hl : ∀ x ∈ l, x < 256) (hm : ∀ x ∈ m, x < 256) (h : st l = st m) : l = m := by rw [← sb_st l hl, ← sb_st m hm, h]
theorem sb_inj {s t : ByteArray} (h : sb s = sb t) : s = t := by rw [← st_sb s, ← st_sb t, h]
/-- string(b) -/
theorem conv_str (w : World) (A : Option Addr) (c : Nat) (l : List Nat) (h : RB w A l) : (convert 22 9 (.slice A l.length c)).run Tryd.prog w = .ok (.string (st l)) w := by
  rcases l with _ | ⟨x, l⟩
  · cases A with
    | none => simp [convert, run_underlying Tryd.underlying22, run_underlying Tryd.underlying9, run_underlying Tryd.underlying5, Conv.bytesToString, Sem.run_pure]; rfl
    | some a => exact run_convert_bytes_back w 22 9 5 a c [] Tryd.underlying22 Tryd.underlying5 Tryd.underlying9 (fun j hj => absurd hj (by simp))
  · obtain ⟨a, rfl, hc⟩ := h.2.2 (by simp)
    have := run_convert_bytes_back w 22 9 5 a c ((x :: l).map UInt8.ofNat) Tryd.underlying22 Tryd.underlying5 Tryd.underlying9 (fun j hj => by
      rw [List.length_map] at hj
      rw [hc j hj, List.getElem_map, UInt8.toNat_ofNat', getD_getElem _ j hj]
      have hb := h.1 _ (List.getElem_mem hj)
      rw [Nat.mod_eq_of_lt (by simpa using hb)])
    rw [List.length_map] at this
    exact this
/-- []byte(s): the bytes, in memory of its own -/
theorem conv_bts (w : World) (s : ByteArray) (hs : s.size ≤ 140737492549632) : ∃ c w', (convert 9 22 (.string s)).run Tryd.prog w = .ok (.slice (some ⟨w.heap.size, 0, none⟩) (sb s).length c) w' ∧ RB w' (some ⟨w.heap.size, 0, none⟩) (sb s) ∧ (sb s).length ≤ c ∧ Below w.heap.size w w' := by
  have h := run_bytes_of_string (P := Tryd.prog) w 9 22 5 s Tryd.underlying9 Tryd.underlying22 Tryd.underlying5
  refine ⟨_, _, by rw [sb_len]; exact h, ⟨sb_mem s, by rw [sb_len]; exact hs, fun _ => ⟨_, rfl, fun j hj => ?_⟩⟩, ?_, ?_⟩
  · rw [add_plain, show w.heap.size = w.drew.heap.size from rfl, World.cell?_alloc_mark]
    unfold bytesRow
    rw [sb_len] at hj
    have hj' : j < s.data.size := hj
    rw [Array.getElem?_append_left (by simpa using hj'), Array.getElem?_map, Array.getElem?_eq_getElem hj']
    unfold sb
    rw [List.getD_eq_getElem?_getD, List.getElem?_map, Array.getElem?_toList, Array.getElem?_eq_getElem hj']
    rfl
  · rw [sb_len]; exact grownCap_ge w s.size 0 5
  · exact (Below.refl _ _).drew.alloc (Nat.le_refl _) _
set_option maxRecDepth 100000 in
theorem stringsliteIndexByte_calls (s : ByteArray) (c : Int) (w : World) :
    Calls Tryd.prog 69 #[.string s, .int .u8 c] w fun e w' => e = .returned (.int .i64 (Lib.indexByte s.data.toList c.toNat.toUInt8)) ∧ w = w' := by
  go_enter Tryd.func69, Tryd.ntmps69
  go_wp2
  rw [run_callFunc_extern Tryd.func95 (by kernel_rfl) (by kernel_rfl) (by kernel_rfl) (e := Extern.BytealgIndexByte.indexByte) (by kernel_rfl), Lib.run_indexByteString]
  simp only [Result.andThen]
  rw [Oper.upon_value]
  go_wp2
  go_ret
  exact ⟨rfl, rfl⟩
theorem IndexByte_calls (s : ByteArray) (c : Int) (w : World) :
    Calls Tryd.prog 38 #[.string s, .int .u8 c] w fun e w' => e = .returned (.int .i64 (Lib.indexByte s.data.toList c.toNat.toUInt8)) ∧ w = w' := by
  go_enter Tryd.func38, Tryd.ntmps38
  go_wp2_with fail
  refine (stringsliteIndexByte_calls s c _).mono ?_
  rintro e w1 ⟨rfl, rfl⟩
  go_wp2
  go_ret
  exact ⟨rfl, rfl⟩
end Go.Proofs.YtoekecopfmohiaaDoor
