import Derived.Test.YtoekecopfmohiaaDoorRowUptoAll
/-
  What the bound of a second form gives: a string's size.
-/
namespace Go.Proofs.YtoekecopfmohiaaDoor
theorem upto_str {H : Type} {a : ByteArray} (h : Rows.uptoBulk (.lit (.string a.data.toList) : DataW H) ≤ 1048576) : a.size ≤ 1048576 := by
  simp only [Rows.uptoBulk, Array.length_toList] at h
  show a.data.size ≤ _
  omega
end Go.Proofs.YtoekecopfmohiaaDoor
