import Derived.Test.YtoekecopfmohiaaDoorRowAll
import Derived.Test.YtoekecopfmohiaaDoorInf4
import Derived.LaidMore
import Derived.Lib.LaidTab
import Derived.JoinedOf
import Derived.LaidHandle
import Derived.ChangeSame
/-
  From the row's condition on the package's tables to what the walks ask.
-/
namespace Go.Proofs.YtoekecopfmohiaaDoor
open Go.RowKit

/-- a variable that a row lists, by its place -/
theorem laid_at {P : Program} {w : World} : ∀ (xs : List (String × DataW Unit)) (ps : List MemPlace) (i : Nat) (n : String) (d : DataW Unit), DataW.LaidVars P w xs ps → xs[i]? = some (n, d) →
    ∃ g t cs fuel p, P.globalNamed n = some g ∧ (P.globals[g]?).map (·.type) = some t ∧ w.var? P n = some cs ∧ DataW.trod (fun _ => ()) P w 0 (fun _ => true) false fuel t cs.toList = some (d, p)
  | [], _, i, n, d, _, hi => by simp at hi
  | (n0, d0) :: r, ps, i, n, d, h, hi => by
    obtain ⟨g, t, cs, fuel, p, q, h1, h2, h3, h4, h5, -⟩ := h
    cases i with
    | zero =>
      simp only [List.getElem?_cons_zero, Option.some.injEq, Prod.mk.injEq] at hi
      obtain ⟨rfl, rfl⟩ := hi
      exact ⟨g, t, cs, fuel, p, h1, h2, h3, h4⟩
    | succ i => exact laid_at r q i n d h5 (by simpa using hi)
/-- pairs of ints -/
def pairsD (zs : List (Int × Int)) : DataW Unit := .agg (zs.map fun z => .agg [.lit (.int .i64 z.1), .lit (.int .i64 z.2)])
theorem cells_of_pairs {P : Program} {enc : TypeId × Value → Unit} {w : World} {base : Nat} {sp : Nat → Bool} {held : Bool} {fuel : Nat} {t e : TypeId} {f0 f1 : Field} {n : Nat} {cs : List Value} {zs : List (Int × Int)} {p : List MemPlace}
    (ht : P.underlying t = some (.array n e)) (he : P.underlying e = some (.struct #[f0, f1])) (h0 : f0.offset = 0) (h1 : f1.offset = 1) (u0 : P.underlying f0.type = some (.int .i64)) (u1 : P.underlying f1.type = some (.int .i64))
    (c0 : P.cellsOf f0.type = 1) (c1 : P.cellsOf f1.type = 1) (hce : P.cellsOf e = 2) (hct : P.cellsOf t = n * 2)
    (h : DataW.trod enc P w base sp held fuel t cs = some (pairsD zs, p)) (i : Nat) (hi : i < n) : cs[i * 2]? = some (.int .i64 (zs.getD i (0, 0)).1) ∧ cs[i * 2 + 1]? = some (.int .i64 (zs.getD i (0, 0)).2) := by
  cases fuel with
  | zero => simp [DataW.trod] at h
  | succ fuel =>
    simp only [DataW.trod, ht, hce, hct] at h
    split at h
    · rename_i hl
      obtain ⟨xs, hm, hx⟩ := Option.map_eq_some_iff.1 h
      have hxs : xs.map (·.1) = zs.map fun z => (.agg [.lit (.int .i64 z.1), .lit (.int .i64 z.2)] : DataW Unit) := by
        have := congrArg Prod.fst hx
        simpa [pairsD] using this
      have hxl : xs.length = n := by simpa using Lib.mapM_length hm
      have hzl : zs.length = n := by
        have := congrArg List.length hxs
        simp at this
        omega
      obtain ⟨b, hb, hf⟩ := Lib.mapM_at hm i i (by simp [hi])
      have h2 : (xs.map (·.1))[i]? = some b.1 := by simp [hb]
      have hiz : i < zs.length := by omega
      rw [hxs, List.getElem?_map, List.getElem?_eq_getElem hiz] at h2
      have h3 : (.agg [.lit (.int .i64 zs[i].1), .lit (.int .i64 zs[i].2)] : DataW Unit) = b.1 := by simpa using h2
      obtain ⟨y0, y1, m, hy, hlen, hd0, hd1⟩ := ChangeShapes.trod_struct2 he hf
      obtain ⟨a0, ha0, hx0, -⟩ := DataW.trod_int u0 hd0
      obtain ⟨a1, ha1, hx1, -⟩ := DataW.trod_int u1 hd1
      rw [hy, hx0, hx1] at h3
      simp only [DataW.agg.injEq, List.cons.injEq, DataW.lit.injEq, Lit.int.injEq, true_and, and_true] at h3
      rw [List.getD_eq_getElem?_getD, List.getElem?_eq_getElem hiz]
      rw [h0, c0] at ha0
      rw [h1, c1] at ha1
      have e0 := congrArg (·[0]?) ha0
      have e1 := congrArg (·[0]?) ha1
      simp [List.getElem?_drop] at e0 e1
      exact ⟨by rw [e0]; simp [h3.1], by rw [e1]; simp [h3.2]⟩
    · cases h
def lenZ : List (Int × Int) := (List.range 29).map fun i => (((LB.getD i 0 : Nat) : Int), ((LX.getD i 0 : Nat) : Int))
def dstZ : List (Int × Int) := (List.range 30).map fun i => (((DB.getD i 0 : Nat) : Int), ((DX.getD i 0 : Nat) : Int))
theorem len_data : (Rows.laid_sutler_flate_lengths : DataW Unit) = pairsD lenZ := by kernel_rfl
theorem dst_data : (Rows.laid_sutler_flate_distances : DataW Unit) = pairsD dstZ := by kernel_rfl
theorem ord_data : (Rows.laid_sutler_flate_order : DataW Unit) = Lib.tabData .i64 (ORD.map fun (x : Nat) => (x : Int)) := by kernel_rfl
theorem gf_of_vars {W : World} {xs : List (String × DataW Unit)} {ps : List MemPlace} (h : DataW.LaidVars Tryd.prog W xs ps) (i j k : Nat) (hi : xs[i]? = some ("sutler/flate.lengths", Rows.laid_sutler_flate_lengths)) (hj : xs[j]? = some ("sutler/flate.distances", Rows.laid_sutler_flate_distances))
    (hk : xs[k]? = some ("sutler/flate.order", Rows.laid_sutler_flate_order)) : Gf W := by
  obtain ⟨g1, t1, cs1, f1, p1, hg1, ht1, hv1, hd1⟩ := laid_at _ _ _ _ _ h hi
  obtain ⟨g2, t2, cs2, f2, p2, hg2, ht2, hv2, hd2⟩ := laid_at _ _ _ _ _ h hj
  obtain ⟨g3, t3, cs3, f3, p3, hg3, ht3, hv3, hd3⟩ := laid_at _ _ _ _ _ h hk
  rw [len_data] at hd1
  rw [dst_data] at hd2
  rw [ord_data] at hd3
  have k1 : Tryd.prog.globalNamed "sutler/flate.lengths" = some 1 := by kernel_rfl
  have k2 : Tryd.prog.globalNamed "sutler/flate.distances" = some 5 := by kernel_rfl
  have k3 : Tryd.prog.globalNamed "sutler/flate.order" = some 2 := by kernel_rfl
  obtain rfl := Option.some.inj (k1.symm.trans hg1)
  obtain rfl := Option.some.inj (k2.symm.trans hg2)
  obtain rfl := Option.some.inj (k3.symm.trans hg3)
  have y1 : (Tryd.prog.globals[1]?).map (·.type) = some 92 := by kernel_rfl
  have y2 : (Tryd.prog.globals[5]?).map (·.type) = some 137 := by kernel_rfl
  have y3 : (Tryd.prog.globals[2]?).map (·.type) = some 115 := by kernel_rfl
  obtain rfl := Option.some.inj (y1.symm.trans ht1)
  obtain rfl := Option.some.inj (y2.symm.trans ht2)
  obtain rfl := Option.some.inj (y3.symm.trans ht3)
  have us : ∃ f0 f1 : Field, Tryd.prog.underlying 91 = some (.struct #[f0, f1]) ∧ f0.offset = 0 ∧ f1.offset = 1 ∧ f0.type = 3 ∧ f1.type = 3 := ⟨_, _, Tryd.underlying91, rfl, rfl, rfl, rfl⟩
  obtain ⟨f0, f1, us, o0, o1, tt0, tt1⟩ := us
  have ci : Tryd.prog.cellsOf 3 = 1 := by kernel_rfl
  have q1 := cells_of_pairs (n := 29) (e := 91) (by kernel_rfl) us o0 o1 (by rw [tt0]; exact Tryd.underlying3) (by rw [tt1]; exact Tryd.underlying3) (by rw [tt0]; exact ci) (by rw [tt1]; exact ci) (by kernel_rfl) (by kernel_rfl) hd1
  have q2 := cells_of_pairs (n := 30) (e := 91) (by kernel_rfl) us o0 o1 (by rw [tt0]; exact Tryd.underlying3) (by rw [tt1]; exact Tryd.underlying3) (by rw [tt0]; exact ci) (by rw [tt1]; exact ci) (by kernel_rfl) (by kernel_rfl) hd2
  have q3 := Lib.cells_of_tab (n := 19) (e := 3) (by kernel_rfl) Tryd.underlying3 ci (by kernel_rfl) hd3
  refine ⟨fun i hi => ?_, fun i hi => ?_, fun i hi => ?_⟩
  · have h5 := q1 i hi
    rw [Array.getElem?_toList, Array.getElem?_toList] at h5
    have hz : lenZ.getD i (0, 0) = (((LB.getD i 0 : Nat) : Int), ((LX.getD i 0 : Nat) : Int)) := by
      unfold lenZ
      rw [List.getD_eq_getElem?_getD, List.getElem?_map, List.getElem?_range hi]; rfl
    rw [hz] at h5
    exact ⟨(World.var?_cell k1 hv1 _).trans h5.1, (World.var?_cell k1 hv1 _).trans h5.2⟩
  · have h5 := q2 i hi
    rw [Array.getElem?_toList, Array.getElem?_toList] at h5
    have hz : dstZ.getD i (0, 0) = (((DB.getD i 0 : Nat) : Int), ((DX.getD i 0 : Nat) : Int)) := by
      unfold dstZ
      rw [List.getD_eq_getElem?_getD, List.getElem?_map, List.getElem?_range hi]; rfl
    rw [hz] at h5
    exact ⟨(World.var?_cell k2 hv2 _).trans h5.1, (World.var?_cell k2 hv2 _).trans h5.2⟩
  · rw [(World.var?_cell k3 hv3 i), ← Array.getElem?_toList, q3]
    have : ORD.length = 19 := rfl
    rw [List.getElem?_map, List.getElem?_map, List.getD_eq_getElem?_getD, List.getElem?_eq_getElem (by omega)]
    rfl
theorem gf_of_laid {W : World} (h : laidMetH Tryd.prog [("sutler/flate.lengths", Rows.laid_sutler_flate_lengths), ("sutler/flate.distances", Rows.laid_sutler_flate_distances), ("sutler/flate.order", Rows.laid_sutler_flate_order)] W) : Gf W := by
  rw [MakeChecks.laidMetH_plain _ _ _ (by kernel_rfl)] at h
  obtain ⟨ps, h, -⟩ := h
  exact gf_of_vars h 0 1 2 rfl rfl rfl
end Go.Proofs.YtoekecopfmohiaaDoor
