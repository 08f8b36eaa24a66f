import Derived.Test.YtoekecopfmohiaaDoorGz3
import Derived.Test.YtoekecopfmohiaaDoorGzPure2
import Derived.Test.YtoekecopfmohiaaDoorFlateLaws4
import Derived.Lib.AppendStr
/-
  gzip: number; words for Dress.
-/
namespace Go.Proofs.YtoekecopfmohiaaDoor
open Go.RowKit

theorem le_get : ∀ k n j, j < k → (le k n).getD j 0 = n / 256 ^ j % 256
  | 0, _, _, h => by omega
  | k + 1, n, 0, _ => by simp [le]
  | k + 1, n, j + 1, h => by
    have := le_get k (n / 256) j (by omega)
    simp only [le, List.getD_cons_succ]
    rw [this, Nat.pow_succ, Nat.mul_comm, Nat.div_div_eq_div_mul]
theorem put_le (k n : Nat) : putN (List.replicate k 0) 0 k n = le k n := by
  refine ext_getD (by rw [putN_length, List.length_replicate, le_len]) (fun j hj => ?_)
  rw [putN_length, List.length_replicate] at hj
  rw [putN_getD _ 0 n k j (by rw [List.length_replicate]; omega), if_pos ⟨by omega, by omega⟩, le_get k n j hj, Nat.sub_zero]
set_option maxHeartbeats 1000000 in
theorem number_calls' (n size : Nat) (w : World) (h1 : 1 ≤ size) (h2 : size ≤ 4) (hn : n < 256 ^ size) :
    Calls Tryd.prog 40 #[.int .i64 (n : Int), .int .i64 (size : Int)] w fun e w' => ∃ v, e = .returned v ∧ OB w' w.heap.size v (le size n) ∧ Below w.heap.size w w' := by
  have hmk := fun W => make_bytes' size (by omega) W
  have LR : (List.replicate size 0).length = size := List.length_replicate
  have hba := below_alloc1 w (.cells (madeCells #[.int .u8 0] size) 5)
  have ob := own_made' w size (by omega)
  have pc := bPut_yes (some ⟨w.heap.size, 0, none⟩) (List.replicate size 0) size 0 size n (w.alloc (.cells (madeCells #[.int .u8 0] size) 5)) (ob.rb' (fun y hy => by rw [(List.mem_replicate.1 hy).2]; decide) (by rw [LR]; omega)) h1 h2 (by rw [LR]; omega) hn
  rw [LR, put_le] at pc
  have PC := Bx.mk pc
  have B1 := Bx.mk hba
  clear pc ob hba LR
  go_enter Tryd.func40, Tryd.ntmps40
  go_wp2_with (go_at_call 70; fail)
  refine PC.out.mono ?_
  rintro e w1 ⟨v, rfl, ho, hb⟩
  have O1 := Bx.mk (OB.low' ho B1.out.size)
  have B2 := Bx.mk (below_then B1.out B1.out.size hb)
  clear ho hb PC B1
  go_wp2
  go_ret
  exact ⟨_, rfl, O1.out, B2.out⟩
theorem strCells_bs (s : ByteArray) : Lib.strCells s = bs (sb s) := by
  unfold Lib.strCells bs sb
  rw [List.map_map]; rfl
/-- 'append(v, s...)', s a string -/
theorem wpList_append_str {ops : Array Oper} {rest : List Oper} {o : Oper} {a : Act} {Q : Exit → Act → World → Prop} (w : World) (hgd : o.guard = none) (s x : Operand)
    (ho : o.op = .call { callee := .builtin .append, args := #[s, x], argTypes := #[22, 9] })
    (base : Nat) (v : Value) (xs : List Nat) (t : ByteArray) (hs : a.eval s = v) (hown : OB w base v xs) (hx : a.eval x = .string t)
    (hlen : xs.length + t.size ≤ 2 ^ 47) (hbase : base ≤ w.heap.size)
    (h : ∀ v' w', OB w' base v' (xs ++ sb t) → w.grownBy w' v.ownBlock → wpList Tryd.prog ops Q rest (a.put o.dst v') w') : wpList Tryd.prog ops Q (o :: rest) a w := by
  obtain ⟨i, hi, hzz⟩ := Option.map_eq_some_iff.1 info_byte
  simp only [Prod.mk.injEq] at hzz
  obtain ⟨hz, h1, hb⟩ := hzz
  refine Lib.wpList_append_own_string w hgd s x 22 9 ho base 5 i Tryd.underlying22 Tryd.underlying9 hi hz h1 hb v xs.length (bs xs) hs hown t hx (by unfold maxLen; omega) (by omega) hbase ?_
  intro v' w' ho' hg _
  refine h v' w' ?_ hg
  unfold OB
  rw [bs_append, List.length_append, sb_len, ← strCells_bs]
  exact ho'
theorem bytesOf_sb (s : ByteArray) : Lib.bytesOf (zl (sb s)) = s.data.toList := by
  unfold Lib.bytesOf zl sb
  rw [List.map_map, List.map_map]
  conv => rhs; rw [← List.map_id s.data.toList]
  apply List.map_congr_left
  intro x _
  simp
theorem sIndex_calls (s : ByteArray) (w : World) :
    Calls Tryd.prog 38 #[.string s, .int .u8 0] w fun e w' => e = .returned (.int .i64 (if nulN (sb s) < (sb s).length then ((nulN (sb s) : Nat) : Int) else -1)) ∧ w = w' :=
  (IndexByte_calls s 0 w).mono fun e w' h => ⟨by rw [h.1, ← index_nul (sb s) (sb_mem s), bytesOf_sb]; rfl, h.2⟩
theorem hd0_set (f x : Nat) (T : List Nat) : (hd0 f ++ T).set 3 x = hd0 x ++ T := rfl
theorem hd0_get (f : Nat) (T : List Nat) : (hd0 f ++ T).getD 3 0 = f := rfl
/-- the flags up to the k-th text -/
def flK (ex nm nt : List Nat) (k : Nat) : Nat := (if ex = [] then 0 else 4) + (if k = 0 ∨ nm = [] then 0 else 8) + (if k ≤ 1 ∨ nt = [] then 0 else 16)
def txK (nm nt : List Nat) (k : Nat) : List Nat := if k = 0 then nm else nt
/-- the header up to the k-th text -/
def hdK (ex nm nt : List Nat) (k : Nat) : List Nat := hd0 (flK ex nm nt k) ++ (exB ex ++ (if k = 0 then [] else nmB nm) ++ (if k ≤ 1 then [] else nmB nt))
theorem or_fl : ∀ e n t : Bool, ((if e then 0 else 4) ||| 8 = (if e then 0 else 4) + 8) ∧ (((if e then 0 else 4) + (if n then 0 else 8)) ||| 16 = (if e then 0 else 4) + (if n then 0 else 8) + 16) ∧
    (((if e then 0 else 4) + (if n then 0 else 8) + (if t then 0 else 16)) ||| 2 = (if e then 0 else 4) + (if n then 0 else 8) + (if t then 0 else 16) + 2) := by decide
theorem flK_lt (ex nm nt : List Nat) (k : Nat) : flK ex nm nt k < 29 := by
  unfold flK
  repeat' split
  all_goals omega
theorem flK_or (ex nm nt : List Nat) (k : Nat) (hk : k < 2) (ht : txK nm nt k ≠ []) : flK ex nm nt k ||| (8 * 2 ^ k) = flK ex nm nt (k + 1) := by
  have h := or_fl (decide (ex = [])) (decide (nm = [])) (decide (nt = []))
  simp only [decide_eq_true_eq] at h
  obtain rfl | rfl : k = 0 ∨ k = 1 := by omega
  · have hn : nm ≠ [] := ht
    unfold flK
    simp [hn]
    exact h.1
  · have hn : nt ≠ [] := ht
    unfold flK
    simp [hn]
    simpa using h.2.1
theorem flK_same (ex nm nt : List Nat) (k : Nat) (hk : k < 2) (ht : txK nm nt k = []) : flK ex nm nt (k + 1) = flK ex nm nt k := by
  obtain rfl | rfl : k = 0 ∨ k = 1 := by omega
  · have hn : nm = [] := ht
    unfold flK; simp [hn]
  · have hn : nt = [] := ht
    unfold flK; simp [hn]
theorem hdK_some (ex nm nt : List Nat) (k : Nat) (hk : k < 2) (ht : txK nm nt k ≠ []) : (hdK ex nm nt k).set 3 (flK ex nm nt (k + 1)) ++ txK nm nt k ++ [0] = hdK ex nm nt (k + 1) := by
  unfold hdK
  rw [hd0_set]
  obtain rfl | rfl : k = 0 ∨ k = 1 := by omega
  · have hn : nm ≠ [] := ht
    simp [txK, nmB, hn]
  · have hn : nt ≠ [] := ht
    simp [txK, nmB, hn]
theorem hdK_none (ex nm nt : List Nat) (k : Nat) (hk : k < 2) (ht : txK nm nt k = []) : hdK ex nm nt (k + 1) = hdK ex nm nt k := by
  unfold hdK
  rw [flK_same ex nm nt k hk ht]
  obtain rfl | rfl : k = 0 ∨ k = 1 := by omega
  · have hn : nm = [] := ht
    simp [nmB, hn]
  · have hn : nt = [] := ht
    simp [nmB, hn]
theorem hdK_all (ex nm nt : List Nat) : hdK ex nm nt 2 = hdA ex nm nt false := by
  unfold hdK hdA flK flN
  simp
theorem hdK_sum (ex nm nt : List Nat) : (hdK ex nm nt 2).set 3 (flK ex nm nt 2 ||| 2) = hdA ex nm nt true := by
  unfold hdK hdA
  rw [hd0_set]
  have h := or_fl (decide (ex = [])) (decide (nm = [])) (decide (nt = []))
  simp only [decide_eq_true_eq] at h
  have e : flK ex nm nt 2 ||| 2 = flN ex nm nt true := by
    unfold flK flN
    simpa using h.2.2
  rw [e]; simp
end Go.Proofs.YtoekecopfmohiaaDoor
