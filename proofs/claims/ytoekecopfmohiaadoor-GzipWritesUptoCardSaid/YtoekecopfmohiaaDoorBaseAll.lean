import Derived.Test.YtoekecopfmohiaaDoorProg
import Derived.WalkKit
import Derived.Outline
import Derived.BigQuiet
import Derived.Deep.QuietTactic
import Derived.Deep.Draws
import Derived.Laws.OwnMore
import Derived.Deep.AppendLies
import Derived.Laws.Rows
import Derived.Maps.AppendAt
import Derived.Deep.DeepAppendWide
import Derived.RegionTactic
import Derived.OwnWalk
import Derived.Deep.OwnRows
import Derived.Lib.SlBytesConst
/-
  Words used by all texts of this seat: bytes and ints that are read or owned, blocks, appends; the shared helpers.
-/
namespace Go.Proofs.YtoekecopfmohiaaDoor
open Go.RowKit
/-- A fact that the walk does not look into. -/
structure Bx (p : Prop) : Prop where mk :: (out : p)
theorem ret_nat {k : IntKind} {a b : Nat} (h : a = b) : Ending.returned (.int k (a : Int)) = .returned (.int k (b : Int)) := by rw [h]
theorem ret_int {k : IntKind} {a b : Int} (h : a = b) : Ending.returned (.int k a) = .returned (.int k b) := by rw [h]
theorem ret_bool {a b : Bool} (h : a = b) : Ending.returned (.bool a) = .returned (.bool b) := by rw [h]
/-- A slice of bytes that is read: its address (whatever it is where nothing is in it) and what lies there. -/
def RB (w : World) (A : Option Addr) (l : List Nat) : Prop :=
  (∀ x ∈ l, x < 256) ∧ l.length ≤ 140737492549632 ∧ (0 < l.length → ∃ ad, A = some ad ∧ ∀ j, j < l.length → w.cell? (ad.add j) = some (.int .u8 ((l.getD j 0 : Nat) : Int)))
theorem cell_below {w w1 : World} (h : Below w.heap.size w w1) {a : Addr} {v : Value} (hc : w.cell? a = some v) : w1.cell? a = some v := (h.cell (World.block_lt_of_cell? w a hc)).trans hc
theorem RB.below {w w1 : World} {A : Option Addr} {l : List Nat} (h : RB w A l) (hb : Below w.heap.size w w1) : RB w1 A l :=
  ⟨h.1, h.2.1, fun hn => let ⟨ad, e, hc⟩ := h.2.2 hn; ⟨ad, e, fun j hj => cell_below hb (hc j hj)⟩⟩
theorem RB.nil (w : World) (A : Option Addr) : RB w A [] := ⟨by simp, by simp, fun h => absurd h (by simp)⟩
theorem below_alloc1 (w : World) (o : Obj) : Below w.heap.size w (w.alloc o) := (Below.refl _ _).alloc (Nat.le_refl _) o
theorem below_drewN {B : Nat} {w W : World} (h : Below B w W) (n : Nat) : Below B w (W.drewN n) := ⟨h.os, h.tape, h.output, h.size, h.block⟩
theorem below_then {B : Nat} {w w1 w2 : World} (h : Below B w w1) (hB : B ≤ w1.heap.size) (k : Below w1.heap.size w1 w2) : Below B w w2 := h.trans (k.mono hB)
theorem mem_getD {l : List Nat} {k : Nat} (h : k < l.length) (hb : ∀ x ∈ l, x < 256) : l.getD k 0 < 256 := by
  rw [List.getD_eq_getElem?_getD, List.getElem?_eq_getElem h]; exact hb _ (List.getElem_mem h)
theorem take_mem {l : List Nat} {k : Nat} (hb : ∀ x ∈ l, x < 256) : ∀ x ∈ l.take k, x < 256 := fun x hx => hb x (List.mem_of_mem_take hx)
theorem getD_getElem (l : List Nat) (k : Nat) (h : k < l.length) : l.getD k 0 = l[k] := by
  rw [List.getD_eq_getElem?_getD, List.getElem?_eq_getElem h]; rfl
theorem foldl_snoc {β : Type} (f : β → Nat → β) (c : β) (l : List Nat) (k : Nat) (h : k < l.length) : (l.take (k + 1)).foldl f c = f ((l.take k).foldl f c) (l.getD k 0) := by
  rw [List.take_succ_eq_append_getElem h, List.foldl_append, getD_getElem l k h]; rfl
theorem add_plain (g j : Nat) : (⟨g, 0, none⟩ : Addr).add j = ⟨g, j, none⟩ := by unfold Addr.add; split <;> simp_all
/-- A block that has just been made, as a slice of bytes. -/
theorem RB.made (w : World) (cs : Array Value) (t : TypeId) (l : List Nat) (hb : ∀ x ∈ l, x < 256) (hl : l.length ≤ 140737492549632) (hc : ∀ j, j < l.length → cs[j]? = some (.int .u8 ((l.getD j 0 : Nat) : Int))) :
    RB (w.alloc (.cells cs t)) (some ⟨w.heap.size, 0, none⟩) l :=
  ⟨hb, hl, fun _ => ⟨_, rfl, fun j hj => by
    rw [add_plain, World.cell?_alloc_at _ _ _ _ rfl]; exact hc j hj⟩⟩
theorem RB.owned {w : World} {base : Nat} {e : TypeId} {A : Option Addr} {n c : Nat} {l : List Nat} (h : w.ownsRow base e 1 (.slice A n c) n (l.map fun (x : Nat) => Value.int .u8 (x : Int)))
    (hb : ∀ x ∈ l, x < 256) (hl : l.length ≤ 140737492549632) : RB w A l := by
  refine ⟨hb, hl, fun hp => ?_⟩
  obtain ⟨hn, h⟩ := h
  rw [List.length_map, Nat.mul_one] at hn
  rcases h with ⟨_, h0⟩ | ⟨g, cap, cur, he, _, hh, h1, h2, h3, h4⟩
  · omega
  · simp only [Value.slice.injEq] at he
    obtain ⟨rfl, _, rfl⟩ := he
    refine ⟨_, rfl, fun j hj => ?_⟩
    rw [add_plain]
    have hx : cur.toList[j]? = some (.int .u8 ((l.getD j 0 : Nat) : Int)) := by
      have : (List.take (n * 1) cur.toList)[j]? = some (.int .u8 ((l.getD j 0 : Nat) : Int)) := by
        rw [h4, List.getElem?_map, List.getD_eq_getElem?_getD, List.getElem?_eq_getElem hj]; rfl
      rw [List.getElem?_take] at this
      split at this
      · exact this
      · cases this
    simp only [World.cell?, hh]
    simpa using hx
theorem add_succ (a : Addr) (n : Nat) : a.add (n + 1) = ⟨a.block, a.off + (n + 1), none⟩ := by unfold Addr.add; rw [if_neg (by omega)]
theorem ret_pair {k : IntKind} {a b : Nat} {y : Value} (h : a = b) : Ending.returned (.tuple #[.int k (a : Int), y]) = .returned (.tuple #[.int k (b : Int), y]) := by rw [h]
theorem ret_bpair {a b : Bool} {y : Value} (h : a = b) : Ending.returned (.tuple #[.bool a, y]) = .returned (.tuple #[.bool b, y]) := by rw [h]
theorem block_of_add (a : Addr) (n : Nat) : (a.add n).block = a.block := by unfold Addr.add; split <;> rfl
theorem add_of_add (a : Addr) (i j : Nat) : (a.add i).add j = a.add (i + j) := by
  unfold Addr.add
  by_cases hi : i = 0 <;> by_cases hj : j = 0 <;> simp [hi, hj, Nat.add_assoc]
def Reads (w : World) (B size : Nat) (A : Option Addr) (n : Nat) (xs : List Value) : Prop :=
  xs.length = n * size ∧ (0 < n → ∃ ad, A = some ad ∧ ad.block < B ∧ ∀ j u, xs[j]? = some u → w.cell? (ad.add j) = some u)
section
variable {w w' : World} {B B' size n : Nat} {A : Option Addr} {xs : List Value}
theorem Reads.none_ : Reads w B size A 0 [] := ⟨by simp, fun h => absurd h (by omega)⟩
theorem Reads.at_ {k : Nat} (h : Reads w B 1 A n xs) (hk : k < n) : ∃ ad u, A = some ad ∧ ad.block < B ∧ xs[k]? = some u ∧ w.cell? (ad.add k) = some u := by
  obtain ⟨ad, e, hb, hc⟩ := h.2 (by omega)
  have hl : k < xs.length := by have := h.1; omega
  exact ⟨ad, xs[k], e, hb, List.getElem?_eq_getElem hl, hc k _ (List.getElem?_eq_getElem hl)⟩
theorem Reads.keep (h : Reads w B size A n xs) (hk : ∀ p : Addr, p.block < B → w'.cell? p = w.cell? p) : Reads w' B size A n xs :=
  ⟨h.1, fun hn => by
    obtain ⟨ad, e, hb, hc⟩ := h.2 hn
    exact ⟨ad, e, hb, fun j u hu => (hk _ (by rw [block_of_add]; exact hb)).trans (hc j u hu)⟩⟩
theorem Reads.more (h : Reads w B size A n xs) (hB : B ≤ B') : Reads w B' size A n xs :=
  ⟨h.1, fun hn => by
    obtain ⟨ad, e, hb, hc⟩ := h.2 hn
    exact ⟨ad, e, by omega, hc⟩⟩
theorem Reads.below (h : Reads w B size A n xs) (hb : Below B w w') : Reads w' B size A n xs := h.keep fun _ hp => hb.cell hp
theorem Reads.drew (h : Reads w B size A n xs) : Reads w.drew B size A n xs := h
theorem Reads.drewN (h : Reads w B size A n xs) (k : Nat) : Reads (w.drewN k) B size A n xs := h
theorem Reads.alloc (h : Reads w B size A n xs) (hB : B ≤ w.heap.size) (o : Obj) : Reads (w.alloc o) B size A n xs := h.keep fun p hp => World.cell?_alloc_lt w o p (by omega)
theorem Reads.setCell (h : Reads w B size A n xs) {p : Addr} (hB : B ≤ p.block) (u : Value) : Reads (w.setCell p u) B size A n xs :=
  h.keep fun q hq => World.cell?_setCell_other w p q u (fun e => by subst e; omega)
theorem Reads.grown (h : Reads w B size A n xs) {row : Option Nat} (hg : w.grownBy w' row) (hB : B ≤ w.heap.size) (hr : ∀ g, row = some g → B ≤ g) : Reads w' B size A n xs :=
  h.keep fun p hp => World.cell?_of_block (hg.block p.block (by omega) (fun e => by have := hr _ e.symm; omega))
theorem Reads.cut (h : Reads w B size A n xs) {k cap : Nat} (hk : k ≤ n) (hc : n ≤ cap) :
    Reads w B size (if cap = k then A else A.map (·.add (k * size))) (n - k) (xs.drop (k * size)) := by
  refine ⟨by rw [List.length_drop, h.1, Nat.sub_mul], fun hn => ?_⟩
  obtain ⟨ad, rfl, hb, hcell⟩ := h.2 (by omega)
  rw [if_neg (by omega)]
  refine ⟨ad.add (k * size), rfl, by rw [block_of_add]; exact hb, fun j u hu => ?_⟩
  rw [add_of_add]
  exact hcell _ u (by rw [← hu, List.getElem?_drop])
theorem Reads.of_own {base : Nat} {e : TypeId} {c : Nat} (h : w.ownsRow base e size (.slice A n c) n xs) : Reads w w.heap.size size A n xs := by
  refine ⟨h.1, fun hn => ?_⟩
  obtain ⟨g, cap, hv, _, hlt⟩ := h.form hn
  have hA : A = some ⟨g, 0, none⟩ := by injection hv
  subst hA
  exact ⟨_, rfl, hlt, h.cells (g := g) rfl⟩
end
def Blk (w : World) (g : Nat) (t : TypeId) (cs : Array Value) : Prop := w.heap[g]? = some (.cells cs t (0, 0))
section
variable {w w' : World} {g : Nat} {t : TypeId} {cs : Array Value}
theorem Blk.lt (h : Blk w g t cs) : g < w.heap.size := by
  rcases Nat.lt_or_ge g w.heap.size with hlt | hge
  · exact hlt
  · unfold Blk at h; rw [Array.getElem?_eq_none hge] at h; cases h
theorem Blk.cell (h : Blk w g t cs) (i : Nat) : w.cell? ⟨g, i, none⟩ = cs[i]? := cell_of_row w g i cs t (0, 0) h
theorem Blk.frozen (h : Blk w g t cs) (i : Nat) : w.frozen? ⟨g, i, none⟩ = false := by
  unfold Blk at h
  simp [World.frozen?, h]
theorem Blk.new (w : World) (t : TypeId) (cs : Array Value) : Blk (w.alloc (.cells cs t)) w.heap.size t cs := heap_alloc_new w _
theorem Blk.drew (h : Blk w g t cs) : Blk w.drew g t cs := h
theorem Blk.drewN (h : Blk w g t cs) (n : Nat) : Blk (w.drewN n) g t cs := h
theorem Blk.alloc (h : Blk w g t cs) (o : Obj) : Blk (w.alloc o) g t cs := (Below.heap_alloc w o g h.lt).trans h
theorem Blk.set_ (h : Blk w g t cs) (i : Nat) (u : Value) : Blk (w.setCell ⟨g, i, none⟩ u) g t (cs.setIfInBounds i u) := by
  unfold Blk at h ⊢
  simp [World.setCell, Array.getElem?_modify, h]
theorem Blk.far (h : Blk w g t cs) {p : Addr} (hp : g ≠ p.block) (u : Value) : Blk (w.setCell p u) g t cs := (Below.heap_setCell w p u g hp).trans h
theorem Blk.below {B : Nat} (h : Blk w g t cs) (hb : Below B w w') (hg : g < B) : Blk w' g t cs := (hb.block g hg).trans h
theorem Blk.grown {row : Option Nat} (h : Blk w g t cs) (hb : w.grownBy w' row) (hg : some g ≠ row) : Blk w' g t cs := (hb.block g h.lt hg).trans h
theorem Blk.ne_ {g' : Nat} {t' : TypeId} {cs' : Array Value} (h : Blk w g t cs) (h' : Blk w g' t' cs') (hne : t ≠ t') : g ≠ g' := by
  rintro rfl
  unfold Blk at h h'
  rw [h] at h'
  injection h' with h'
  injection h' with _ ht
  exact hne ht
theorem own_blk_ne {base : Nat} {e : TypeId} {size n : Nat} {v : Value} {xs : List Value} (h : w.ownsRow base e size v n xs) (hg : Blk w g t cs) (hne : e ≠ t) : v.ownBlock ≠ some g := by
  rcases h.2 with ⟨rfl, _⟩ | ⟨g', cap, cur, rfl, _, hh, _⟩
  · simp [Value.ownBlock]
  · intro he
    have : g' = g := by simpa [Value.ownBlock] using he
    subst this
    exact Blk.ne_ (t := e) hh hg hne rfl
end
section
variable {P : Program} (w : World)
theorem run_append_of_nil (base : Nat) (t ty e : TypeId) (i : TypeInfo) (size : Nat) (ht : P.underlying t = some (.slice e)) (hi : P.info? e = some i)
    (v : Value) (n : Nat) (xs : List Value) (hown : w.ownsRow base e size v n xs) (c : Nat) : (Builtin.append_ #[t, t] ty #[v, .slice none 0 c]).run P w = .ok v w := by
  rcases hown.2 with ⟨rfl, rfl⟩ | ⟨g, cap, cur, rfl, _, _, hnc, _⟩
  · simp [Builtin.append_, run_underlying ht, sizeOf, typeInfo, hi, Builtin.lenOf, Builtin.firstCells]
  · simp [Builtin.append_, run_underlying ht, sizeOf, typeInfo, hi, Builtin.lenOf, Builtin.firstCells, hnc, storeCells]
theorem grow_small (q b C : Nat) (h : q * b ≤ C) (hC : C ≤ 140737492549632) (hb : b ≤ 65536) : (q + q / 4 + 192) * b ≤ 281474976710656 := by
  have h1 : 4 * (q / 4 * b) ≤ q * b := by
    rw [← Nat.mul_assoc]
    exact Nat.mul_le_mul_right _ (Nat.mul_div_le q 4)
  rw [Nat.add_mul, Nat.add_mul]
  omega
/-- append onto a row of the call's own, and where what comes out lies -/
theorem run_append_any_wide (base : Nat) (t ty e : TypeId) (i : TypeInfo) (z : Value) (size bytes : Nat) (ht : P.underlying t = some (.slice e)) (hi : P.info? e = some i) (hz : i.zero = some z)
    (hsize : i.size = size) (hby : i.bytes = bytes) (hzs : z.cells.size = size) (hsz : 0 < size) (v : Value) (n : Nat) (xs : List Value) (hown : w.ownsRow base e size v n xs)
    (a : Addr) (m c : Nat) (news : List Value) (hl : news.length = m * size) (hnews : ∀ j u, news[j]? = some u → w.cell? (a.add j) = some u) (h1 : ∀ u ∈ news, u.oneCell' = true)
    (h63 : n + m ≤ maxLen) (hbytes : ((n + m) + (n + m) / 4 + 192) * bytes ≤ 281474976710656) (hbase : base ≤ w.heap.size) :
    ∃ v' w', (Builtin.append_ #[t, t] ty #[v, .slice (some a) m c]).run P w = .ok v' w' ∧ w'.ownsRow base e size v' (n + m) (xs ++ news) ∧ w.grownBy w' v.ownBlock ∧ (v'.ownBlock = v.ownBlock ∨ v'.ownBlock = some w.heap.size) := by
  obtain ⟨v', w', hrun, h2, h3, h4⟩ := run_append_own_wide (P := P) w base t ty e i z size bytes ht hi hz hsize hby hzs hsz v n xs hown a m c news hl hnews h1 h63 hbytes hbase
  refine ⟨v', w', hrun, h2, h3, ?_⟩
  subst hsize
  subst hby
  have hs : n + m ≤ 9223372036854775807 := by simp only [maxLen] at h63; omega
  rcases hown.2 with ⟨rfl, rfl⟩ | ⟨g, cap, cur, rfl, -, hg, hnc, -, hcs, -⟩
  · rcases Nat.eq_zero_or_pos m with hm | hm
    · exact .inl (by rw [h4.2 ⟨rfl, hm⟩])
    · have hb2 : m * i.bytes ≤ 281474976710656 := Nat.le_trans (Nat.mul_le_mul_right _ (by omega)) hbytes
      rw [run_append_nil (P := P) w t ty e i z ht hi hz a m c news hl hnews hm (by omega) hb2] at hrun
      injection hrun with hv _
      exact .inr (by rw [← hv]; rfl)
  · rcases Nat.lt_or_ge cap (n + m) with hroom | hroom
    · rw [run_append_grow (P := P) w t ty e i z ht hi hz ⟨g, 0, none⟩ n cap xs hown.1 (hown.cells (g := g) rfl) a m c news hl hnews hroom (by omega) (growslice_fits_wide hroom hbytes)] at hrun
      injection hrun with hv _
      exact .inr (by rw [← hv]; rfl)
    · have hfit : n * i.size + news.length ≤ cur.size := by rw [hl, hcs, ← Nat.add_mul]; exact Nat.mul_le_mul_right _ hroom
      rw [run_append_room (P := P) w t ty e i ht hi g n cap cur hg a m c news hl hnews h1 hroom hfit] at hrun
      injection hrun with hv _
      exact .inl (by rw [← hv]; rfl)
theorem run_append_any (base : Nat) (t ty e : TypeId) (i : TypeInfo) (z : Value) (size bytes : Nat) (ht : P.underlying t = some (.slice e)) (hi : P.info? e = some i) (hz : i.zero = some z)
    (hsize : i.size = size) (hby : i.bytes = bytes) (hzs : z.cells.size = size) (hsz : 0 < size)
    (v : Value) (n : Nat) (xs : List Value) (hown : w.ownsRow base e size v n xs)
    (B : Nat) (A : Option Addr) (m c : Nat) (news : List Value) (hr : Reads w B size A m news) (h1 : ∀ u ∈ news, u.oneCell' = true)
    (h63 : n + m ≤ maxLen) (hbytes : (n + m) * bytes ≤ 140737492549632) (hbase : base ≤ w.heap.size) (hbb : bytes ≤ 65536 := by decide) :
    ∃ v' w', (Builtin.append_ #[t, t] ty #[v, .slice A m c]).run P w = .ok v' w' ∧ w'.ownsRow base e size v' (n + m) (xs ++ news) ∧ w.grownBy w' v.ownBlock ∧
      (v'.ownBlock = v.ownBlock ∨ v'.ownBlock = some w.heap.size) := by
  rcases A with _ | ad
  · have hm : m = 0 := by
      rcases Nat.eq_zero_or_pos m with h0 | h0
      · exact h0
      · obtain ⟨ad, h, _⟩ := hr.2 h0
        cases h
    subst hm
    have hn : news = [] := List.eq_nil_of_length_eq_zero (by simpa using hr.1)
    subst hn
    exact ⟨v, w, run_append_of_nil w base t ty e i size ht hi v n xs hown c, by simpa using hown, World.grownBy.refl w _, .inl rfl⟩
  · have hcells : ∀ j u, news[j]? = some u → w.cell? (ad.add j) = some u := by
      intro j u hu
      rcases Nat.eq_zero_or_pos m with h0 | h0
      · subst h0
        have hn : news = [] := List.eq_nil_of_length_eq_zero (by simpa using hr.1)
        subst hn
        simp at hu
      · obtain ⟨ad', h, _, hc⟩ := hr.2 h0
        injection h with h
        subst h
        exact hc j u hu
    obtain ⟨v', w', hrun, h2, h3, h5⟩ := run_append_any_wide (P := P) w base t ty e i z size bytes ht hi hz hsize hby hzs hsz v n xs hown ad m c news hr.1 hcells h1 h63 (grow_small _ _ _ hbytes (by decide) hbb) hbase
    exact ⟨v', w', hrun, h2, h3, h5⟩
theorem wp_append_any {o : Oper} {a : Act} {K : Act → World → Prop} {Q : Exit → Act → World → Prop} (s x : Operand) (t : TypeId)
    (ho : o.op = .call { callee := .builtin .append, args := #[s, x], argTypes := #[t, t] })
    (base : Nat) (e : TypeId) (i : TypeInfo) (z : Value) (size bytes : Nat) (ht : P.underlying t = some (.slice e)) (hi : P.info? e = some i) (hz : i.zero = some z)
    (hsize : i.size = size) (hby : i.bytes = bytes) (hzs : z.cells.size = size) (hsz : 0 < size)
    (v : Value) (n : Nat) (xs : List Value) (hs : a.eval s = v) (hown : w.ownsRow base e size v n xs)
    (B : Nat) (A : Option Addr) (m c : Nat) (news : List Value) (hx : a.eval x = .slice A m c) (hr : Reads w B size A m news) (h1 : ∀ u ∈ news, u.oneCell' = true)
    (h63 : n + m ≤ maxLen) (hbytes : (n + m) * bytes ≤ 140737492549632) (hbase : base ≤ w.heap.size)
    (h : ∀ v' w', w'.ownsRow base e size v' (n + m) (xs ++ news) → w.grownBy w' v.ownBlock → (v'.ownBlock = v.ownBlock ∨ v'.ownBlock = some w.heap.size) → K (a.put o.dst v') w') (hbb : bytes ≤ 65536 := by decide) : o.wp P a w K Q := by
  obtain ⟨v', w', hrun, h2, h3, h4⟩ := run_append_any (P := P) w base t o.type e i z size bytes ht hi hz hsize hby hzs hsz v n xs hown B A m c news hr h1 h63 hbytes hbase hbb
  unfold Oper.wp execOp
  simp only [ho, resolve, invoke, builtin, Sem.run_bind, Sem.run_pure, Result.andThen_ok, List.map_toArray, List.map_cons, List.map_nil, hs, hx, hrun]
  exact h v' w' h2 h3 h4
theorem wpList_append_any {ops : Array Oper} {rest : List Oper} {o : Oper} {a : Act} {Q : Exit → Act → World → Prop} (hgd : o.guard = none) (s x : Operand) (t : TypeId)
    (ho : o.op = .call { callee := .builtin .append, args := #[s, x], argTypes := #[t, t] })
    (base : Nat) (e : TypeId) (i : TypeInfo) (z : Value) (size bytes : Nat) (ht : P.underlying t = some (.slice e)) (hi : P.info? e = some i) (hz : i.zero = some z)
    (hsize : i.size = size) (hby : i.bytes = bytes) (hzs : z.cells.size = size) (hsz : 0 < size)
    (v : Value) (n : Nat) (xs : List Value) (hs : a.eval s = v) (hown : w.ownsRow base e size v n xs)
    (B : Nat) (A : Option Addr) (m c : Nat) (news : List Value) (hx : a.eval x = .slice A m c) (hr : Reads w B size A m news) (h1 : ∀ u ∈ news, u.oneCell' = true)
    (h63 : n + m ≤ maxLen) (hbytes : (n + m) * bytes ≤ 140737492549632) (hbase : base ≤ w.heap.size)
    (h : ∀ v' w', w'.ownsRow base e size v' (n + m) (xs ++ news) → w.grownBy w' v.ownBlock → (v'.ownBlock = v.ownBlock ∨ v'.ownBlock = some w.heap.size) → wpList P ops Q rest (a.put o.dst v') w') (hbb : bytes ≤ 65536 := by decide) : wpList P ops Q (o :: rest) a w :=
  wpList_plain hgd fun _ hK => wp_append_any w s x t ho base e i z size bytes ht hi hz hsize hby hzs hsz v n xs hs hown B A m c news hx hr h1 h63 hbytes hbase (fun v' w' h2 h3 h4 => hK _ _ (h v' w' h2 h3 h4)) hbb
theorem step_append_any {ops : Array Oper} {o : Oper} {a : Act} {K : Act → World → Prop} {Q : Exit → Act → World → Prop} {E : Prop} (hgd : o.guard = none) (s x : Operand) (t : TypeId)
    (ho : o.op = .call { callee := .builtin .append, args := #[s, x], argTypes := #[t, t] })
    (base : Nat) (e : TypeId) (i : TypeInfo) (z : Value) (size bytes : Nat) (ht : P.underlying t = some (.slice e)) (hi : P.info? e = some i) (hz : i.zero = some z)
    (hsize : i.size = size) (hby : i.bytes = bytes) (hzs : z.cells.size = size) (hsz : 0 < size)
    (v : Value) (n : Nat) (xs : List Value) (hs : a.eval s = v) (hown : w.ownsRow base e size v n xs)
    (B : Nat) (A : Option Addr) (m c : Nat) (news : List Value) (hx : a.eval x = .slice A m c) (hr : Reads w B size A m news) (h1 : ∀ u ∈ news, u.oneCell' = true)
    (h63 : n + m ≤ maxLen) (hbytes : (n + m) * bytes ≤ 140737492549632) (hbase : base ≤ w.heap.size)
    (h : ∀ v' w', w'.ownsRow base e size v' (n + m) (xs ++ news) → w.grownBy w' v.ownBlock → (v'.ownBlock = v.ownBlock ∨ v'.ownBlock = some w.heap.size) → K (a.put o.dst v') w') (hbb : bytes ≤ 65536 := by decide) :
    if Region.wanted o (yielded ops a.tmps) = true then Oper.wp P o a w K Q else E := by
  have hw : Region.wanted o (yielded ops a.tmps) = true := by simp [Region.wanted, hgd]
  rw [if_pos hw]
  exact wp_append_any w s x t ho base e i z size bytes ht hi hz hsize hby hzs hsz v n xs hs hown B A m c news hx hr h1 h63 hbytes hbase h hbb
end
/-- bytes as values -/
def bs (l : List Nat) : List Value := l.map fun (x : Nat) => Value.int .u8 (x : Int)
theorem bs_length (l : List Nat) : (bs l).length = l.length := by simp [bs]
theorem bs_append (l m : List Nat) : bs (l ++ m) = bs l ++ bs m := by simp [bs]
theorem bs_one (l : List Nat) : ∀ u ∈ bs l, u.oneCell' = true := fun u hu => by
  obtain ⟨_, _, rfl⟩ := List.mem_map.1 hu
  rfl
theorem bs_get (l : List Nat) (j : Nat) (h : j < l.length) : (bs l)[j]? = some (.int .u8 ((l.getD j 0 : Nat) : Int)) := by
  unfold bs
  rw [List.getElem?_map, List.getD_eq_getElem?_getD, List.getElem?_eq_getElem h]; rfl
theorem RB.reads {w : World} {A : Option Addr} {l : List Nat} (h : RB w A l) : Reads w w.heap.size 1 A l.length (bs l) := by
  refine ⟨by rw [bs_length, Nat.mul_one], fun hn => ?_⟩
  obtain ⟨ad, rfl, hc⟩ := h.2.2 hn
  refine ⟨ad, rfl, ?_, fun j u hu => ?_⟩
  · have := World.block_lt_of_cell? w _ (hc 0 hn)
    rwa [block_of_add] at this
  · have hj : j < l.length := by
      have := (List.getElem?_eq_some_iff.1 hu).1
      rwa [bs_length] at this
    rw [bs_get l j hj] at hu
    rw [hc j hj]; exact hu
theorem RB.of_reads {w : World} {B : Nat} {A : Option Addr} {n : Nat} {l : List Nat} (h : Reads w B 1 A n (bs l)) (hb : ∀ x ∈ l, x < 256) (hl : l.length ≤ 140737492549632) : RB w A l := by
  refine ⟨hb, hl, fun hn => ?_⟩
  have e : l.length = n := by have := h.1; rwa [bs_length, Nat.mul_one] at this
  obtain ⟨ad, rfl, _, hc⟩ := h.2 (by omega)
  exact ⟨ad, rfl, fun j hj => hc j _ (bs_get l j hj)⟩
/-- bytes that the call owns -/
def OB (w : World) (base : Nat) (v : Value) (l : List Nat) : Prop := w.ownsRow base 5 1 v l.length (bs l)
theorem OB.form {w : World} {base : Nat} {v : Value} {l : List Nat} (h : OB w base v l) : ∃ A c, v = .slice A l.length c := by
  rcases h.2 with ⟨rfl, h0⟩ | ⟨g, cap, cur, rfl, _⟩
  · exact ⟨none, 0, by rw [h0]⟩
  · exact ⟨_, cap, rfl⟩
theorem OB.rb {w : World} {base : Nat} {A : Option Addr} {c : Nat} {l : List Nat} (h : OB w base (.slice A l.length c) l) (hb : ∀ x ∈ l, x < 256) (hl : l.length ≤ 140737492549632) : RB w A l :=
  RB.of_reads (Reads.of_own h) hb hl
theorem info_byte : (Tryd.prog.info? 5).map (fun i => (i.zero, i.size, i.bytes)) = some (some (.int .u8 0), 1, 1) := by kernel_rfl
theorem make_bytes (m : Nat) (hm : m ≤ 281474976710656) (w : World) :
    (Instr.makeSlice 22 (.int .i64 (m : Int)) (.int .i64 (m : Int))).run Tryd.prog w = .ok (.slice (some ⟨w.heap.size, 0, none⟩) m m) (w.alloc (.cells (madeCells #[.int .u8 0] m) 5)) :=
  run_make_row' 22 5 (.int .u8 0) 1 Tryd.underlying22 info_byte rfl .i64 .i64 m (by omega) (by omega) w
theorem own_made (w : World) (m : Nat) (hm : m ≤ 281474976710656) : OB (w.alloc (.cells (madeCells #[.int .u8 0] m) 5)) w.heap.size (.slice (some ⟨w.heap.size, 0, none⟩) m m) (List.replicate m 0) := by
  refine ⟨by simp [bs], .inr ⟨w.heap.size, m, _, by rw [List.length_replicate], Nat.le_refl _, heap_alloc_new w _, by simp, by unfold maxLen; omega, by rw [size_madeCells, Nat.mul_one], ?_⟩⟩
  rw [toList_madeCells_one]
  simp [bs, List.map_replicate]
/-- 'append(v, l...)', bytes onto bytes that the call owns -/
theorem wpList_append_bytes {ops : Array Oper} {rest : List Oper} {o : Oper} {a : Act} {Q : Exit → Act → World → Prop} (w : World) (hgd : o.guard = none) (s x : Operand)
    (ho : o.op = .call { callee := .builtin .append, args := #[s, x], argTypes := #[22, 22] })
    (base : Nat) (v : Value) (xs l : List Nat) (hs : a.eval s = v) (hown : OB w base v xs) (A : Option Addr) (c : Nat) (hx : a.eval x = .slice A l.length c) (hr : RB w A l)
    (hlen : xs.length + l.length ≤ 140737492549632) (hbase : base ≤ w.heap.size)
    (h : ∀ v' w', OB w' base v' (xs ++ l) → w.grownBy w' v.ownBlock → (v'.ownBlock = v.ownBlock ∨ v'.ownBlock = some w.heap.size) → wpList Tryd.prog ops Q rest (a.put o.dst v') w') :
    wpList Tryd.prog ops Q (o :: rest) a w := by
  obtain ⟨i, hi, hzz⟩ := Option.map_eq_some_iff.1 info_byte
  simp only [Prod.mk.injEq] at hzz
  obtain ⟨hz, h1, hb⟩ := hzz
  refine wpList_append_any w hgd s x 22 ho base 5 i (.int .u8 0) 1 1 Tryd.underlying22 hi hz h1 hb rfl (by omega) v xs.length (bs xs) hs hown w.heap.size A l.length c (bs l) hx hr.reads (bs_one l)
    (by unfold maxLen; omega) (by omega) hbase ?_
  intro v' w' ho' hg hat
  exact h v' w' (by unfold OB; rw [bs_append, List.length_append]; exact ho') hg hat
theorem own_empty (w : World) : OB (w.alloc (.cells #[] 5)) w.heap.size (.slice (some ⟨w.heap.size, 0, none⟩) 0 0) [] :=
  ⟨rfl, .inr ⟨w.heap.size, 0, #[], rfl, Nat.le_refl _, heap_alloc_new w _, Nat.le_refl _, by unfold maxLen; omega, rfl, rfl⟩⟩
theorem own_block {w : World} {base : Nat} {v : Value} {l : List Nat} (h : OB w base v l) (k : Nat) (hk : v.ownBlock = some k) : base ≤ k := by
  rcases h.2 with ⟨rfl, _⟩ | ⟨g, cap, cur, rfl, hb, _⟩
  · simp [Value.ownBlock] at hk
  · have : g = k := by simpa [Value.ownBlock] using hk
    omega
/-- a literal's block -/
theorem RB.lit (w : World) (t : TypeId) (l : List Nat) (cs : Array Value) (h : cs.toList = bs l) (hb : ∀ x ∈ l, x < 256) (hl : l.length ≤ 140737492549632) :
    RB (w.alloc (.cells cs t)) (some ⟨w.heap.size, 0, none⟩) l :=
  RB.made w cs t l hb hl fun j hj => by rw [← Array.getElem?_toList, h, bs_get l j hj]
/-- .. of a constant that was converted -/
theorem RB.litm (w : World) (t : TypeId) (fr : Nat × Nat) (l : List Nat) (cs : Array Value) (h : cs.toList = bs l) (hb : ∀ x ∈ l, x < 256) (hl : l.length ≤ 140737492549632) :
    RB (w.alloc (.cells cs t fr)) (some ⟨w.heap.size, 0, none⟩) l :=
  ⟨hb, hl, fun _ => ⟨_, rfl, fun j hj => by rw [add_plain, World.cell?_alloc_mark, ← Array.getElem?_toList, h, bs_get l j hj]⟩⟩
theorem conv_bytes (w : World) (C : Array Value) (n c : Nat) :
    (convert 22 22 (.slice (some ⟨w.heap.size, 0, none⟩) n c)).run Tryd.prog (w.alloc (.cells C 5)) = .ok (.slice (some ⟨w.heap.size, 0, none⟩) n c) (w.alloc (.cells C 5 (C.size, C.size + 1))) :=
  Lib.run_convert_bytes_const w _ _ C n c Tryd.underlying22 Tryd.underlying5
theorem OB.rb' {w : World} {base : Nat} {A : Option Addr} {n c : Nat} {l : List Nat} (h : OB w base (.slice A n c) l) (hb : ∀ x ∈ l, x < 256) (hl : l.length ≤ 140737492549632) : RB w A l := by
  obtain ⟨A', c', he⟩ := h.form
  injection he with h1 h2 h3
  subst h1; subst h2; subst h3
  exact OB.rb h hb hl
theorem OB.opened {w : World} {base : Nat} {A : Option Addr} {n c : Nat} {l : List Nat} (h : OB w base (.slice A n c) l) (hp : 0 < l.length) :
    ∃ g, A = some ⟨g, 0, none⟩ ∧ n = l.length ∧ base ≤ g ∧ g < w.heap.size ∧ (∀ j, j < l.length → w.cell? ⟨g, j, none⟩ = some (.int .u8 ((l.getD j 0 : Nat) : Int))) ∧ (∀ j, w.frozen? ⟨g, j, none⟩ = false) := by
  obtain ⟨_, h⟩ := h
  rcases h with ⟨_, h0⟩ | ⟨g, cap, cur, he, hb, hh, h1, h2, h3, h4⟩
  · omega
  · simp only [Value.slice.injEq] at he
    obtain ⟨rfl, rfl, rfl⟩ := he
    refine ⟨g, rfl, rfl, hb, (Array.getElem?_eq_some_iff.1 hh).1, fun j hj => ?_, fun j => by simp [World.frozen?, hh]⟩
    have hx : cur.toList[j]? = some (.int .u8 ((l.getD j 0 : Nat) : Int)) := by
      have : (List.take (l.length * 1) cur.toList)[j]? = some (.int .u8 ((l.getD j 0 : Nat) : Int)) := by rw [h4, bs_get l j hj]
      rw [List.getElem?_take] at this
      split at this
      · exact this
      · cases this
    simp only [World.cell?, hh]
    simpa using hx
theorem bs_set (l : List Nat) (j x : Nat) : bs (l.set j x) = (bs l).set j (.int .u8 (x : Int)) := by
  unfold bs; rw [List.map_set]
theorem bs_replicate (n x : Nat) : bs (List.replicate n x) = List.replicate n (.int .u8 (x : Int)) := by simp [bs, List.map_replicate]
theorem OB.put {w : World} {base g n c : Nat} {l : List Nat} (h : OB w base (.slice (some ⟨g, 0, none⟩) n c) l) (j x : Nat) :
    OB (w.setCell ⟨g, j, none⟩ (.int .u8 (x : Int))) base (.slice (some ⟨g, 0, none⟩) n c) (l.set j x) := by
  obtain ⟨h0, h⟩ := h
  refine ⟨by rw [bs_length, Nat.mul_one], ?_⟩
  rcases h with ⟨he, _⟩ | ⟨g', cap, cur, he, hb, hh, h1, h2, h3, h4⟩
  · cases he
  · simp only [Value.slice.injEq, Option.some.injEq, Addr.mk.injEq] at he
    obtain ⟨⟨rfl, _, _⟩, rfl, rfl⟩ := he
    refine .inr ⟨g, c, cur.setIfInBounds j (.int .u8 (x : Int)), by rw [List.length_set], hb, ?_, by rw [List.length_set]; exact h1, h2, by rw [Array.size_setIfInBounds]; exact h3, ?_⟩
    · simp [World.setCell, Array.getElem?_modify, hh]
    · rw [List.length_set, Array.toList_setIfInBounds, List.take_set, h4, bs_set]
theorem set_mem {l : List Nat} {j x : Nat} (hb : ∀ y ∈ l, y < 256) (hx : x < 256) : ∀ y ∈ l.set j x, y < 256 := by
  intro y hy
  rcases List.mem_or_eq_of_mem_set hy with h1 | h1
  · exact hb y h1
  · omega
theorem elem_bytes : Tryd.prog.elem 22 = 5 := by simp [Program.elem, Tryd.underlying22]
theorem cut_to_bytes (A : Option Addr) (n c k : Nat) (hk : k ≤ n) (hc : n ≤ c) (W : World) :
    (Instr.slice 22 (.slice A n c) none (some (.int .i64 (k : Int))) none).run Tryd.prog W = .ok (.slice A k c) W := by
  have hu : Tryd.prog.underlying 22 = some (.slice (Tryd.prog.elem 22)) := by rw [elem_bytes]; exact Tryd.underlying22
  have ha : (A.map fun x => x.add 0) = A := by cases A <;> simp [Addr.add]
  rw [run_slice_h W 22 A n c hu .i64 k (by omega) (by omega), elem_bytes]
  simp [sliced, Result.andThen, ha]
theorem cut_from_bytes (A : Option Addr) (n c k : Nat) (hk : k ≤ n) (W : World) :
    (Instr.slice 22 (.slice A n c) (some (.int .i64 (k : Int))) none none).run Tryd.prog W = .ok (.slice (if c = k then A else A.map (·.add k)) (n - k) (c - k)) W := by
  have hu : Tryd.prog.underlying 22 = some (.slice (Tryd.prog.elem 22)) := by rw [elem_bytes]; exact Tryd.underlying22
  rw [run_slice_l W 22 A n c hu .i64 k (by omega) (by omega), elem_bytes]
  simp [sliced, Result.andThen]
theorem cut_mid_bytes (A : Option Addr) (n c j k : Nat) (hj : j ≤ k) (hk : k ≤ n) (hc : n ≤ c) (W : World) :
    (Instr.slice 22 (.slice A n c) (some (.int .i64 (j : Int))) (some (.int .i64 (k : Int))) none).run Tryd.prog W = .ok (.slice (if c = j then A else A.map (·.add j)) (k - j) (c - j)) W := by
  have hu : Tryd.prog.underlying 22 = some (.slice (Tryd.prog.elem 22)) := by rw [elem_bytes]; exact Tryd.underlying22
  rw [run_slice_lh W 22 A n c hu .i64 .i64 j k (by omega) (by omega) (by omega), elem_bytes]
  simp [sliced, Result.andThen]
theorem RB.take {w : World} {A : Option Addr} {l : List Nat} (h : RB w A l) (k : Nat) : RB w A (l.take k) := by
  refine ⟨take_mem h.1, by have := h.2.1; simp; omega, fun hp => ?_⟩
  have hp' : 0 < k ∧ 0 < l.length := by rw [List.length_take] at hp; omega
  obtain ⟨ad, rfl, hc⟩ := h.2.2 hp'.2
  refine ⟨ad, rfl, fun j hj => ?_⟩
  have hj' : j < k ∧ j < l.length := by rw [List.length_take] at hj; omega
  rw [hc j hj'.2, List.getD_eq_getElem?_getD, List.getD_eq_getElem?_getD, List.getElem?_take, if_pos hj'.1]
theorem RB.drop {w : World} {A : Option Addr} {l : List Nat} (h : RB w A l) (k c : Nat) (hc' : l.length ≤ c) : RB w (if c = k then A else A.map (·.add k)) (l.drop k) := by
  refine ⟨fun x hx => h.1 x (List.mem_of_mem_drop hx), by have := h.2.1; simp; omega, fun hp => ?_⟩
  have hp' : k < l.length := by rw [List.length_drop] at hp; omega
  obtain ⟨ad, rfl, hc⟩ := h.2.2 (by omega)
  refine ⟨ad.add k, by rw [if_neg (by omega)]; rfl, fun j hj => ?_⟩
  have hj' : k + j < l.length := by rw [List.length_drop] at hj; omega
  rw [add_of_add, hc _ hj', List.getD_eq_getElem?_getD, List.getD_eq_getElem?_getD, List.getElem?_drop]
/-- Among: a number made one from 0 to m - 1 -/
def amg (n : Int) (m : Nat) : Nat := (n % 18446744073709551616).toNat % m
theorem amg_lt (n : Int) (m : Nat) (h : 0 < m) : amg n m < m := Nat.mod_lt _ h
theorem amg_eq (n : Int) (m : Nat) (hm : 0 < m) (hm2 : m ≤ 9223372036854775807) : wrap64 ((IntKind.u64.wrap n).tmod (m : Int)) = ((amg n m : Nat) : Int) := by
  rw [IntKind.wrap_u64]
  have h0 : 0 ≤ n % 18446744073709551616 := by omega
  obtain ⟨q, hq⟩ := Int.eq_ofNat_of_zero_le h0
  unfold amg
  rw [hq, Int.tmod_eq_emod_of_nonneg (by omega)]
  simp only [Int.toNat_natCast]
  have h1 : q % m < m := Nat.mod_lt _ hm
  have h2 : ((q : Int) % (m : Int)) = ((q % m : Nat) : Int) := by omega
  rw [h2]
  unfold wrap64
  omega
theorem Among_calls (n : Int) (m : Nat) (w : World) (hm : 0 < m) (hm2 : m ≤ 9223372036854775807) :
    Calls Tryd.prog 13 #[.int .i64 n, .int .i64 m] w fun e w' => e = .returned (.int .i64 ((amg n m : Nat) : Int)) ∧ w = w' := by
  go_enter Tryd.func13, Tryd.ntmps13
  go_wp2
  go_ret
  exact ⟨ret_int (amg_eq n m hm hm2), rfl⟩
theorem Bytes_calls (A : Option Addr) (l : List Nat) (c : Nat) (w : World) (hl : RB w A l) :
    Calls Tryd.prog 15 #[.slice A l.length c] w fun e w' => ∃ v, e = .returned v ∧ OB w' w.heap.size v l ∧ Below w.heap.size w w' := by
  have hl1 := hl.2.1
  have HL := Bx.mk (hl.below (below_alloc1 w (.cells #[] 5)))
  clear hl
  go_enter Tryd.func15, Tryd.ntmps15
  go_wp2_with (at_builtin; refine wpList_append_bytes _ rfl _ _ rfl w.heap.size _ [] l rfl (own_empty w) A c rfl HL.out ?hl (by simp) ?_; (case hl => simp; omega); intro v' w' ho hg _)
  go_ret
  exact ⟨_, rfl, ho, (below_alloc1 w _).grown hg (by simp) (fun k hk => own_block (own_empty w) k hk)⟩
theorem Same_ne (A B : Option Addr) (l m : List Nat) (c d : Nat) (w : World) (h : l.length ≠ m.length) :
    Calls Tryd.prog 16 #[.slice A l.length c, .slice B m.length d] w fun e w' => e = .returned (.bool false) ∧ ∃ k, w' = w.drewN k := by
  have hb : decide (l.length = m.length) = false := by simp [h]
  go_enter Tryd.func16, Tryd.ntmps16
  go_wp2
  go_ret
  exact ⟨rfl, 0, rfl⟩
theorem take_eq_snoc (l m : List Nat) (k : Nat) (h1 : k < l.length) (h2 : k < m.length) : (l.take (k + 1) = m.take (k + 1)) ↔ (l.take k = m.take k ∧ l.getD k 0 = m.getD k 0) := by
  rw [List.take_succ_eq_append_getElem h1, List.take_succ_eq_append_getElem h2, getD_getElem l k h1, getD_getElem m k h2]
  constructor
  · intro h
    have := List.append_inj h (by simp; omega)
    exact ⟨this.1, by simpa using this.2⟩
  · rintro ⟨a, b⟩; rw [a, b]
set_option maxHeartbeats 1000000 in
theorem SameBytes_calls (A B : Option Addr) (l m : List Nat) (c d : Nat) (w : World) (hl : RB w A l) (hm : RB w B m) :
    Calls Tryd.prog 16 #[.slice A l.length c, .slice B m.length d] w fun e w' => e = .returned (.bool (decide (l = m))) ∧ ∃ k, w' = w.drewN k := by
  obtain ⟨R, hR⟩ : ∃ R : Bool, R = decide (l = m) := ⟨_, rfl⟩
  rw [← hR]
  have HR := Bx.mk hR; clear hR
  by_cases hne : l.length = m.length
  · obtain ⟨hb1, hn1, hc1⟩ := hl
    obtain ⟨hb2, hn2, hc2⟩ := hm
    rw [← hne]
    have HNE := Bx.mk hne; clear hne
    go_enter Tryd.func16, Tryd.ntmps16
    go_wp2
    go_loopw [5] (fun i w' => ∃ k q : Nat, k ≤ l.length ∧ i = .int .i64 k ∧ Bx (l.take k = m.take k) ∧ w' = w.drewN q) (fun i _ => l.length - (intOf i).toNat)
    case atStart => exact ⟨0, 0, Nat.zero_le _, rfl, ⟨rfl⟩, rfl⟩
    case round =>
      obtain ⟨k, q, hk, rfl, HE, rfl⟩ := hrel
      by_cases hlt : k < l.length
      · have hlt2 : k < m.length := by have := HNE.out; omega
        obtain ⟨a1, rfl, hd1⟩ := hc1 (by omega)
        obtain ⟨a2, rfl, hd2⟩ := hc2 (by omega)
        have hg1 := hd1 k hlt
        have hg2 := hd2 k hlt2
        have HS := Bx.mk (take_eq_snoc l m k hlt hlt2)
        clear hd1 hd2
        generalize l.getD k 0 = X at hg1 HS
        generalize m.getD k 0 = Y at hg2 HS
        by_cases hxy : X = Y
        · subst hxy
          go_wp2
          go_quiet (fail)
          go_wp2
          go_roundw
          case rel => exact ⟨k + 1, _, by omega, by go_num, ⟨HS.out.2 ⟨HE.out, by trivial⟩⟩, rfl⟩
          case measure => simp [intOf]; omega
        · have hx1 : ((X : Int) == (Y : Int)) = false := by simp; omega
          have hx2 : decide (X = Y) = false := by simp [hxy]
          have hv : decide (l = m) = false := by
            simp only [decide_eq_false_iff_not]
            intro h
            exact hxy (HS.out.1 (by rw [h])).2
          have HV := Bx.mk hv
          clear hxy hv
          go_wp2
          go_quiet (fail)
          go_wp2
          go_ret
          exact ⟨ret_bool (by rw [HR.out, HV.out]), _, (by first | rfl | exact World.drewN_drewN ..)⟩
      · have hv : decide (l = m) = true := by
          have h1 : l.take k = l := List.take_of_length_le (by omega)
          have h2 : m.take k = m := List.take_of_length_le (by have := HNE.out; omega)
          simp only [decide_eq_true_eq]
          rw [← h1, HE.out, h2]
        have HV := Bx.mk hv
        clear hv
        go_wp2
        go_ret
        exact ⟨ret_bool (by rw [HR.out, HV.out]), _, (by first | rfl | exact World.drewN_drewN ..)⟩
  · have : decide (l = m) = false := by simp; intro h; exact hne (by rw [h])
    rw [HR.out, this]
    exact Same_ne A B l m c d w hne
def is (l : List Int) : List Value := l.map fun x => Value.int .i64 x
theorem is_length (l : List Int) : (is l).length = l.length := by simp [is]
theorem is_append (l m : List Int) : is (l ++ m) = is l ++ is m := by simp [is]
theorem is_get (l : List Int) (j : Nat) (h : j < l.length) : (is l)[j]? = some (.int .i64 (l.getD j 0)) := by
  unfold is
  rw [List.getElem?_map, List.getD_eq_getElem?_getD, List.getElem?_eq_getElem h]; rfl
theorem is_set (l : List Int) (j : Nat) (x : Int) : is (l.set j x) = (is l).set j (.int .i64 x) := by
  unfold is; rw [List.map_set]
def OI (w : World) (base : Nat) (v : Value) (l : List Int) : Prop := w.ownsRow base 3 1 v l.length (is l)
theorem OI.form {w : World} {base : Nat} {v : Value} {l : List Int} (h : OI w base v l) : ∃ A c, v = .slice A l.length c := by
  rcases h.2 with ⟨rfl, h0⟩ | ⟨g, cap, cur, rfl, _⟩
  · exact ⟨none, 0, by rw [h0]⟩
  · exact ⟨_, cap, rfl⟩
theorem OI.nil (w : World) (base : Nat) : OI w base (.slice none 0 0) [] := ⟨rfl, .inl ⟨rfl, rfl⟩⟩
theorem OI.empty (w : World) : OI (w.alloc (.cells #[] 3)) w.heap.size (.slice (some ⟨w.heap.size, 0, none⟩) 0 0) [] :=
  ⟨rfl, .inr ⟨w.heap.size, 0, #[], rfl, Nat.le_refl _, heap_alloc_new w _, Nat.le_refl _, by unfold maxLen; omega, rfl, rfl⟩⟩
theorem OI.block {w : World} {base : Nat} {v : Value} {l : List Int} (h : OI w base v l) (k : Nat) (hk : v.ownBlock = some k) : base ≤ k := by
  rcases h.2 with ⟨rfl, _⟩ | ⟨g, cap, cur, rfl, hb, _⟩
  · simp [Value.ownBlock] at hk
  · have : g = k := by simpa [Value.ownBlock] using hk
    omega
theorem OI.opened {w : World} {base : Nat} {A : Option Addr} {n c : Nat} {l : List Int} (h : OI w base (.slice A n c) l) (hp : 0 < l.length) :
    ∃ g, A = some ⟨g, 0, none⟩ ∧ n = l.length ∧ base ≤ g ∧ g < w.heap.size ∧ (∀ j, j < l.length → w.cell? ⟨g, j, none⟩ = some (.int .i64 (l.getD j 0))) ∧ (∀ j, w.frozen? ⟨g, j, none⟩ = false) := by
  obtain ⟨_, h⟩ := h
  rcases h with ⟨_, h0⟩ | ⟨g, cap, cur, he, hb, hh, h1, h2, h3, h4⟩
  · omega
  · simp only [Value.slice.injEq] at he
    obtain ⟨rfl, rfl, rfl⟩ := he
    refine ⟨g, rfl, rfl, hb, (Array.getElem?_eq_some_iff.1 hh).1, fun j hj => ?_, fun j => by simp [World.frozen?, hh]⟩
    have hx : cur.toList[j]? = some (.int .i64 (l.getD j 0)) := by
      have : (List.take (l.length * 1) cur.toList)[j]? = some (.int .i64 (l.getD j 0)) := by rw [h4, is_get l j hj]
      rw [List.getElem?_take] at this
      split at this
      · exact this
      · cases this
    simp only [World.cell?, hh]
    simpa using hx
theorem OI.put {w : World} {base g n c : Nat} {l : List Int} (h : OI w base (.slice (some ⟨g, 0, none⟩) n c) l) (j : Nat) (x : Int) :
    OI (w.setCell ⟨g, j, none⟩ (.int .i64 x)) base (.slice (some ⟨g, 0, none⟩) n c) (l.set j x) := by
  obtain ⟨h0, h⟩ := h
  refine ⟨by rw [is_length, Nat.mul_one], ?_⟩
  rcases h with ⟨he, _⟩ | ⟨g', cap, cur, he, hb, hh, h1, h2, h3, h4⟩
  · cases he
  · simp only [Value.slice.injEq, Option.some.injEq, Addr.mk.injEq] at he
    obtain ⟨⟨rfl, _, _⟩, rfl, rfl⟩ := he
    refine .inr ⟨g, c, cur.setIfInBounds j (.int .i64 x), by rw [List.length_set], hb, ?_, by rw [List.length_set]; exact h1, h2, by rw [Array.size_setIfInBounds]; exact h3, ?_⟩
    · simp [World.setCell, Array.getElem?_modify, hh]
    · rw [List.length_set, Array.toList_setIfInBounds, List.take_set, h4, is_set]
/-- ints that are read -/
def IR (w : World) (A : Option Addr) (l : List Int) : Prop := 0 < l.length → ∃ ad, A = some ad ∧ ∀ j, j < l.length → w.cell? (ad.add j) = some (.int .i64 (l.getD j 0))
theorem IR.below {w w1 : World} {A : Option Addr} {l : List Int} (h : IR w A l) (hb : Below w.heap.size w w1) : IR w1 A l :=
  fun hn => let ⟨ad, e, hc⟩ := h hn; ⟨ad, e, fun j hj => cell_below hb (hc j hj)⟩
theorem OI.ir {w : World} {base : Nat} {A : Option Addr} {n c : Nat} {l : List Int} (h : OI w base (.slice A n c) l) : IR w A l := fun hp => by
  obtain ⟨g, rfl, _, _, _, hc, _⟩ := h.opened hp
  exact ⟨_, rfl, fun j hj => by rw [add_plain]; exact hc j hj⟩
theorem info_int : (Tryd.prog.info? 3).map (fun i => (i.zero, i.size, i.bytes)) = some (some (.int .i64 0), 1, 8) := by kernel_rfl
/-- 'append(v, x)' -/
theorem wpList_append_int {ops : Array Oper} {rest : List Oper} {o : Oper} {a : Act} {Q : Exit → Act → World → Prop} (W : World) (hgd : o.guard = none) (s x : Operand)
    (ho : o.op = .call { callee := .builtin .append, args := #[s, x], argTypes := #[65, 65] })
    (base : Nat) (v : Value) (xs : List Int) (y : Int) (hs : a.eval s = v) (hown : OI W base v xs) (hx : a.eval x = .slice (some ⟨W.heap.size, 0, none⟩) 1 1)
    (hlen : (xs.length + 1) * 8 ≤ 140737492549632) (hbase : base ≤ W.heap.size)
    (h : ∀ v' w', OI w' base v' (xs ++ [y]) → (W.alloc (.cells #[.int .i64 y] 3)).grownBy w' v.ownBlock → (v'.ownBlock = v.ownBlock ∨ v'.ownBlock = some (W.heap.size + 1)) → wpList Tryd.prog ops Q rest (a.put o.dst v') w') :
    wpList Tryd.prog ops Q (o :: rest) a (W.alloc (.cells #[.int .i64 y] 3)) := by
  obtain ⟨i, hi, hzz⟩ := Option.map_eq_some_iff.1 info_int
  simp only [Prod.mk.injEq] at hzz
  obtain ⟨hz, h1, hb⟩ := hzz
  have hr : Reads (W.alloc (.cells #[.int .i64 y] 3)) (W.heap.size + 1) 1 (some ⟨W.heap.size, 0, none⟩) 1 [.int .i64 y] :=
    ⟨rfl, fun _ => ⟨_, rfl, by simp, fun j u hu => by
      rw [add_plain, World.cell?_alloc_at _ _ _ _ rfl]
      rcases j with _ | j
      · simpa using hu
      · simp at hu⟩⟩
  refine wpList_append_any _ hgd s x 65 ho base 3 i (.int .i64 0) 1 8 Tryd.underlying65 hi hz h1 hb rfl (by omega) v xs.length (is xs) hs (hown.alloc _) (W.heap.size + 1) (some ⟨W.heap.size, 0, none⟩) 1 1 [.int .i64 y] hx hr
    (fun u hu => by rw [List.mem_singleton.1 hu]; rfl) (by unfold maxLen; omega) hlen (by simp; omega) ?_
  intro v' w' ho' hg hat
  exact h v' w' (by unfold OI; rw [is_append, List.length_append]; exact ho') hg (by simpa using hat)
theorem OI.kept {w w' : World} {base : Nat} {v : Value} {l : List Int} (h : OI w base v l) (hb : Below w.heap.size w w') : OI w' base v l := by
  obtain ⟨h0, h⟩ := h
  refine ⟨h0, ?_⟩
  rcases h with h | ⟨g, cap, cur, he, hbb, hh, r⟩
  · exact .inl h
  · exact .inr ⟨g, cap, cur, he, hbb, (hb.block g (Array.getElem?_eq_some_iff.1 hh).1).trans hh, r⟩
theorem OB.kept {w w' : World} {base : Nat} {v : Value} {l : List Nat} (h : OB w base v l) (hb : Below w.heap.size w w') : OB w' base v l := by
  obtain ⟨h0, h⟩ := h
  refine ⟨h0, ?_⟩
  rcases h with h | ⟨g, cap, cur, he, hbb, hh, r⟩
  · exact .inl h
  · exact .inr ⟨g, cap, cur, he, hbb, (hb.block g (Array.getElem?_eq_some_iff.1 hh).1).trans hh, r⟩
end Go.Proofs.YtoekecopfmohiaaDoor
