import Derived.Test.YtoekecopfmohiaaDoorInfPure
/-
  The inflater in memory; number, fail, symbol, room.
-/
namespace Go.Proofs.YtoekecopfmohiaaDoor
open Go.RowKit

/-- what a method of the inflater may change: blocks of these three types, and what is new -/
structure IStep (w w' : World) : Prop where
  keep : ∀ (q : Nat) (cs : Array Value) (t : TypeId) (fr : Nat × Nat), w.heap[q]? = some (Obj.cells cs t fr) → t ≠ 50 → t ≠ 75 → t ≠ 5 → w'.heap[q]? = some (Obj.cells cs t fr)
  size : w.heap.size ≤ w'.heap.size
theorem IStep.refl (w : World) : IStep w w := ⟨fun _ _ _ _ h _ _ _ => h, Nat.le_refl _⟩
theorem IStep.trans {w w1 w2 : World} (h : IStep w w1) (h' : IStep w1 w2) : IStep w w2 :=
  ⟨fun q cs t fr hq h1 h2 h3 => h'.keep q cs t fr (h.keep q cs t fr hq h1 h2 h3) h1 h2 h3, Nat.le_trans h.size h'.size⟩
theorem IStep.drewN (w : World) (k : Nat) : IStep w (w.drewN k) := ⟨fun _ _ _ _ h _ _ _ => h, Nat.le_refl _⟩
theorem IStep.below {w w' : World} (h : Below w.heap.size w w') : IStep w w' :=
  ⟨fun q _ _ _ hq _ _ _ => (h.block q (Array.getElem?_eq_some_iff.1 hq).1).trans hq, h.size⟩
theorem IStep.only {w w' : World} {r : Nat} {cs : Array Value} (hb : Blk w r 75 cs) (h : Only r w w') : IStep w w' :=
  ⟨fun q cs' t fr hq _ h2 _ => (h.keep q (fun hc => by subst hc; unfold Blk at hb; rw [hb] at hq; injection hq with hq; injection hq with _ ht; exact h2 ht.symm)).trans hq, Nat.le_of_eq h.size.symm⟩
theorem IStep.set {w : World} {x i : Nat} {u : Value} {cs : Array Value} (hb : Blk w x 50 cs) : IStep w (w.setCell ⟨x, i, none⟩ u) :=
  ⟨fun q cs' t fr hq h1 _ _ => (Below.heap_setCell w ⟨x, i, none⟩ u q (fun hc => by subst hc; unfold Blk at hb; rw [hb] at hq; injection hq with hq; injection hq with _ ht; exact h1 ht.symm)).trans hq, by simp [World.setCell]⟩
theorem IStep.grown {w w' : World} {base : Nat} {v : Value} {l : List Nat} (ho : OB w base v l) (hg : w.grownBy w' v.ownBlock) : IStep w w' :=
  ⟨fun q cs' t fr hq _ _ h3 => (hg.block q (Array.getElem?_eq_some_iff.1 hq).1 (fun hc => by
    rcases ho.2 with ⟨rfl, _⟩ | ⟨g', cap, cur, rfl, _, hh, _⟩
    · simp [Value.ownBlock] at hc
    · have : q = g' := by simpa [Value.ownBlock] using hc
      subst this
      rw [hh] at hq
      injection hq with hq; injection hq with _ ht; exact h3 ht.symm)).trans hq, hg.size⟩
theorem Blk.istep {w w' : World} {g : Nat} {t : TypeId} {cs : Array Value} (h : Blk w g t cs) (hs : IStep w w') (h1 : t ≠ 50) (h2 : t ≠ 75) (h3 : t ≠ 5) : Blk w' g t cs := hs.keep g cs t (0, 0) h h1 h2 h3
theorem OI.istep {w w' : World} {base : Nat} {v : Value} {l : List Int} (h : OI w base v l) (hs : IStep w w') : OI w' base v l :=
  ⟨h.1, h.2.imp id fun ⟨g, cap, cur, hv, hg, hh, r⟩ => ⟨g, cap, cur, hv, hg, hs.keep g cur 3 (0, 0) hh (by decide) (by decide) (by decide), r⟩⟩
theorem Cd.istep {w w' : World} {g : Nat} {O Ln : Value} {L : List Nat} (h : Cd w g O Ln L) (hs : IStep w w') : Cd w' g O Ln L :=
  ⟨h.blk.istep hs (by decide) (by decide) (by decide), h.ord.istep hs, h.len.elim fun b hb => ⟨b, hb.istep hs⟩⟩
/-- the inflater x with its reader r -/
structure IS (w0 : World) (x r : Nat) (A : Option Addr) (l : List Nat) (c m a : Nat) (out : List Nat) (O : Value) (e : Nat) (w : World) : Prop where
  xb : Blk w x 50 #[.pointer (some ⟨r, 0, none⟩), O, .int .i64 (m : Int), .int .i64 (e : Int)]
  rb : Blk w r 75 #[.slice A l.length c, .int .i64 (a : Int), .bool true]
  ow : OB w w0.heap.size O out
  pos : a ≤ 8 * l.length
  lx : w0.heap.size ≤ x
  lr : w0.heap.size ≤ r
  src : RB w0 A l
  len : out.length ≤ 262144
  byt : ∀ y ∈ out, y < 256
  be : Below w0.heap.size w0 w
/-- .. as a parser's state -/
def At (w0 : World) (x r : Nat) (A : Option Addr) (l : List Nat) (c m : Nat) (R : Except Nat SS) (w : World) : Prop := match R with
  | .ok s => ∃ O, IS w0 x r A l c m s.1 s.2 O 0 w
  | .error e => e ≠ 0 ∧ ∃ a out O, IS w0 x r A l c m a out O e w
/-- a parser that is run on a state -/
def run {α : Type} (p : Px α) (d : α) (R : Except Nat SS) : α × Except Nat SS := match R with
  | .ok s => match p s with
    | .ok (v, s') => (v, .ok s')
    | .error e => (d, .error e)
  | .error e => (d, .error e)
theorem run_bd {α β : Type} (p : Px α) (f : α → Px β) (d : α) (d' : β) (R : Except Nat SS) : run (bd p f) d' R = run (f (run p d R).1) d' (run p d R).2 := by
  cases R with
  | error e => rfl
  | ok s =>
    cases h : p s with
    | error e => simp only [run, bd, h]
    | ok u => simp only [run, bd, h]
section
variable {w0 w w' : World} {x r : Nat} {A : Option Addr} {l : List Nat} {c m a e : Nat} {out : List Nat} {O : Value}
theorem IS.xr (h : IS w0 x r A l c m a out O e w) : x ≠ r := h.xb.ne_ h.rb (by decide)
theorem IS.ox (h : IS w0 x r A l c m a out O e w) : O.ownBlock ≠ some x := own_blk_ne h.ow h.xb (by decide)
theorem IS.or (h : IS w0 x r A l c m a out O e w) : O.ownBlock ≠ some r := own_blk_ne h.ow h.rb (by decide)
theorem IS.rbs (h : IS w0 x r A l c m a out O e w) : RB w A l := h.src.below h.be
theorem IS.err (h : IS w0 x r A l c m a out O e w) (e' : Nat) : IS w0 x r A l c m a out O e' (w.setCell ⟨x, 3, none⟩ (.int .i64 (e' : Int))) where
  xb := h.xb.set_ 3 _
  rb := h.rb.far (fun hc => h.xr hc.symm) _
  ow := h.ow.keep fun q hq => Below.heap_setCell w ⟨x, 3, none⟩ _ q (fun hc => h.ox (by rw [hq, hc]))
  pos := h.pos
  lx := h.lx
  lr := h.lr
  src := h.src
  len := h.len
  byt := h.byt
  be := h.be.setCell (p := ⟨x, 3, none⟩) h.lx _
theorem IS.read (h : IS w0 x r A l c m a out O e w) (ho : Only r w w') {a' : Nat} (hb : Blk w' r 75 #[.slice A l.length c, .int .i64 (a' : Int), .bool true]) (ha : a' ≤ 8 * l.length) : IS w0 x r A l c m a' out O e w' where
  xb := h.xb.only ho h.xr
  rb := hb
  ow := h.ow.keep fun q hq => ho.keep q (fun hc => h.or (by rw [hq, hc]))
  pos := ha
  lx := h.lx
  lr := h.lr
  src := h.src
  len := h.len
  byt := h.byt
  be := h.be.trans (ho.below _ h.lr h.be.size)
theorem IS.below (h : IS w0 x r A l c m a out O e w) (hb : Below w.heap.size w w') : IS w0 x r A l c m a out O e w' where
  xb := h.xb.below hb h.xb.lt
  rb := h.rb.below hb h.rb.lt
  ow := h.ow.below hb
  pos := h.pos
  lx := h.lx
  lr := h.lr
  src := h.src
  len := h.len
  byt := h.byt
  be := below_then h.be h.be.size hb
theorem At.below {R : Except Nat SS} (h : At w0 x r A l c m R w) (hb : Below w.heap.size w w') : At w0 x r A l c m R w' := by
  cases R with
  | ok s => obtain ⟨O, h⟩ := h; exact ⟨O, h.below hb⟩
  | error e => obtain ⟨h0, a, out, O, h⟩ := h; exact ⟨h0, a, out, O, h.below hb⟩
end
/-- the state behind a step of the reader and the store of the error -/
theorem IS.at_ {w0 w : World} {x r : Nat} {A : Option Addr} {l : List Nat} {c m a e : Nat} {out : List Nat} {O : Value} (h : IS w0 x r A l c m a out O e w) : At w0 x r A l c m (if e = 0 then .ok (a, out) else .error e) w := by
  by_cases he : e = 0
  · subst he; exact ⟨O, h⟩
  · rw [if_neg he]; exact ⟨he, a, out, O, h⟩
theorem IS.load_err {w0 w : World} {x r : Nat} {A : Option Addr} {l : List Nat} {c m a e : Nat} {out : List Nat} {O : Value} (h : IS w0 x r A l c m a out O e w) : w.cell? ⟨x, 3, none⟩ = some (.int .i64 (e : Int)) := h.xb.cell 3
theorem At.no {w0 w : World} {x r : Nat} {A : Option Addr} {l : List Nat} {c m e : Nat} (h : At w0 x r A l c m (.error e) w) : w.cell? ⟨x, 3, none⟩ = some (.int .i64 (e : Int)) ∧ ((e : Int) != 0) = true ∧ ((e : Int) == 0) = false ∧ e ≠ 0 := by
  obtain ⟨h0, a, out, O, h⟩ := h
  exact ⟨h.xb.cell 3, by rw [bne_iff_ne]; omega, beq_false_of_ne (by omega), h0⟩
theorem take_run (l : List Nat) (n a : Nat) (out : List Nat) (hn : n ≤ 24) (ha : a ≤ 8 * l.length) : ∃ V E a' : Nat, (if skipE l.length a n = 0 then pkN l a (n : Int).toNat else 0) = V ∧ skipE l.length a n = E ∧ (if skipE l.length a n = 0 then a + (n : Int).toNat else a) = a' ∧ a' ≤ 8 * l.length ∧
    (run (numP l n) 0 (.ok (a, out))).1 = V ∧ (run (numP l n) 0 (.ok (a, out))).2 = if E = 0 then .ok (a', out) else .error E := by
  by_cases hf : a + n ≤ 8 * l.length
  · have hE : skipE l.length a n = 0 := skipE_ok (by omega) (by omega)
    refine ⟨_, _, _, rfl, rfl, rfl, ?_, ?_, ?_⟩
    · rw [hE, if_pos rfl]; omega
    · rw [hE, if_pos rfl]; unfold run numP; simp only; rw [if_pos hf]; rfl
    · rw [hE, if_pos rfl, if_pos rfl]; unfold run numP; simp only; rw [if_pos hf]; rfl
  · have hE : skipE l.length a n = 7 := skipE_short (by omega) (by omega)
    refine ⟨_, _, _, rfl, rfl, rfl, ?_, ?_, ?_⟩
    · rw [hE, if_neg (by decide)]; omega
    · rw [hE, if_neg (by decide)]; unfold run numP; simp only; rw [if_neg hf]
    · rw [hE, if_neg (by decide)]; unfold run numP; simp only; rw [if_neg hf]
set_option maxHeartbeats 1000000 in
theorem number_calls (w0 : World) (x r : Nat) (A : Option Addr) (l : List Nat) (c m n : Nat) (hn : n ≤ 24) (R : Except Nat SS) (w : World) (h : At w0 x r A l c m R w) :
    Calls Tryd.prog 51 #[.pointer (some ⟨x, 0, none⟩), .int .i64 (n : Int)] w fun e w' =>
      e = .returned (.int .i64 ((run (numP l n) 0 R).1 : Int)) ∧ At w0 x r A l c m (run (numP l n) 0 R).2 w' ∧ IStep w w' := by
  cases R with
  | error e =>
    obtain ⟨h3, hne, -, -⟩ := h.no
    have H := Bx.mk h
    clear h
    go_enter Tryd.func51, Tryd.ntmps51
    go_wp2
    go_ret
    exact ⟨rfl, H.out, IStep.refl _⟩
  | ok s =>
    obtain ⟨O, h⟩ := h
    obtain ⟨a, out⟩ := s
    simp only at h
    have h3 : w.cell? ⟨x, 3, none⟩ = some (.int .i64 ((0 : Nat) : Int)) := h.xb.cell 3
    have h1 : w.cell? ⟨x, 0, none⟩ = some (.pointer (some ⟨r, 0, none⟩)) := h.xb.cell 0
    have T := rTake_calls r A l c a n w h.rb h.rbs h.pos
    obtain ⟨V, E, a', e1, e2, e3, hp, e4, e5⟩ := take_run l n a out hn h.pos
    rw [e4, e5]
    obtain ⟨RR, hRR⟩ : ∃ RR : Except Nat SS, RR = if E = 0 then .ok (a', out) else .error E := ⟨_, rfl⟩
    rw [← hRR]
    have HRR := Bx.mk hRR
    rw [e1, e3, e2] at T
    have T1 := Bx.mk T
    have H := Bx.mk h
    clear h T e1 e2 e3 e4 e5 hRR
    go_enter Tryd.func51, Tryd.ntmps51
    go_wp2_with (go_at_call 80; fail)
    refine T1.out.mono ?_
    rintro e w1 ⟨rfl, hb1, ho1⟩
    have HI := Bx.mk (H.out.read ho1 hb1 hp)
    have HS := Bx.mk (IStep.only H.out.rb ho1)
    have f3 := HI.out.xb.frozen 3
    have c3 := HI.out.load_err
    have HN := Bx.mk (HI.out.err E)
    have HSS := Bx.mk (HS.out.trans (IStep.set (i := 3) (u := .int .i64 (E : Int)) HI.out.xb))
    clear hb1 ho1 hp h1 h3 T1 H HS HI
    go_wp2
    go_ret
    exact ⟨rfl, by rw [HRR.out]; exact HN.out.at_, HSS.out⟩
/-- fail: notes the first error; did all go well? -/
def okR (R : Except Nat SS) : Bool := match R with
  | .ok _ => true
  | .error _ => false
set_option maxHeartbeats 1000000 in
theorem fail_calls (w0 : World) (x r : Nat) (A : Option Addr) (l : List Nat) (c m e : Nat) (he : e ≠ 0) (b : Bool) (R : Except Nat SS) (w : World) (h : At w0 x r A l c m R w) :
    Calls Tryd.prog 58 #[.pointer (some ⟨x, 0, none⟩), .int .i64 (e : Int), .bool b] w fun en w' =>
      en = .returned (.bool (okR (run (chk e (b = false)) () R).2)) ∧ At w0 x r A l c m (run (chk e (b = false)) () R).2 w' ∧ IStep w w' := by
  cases R with
  | error e0 =>
    obtain ⟨h3, hne, hne2, -⟩ := h.no
    have H := Bx.mk h
    have HR : Bx (run (chk e (b = false)) () (.error e0) = ((), .error e0)) := ⟨rfl⟩
    rw [HR.out]
    simp only [okR]
    clear h
    go_enter Tryd.func58, Tryd.ntmps58
    go_wp2
    go_ret
    exact ⟨rfl, H.out, IStep.refl _⟩
  | ok s =>
    obtain ⟨O, h⟩ := h
    obtain ⟨a, out⟩ := s
    simp only at h
    have h3 : w.cell? ⟨x, 3, none⟩ = some (.int .i64 ((0 : Nat) : Int)) := h.xb.cell 3
    have H := Bx.mk h
    cases b with
    | false =>
      have HR : Bx (run (chk e (false = false)) () (.ok (a, out)) = ((), .ok (a, out))) := ⟨by unfold run chk; simp⟩
      rw [HR.out]
      simp only [okR]
      clear h
      go_enter Tryd.func58, Tryd.ntmps58
      go_wp2
      go_ret
      exact ⟨rfl, ⟨O, H.out⟩, IStep.refl _⟩
    | true =>
      have HR : Bx (run (chk e (true = false)) () (.ok (a, out)) = ((), .error e)) := ⟨by unfold run chk; simp⟩
      rw [HR.out]
      simp only [okR]
      have f3 := h.xb.frozen 3
      have HN := Bx.mk (h.err e)
      have c3 := HN.out.load_err
      have HS := Bx.mk (IStep.set (i := 3) (u := .int .i64 (e : Int)) h.xb)
      have hne : ((e : Int) == 0) = false := beq_false_of_ne (by omega)
      have HE := Bx.mk he
      clear h H he
      go_enter Tryd.func58, Tryd.ntmps58
      go_wp2
      go_ret
      exact ⟨rfl, ⟨HE.out, a, out, O, HN.out⟩, HS.out⟩
end Go.Proofs.YtoekecopfmohiaaDoor
