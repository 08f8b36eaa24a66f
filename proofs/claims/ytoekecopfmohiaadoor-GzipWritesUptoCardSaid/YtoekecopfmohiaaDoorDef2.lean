import Derived.Test.YtoekecopfmohiaaDoorDefRuns
import Derived.Test.YtoekecopfmohiaaDoorDef1
/-
  The fixed code's writers: put, each.
-/
namespace Go.Proofs.YtoekecopfmohiaaDoor
open Go.RowKit

/-- what a call of a writer may change: its block, bytes, and what is new -/
structure DStep (w w' : World) : Prop where
  keep : ∀ (q : Nat) (cs : Array Value) (t : TypeId) (fr : Nat × Nat), w.heap[q]? = some (Obj.cells cs t fr) → t ≠ 93 → t ≠ 5 → w'.heap[q]? = some (Obj.cells cs t fr)
  size : w.heap.size ≤ w'.heap.size
theorem DStep.refl (w : World) : DStep w w := ⟨fun _ _ _ _ h _ _ => h, Nat.le_refl _⟩
theorem DStep.trans {w w1 w2 : World} (h : DStep w w1) (h' : DStep w1 w2) : DStep w w2 :=
  ⟨fun q cs t fr hq h1 h2 => h'.keep q cs t fr (h.keep q cs t fr hq h1 h2) h1 h2, Nat.le_trans h.size h'.size⟩
theorem DStep.below {w w' : World} (h : Below w.heap.size w w') : DStep w w' :=
  ⟨fun q _ _ _ hq _ _ => (h.block q (Array.getElem?_eq_some_iff.1 hq).1).trans hq, h.size⟩
theorem WStep.dstep {w w' : World} {g N a : Nat} {v v' : Value} (h : Wr w g v N a) (hs : WStep g v w v' w') : DStep w w' :=
  ⟨fun q cs t fr hq h1 h2 => (hs.keep q (Array.getElem?_eq_some_iff.1 hq).1 (fun hc => by
      subst hc
      have hb := h.blk
      unfold Blk at hb; rw [hb] at hq; injection hq with hq; injection hq with _ ht; exact h1 ht.symm) (fun hc => by
      obtain ⟨l, -, ho⟩ := h.own
      rcases ho.2 with ⟨rfl, _⟩ | ⟨g', cap, cur, rfl, _, hh, _⟩
      · simp [Value.ownBlock] at hc
      · have : g' = q := by simpa [Value.ownBlock] using hc
        subst this
        rw [hh] at hq; injection hq with hq; injection hq with _ ht; exact h2 ht.symm)).trans hq, hs.size⟩
theorem Blk.dstep {w w' : World} {g : Nat} {t : TypeId} {cs : Array Value} (h : Blk w g t cs) (hs : DStep w w') (h1 : t ≠ 93) (h2 : t ≠ 5) : Blk w' g t cs := hs.keep g cs t (0, 0) h h1 h2
theorem OI.dstep {w w' : World} {base : Nat} {v : Value} {l : List Int} (h : OI w base v l) (hs : DStep w w') : OI w' base v l :=
  ⟨h.1, h.2.imp id fun ⟨g, cap, cur, hv, hg, hh, r⟩ => ⟨g, cap, cur, hv, hg, hs.keep g cur 3 (0, 0) hh (by decide) (by decide), r⟩⟩
theorem Cd.dstep {w w' : World} {g : Nat} {O Ln : Value} {L : List Nat} (h : Cd w g O Ln L) (hs : DStep w w') : Cd w' g O Ln L :=
  ⟨h.blk.dstep hs (by decide) (by decide), h.ord.dstep hs, h.len.elim fun b hb => ⟨b, hb.dstep hs⟩⟩
/-- what put holds: the code, the writer with what it holds -/
structure Ev (w0 w : World) (qc qw g : Nat) (fs : List Fd) : Prop where
  bc : ∃ gC O Ln, Blk w qc 77 #[.pointer (some ⟨gC, 0, none⟩)] ∧ Cd w gC O Ln fixLn
  bw : Blk w qw 54 #[.pointer (some ⟨g, 0, none⟩)]
  wf : WF w g fs
  lg : w0.heap.size ≤ g
  be : Below w0.heap.size w0 w
theorem Ev.step {w0 w w' : World} {qc qw g : Nat} {fs fs' : List Fd} (h : Ev w0 w qc qw g fs) (hs : DStep w w') (hw : WF w' g fs') (hb : Below w0.heap.size w0 w') : Ev w0 w' qc qw g fs' where
  bc := let ⟨gC, O, Ln, h1, h2⟩ := h.bc; ⟨gC, O, Ln, h1.dstep hs (by decide) (by decide), h2.dstep hs⟩
  bw := h.bw.dstep hs (by decide) (by decide)
  wf := hw
  lg := h.lg
  be := hb
theorem Ev.below {w0 w w' : World} {qc qw g : Nat} {fs : List Fd} (h : Ev w0 w qc qw g fs) (hb : Below w.heap.size w w') : Ev w0 w' qc qw g fs := h.step (DStep.below hb) (h.wf.below hb) (below_then h.be h.be.size hb)
theorem ev_put (w0 : World) (qc qw g : Nat) (fs : List Fd) (n b : Nat) (w : World) (h : Ev w0 w qc qw g fs) (hb : b ≤ 24) (hn : n < 2 ^ b) (ha : fA fs ≤ 1125899906809000) :
    Calls Tryd.prog 33 #[.pointer (some ⟨g, 0, none⟩), .int .i64 (n : Int), .int .i64 (b : Int)] w fun e w' => e = .returned (.int .i64 0) ∧ Ev w0 w' qc qw g (fs ++ [(n, b)]) ∧ DStep w w' := by
  obtain ⟨v, hw⟩ := h.wf
  refine (Put_yes g v _ _ n b w hw hb hn ha).mono ?_
  rintro e w' ⟨rfl, v', h', hs⟩
  have hd := WStep.dstep hw hs
  exact ⟨rfl, h.step hd ⟨v', by rw [fN_snoc, fA_snoc]; exact h'⟩ (h.be.trans (hs.below _ h.lg h.be.size)), hd⟩
theorem ev_write (w0 : World) (qc qw g gC : Nat) (O Ln : Value) (fs : List Fd) (s : Nat) (w : World) (h : Ev w0 w qc qw g fs) (hC : Cd w gC O Ln fixLn) (hs : s < 288) (ha : fA fs ≤ 1125899906809000) :
    Calls Tryd.prog 61 #[.pointer (some ⟨gC, 0, none⟩), .pointer (some ⟨g, 0, none⟩), .int .i64 (s : Int)] w fun e w' => e = .returned (.int .i64 0) ∧ Ev w0 w' qc qw g (fs ++ [litF s]) ∧ DStep w w' := by
  obtain ⟨v, hw⟩ := h.wf
  refine (CWrite_yes gC O Ln fixLn s g v _ _ w hC fixLn_ok.2.2.1 fixLn_ok.1 (by rw [fixLn_len]; exact hs) (fixLn_all s hs).1 (fixLn_all s hs).2 hw ha).mono ?_
  rintro e w' ⟨rfl, v', h', hst⟩
  have hd := WStep.dstep hw hst
  exact ⟨rfl, h.step hd ⟨v', by unfold litF symF; rw [fN_snoc, fA_snoc]; exact h'⟩ (h.be.trans (hst.below _ h.lg h.be.size)), hd⟩
/-- the value of put -/
def pv (qc qw : Nat) : Value := .func (.func 60) #[] #[.pointer (some ⟨qc, 0, none⟩), .pointer (some ⟨qw, 0, none⟩)]
set_option maxHeartbeats 1000000 in
theorem put_calls (w0 : World) (qc qw g : Nat) (fs : List Fd) (s : Nat) (w : World) (h : Ev w0 w qc qw g fs) (hs : s < 288) (ha : fA fs ≤ 1125899906809000) :
    Calls Tryd.prog 60 #[.int .i64 (s : Int), .pointer (some ⟨qc, 0, none⟩), .pointer (some ⟨qw, 0, none⟩)] w fun e w' => e = .returned (.tuple #[]) ∧ Ev w0 w' qc qw g (fs ++ [litF s]) ∧ DStep w w' := by
  obtain ⟨gC, O, Ln, hb, hC⟩ := h.bc
  have c1 : w.cell? ⟨qc, 0, none⟩ = some (.pointer (some ⟨gC, 0, none⟩)) := hb.cell 0
  have c2 : w.cell? ⟨qw, 0, none⟩ = some (.pointer (some ⟨g, 0, none⟩)) := h.bw.cell 0
  have WC := Bx.mk (ev_write w0 qc qw g gC O Ln fs s w h hC hs ha)
  clear h hb hC
  go_enter Tryd.func60, Tryd.ntmps60
  go_wp2_with (go_at_call 61; fail)
  refine WC.out.mono ?_
  rintro e w1 ⟨rfl, h1, hd1⟩
  have H1 := Bx.mk h1; have D1 := Bx.mk hd1
  clear h1 hd1 WC
  go_wp2
  (try simp only [Exit.inBlock, Exit.then]); first | refine bodyPost_end (results_none rfl _ _ _) rfl ?_ | refine bodyPost_ret (results_none rfl _ _ _) rfl ?_
  exact ⟨rfl, H1.out, D1.out⟩
set_option maxHeartbeats 2000000 in
theorem eachw_calls (w0 : World) (qc qw g : Nat) (fs : List Fd) (c n : Nat) (w : World) (h : Ev w0 w qc qw g fs) (hc : c < 256) (ha : fA fs + 9 * n ≤ 1125899906809000) :
    Calls Tryd.prog 37 #[pv qc qw, .pointer (some ⟨g, 0, none⟩), .int .u8 (c : Int), .int .i64 (n : Int)] w fun e w' => e = .returned (.tuple #[]) ∧ Ev w0 w' qc qw g (fs ++ eachF c n) ∧ DStep w w' := by
  have H := Bx.mk h
  have PC := Bx.mk (fun fs' W h' ha' => put_calls w0 qc qw g fs' c W h' (by omega) ha')
  have HA := Bx.mk (fun k => (eachF_A c k (by omega)).1)
  unfold pv
  clear h
  go_enter Tryd.func37, Tryd.ntmps37
  go_wp2
  go_loopw [9] (fun i wr => ∃ k : Nat, k ≤ n ∧ i = .int .i64 (k : Nat) ∧ Bx (Ev w0 wr qc qw g (fs ++ eachF c k)) ∧ Bx (DStep w wr)) (fun i _ => n - (intOf i).toNat)
  case atStart => exact ⟨0, Nat.zero_le _, rfl, ⟨by simpa [eachF] using H.out⟩, ⟨DStep.refl _⟩⟩
  case round =>
    obtain ⟨k, hk, rfl, HQ, HD⟩ := hrel
    clear H
    by_cases hlt : k < n
    · have hki : (k : Int) < (n : Int) := by omega
      have HP := Bx.mk (PC.out _ wr HQ.out (by rw [fA_app]; have := HA.out k; omega))
      go_wp2_with (go_at_call 60; fail)
      refine HP.out.mono ?_
      rintro e w1 ⟨rfl, h1, hd1⟩
      have H1 : Bx (Ev w0 w1 qc qw g (fs ++ eachF c (k + 1))) := ⟨by
        have e : eachF c (k + 1) = eachF c k ++ [litF c] := by simp [eachF, List.replicate_succ']
        rw [e, ← List.append_assoc]; exact h1⟩
      have D1 := Bx.mk (HD.out.trans hd1)
      clear h1 hd1 HP HQ HD
      go_wp2
      go_roundw
      case rel => exact ⟨k + 1, by omega, by go_num, H1, D1⟩
      case measure => simp [intOf]; omega
    · obtain rfl : k = n := by omega
      go_wp2
      (try simp only [Exit.inBlock, Exit.then]); first | refine bodyPost_end (results_none rfl _ _ _) rfl ?_ | refine bodyPost_ret (results_none rfl _ _ _) rfl ?_
      exact ⟨rfl, HQ.out, HD.out⟩
end Go.Proofs.YtoekecopfmohiaaDoor
