import Derived.Test.YtoekecopfmohiaaDoorInf9
/-
  Inflate: what it answers, as a function of the bytes and the room.
-/
namespace Go.Proofs.YtoekecopfmohiaaDoor
open Go.RowKit

theorem inf_step (m : Nat) (l : List Nat) (k : Nat) (R : Except Nat SS) : (run (infP m l (k + 1)) () R).2 = (run (if (run (blockP m l) 0 R).1 = 1 then ret () else infP m l k) () (run (blockP m l) 0 R).2).2 := by
  show (run (bd (blockP m l) fun last => if last = 1 then ret () else infP m l k) () R).2 = _
  rw [run_bd (blockP m l) _ 0 ()]
theorem block_fwd {m : Nat} {l : List Nat} {s s' : SS} (h : (run (blockP m l) 0 (.ok s)).2 = .ok s') : s.1 < s'.1 := by
  unfold run at h
  simp only at h
  cases hp : blockP m l s with
  | error e => rw [hp] at h; cases h
  | ok u =>
    rw [hp] at h
    obtain ⟨v, t⟩ := u
    cases h
    unfold blockP at hp
    obtain ⟨last, t1, h1, h2⟩ := bd_ok hp
    unfold numP at h1
    split at h1 <;> cases h1
    have := (Good.bd (Good.num 2) fun kind => Good.bd (kind_good kind) fun _ => Good.ret (pkN l s.1 1)).mono m l _ _ _ h2 (by assumption)
    simp only at this
    omega
/-- what Inflate answers: the bytes, where they end, the error -/
def InfPost (l : List Nat) (m : Nat) (w : World) (e : Ending) (w' : World) : Prop := match inflN l m with
  | .ok (out, n) => ∃ v, e = .returned (.tuple #[v, .int .i64 (n : Int), .int .i64 0]) ∧ OB w' w.heap.size v out ∧ (∀ y ∈ out, y < 256) ∧ Below w.heap.size w w'
  | .error n => n ≠ 0 ∧ e = .returned (.tuple #[.slice none 0 0, .int .i64 0, .int .i64 (n : Int)]) ∧ Below w.heap.size w w'
def infRun (l : List Nat) (m : Nat) : Except Nat SS := (run (infP m l K0) () (.ok (0, []))).2
theorem inflN_run (l : List Nat) (m : Nat) : inflN l m = match infRun l m with
  | .ok s => .ok (s.2, (s.1 + 7) / 8)
  | .error e => .error e := by
  unfold inflN infRun run
  simp only
  cases infP m l K0 (0, []) with
  | error e => rfl
  | ok u => rfl
theorem Inflate_arg (x : Value) (most : Int) (h : most < 0 ∨ 262144 < most) (w : World) :
    Calls Tryd.prog 14 #[x, .int .i64 most] w fun e w' => e = .returned (.tuple #[.slice none 0 0, .int .i64 0, .int .i64 2]) ∧ w = w' := by
  by_cases h0 : most < 0
  · clear h
    go_enter Tryd.func14, Tryd.ntmps14
    go_wp2
    go_ret3
    exact ⟨rfl, rfl⟩
  · have h1 : 262144 < most := by omega
    have h0' : decide (most < 0) = false := by simp; omega
    clear h
    go_enter Tryd.func14, Tryd.ntmps14
    go_wp2
    go_ret3
    exact ⟨rfl, rfl⟩
set_option maxRecDepth 100000 in
set_option maxHeartbeats 4000000 in
theorem Inflate_calls (A : Option Addr) (l : List Nat) (c m : Nat) (w : World) (hl : RB w A l) (hm : m ≤ 262144) (hg : Gf w) (hlc : l.length ≤ c) :
    Calls Tryd.prog 14 #[.slice A l.length c, .int .i64 (m : Int)] w (InfPost l m w) := by
  have HL := Bx.mk hl
  have HG := Bx.mk hg
  have HN := Bx.mk (New_calls A l.length c w)
  obtain ⟨RF, hRF⟩ : ∃ RF, RF = infRun l m := ⟨_, rfl⟩
  have HRF := Bx.mk hRF
  have hm0 : decide ((m : Int) < 0) = false := by simp
  have hm1 : decide ((262144 : Int) < (m : Int)) = false := by simp; omega
  clear hl hg hRF
  go_enter Tryd.func14, Tryd.ntmps14
  go_wp2_with (go_at_call 27; fail)
  refine HN.out.mono ?_
  rintro e w1 ⟨rfl, hw1⟩
  have A1 : Bx (At w (w.heap.size + 1) w.heap.size A l c m (.ok (0, [])) (w1.alloc (.cells #[.pointer (some ⟨w.heap.size, 0, none⟩), .slice none 0 0, .int .i64 (m : Int), .int .i64 0] 50))) := ⟨by
    subst hw1
    refine ⟨.slice none 0 0, ?_⟩
    exact {
      xb := by
        have := Blk.new (w.alloc (.cells #[.slice A l.length c, .int .i64 0, .bool true] 75)) 50 #[.pointer (some ⟨w.heap.size, 0, none⟩), .slice none 0 0, .int .i64 (m : Int), .int .i64 0]
        rw [show (w.alloc (.cells #[.slice A l.length c, .int .i64 0, .bool true] 75)).heap.size = w.heap.size + 1 by simp] at this
        exact this
      rb := (Blk.new w 75 #[.slice A l.length c, .int .i64 0, .bool true]).alloc _
      ow := ⟨rfl, .inl ⟨rfl, rfl⟩⟩
      pos := Nat.zero_le _
      lx := Nat.le_succ _
      lr := Nat.le_refl _
      src := HL.out
      len := Nat.zero_le _
      byt := fun y hy => by cases hy
      be := (below_alloc1 w _).alloc (by simp) _ }⟩
  have hs1 : w1.heap.size = w.heap.size + 1 := by rw [hw1]; simp
  clear hw1 HN
  go_wp2
  generalize w1.alloc (.cells #[.pointer (some ⟨w.heap.size, 0, none⟩), .slice none 0 0, .int .i64 (m : Int), .int .i64 0] 50) = w2 at *
  have HR0 : Bx (RF = (run (infP m l K0) () (.ok (0, []))).2) := HRF
  have HRF' : Bx (RF = infRun l m) := HRF
  go_loopg [] K0 (fun k wr => ∃ (R' : Except Nat SS), Bx (At w (w.heap.size + 1) w.heap.size A l c m R' wr) ∧ Bx (RF = (run (infP m l k) () R').2) ∧ Bx (∀ s, R' = .ok s → 8 * l.length < k + s.1))
  case atStart =>
    refine ⟨.ok (0, []), A1, HR0, ⟨fun s hs => ?_⟩⟩
    cases hs
    have := HL.out.2.1
    unfold K0; omega
  case round =>
    obtain ⟨R', A2, F2, M2⟩ := hrel
    clear A1 HRF HR0 hs1
    cases R' with
    | error e =>
      obtain ⟨h3, hne, hne2, hz⟩ := A2.out.no
      have HF : Bx (infRun l m = .error e) := ⟨by rw [← HRF'.out]; exact F2.out⟩
      have HZ := Bx.mk hz
      clear F2 M2 hz
      go_wp2
      go_quiet (fail)
      go_wp2
      go_ret3
      unfold InfPost
      rw [inflN_run, HF.out]
      exact ⟨HZ.out, rfl, below_drewN A2.out.be _⟩
    | ok s =>
      have h3 : wr.cell? ⟨w.heap.size + 1, 3, none⟩ = some (.int .i64 ((0 : Nat) : Int)) := by obtain ⟨O, I⟩ := A2.out; exact I.xb.cell 3
      have hpos : s.1 ≤ 8 * l.length := by obtain ⟨O, I⟩ := A2.out; exact I.pos
      have hfuel := M2.out s rfl
      obtain ⟨k', rfl⟩ : ∃ k', gk = k' + 1 := ⟨gk - 1, by omega⟩
      have BC := Bx.mk (block_calls w (w.heap.size + 1) w.heap.size A l c m hm HG.out hlc s wr A2.out)
      have HFW := Bx.mk (@block_fwd m l s)
      have F3 : Bx (RF = _) := ⟨F2.out.trans (inf_step m l k' (.ok s))⟩
      clear F2 M2
      generalize run (blockP m l) 0 (.ok s) = PB at *
      obtain ⟨V, RB'⟩ := PB
      simp only at BC HFW F3
      go_wp2_with (go_at_call 28; fail)
      refine BC.out.mono ?_
      rintro e w3 ⟨b, rfl, ha3, hs3, hb3⟩
      have A3 := Bx.mk ha3
      have HB := Bx.mk hb3
      clear ha3 hs3 hb3 BC A2 h3
      cases RB' with
      | error e =>
        obtain ⟨h3, hne, hne2, hz⟩ := A3.out.no
        have HE : Bx (∀ k, (run (infP m l k) () (.error e)).2 = .error e) := ⟨fun k => rfl⟩
        have HF : Bx (RF = .error e) := ⟨by
          rw [F3.out]
          split <;> rfl⟩
        have HZ := Bx.mk hz
        clear F3 hz HB
        cases b with
        | true =>
          have HF' : Bx (infRun l m = .error e) := ⟨by rw [← HRF'.out]; exact HF.out⟩
          go_wp2
          go_quiet (fail)
          go_wp2
          go_ret3
          unfold InfPost
          rw [inflN_run, HF'.out]
          exact ⟨HZ.out, rfl, below_drewN A3.out.be _⟩
        | false =>
          go_wp2
          go_roundg k'
          case measure => omega
          case rel => exact ⟨.error e, A3, ⟨HF.out.trans (HE.out k').symm⟩, ⟨fun s hs => by cases hs⟩⟩
      | ok s3 =>
        have hfw := HFW.out rfl
        have hbv := HB.out rfl
        have h3 : w3.cell? ⟨w.heap.size + 1, 3, none⟩ = some (.int .i64 ((0 : Nat) : Int)) := by obtain ⟨O, I⟩ := A3.out; exact I.xb.cell 3
        clear HFW HB
        by_cases hV : V = 1
        · obtain rfl : b = true := by rw [hbv, hV]; rfl
          have HF : Bx (infRun l m = .ok s3) := ⟨by rw [← HRF'.out, F3.out, if_pos hV]; rfl⟩
          obtain ⟨O, I⟩ := A3.out
          have HI := Bx.mk I
          have h1 : w3.cell? ⟨w.heap.size + 1, 1, none⟩ = some O := I.xb.cell 1
          have h0 : w3.cell? ⟨w.heap.size + 1, 0, none⟩ = some (.pointer (some ⟨w.heap.size, 0, none⟩)) := I.xb.cell 0
          have AC := Bx.mk (fun n => Calls.quiet_of_same ((rAt_calls w.heap.size (.slice A l.length c) s3.1 (w3.drewN n) I.rb).mono fun e w' h => ⟨h.1, h.2.symm⟩))
          have hlen := HL.out.2.1
          have hp3 := I.pos
          clear I F3 hbv
          have hw7 : IntKind.i64.wrap ((s3.1 : Int) + 7) = ((s3.1 + 7 : Nat) : Int) := by rw [IntWalk.i64_in _ (by omega)]; omega
          have HD : Bx (∀ n : Nat, InfPost l m w (.returned (.tuple #[O, .int .i64 (((s3.1 + 7) / 8 : Nat) : Int), .int .i64 0])) (w3.drewN n)) := ⟨fun n => by
            unfold InfPost
            rw [inflN_run, HF.out]
            exact ⟨O, rfl, HI.out.ow, HI.out.byt, below_drewN HI.out.be n⟩⟩
          go_wp2
          go_quiet ((go_at_call 29; with_reducible exact AC.out _))
          go_wp2
          go_ret3
          exact HD.out _
        · obtain rfl : b = false := by rw [hbv]; exact beq_false_of_ne (by omega)
          have HF : Bx (RF = (run (infP m l k') () (.ok s3)).2) := ⟨by rw [F3.out, if_neg hV]⟩
          clear F3 hbv
          go_wp2
          go_roundg k'
          case measure => omega
          case rel => exact ⟨.ok s3, A3, HF, ⟨fun s hs => by cases hs; omega⟩⟩
end Go.Proofs.YtoekecopfmohiaaDoor
