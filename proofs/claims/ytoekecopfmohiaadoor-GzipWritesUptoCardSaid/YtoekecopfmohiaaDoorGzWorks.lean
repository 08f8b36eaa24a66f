import Derived.Test.YtoekecopfmohiaaDoorGz5
/-
  gzip: Wrap; Open's two answers; works.
-/
namespace Go.Proofs.YtoekecopfmohiaaDoor
open Go.RowKit

theorem Open_ok (A : Option Addr) (l : List Nat) (c m : Nat) (w : World) {out : List Nat} (hl : RB w A l) (hc : l.length ≤ c) (hm : m ≤ 262144) (hg : Gz w) (h : opnN l m = .ok out) :
    Calls Tryd.prog 22 #[.slice A l.length c, .int .i64 (m : Int)] w fun e w' => ∃ v, e = .returned (.tuple #[v, .int .i64 0]) ∧ OB w' w.heap.size v out ∧ (∀ y ∈ out, y < 256) ∧ Below w.heap.size w w' :=
  (Open_calls A l c m w hl hc hm hg).mono fun e w' hp => by unfold OpnPost at hp; rw [h] at hp; exact hp
theorem Open_no (A : Option Addr) (l : List Nat) (c m : Nat) (w : World) {x : Nat} (hl : RB w A l) (hc : l.length ≤ c) (hm : m ≤ 262144) (hg : Gz w) (h : opnN l m = .error x) :
    Calls Tryd.prog 22 #[.slice A l.length c, .int .i64 (m : Int)] w fun e w' => e = .returned (.tuple #[.slice none 0 0, .int .i64 (x : Int)]) ∧ Below w.heap.size w w' :=
  (Open_calls A l c m w hl hc hm hg).mono fun e w' hp => by unfold OpnPost at hp; rw [h] at hp; exact hp.2
theorem inf_gz (b l : List Nat) (m : Nat) (hb : ∀ x ∈ b, x < 256) (hm : b.length ≤ m) (hl : b.length ≤ 20000) (h : Bts l (fN (wholeF copF b)) (fA (wholeF copF b))) : ∀ more, (∀ x ∈ more, x < 256) → inflN (l ++ more) m = .ok (b, l.length) :=
  fun more _ => inf_runs b l more m hb hm (by omega) h
theorem gz_len (b l : List Nat) (hb : ∀ x ∈ b, x < 256) (h : Bts l (fN (wholeF copF b)) (fA (wholeF copF b))) : 1 ≤ l.length ∧ l.length ≤ (9 * b.length + 17) / 8 := by
  have h1 := h.len
  have h2 := (runsF_A copF (fun c n hc hn => ⟨(copF_A c n (by omega) hn).1, (copF_A c n (by omega) hn).2.1⟩) (b.length + 1) b hb).1
  unfold wholeF at h1
  rw [blkF_A] at h1
  omega
theorem gzF_len (ex nm nt : List Nat) (sum : Bool) (l b : List Nat) : 18 + l.length ≤ (gzF ex nm nt sum l b).length ∧ (gzF ex nm nt sum l b).length ≤ ex.length + nm.length + nt.length + l.length + 24 := by
  have h1 := hdB_len ex nm nt sum
  have h2 : (hdB ex nm nt sum).length ≤ ex.length + nm.length + nt.length + 16 := by
    have a1 := exB_len ex
    have a2 := nmB_len nm
    have a3 := nmB_len nt
    have a4 : (hdA ex nm nt sum).length ≤ ex.length + nm.length + nt.length + 14 := by
      unfold hdA
      simp only [List.length_append, hd0, List.length_cons, List.length_nil]
      omega
    unfold hdB
    split
    · rw [List.length_append, le_len]; omega
    · omega
  unfold gzF tlB
  simp only [List.length_append, le_len]
  omega
theorem hdB_lt (ex nm nt : List Nat) (sum : Bool) (he : ∀ x ∈ ex, x < 256) (hn : ∀ x ∈ nm, x < 256) (ht : ∀ x ∈ nt, x < 256) : ∀ x ∈ hdB ex nm nt sum, x < 256 := by
  have h := hdA_lt ex nm nt sum he hn ht
  unfold hdB
  split
  · intro x hx
    exact (List.mem_append.1 hx).elim (h x) (le_lt 2 _ x)
  · exact h
theorem gzF_lt (ex nm nt : List Nat) (sum : Bool) (l b : List Nat) (he : ∀ x ∈ ex, x < 256) (hn : ∀ x ∈ nm, x < 256) (ht : ∀ x ∈ nt, x < 256) (hl : ∀ x ∈ l, x < 256) : ∀ x ∈ gzF ex nm nt sum l b, x < 256 := by
  intro x hx
  unfold gzF at hx
  rcases List.mem_append.1 hx with hx | hx
  · exact hdB_lt ex nm nt sum he hn ht x hx
  · exact (List.mem_append.1 hx).elim (hl x) (tlB_lt b x)
def WrapPost (b : List Nat) (w : World) (e : Ending) (w' : World) : Prop := ∃ l v, Bts l (fN (wholeF copF b)) (fA (wholeF copF b)) ∧ e = .returned v ∧ OB w' w.heap.size v (gzF [] [] [] false l b) ∧ Below w.heap.size w w'
set_option maxRecDepth 100000 in
set_option maxHeartbeats 4000000 in
theorem Wrap_calls (A : Option Addr) (b : List Nat) (c : Nat) (w : World) (hb : RB w A b) (hc : b.length ≤ c) (hg : Gz w) (hbl : b.length ≤ 20000) :
    Calls Tryd.prog 25 #[.slice A b.length c] w (WrapPost b w) := by
  have D : Calls Tryd.prog 21 #[.slice A b.length c, .string { data := #[] }, .string { data := #[] }, .slice none 0 0, .bool false] w (fun e w' => ∃ l v, Bts l (fN (wholeF copF b)) (fA (wholeF copF b)) ∧ e = .returned (.tuple #[v, .int .i64 0]) ∧ OB w' w.heap.size v (gzF [] [] [] false l b) ∧ Below w.heap.size w w') :=
    Dress_yes A b c { data := #[] } { data := #[] } none [] 0 false w hb hc (RB.nil _ _) hg (by show 0 + 0 + 0 + _ + 60 ≤ _; omega) hbl (by decide)
  have HD := Bx.mk D
  clear D hb hg
  go_enter Tryd.func25, Tryd.ntmps25
  go_wp2_with (go_at_call 21; fail)
  refine HD.out.mono ?_
  rintro e w1 ⟨l, v, hbts, rfl, ho, hbl⟩
  have H := Bx.mk (And.intro hbts (And.intro ho hbl))
  clear hbts ho hbl HD
  obtain ⟨A1, c1, rfl⟩ := H.out.2.1.form
  go_wp2
  go_ret
  exact ⟨l, _, H.out.1, rfl, H.out.2.1, H.out.2.2⟩
theorem a_bts : Bts [75, 4, 0] (fN (wholeF copF [97])) (fA (wholeF copF [97])) := ⟨by decide, by decide +kernel, by decide +kernel, by decide +kernel⟩
def gzA : List Nat := [31, 139, 8, 0, 0, 0, 0, 0, 0, 0, 75, 4, 0, 67, 190, 183, 232, 1, 0, 0, 0]
theorem a_gz : gzF [] [] [] false [75, 4, 0] [97] = gzA := by decide +kernel
theorem a_opn : opnN gzA 9 = .ok [97] := by
  rw [← a_gz]
  exact opn_back (by decide) (by simp) (by simp) (inf_gz [97] [75, 4, 0] 9 (by decide) (by decide) (by decide) a_bts) (by decide) (by decide)
set_option maxRecDepth 100000 in
set_option maxHeartbeats 4000000 in
theorem gworks_calls (w : World) (hg : Gz w) : Calls Tryd.prog 20 #[] w fun e w' => e = .returned (.bool true) ∧ Below w.heap.size w w' := by
  have HG := Bx.mk hg
  have k0 := conv_bytes w #[.int .u8 97] 1 1
  have b0 := (Below.refl w.heap.size w).alloc (Nat.le_refl _) (.cells #[.int .u8 97] 5 ((#[.int .u8 97] : Array Value).size, (#[.int .u8 97] : Array Value).size + 1))
  have B1 := Bx.mk b0
  have n1 := Wrap_calls (some ⟨w.heap.size, 0, none⟩) [97] 1 _ (RB.litm w 5 ((#[.int .u8 97] : Array Value).size, (#[.int .u8 97] : Array Value).size + 1) [97] #[.int .u8 97] rfl (by decide) (by decide)) (by decide) (HG.out.below B1.out) (by decide)
  have N1 := Bx.mk n1
  clear n1 b0 hg
  go_enter Tryd.func20, Tryd.ntmps20
  go_wp2_with (go_at_call 25; fail)
  refine N1.out.mono ?_
  rintro e w1 ⟨l, v1, hbts, rfl, ho1, hb1⟩
  obtain rfl := hbts.unique a_bts
  rw [a_gz] at ho1
  have B2 := Bx.mk (below_then B1.out B1.out.size hb1)
  obtain ⟨A1, c1, rfl, hc1⟩ := ho1.form'
  have R1 := Bx.mk (ho1.rb (by decide) (by decide))
  have N2 := Bx.mk (Open_ok A1 gzA c1 9 w1 R1.out hc1 (by decide) (HG.out.below B2.out) a_opn)
  clear ho1 hb1 N1 B1 k0 hbts
  go_wp2_with (go_at_call 22; fail)
  refine N2.out.mono ?_
  rintro e w2 ⟨v2, rfl, ho2, hlt2, hb2⟩
  have B3 := Bx.mk (below_then B2.out B2.out.size hb2)
  have R2 := Bx.mk (R1.out.below hb2)
  obtain ⟨A2, c2, rfl⟩ := ho2.form
  have Q2 := Bx.mk (ho2.rb (by decide) (by decide))
  clear ho2 hb2 N2 B2 R1 hlt2
  have hba := below_alloc1 w2 (.cells #[.int .u8 31, .int .u8 139, .int .u8 8, .int .u8 0, .int .u8 0, .int .u8 0, .int .u8 0, .int .u8 0, .int .u8 0, .int .u8 0, .int .u8 75, .int .u8 4, .int .u8 0, .int .u8 67, .int .u8 190, .int .u8 183, .int .u8 232, .int .u8 1, .int .u8 0, .int .u8 0, .int .u8 0] 5)
  have c3 : Calls Tryd.prog 16 #[.slice A1 gzA.length c1, .slice (some ⟨w2.heap.size, 0, none⟩) 21 21] (w2.alloc (.cells #[.int .u8 31, .int .u8 139, .int .u8 8, .int .u8 0, .int .u8 0, .int .u8 0, .int .u8 0, .int .u8 0, .int .u8 0, .int .u8 0, .int .u8 75, .int .u8 4, .int .u8 0, .int .u8 67, .int .u8 190, .int .u8 183, .int .u8 232, .int .u8 1, .int .u8 0, .int .u8 0, .int .u8 0] 5)) _ :=
    SameBytes_calls A1 (some ⟨w2.heap.size, 0, none⟩) gzA gzA c1 21 _ (R2.out.below hba) (RB.lit w2 5 gzA #[.int .u8 31, .int .u8 139, .int .u8 8, .int .u8 0, .int .u8 0, .int .u8 0, .int .u8 0, .int .u8 0, .int .u8 0, .int .u8 0, .int .u8 75, .int .u8 4, .int .u8 0, .int .u8 67, .int .u8 190, .int .u8 183, .int .u8 232, .int .u8 1, .int .u8 0, .int .u8 0, .int .u8 0] rfl (by decide) (by decide))
  rw [show decide (gzA = gzA) = true by decide] at c3
  have C3 := Bx.mk c3
  have Q3 := Bx.mk (Q2.out.below hba)
  have B4 := Bx.mk (below_then B3.out B3.out.size hba)
  clear c3 Q2 B3 R2 hba
  go_wp2_with (go_at_call 16; fail)
  generalize w2.alloc (.cells #[.int .u8 31, .int .u8 139, .int .u8 8, .int .u8 0, .int .u8 0, .int .u8 0, .int .u8 0, .int .u8 0, .int .u8 0, .int .u8 0, .int .u8 75, .int .u8 4, .int .u8 0, .int .u8 67, .int .u8 190, .int .u8 183, .int .u8 232, .int .u8 1, .int .u8 0, .int .u8 0, .int .u8 0] 5) = w3 at *
  refine C3.out.mono ?_
  rintro e w4 ⟨rfl, k4, rfl⟩
  have B5 := Bx.mk (below_drewN B4.out k4)
  have k1 : (convert 22 9 (.slice A2 1 c2)).run Tryd.prog (w3.drewN k4) = .ok (.string { data := #[97] }) (w3.drewN k4) := conv_str (w3.drewN k4) A2 c2 [97] (Q3.out.below (below_drewN (Below.refl _ _) k4))
  clear C3 Q3 B4
  go_wp2
  go_ret
  exact ⟨rfl, B5.out⟩
end Go.Proofs.YtoekecopfmohiaaDoor
