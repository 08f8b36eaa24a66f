import Derived.Test.YtoekecopfmohiaaDoorCodeAll
/-
  Inflate as a function of bytes: parsers that read bits, and four laws that all of them keep: they go forward; what stands behind changes nothing; a beginning is short; more room changes nothing but 'too long'.
-/
namespace Go.Proofs.YtoekecopfmohiaaDoor

instance (L : List Nat) : Decidable (goodC L) := by unfold goodC; exact inferInstance
instance (L : List Nat) : Decidable (okL L) := by unfold okL; exact inferInstance
/-- where it stands, and what came out -/
abbrev SS := Nat × List Nat
abbrev Px (α : Type) := SS → Except Nat (α × SS)
section
variable {α β : Type}
def ret (v : α) : Px α := fun s => .ok (v, s)
def bd (p : Px α) (f : α → Px β) : Px β := fun s => match p s with
  | .ok (v, s') => f v s'
  | .error e => .error e
def chk (e : Nat) (c : Prop) [Decidable c] : Px Unit := fun s => if c then .ok ((), s) else .error e
def bad (e : Nat) : Px α := fun _ => .error e
def numP (l : List Nat) (n : Nat) : Px Nat := fun s => if s.1 + n ≤ 8 * l.length then .ok (pkN l s.1 n, (s.1 + n, s.2)) else .error 7
def symP (l L : List Nat) : Px Nat := fun s => if (rdC L l s.1).2.1 = 0 then .ok ((rdC L l s.1).1, ((rdC L l s.1).2.2, s.2)) else .error (rdC L l s.1).2.1
def alignP : Px Unit := fun s => .ok ((), ((s.1 + 7) / 8 * 8, s.2))
def bytesP (m : Nat) (l : List Nat) (n : Nat) : Px Unit := fun s =>
  if n + s.2.length ≤ m then if n ≤ (8 * l.length - s.1) / 8 then .ok ((), (s.1 + 8 * n, s.2 ++ (l.drop (s.1 / 8)).take n)) else .error 7 else .error 3
def pushP (m x : Nat) : Px Unit := fun s => if 1 + s.2.length ≤ m then .ok ((), (s.1, s.2 ++ [x])) else .error 3
def cpN (back : Nat) : Nat → List Nat → List Nat
  | 0, o => o
  | n + 1, o => cpN back n (o ++ [o.getD (o.length - back) 0])
def cpyP (m n back : Nat) : Px Unit := fun s => if back ≤ s.2.length then if n + s.2.length ≤ m then .ok ((), (s.1, cpN back n s.2)) else .error 3 else .error 110
/-- a plain block -/
def plainP (m : Nat) (l : List Nat) : Px Unit :=
  bd alignP fun _ => bd (numP l 16) fun n => bd (numP l 16) fun k => bd (chk 110 (n ^^^ k = 65535)) fun _ => bytesP m l n
def LB : List Nat := [3, 4, 5, 6, 7, 8, 9, 10, 11, 13, 15, 17, 19, 23, 27, 31, 35, 43, 51, 59, 67, 83, 99, 115, 131, 163, 195, 227, 258]
def LX : List Nat := [0, 0, 0, 0, 0, 0, 0, 0, 1, 1, 1, 1, 2, 2, 2, 2, 3, 3, 3, 3, 4, 4, 4, 4, 5, 5, 5, 5, 0]
def DB : List Nat := [1, 2, 3, 4, 5, 7, 9, 13, 17, 25, 33, 49, 65, 97, 129, 193, 257, 385, 513, 769, 1025, 1537, 2049, 3073, 4097, 6145, 8193, 12289, 16385, 24577]
def DX : List Nat := [0, 0, 0, 0, 1, 1, 2, 2, 3, 3, 4, 4, 5, 5, 6, 6, 7, 7, 8, 8, 9, 9, 10, 10, 11, 11, 12, 12, 13, 13]
def ORD : List Nat := [16, 17, 18, 0, 8, 7, 9, 6, 10, 5, 11, 4, 12, 3, 13, 2, 14, 1, 15]
/-- a copy -/
def copyP (m : Nat) (l D : List Nat) (sym : Nat) : Px Unit :=
  bd (chk 110 (sym < 29)) fun _ => bd (numP l (LX.getD sym 0)) fun x => bd (symP l D) fun k => bd (chk 110 (k < 30)) fun _ => bd (numP l (DX.getD k 0)) fun y =>
    cpyP m (LB.getD sym 0 + x) (DB.getD k 0 + y)
/-- symbols, up to the block's end -/
def symsP (m : Nat) (l N D : List Nat) : Nat → Px Unit
  | 0 => bad 1
  | k + 1 => bd (symP l N) fun s => if s = 256 then ret () else if 256 < s then bd (copyP m l D (s - 257)) fun _ => symsP m l N D k else bd (pushP m s) fun _ => symsP m l N D k
/-- what a symbol of the lengths' code tells: the length, how many times -/
def whatP (l o : List Nat) (s : Nat) : Px (Nat × Nat) :=
  if s = 16 then bd (chk 110 (o.length ≠ 0)) fun _ => bd (numP l 2) fun x => ret (o.getD (o.length - 1) 0, 3 + x)
  else if s = 17 then bd (numP l 3) fun x => ret (0, 3 + x)
  else if s = 18 then bd (numP l 7) fun x => ret (0, 11 + x)
  else ret (s, 1)
def listP (l C : List Nat) (n : Nat) : Nat → List Nat → Px (List Nat)
  | 0, o => ret o
  | k + 1, o => if o.length < n then bd (symP l C) fun s => bd (whatP l o s) fun wt => bd (chk 110 (wt.2 ≤ n - o.length)) fun _ => listP l C n k (o ++ List.replicate wt.2 wt.1) else ret o
def firstP (l : List Nat) : List Nat → List Nat → Px (List Nat)
  | [], c => ret c
  | i :: r, c => bd (numP l 3) fun x => firstP l r (c.set i x)
/-- a told block's codes -/
def toldP (l : List Nat) : Px (List Nat × List Nat) :=
  bd (numP l 5) fun x => bd (numP l 5) fun y => bd (numP l 4) fun z => bd (chk 110 (257 + x ≤ 286 ∧ 1 + y ≤ 30)) fun _ =>
    bd (firstP l (ORD.take (4 + z)) (List.replicate 19 0)) fun C => bd (chk 110 (okL C)) fun _ => bd (listP l C (257 + x + (1 + y)) 316 []) fun o =>
      bd (chk 110 (o.getD 256 0 ≠ 0)) fun _ => bd (chk 110 (okL (o.take (257 + x)))) fun _ => bd (chk 110 (okL (o.drop (257 + x)))) fun _ => ret (o.take (257 + x), o.drop (257 + x))
/-- the codes that need not be told -/
def fixLn : List Nat := List.replicate 144 8 ++ List.replicate 112 9 ++ List.replicate 24 7 ++ List.replicate 8 8
def fixDs : List Nat := List.replicate 32 5
def K0 : Nat := 4503599627370496
def kindP (m : Nat) (l : List Nat) (kind : Nat) : Px Unit :=
  if kind = 0 then plainP m l else if kind = 1 then symsP m l fixLn fixDs K0 else if kind = 2 then bd (toldP l) fun c => symsP m l c.1 c.2 K0 else bad 110
/-- a block; is it the last one? -/
def blockP (m : Nat) (l : List Nat) : Px Nat := bd (numP l 1) fun last => bd (numP l 2) fun kind => bd (kindP m l kind) fun _ => ret last
def infP (m : Nat) (l : List Nat) : Nat → Px Unit
  | 0 => bad 1
  | k + 1 => bd (blockP m l) fun last => if last = 1 then ret () else infP m l k
/-- what comes out, and where it ends -/
def inflN (l : List Nat) (m : Nat) : Except Nat (List Nat × Nat) := match infP m l K0 (0, []) with
  | .ok (_, s) => .ok (s.2, (s.1 + 7) / 8)
  | .error e => .error e
/-- two lists whose first c bytes are the same -/
structure Agr (l l' : List Nat) (c : Nat) : Prop where
  eq : l.take c = l'.take c
  h1 : c ≤ l.length
  h2 : c ≤ l'.length
structure Good (F : Nat → List Nat → Px α) : Prop where
  mono : ∀ m l s v s', F m l s = .ok (v, s') → s.1 ≤ 8 * l.length → s.1 ≤ s'.1 ∧ s'.1 ≤ 8 * l.length
  nz : ∀ m l s e, F m l s = .error e → e ≠ 0
  same : ∀ m l l' c s v s', Agr l l' c → s.1 ≤ 8 * c → F m l s = .ok (v, s') → s'.1 ≤ 8 * c → F m l' s = .ok (v, s')
  cut : ∀ m l l' s v s', Agr l l' l'.length → s.1 ≤ 8 * l'.length → F m l s = .ok (v, s') → 8 * l'.length < s'.1 → F m l' s = .error 7
  more : ∀ m m' l s v s', m ≤ m' → F m l s = .ok (v, s') → F m' l s = .ok (v, s')
  mor2 : ∀ m m' l s e, m ≤ m' → F m l s = .error e → e ≠ 3 → F m' l s = .error e
  bnd : ∀ m l s v s', F m l s = .ok (v, s') → s.2.length ≤ m → s'.2.length ≤ m
theorem bd_ok {p : Px α} {f : α → Px β} {s : SS} {v : β} {s' : SS} (h : bd p f s = .ok (v, s')) : ∃ u t, p s = .ok (u, t) ∧ f u t = .ok (v, s') := by
  unfold bd at h
  split at h
  · exact ⟨_, _, by assumption, h⟩
  · cases h
theorem bd_err {p : Px α} {f : α → Px β} {s : SS} {e : Nat} (h : bd p f s = .error e) : p s = .error e ∨ ∃ u t, p s = .ok (u, t) ∧ f u t = .error e := by
  unfold bd at h
  split at h
  · exact .inr ⟨_, _, by assumption, h⟩
  · cases h; exact .inl (by assumption)
theorem bd_of {p : Px α} {f : α → Px β} {s t : SS} {u : α} (h : p s = .ok (u, t)) : bd p f s = f u t := by unfold bd; rw [h]
theorem bd_of_err {p : Px α} {f : α → Px β} {s : SS} {e : Nat} (h : p s = .error e) : bd p f s = .error e := by unfold bd; rw [h]
theorem Good.bd {F : Nat → List Nat → Px α} {G : α → Nat → List Nat → Px β} (hF : Good F) (hG : ∀ v, Good (G v)) : Good (fun m l => bd (F m l) fun v => G v m l) where
  mono := fun m l s v s' h hs => by
    obtain ⟨u, t, h1, h2⟩ := bd_ok h
    have a := hF.mono _ _ _ _ _ h1 hs
    have b := (hG u).mono _ _ _ _ _ h2 a.2
    omega
  nz := fun m l s e h => by
    rcases bd_err h with h | ⟨u, t, _, h⟩
    · exact hF.nz _ _ _ _ h
    · exact (hG u).nz _ _ _ _ h
  same := fun m l l' c s v s' ha hs h hc => by
    obtain ⟨u, t, h1, h2⟩ := bd_ok h
    have a := hF.mono _ _ _ _ _ h1 (by have := ha.h1; omega)
    have b := (hG u).mono _ _ _ _ _ h2 a.2
    rw [bd_of (hF.same _ _ _ _ _ _ _ ha hs h1 (by omega))]
    exact (hG u).same _ _ _ _ _ _ _ ha (by omega) h2 hc
  cut := fun m l l' s v s' ha hs h hc => by
    obtain ⟨u, t, h1, h2⟩ := bd_ok h
    rcases Nat.lt_or_ge (8 * l'.length) t.1 with ht | ht
    · exact bd_of_err (hF.cut _ _ _ _ _ _ ha hs h1 ht)
    · rw [bd_of (hF.same _ _ _ _ _ _ _ ha hs h1 ht)]
      exact (hG u).cut _ _ _ _ _ _ ha ht h2 hc
  more := fun m m' l s v s' hm h => by
    obtain ⟨u, t, h1, h2⟩ := bd_ok h
    rw [bd_of (hF.more _ _ _ _ _ _ hm h1)]
    exact (hG u).more _ _ _ _ _ _ hm h2
  mor2 := fun m m' l s e hm h he => by
    rcases bd_err h with h | ⟨u, t, h1, h2⟩
    · exact bd_of_err (hF.mor2 _ _ _ _ _ hm h he)
    · rw [bd_of (hF.more _ _ _ _ _ _ hm h1)]
      exact (hG u).mor2 _ _ _ _ _ hm h2 he
  bnd := fun m l s v s' h hb => by
    obtain ⟨u, t, h1, h2⟩ := bd_ok h
    exact (hG u).bnd _ _ _ _ _ h2 (hF.bnd _ _ _ _ _ h1 hb)
theorem Good.ret (v : α) : Good (fun _ _ => ret v) where
  mono := fun m l s v s' h hs => by cases h; exact ⟨Nat.le_refl _, hs⟩
  nz := fun m l s e h => by cases h
  same := fun m l l' c s v s' ha hs h hc => h
  cut := fun m l l' s v s' ha hs h hc => by cases h; omega
  more := fun m m' l s v s' hm h => h
  mor2 := fun m m' l s e hm h he => h
  bnd := fun m l s v s' h hb => by cases h; exact hb
theorem Good.bad (e : Nat) (he : e ≠ 0) : Good (fun _ _ => (bad e : Px α)) where
  mono := fun m l s v s' h hs => by cases h
  nz := fun m l s e h => by cases h; exact he
  same := fun m l l' c s v s' ha hs h hc => h
  cut := fun m l l' s v s' ha hs h hc => by cases h
  more := fun m m' l s v s' hm h => h
  mor2 := fun m m' l s e hm h he => h
  bnd := fun m l s v s' h hb => by cases h
theorem Good.ite {F G : Nat → List Nat → Px α} (c : Prop) [Decidable c] (hF : Good F) (hG : Good G) : Good (fun m l => if c then F m l else G m l) := by
  by_cases h : c
  · simp only [if_pos h]; exact hF
  · simp only [if_neg h]; exact hG
theorem Good.chk (e : Nat) (c : Prop) [Decidable c] (he : e ≠ 0) : Good (fun _ _ => chk e c) := by
  by_cases h : c
  · have : (fun (_ : Nat) (_ : List Nat) => Proofs.YtoekecopfmohiaaDoor.chk e c) = fun _ _ => Proofs.YtoekecopfmohiaaDoor.ret () := by funext _ _ s; unfold Proofs.YtoekecopfmohiaaDoor.chk; rw [if_pos h]; rfl
    rw [this]; exact Good.ret ()
  · have : (fun (_ : Nat) (_ : List Nat) => Proofs.YtoekecopfmohiaaDoor.chk e c) = fun _ _ => Proofs.YtoekecopfmohiaaDoor.bad e := by funext _ _ s; unfold Proofs.YtoekecopfmohiaaDoor.chk; rw [if_neg h]; rfl
    rw [this]; exact Good.bad e he
end
theorem pkN_take (l : List Nat) (c a n : Nat) (h : a + n ≤ 8 * c) (hc : c ≤ l.length) : pkN (l.take c) a n = pkN l a n := by
  unfold pkN
  conv => rhs; rw [← List.take_append_drop c l, lsum_append, List.length_take, Nat.min_eq_left hc]
  have e : (256 : Nat) ^ c = 2 ^ a * (2 ^ n * 2 ^ (8 * c - a - n)) := by
    rw [show (256 : Nat) = 2 ^ 8 from rfl, ← Nat.pow_mul, ← Nat.pow_add, ← Nat.pow_add]; congr 1; omega
  rw [e, Nat.mul_assoc, Nat.add_mul_div_left _ _ (Nat.pow_pos (by decide)), Nat.mul_assoc, Nat.add_mul_mod_self_left]
theorem Agr.pk {l l' : List Nat} {c : Nat} (h : Agr l l' c) (a n : Nat) (hn : a + n ≤ 8 * c) : pkN l' a n = pkN l a n := by
  rw [← pkN_take l c a n hn h.h1, ← pkN_take l' c a n hn h.h2, h.eq]
theorem rdS_fwd (L l : List Nat) : ∀ k n got a, (rdS L l k n got a).2.1 = 0 → a < (rdS L l k n got a).2.2
  | 0, n, got, a, h => by simp [rdS] at h
  | k + 1, n, got, a, h => by
    simp only [rdS] at h ⊢
    split at h
    · rename_i h1
      rw [if_pos h1]
      split at h
      · rename_i h2
        rw [if_pos h2]; exact Nat.lt_succ_self _
      · rename_i h2
        rw [if_neg h2]
        have := rdS_fwd L l k _ _ _ h
        omega
    · simp at h
theorem rdS_same (L l l' : List Nat) (c : Nat) (hA : Agr l l' c) : ∀ k n got a, (rdS L l k n got a).2.1 = 0 → (rdS L l k n got a).2.2 ≤ 8 * c → rdS L l' k n got a = rdS L l k n got a
  | 0, n, got, a, h, _ => rfl
  | k + 1, n, got, a, h, hc => by
    have h1 := hA.h1
    have h2 := hA.h2
    have hf := rdS_fwd L l _ _ _ _ h
    have hle : a + 1 ≤ 8 * c := by omega
    have hp := hA.pk a 1 hle
    have e1 : a + 1 ≤ 8 * l.length := by omega
    have e2 : a + 1 ≤ 8 * l'.length := by omega
    simp only [rdS] at h hc ⊢
    rw [if_pos e1] at h hc ⊢
    rw [if_pos e2, hp]
    split
    · rfl
    · rename_i h3
      rw [if_neg h3] at h hc
      exact rdS_same L l l' c hA k _ _ _ h hc
theorem rdS_cut (L l l' : List Nat) (hA : Agr l l' l'.length) : ∀ k n got a, a ≤ 8 * l'.length → (rdS L l k n got a).2.1 = 0 → 8 * l'.length < (rdS L l k n got a).2.2 → (rdS L l' k n got a).2.1 = 7
  | 0, n, got, a, _, h, _ => by simp [rdS] at h
  | k + 1, n, got, a, ha, h, hc => by
    have h1 := hA.h1
    simp only [rdS] at h hc ⊢
    rcases Nat.lt_or_ge (8 * l'.length) (a + 1) with h2 | h2
    · rw [if_neg (by omega)]
    · have hp := hA.pk a 1 h2
      have e1 : a + 1 ≤ 8 * l.length := by omega
      rw [if_pos h2]
      rw [if_pos e1] at h hc
      rw [hp]
      split
      · rename_i h3
        rw [if_pos h3] at hc
        simp only at hc; omega
      · rename_i h3
        rw [if_neg h3] at h hc
        exact rdS_cut L l l' hA k _ _ _ h2 h hc
theorem Good.num (n : Nat) : Good (fun _ l => numP l n) where
  mono := fun m l s v s' h hs => by
    unfold numP at h; split at h <;> cases h
    exact ⟨Nat.le_add_right _ _, by assumption⟩
  nz := fun m l s e h => by unfold numP at h; split at h <;> cases h; decide
  same := fun m l l' c s v s' ha hs h hc => by
    unfold numP at h ⊢; split at h <;> cases h
    have := ha.h2
    rw [if_pos (by simp only at hc; omega), ha.pk _ _ hc]
  cut := fun m l l' s v s' ha hs h hc => by
    unfold numP at h ⊢; split at h <;> cases h
    rw [if_neg (by simp only at hc; omega)]
  more := fun m m' l s v s' hm h => h
  mor2 := fun m m' l s e hm h he => h
  bnd := fun m l s v s' h hb => by unfold numP at h; split at h <;> cases h; exact hb
theorem Good.sym (L : List Nat) : Good (fun _ l => symP l L) where
  mono := fun m l s v s' h hs => by
    unfold symP at h; split at h <;> cases h
    have := rdS_at L l (mostC L) 1 0 s.1 hs
    exact ⟨this.1, this.2.1⟩
  nz := fun m l s e h => by unfold symP at h; split at h <;> cases h; assumption
  same := fun m l l' c s v s' ha hs h hc => by
    unfold symP at h ⊢; split at h <;> cases h
    rename_i h0
    have : rdC L l' s.1 = rdC L l s.1 := rdS_same L l l' c ha _ _ _ _ h0 hc
    rw [this, if_pos h0]
  cut := fun m l l' s v s' ha hs h hc => by
    unfold symP at h ⊢; split at h <;> cases h
    rename_i h0
    have : (rdC L l' s.1).2.1 = 7 := rdS_cut L l l' ha _ _ _ _ hs h0 hc
    rw [this, if_neg (by decide)]
  more := fun m m' l s v s' hm h => h
  mor2 := fun m m' l s e hm h he => h
  bnd := fun m l s v s' h hb => by unfold symP at h; split at h <;> cases h; exact hb
theorem Good.align : Good (fun _ _ => alignP) where
  mono := fun m l s v s' h hs => by cases h; simp only; omega
  nz := fun m l s e h => by cases h
  same := fun m l l' c s v s' ha hs h hc => h
  cut := fun m l l' s v s' ha hs h hc => by cases h; simp only at hc; omega
  more := fun m m' l s v s' hm h => h
  mor2 := fun m m' l s e hm h he => h
  bnd := fun m l s v s' h hb => by cases h; exact hb
theorem take_drop_take (l : List Nat) (c p n : Nat) (h : p + n ≤ c) : ((l.take c).drop p).take n = (l.drop p).take n := by
  rw [List.drop_take, List.take_take, Nat.min_eq_left (by omega)]
theorem Good.bytes (n : Nat) : Good (fun m l => bytesP m l n) where
  mono := fun m l s v s' h hs => by
    unfold bytesP at h; split at h
    · split at h <;> cases h
      simp only; omega
    · cases h
  nz := fun m l s e h => by
    unfold bytesP at h; split at h
    · split at h <;> cases h
      decide
    · cases h; decide
  same := fun m l l' c s v s' ha hs h hc => by
    unfold bytesP at h ⊢; split at h
    · split at h <;> cases h
      have := ha.h2
      simp only at hc
      rw [if_pos (by assumption), if_pos (by omega), ← take_drop_take l c _ _ (by omega), ha.eq, take_drop_take l' c _ _ (by omega)]
    · cases h
  cut := fun m l l' s v s' ha hs h hc => by
    unfold bytesP at h ⊢; split at h
    · split at h <;> cases h
      simp only at hc
      rw [if_pos (by assumption), if_neg (by omega)]
    · cases h
  more := fun m m' l s v s' hm h => by
    unfold bytesP at h ⊢; split at h
    · rw [if_pos (by omega)]; exact h
    · cases h
  mor2 := fun m m' l s e hm h he => by
    unfold bytesP at h ⊢; split at h
    · rw [if_pos (by omega)]; exact h
    · cases h; exact absurd rfl he
  bnd := fun m l s v s' h hb => by
    unfold bytesP at h; split at h
    · split at h <;> cases h
      simp only [List.length_append, List.length_take]; omega
    · cases h
theorem Good.push (x : Nat) : Good (fun m _ => pushP m x) where
  mono := fun m l s v s' h hs => by unfold pushP at h; split at h <;> cases h; exact ⟨Nat.le_refl _, hs⟩
  nz := fun m l s e h => by unfold pushP at h; split at h <;> cases h; decide
  same := fun m l l' c s v s' ha hs h hc => h
  cut := fun m l l' s v s' ha hs h hc => by unfold pushP at h; split at h <;> cases h; simp only at hc; omega
  more := fun m m' l s v s' hm h => by unfold pushP at h ⊢; split at h <;> cases h; rw [if_pos (by omega)]
  mor2 := fun m m' l s e hm h he => by unfold pushP at h ⊢; split at h <;> cases h; exact absurd rfl he
  bnd := fun m l s v s' h hb => by unfold pushP at h; split at h <;> cases h; simp; omega
theorem cpN_len (b : Nat) : ∀ n o, (cpN b n o).length = o.length + n
  | 0, o => rfl
  | n + 1, o => by simp only [cpN]; rw [cpN_len b n]; simp; omega
theorem Good.cpy (n b : Nat) : Good (fun m _ => cpyP m n b) where
  mono := fun m l s v s' h hs => by
    unfold cpyP at h; split at h
    · split at h <;> cases h
      exact ⟨Nat.le_refl _, hs⟩
    · cases h
  nz := fun m l s e h => by
    unfold cpyP at h; split at h
    · split at h <;> cases h
      decide
    · cases h; decide
  same := fun m l l' c s v s' ha hs h hc => h
  cut := fun m l l' s v s' ha hs h hc => by
    unfold cpyP at h; split at h
    · split at h <;> cases h
      simp only at hc; omega
    · cases h
  more := fun m m' l s v s' hm h => by
    unfold cpyP at h ⊢; split at h
    · split at h <;> cases h
      rw [if_pos (by assumption), if_pos (by omega)]
    · cases h
  mor2 := fun m m' l s e hm h he => by
    unfold cpyP at h ⊢; split at h
    · split at h <;> cases h
      exact absurd rfl he
    · rename_i h1
      rw [if_neg h1]; exact h
  bnd := fun m l s v s' h hb => by
    unfold cpyP at h; split at h
    · split at h <;> cases h
      simp only; rw [cpN_len]; omega
    · cases h
theorem plain_good : Good plainP := Good.bd Good.align fun _ => Good.bd (Good.num 16) fun n => Good.bd (Good.num 16) fun k => Good.bd (Good.chk 110 _ (by decide)) fun _ => Good.bytes n
theorem copy_good (D : List Nat) (sym : Nat) : Good (fun m l => copyP m l D sym) :=
  Good.bd (Good.chk 110 _ (by decide)) fun _ => Good.bd (Good.num _) fun x => Good.bd (Good.sym D) fun k => Good.bd (Good.chk 110 _ (by decide)) fun _ => Good.bd (Good.num _) fun y => Good.cpy _ _
theorem syms_good (N D : List Nat) : ∀ k, Good (fun m l => symsP m l N D k)
  | 0 => Good.bad 1 (by decide)
  | k + 1 => Good.bd (Good.sym N) fun s => Good.ite _ (Good.ret ()) (Good.ite _ (Good.bd (copy_good D _) fun _ => syms_good N D k) (Good.bd (Good.push s) fun _ => syms_good N D k))
theorem what_good (o : List Nat) (s : Nat) : Good (fun _ l => whatP l o s) :=
  Good.ite _ (Good.bd (Good.chk 110 _ (by decide)) fun _ => Good.bd (Good.num 2) fun x => Good.ret _) (Good.ite _ (Good.bd (Good.num 3) fun x => Good.ret _) (Good.ite _ (Good.bd (Good.num 7) fun x => Good.ret _) (Good.ret _)))
theorem list_good (C : List Nat) (n : Nat) : ∀ k o, Good (fun _ l => listP l C n k o)
  | 0, o => Good.ret o
  | k + 1, o => Good.ite _ (Good.bd (Good.sym C) fun s => Good.bd (what_good o s) fun wt => Good.bd (Good.chk 110 _ (by decide)) fun _ => list_good C n k _) (Good.ret o)
theorem first_good : ∀ r c, Good (fun _ l => firstP l r c)
  | [], c => Good.ret c
  | _ :: r, _ => Good.bd (Good.num 3) fun _ => first_good r _
theorem told_good : Good (fun _ l => toldP l) :=
  Good.bd (Good.num 5) fun x => Good.bd (Good.num 5) fun y => Good.bd (Good.num 4) fun z => Good.bd (Good.chk 110 _ (by decide)) fun _ => Good.bd (first_good _ _) fun C => Good.bd (Good.chk 110 _ (by decide)) fun _ =>
    Good.bd (list_good C _ _ _) fun o => Good.bd (Good.chk 110 _ (by decide)) fun _ => Good.bd (Good.chk 110 _ (by decide)) fun _ => Good.bd (Good.chk 110 _ (by decide)) fun _ => Good.ret _
theorem kind_good (kind : Nat) : Good (fun m l => kindP m l kind) :=
  Good.ite _ plain_good (Good.ite _ (syms_good _ _ _) (Good.ite _ (Good.bd told_good fun c => syms_good _ _ _) (Good.bad 110 (by decide))))
theorem block_good : Good blockP := Good.bd (Good.num 1) fun last => Good.bd (Good.num 2) fun kind => Good.bd (kind_good kind) fun _ => Good.ret last
theorem inf_good : ∀ k, Good (fun m l => infP m l k)
  | 0 => Good.bad 1 (by decide)
  | k + 1 => Good.bd block_good fun last => Good.ite _ (Good.ret ()) (inf_good k)
end Go.Proofs.YtoekecopfmohiaaDoor
