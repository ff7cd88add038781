/-
  THE PLAIN FUNCTIONS: what the parser and the matcher compute, with no Go in sight. By an AI agent.
-/
namespace Go.Proofs.Ymwhax.Plain

/-- The byte at place k (0 behind the end). -/
def bt (s : ByteArray) (k : Nat) : UInt8 := if h : k < s.size then s[k] else 0

theorem bt_eq (s : ByteArray) (k : Nat) (h : k < s.size) : s[k] = bt s k := by simp [bt, h]

/-- One byte, perhaps behind a backslash, at place j: the byte, the place behind it, whether it was there. -/
def item (s : ByteArray) (cls : Bool) (j : Nat) : UInt8 × Nat × Bool :=
  if s.size ≤ j then (0, j, false)
  else if bt s j = 92 then
    if s.size ≤ j + 1 then (0, j, false) else (bt s (j + 1), j + 2, true)
  else if cls = true ∧ (bt s j = 93 ∨ bt s j = 45) then (0, j, false)
  else (bt s j, j + 1, true)

/-- One item between brackets: a byte or a range. -/
def rng (s : ByteArray) (j : Nat) : Option (UInt8 × UInt8 × Nat) :=
  if (item s true j).2.2 = false then none
  else if (item s true j).2.1 < s.size ∧ bt s (item s true j).2.1 = 45 then
    if (item s true ((item s true j).2.1 + 1)).2.2 = false ∨ (item s true ((item s true j).2.1 + 1)).1.toNat < (item s true j).1.toNat then none
    else some ((item s true j).1, (item s true ((item s true j).2.1 + 1)).1, (item s true ((item s true j).2.1 + 1)).2.1)
  else some ((item s true j).1, (item s true j).1, (item s true j).2.1)

/-- The items between brackets up to its ']' : the ranges, and the place of the ']'. With fuel. -/
def rngs (s : ByteArray) : Nat → Nat → List (UInt8 × UInt8) → Option (List (UInt8 × UInt8) × Nat)
  | 0, _, _ => none
  | f + 1, j, acc =>
    if j < s.size then
      if bt s j = 93 then (if acc = [] then none else some (acc, j))
      else match rng s j with
        | none => none
        | some (lo, hi, nj) => rngs s f nj (acc ++ [(lo, hi)])
    else none

structure Tok where
  kind : Nat
  c : UInt8
  neg : Bool
  rs : List (UInt8 × UInt8)

/-- Is there a '!' at place j? -/
def bang (s : ByteArray) (j : Nat) : Bool := decide (j < s.size ∧ bt s j = 33)

def behind (s : ByteArray) (j : Nat) : Nat := if bang s j = true then j + 1 else j

/-- Brackets whose '[' is just before place j. -/
def clas (s : ByteArray) (j : Nat) : Option (List (UInt8 × UInt8) × Nat) := rngs s (s.size + 1) (behind s j) []

/-- The token at place i (i is inside), and the place behind it. -/
def tok (s : ByteArray) (i : Nat) : Option (Tok × Nat) :=
  if bt s i = 42 then some (⟨2, 0, false, []⟩, i + 1)
  else if bt s i = 63 then some (⟨1, 0, false, []⟩, i + 1)
  else if bt s i = 91 then
    match clas s (i + 1) with
    | none => none
    | some (rs, nj) => some (⟨3, 0, bang s (i + 1), rs⟩, nj + 1)
  else if (item s false i).2.2 = false then none
  else some (⟨0, (item s false i).1, false, []⟩, (item s false i).2.1)

def toksFrom (s : ByteArray) : Nat → Nat → List Tok → Option (List Tok)
  | 0, _, _ => none
  | f + 1, i, acc =>
    if i < s.size then
      match tok s i with
      | none => none
      | some (t, i') => toksFrom s f i' (acc ++ [t])
    else some acc

/-- The whole pattern. -/
def toks (s : ByteArray) : Option (List Tok) := toksFrom s (s.size + 1) 0 []

/-! ### matching -/

def inR (rs : List (UInt8 × UInt8)) (c : UInt8) : Bool := rs.any fun r => decide (r.1.toNat ≤ c.toNat ∧ c.toNat ≤ r.2.toNat)

def ok1 (t : Tok) (c : UInt8) : Bool :=
  if t.kind = 0 then t.c == c
  else if t.kind = 1 then true
  else inR t.rs c != t.neg

/-- '*' : is there a true up to j? -/
def starB (f : Nat → Bool) : Nat → Bool
  | 0 => f 0
  | j + 1 => starB f j || f (j + 1)

def oneB (s : ByteArray) (t : Tok) (f : Nat → Bool) : Nat → Bool
  | 0 => false
  | j + 1 => f j && ok1 t (bt s j)

def stepB (s : ByteArray) (f : Nat → Bool) (t : Tok) : Nat → Bool := if t.kind = 2 then starB f else oneB s t f

def beg : Nat → Bool := fun j => j == 0

/-- After the tokens ts the places that can be reached. -/
def rowB (s : ByteArray) (ts : List Tok) : Nat → Bool := ts.foldl (stepB s) beg

def matchB (s : ByteArray) (ts : List Tok) : Bool := rowB s ts s.size

theorem rowB_snoc (s : ByteArray) (ts : List Tok) (t : Tok) : rowB s (ts ++ [t]) = stepB s (rowB s ts) t := by
  simp [rowB, List.foldl_append]

/-! ### places go up -/

theorem item_up (s : ByteArray) (cls : Bool) (j : Nat) (h : (item s cls j).2.2 = true) : j < (item s cls j).2.1 ∧ (item s cls j).2.1 ≤ s.size := by
  revert h
  unfold item
  repeat' split
  all_goals (intro h; simp at h ⊢; try omega)

theorem item_le (s : ByteArray) (cls : Bool) (j : Nat) (h : j ≤ s.size) : (item s cls j).2.1 ≤ s.size := by
  unfold item
  repeat' split
  all_goals (simp; try omega)

theorem item_ge (s : ByteArray) (cls : Bool) (j : Nat) : j ≤ (item s cls j).2.1 ∧ (item s cls j).2.1 ≤ j + 2 := by
  unfold item
  repeat' split
  all_goals (simp)

theorem rng_up {s : ByteArray} {j nj : Nat} {lo hi : UInt8} (h : rng s j = some (lo, hi, nj)) : j < nj ∧ nj ≤ s.size := by
  unfold rng at h
  split at h
  · cases h
  · rename_i h1
    have u1 := item_up s true j (by simpa using h1)
    split at h
    · split at h
      · cases h
      · rename_i h2
        have u2 := item_up s true ((item s true j).2.1 + 1) (by
          cases hh : (item s true ((item s true j).2.1 + 1)).2.2
          · exact absurd (Or.inl hh) h2
          · rfl)
        simp only [Option.some.injEq, Prod.mk.injEq] at h
        omega
    · simp only [Option.some.injEq, Prod.mk.injEq] at h
      omega

theorem rngs_up {s : ByteArray} : ∀ (f j : Nat) (acc : List (UInt8 × UInt8)) {rs : List (UInt8 × UInt8)} {nj : Nat}, rngs s f j acc = some (rs, nj) → j ≤ nj ∧ nj < s.size := by
  intro f
  induction f with
  | zero => intro j acc rs nj h; simp [rngs] at h
  | succ f ih =>
    intro j acc rs nj h
    unfold rngs at h
    split at h
    · rename_i hj
      split at h
      · split at h
        · cases h
        · simp only [Option.some.injEq, Prod.mk.injEq] at h
          omega
      · split at h
        · cases h
        · rename_i lo hi k hk
          have u := rng_up hk
          have v := ih _ _ h
          omega
    · cases h

theorem rngs_ne {s : ByteArray} : ∀ (f j : Nat) (acc : List (UInt8 × UInt8)) {rs : List (UInt8 × UInt8)} {nj : Nat}, rngs s f j acc = some (rs, nj) → 0 < rs.length := by
  intro f
  induction f with
  | zero => intro j acc rs nj h; simp [rngs] at h
  | succ f ih =>
    intro j acc rs nj h
    unfold rngs at h
    split at h
    · split at h
      · split at h
        · cases h
        · rename_i hne
          simp only [Option.some.injEq, Prod.mk.injEq] at h
          rw [← h.1]
          exact List.length_pos_iff.2 hne
      · split at h
        · cases h
        · exact ih _ _ h
    · cases h

theorem behind_ge (s : ByteArray) (j : Nat) : j ≤ behind s j ∧ behind s j ≤ j + 1 := by
  unfold behind
  split <;> omega

theorem tok_up {s : ByteArray} {i i' : Nat} {t : Tok} (hi : i < s.size) (h : tok s i = some (t, i')) : i < i' ∧ i' ≤ s.size := by
  unfold tok at h
  split at h
  · simp only [Option.some.injEq, Prod.mk.injEq] at h; omega
  · split at h
    · simp only [Option.some.injEq, Prod.mk.injEq] at h; omega
    · split at h
      · split at h
        · cases h
        · rename_i rs nj hc
          have u := rngs_up _ _ _ hc
          have v := behind_ge s (i + 1)
          simp only [Option.some.injEq, Prod.mk.injEq] at h
          omega
      · split at h
        · cases h
        · rename_i h1
          have u := item_up s false i (by simpa using h1)
          simp only [Option.some.injEq, Prod.mk.injEq] at h
          omega

theorem tok_kind {s : ByteArray} {i i' : Nat} {t : Tok} (h : tok s i = some (t, i')) : t.kind ≤ 3 := by
  unfold tok at h
  split at h
  · simp only [Option.some.injEq, Prod.mk.injEq] at h; rw [← h.1]; simp
  · split at h
    · simp only [Option.some.injEq, Prod.mk.injEq] at h; rw [← h.1]; simp
    · split at h
      · split at h
        · cases h
        · simp only [Option.some.injEq, Prod.mk.injEq] at h; rw [← h.1]; simp
      · split at h
        · cases h
        · simp only [Option.some.injEq, Prod.mk.injEq] at h; rw [← h.1]; simp

/-! ### the equations of 'rng' and 'rngs', case by case -/

section
variable {s : ByteArray} {j nj nk : Nat} {lo hi : UInt8} {ok : Bool}

theorem rng_bad (h : item s true j = (lo, nj, false)) : rng s j = none := by simp [rng, h]

theorem rng_single (h : item s true j = (lo, nj, true)) (h1 : ¬ (nj < s.size ∧ bt s nj = 45)) : rng s j = some (lo, lo, nj) := by
  simp only [rng, h, if_neg h1]
  simp

theorem rng_bad2 (h : item s true j = (lo, nj, true)) (h1 : nj < s.size) (h2 : bt s nj = 45) (h3 : item s true (nj + 1) = (hi, nk, ok)) (h4 : ok = false ∨ hi.toNat < lo.toNat) : rng s j = none := by
  simp only [rng, h, if_pos (And.intro h1 h2), h3, if_pos h4]
  simp

theorem rng_pair (h : item s true j = (lo, nj, true)) (h1 : nj < s.size) (h2 : bt s nj = 45) (h3 : item s true (nj + 1) = (hi, nk, true)) (h4 : ¬ hi.toNat < lo.toNat) : rng s j = some (lo, hi, nk) := by
  simp only [rng, h, if_pos (And.intro h1 h2), h3]
  simp [h4]

variable {f : Nat} {acc : List (UInt8 × UInt8)}

theorem rngs_out (h : ¬ j < s.size) : rngs s f j acc = none := by
  cases f with
  | zero => rfl
  | succ f => simp [rngs, h]

theorem rngs_close (hf : 0 < f) (h : j < s.size) (h1 : bt s j = 93) : rngs s f j acc = if acc = [] then none else some (acc, j) := by
  cases f with
  | zero => omega
  | succ f => simp [rngs, h, h1]

theorem rngs_fail (h : j < s.size) (h1 : ¬ bt s j = 93) (h2 : rng s j = none) : rngs s f j acc = none := by
  cases f with
  | zero => rfl
  | succ f => simp [rngs, h, h1, h2]

theorem rngs_step (h : j < s.size) (h1 : ¬ bt s j = 93) (h2 : rng s j = some (lo, hi, nj)) : rngs s (f + 1) j acc = rngs s f nj (acc ++ [(lo, hi)]) := by
  simp [rngs, h, h1, h2]
end

theorem from_out {s : ByteArray} {f k : Nat} {acc : List Tok} (hf : 0 < f) (h : ¬ k < s.size) : toksFrom s f k acc = some acc := by
  cases f with
  | zero => omega
  | succ f => simp [toksFrom, h]

theorem from_none {s : ByteArray} {f k : Nat} {acc : List Tok} (h : k < s.size) (h1 : tok s k = none) : toksFrom s f k acc = none := by
  cases f with
  | zero => rfl
  | succ f => simp [toksFrom, h, h1]

theorem from_step {s : ByteArray} {f k k' : Nat} {acc : List Tok} {t : Tok} (h : k < s.size) (h1 : tok s k = some (t, k')) : toksFrom s (f + 1) k acc = toksFrom s f k' (acc ++ [t]) := by
  simp [toksFrom, h, h1]

theorem tok_star {s : ByteArray} {i : Nat} (h : bt s i = 42) : tok s i = some (⟨2, 0, false, []⟩, i + 1) := by simp [tok, h]

theorem tok_any {s : ByteArray} {i : Nat} (h : bt s i = 63) : tok s i = some (⟨1, 0, false, []⟩, i + 1) := by simp [tok, h]

theorem tok_clas {s : ByteArray} {i nj : Nat} {rs : List (UInt8 × UInt8)} {neg : Bool} (h : bt s i = 91) (hc : clas s (i + 1) = some (rs, nj)) (hn : bang s (i + 1) = neg) : tok s i = some (⟨3, 0, neg, rs⟩, nj + 1) := by
  simp [tok, h, hc, hn]

theorem tok_clas_none {s : ByteArray} {i : Nat} (h : bt s i = 91) (hc : clas s (i + 1) = none) : tok s i = none := by
  simp [tok, h, hc]

theorem tok_lit {s : ByteArray} {i ni : Nat} {c : UInt8} (h1 : ¬ bt s i = 42) (h2 : ¬ bt s i = 63) (h3 : ¬ bt s i = 91) (hi : item s false i = (c, ni, true)) : tok s i = some (⟨0, c, false, []⟩, ni) := by
  simp [tok, h1, h2, h3, hi]

theorem tok_lit_none {s : ByteArray} {i ni : Nat} {c : UInt8} (h1 : ¬ bt s i = 42) (h2 : ¬ bt s i = 63) (h3 : ¬ bt s i = 91) (hi : item s false i = (c, ni, false)) : tok s i = none := by
  simp [tok, h1, h2, h3, hi]

theorem item_slash_end {s : ByteArray} {k : Nat} {cls : Bool} (h : k < s.size) (h1 : bt s k = 92) (h2 : ¬ k + 1 < s.size) : item s cls k = (0, k, false) := by
  simp [item, h1, show ¬ s.size ≤ k by omega, show s.size ≤ k + 1 by omega]

theorem item_slash {s : ByteArray} {k : Nat} {cls : Bool} (h : k + 1 < s.size) (h1 : bt s k = 92) : item s cls k = (s[k + 1], k + 2, true) := by
  simp [item, h1, show ¬ s.size ≤ k by omega, show ¬ s.size ≤ k + 1 by omega, bt_eq s (k + 1) h]

theorem item_free {s : ByteArray} {k : Nat} (h : k < s.size) (h1 : ¬ bt s k = 92) : item s false k = (s[k], k + 1, true) := by
  simp [item, h1, show ¬ s.size ≤ k by omega, bt_eq s k h]

end Go.Proofs.Ymwhax.Plain
