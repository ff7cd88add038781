/-
  The matchers' rows of Booleans. By an AI agent.
-/
import Derived.Test.YmwhaxPlain
import Derived.Test.YmwhaxRows
import Derived.WalkKit
import Derived.WalkSpells
import Derived.Deep.OwnRows
namespace Go.Proofs.Ymwhax.Line
open Go.RowKit
open Go.Proofs.Ymwhax
open Go.Proofs.Ymwhax.Plain
set_option linter.unusedVariables false

theorem info4 : (Yaxv.prog.info? 4).map (fun i => (i.zero, i.size, i.bytes)) = some (some (.bool false), 1, 1) := by kernel_rfl

/-- Block b is a row of n Booleans. -/
def bools (w : World) (b n : Nat) (f : Nat → Bool) : Prop := w.rowIs b 4 n (fun i => .bool (f i))

theorem bools.cell {w : World} {b n : Nat} {f : Nat → Bool} (h : bools w b n f) {i : Nat} (hi : i < n) : w.cell? ⟨b, i, none⟩ = some (.bool (f i)) := World.rowIs.cell h hi
theorem bools.frozen {w : World} {b n : Nat} {f : Nat → Bool} (h : bools w b n f) (i : Nat) : w.frozen? ⟨b, i, none⟩ = false := World.rowIs.frozen h i
theorem bools.lt {w : World} {b n : Nat} {f : Nat → Bool} (h : bools w b n f) : b < w.heap.size := World.rowIs.lt h
theorem bools.congr {w : World} {b n : Nat} {f g : Nat → Bool} (h : bools w b n f) (e : ∀ i, i < n → f i = g i) : bools w b n g := World.rowIs.congr h fun i hi => by rw [e i hi]
theorem bools.alloc {w : World} {b n : Nat} {f : Nat → Bool} (h : bools w b n f) (o : Obj) : bools (w.alloc o) b n f := World.rowIs.alloc h o
theorem bools.later {w w' : World} {b n : Nat} {f : Nat → Bool} (h : bools w b n f) (hb : Below w.heap.size w w') : bools w' b n f := World.rowIs.of_block h (hb.block b h.lt)
theorem bools.other {w : World} {b n : Nat} {f : Nat → Bool} (h : bools w b n f) {a : Addr} (ha : b ≠ a.block) (v : Value) : bools (w.setCell a v) b n f := World.rowIs.setOther h ha v
theorem bools.set {w : World} {b n : Nat} {f g : Nat → Bool} (h : bools w b n f) (i : Nat) (x : Bool) (e : ∀ j, j < n → g j = if j = i then x else f j) : bools (w.setCell ⟨b, i, none⟩ (.bool x)) b n g :=
  World.rowIs.congr (World.rowIs.set h i (.bool x)) fun j hj => by
    rw [e j hj]
    split <;> rfl

theorem bools.drew {w : World} {b n : Nat} {f : Nat → Bool} (h : bools w b n f) : bools w.drew b n f := h

theorem bools.made (w : World) (n : Nat) : bools (w.alloc (.cells (madeCells #[.bool false] n) 4)) w.heap.size n (fun _ => false) := World.rowIs_made w (.bool false) n 4

/-- A row with its first cell set. -/
theorem bools.first (w : World) (n : Nat) : bools (w.alloc (.cells ((madeCells #[.bool false] (n + 1)).setIfInBounds 0 (.bool true)) 4)) w.heap.size (n + 1) beg := by
  have h := World.rowIs.set (World.rowIs_made w (.bool false) (n + 1) 4) 0 (.bool true)
  rw [World.setCell_alloc_at _ _ _ _ _ rfl] at h
  refine World.rowIs.congr h fun i hi => ?_
  cases i <;> simp [beg]

theorem made0 (n : Nat) : (madeCells #[Value.bool false] (n + 1))[0]? = some (.bool false) := by simp [madeCells]

/-! ### the star's row, in place -/

def starRow (f : Nat → Bool) (j i : Nat) : Bool := if i < j then starB f i else f i

theorem starRow_start (f : Nat → Bool) (i : Nat) : starRow f 1 i = f i := by
  unfold starRow
  split
  · rw [show i = 0 by omega]; rfl
  · rfl

theorem starRow_at (f : Nat → Bool) (j : Nat) : starRow f j j = f j := by simp [starRow]

theorem starRow_pred (f : Nat → Bool) (j : Nat) : starRow f (j + 1) j = starB f j := by simp [starRow]

theorem starRow_step (f : Nat → Bool) (j i : Nat) : starRow f (j + 1 + 1) i = if i = j + 1 then (f (j + 1) || starB f j) else starRow f (j + 1) i := by
  unfold starRow
  by_cases e : i = j + 1
  · subst e
    simp [starB, Bool.or_comm]
  · by_cases h : i < j + 1
    · rw [if_pos (by omega), if_neg e, if_pos h]
    · rw [if_neg (by omega), if_neg e, if_neg h]

theorem starRow_end (f : Nat → Bool) (n i : Nat) (h : i < n) : starRow f n i = starB f i := by simp [starRow, h]

/-! ### one byte's row, in place, from the end -/

def oneRow (s : ByteArray) (t : Tok) (f : Nat → Bool) (j i : Nat) : Bool := if j < i then oneB s t f i else f i

theorem oneRow_start (s : ByteArray) (t : Tok) (f : Nat → Bool) (n i : Nat) (h : i < n + 1) : oneRow s t f n i = f i := by
  unfold oneRow
  rw [if_neg (by omega)]

theorem oneRow_pred (s : ByteArray) (t : Tok) (f : Nat → Bool) (j : Nat) : oneRow s t f (j + 1) j = f j := by
  unfold oneRow
  rw [if_neg (by omega)]

theorem oneRow_step (s : ByteArray) (t : Tok) (f : Nat → Bool) (j i : Nat) : oneRow s t f j i = if i = j + 1 then (f j && ok1 t (bt s j)) else oneRow s t f (j + 1) i := by
  unfold oneRow
  by_cases e : i = j + 1
  · subst e
    simp [oneB]
  · by_cases h : j + 1 < i
    · rw [if_pos (by omega), if_neg e, if_pos h]
    · rw [if_neg (by omega), if_neg e, if_neg h]

theorem oneRow_end (s : ByteArray) (t : Tok) (f : Nat → Bool) (i : Nat) : oneB s t f i = if i = 0 then false else oneRow s t f 0 i := by
  cases i with
  | zero => simp [oneB]
  | succ i => simp [oneRow]

/-! ### the same rows, laid anew -/

def newStar (f : Nat → Bool) (j i : Nat) : Bool := if i < j then starB f i else false

def seenB (f : Nat → Bool) : Nat → Bool
  | 0 => false
  | j + 1 => starB f j

theorem seenB_succ (f : Nat → Bool) (j : Nat) : seenB f (j + 1) = (seenB f j || f j) := by
  cases j with
  | zero => simp [seenB, starB]
  | succ j => simp [seenB, starB]

theorem newStar_start (f : Nat → Bool) (i : Nat) : newStar f 0 i = false := by simp [newStar]

theorem newStar_step (f : Nat → Bool) (j i : Nat) : newStar f (j + 1) i = if i = j then seenB f (j + 1) else newStar f j i := by
  unfold newStar
  by_cases e : i = j
  · subst e
    simp [seenB]
  · by_cases h : i < j
    · rw [if_pos (by omega), if_neg e, if_pos h]
    · rw [if_neg (by omega), if_neg e, if_neg h]

theorem newStar_end (f : Nat → Bool) (n i : Nat) (h : i < n) : newStar f n i = starB f i := by simp [newStar, h]

def newOne (s : ByteArray) (t : Tok) (f : Nat → Bool) (j i : Nat) : Bool := if i ≤ j then oneB s t f i else false

theorem newOne_start (s : ByteArray) (t : Tok) (f : Nat → Bool) (i : Nat) : newOne s t f 0 i = false := by
  unfold newOne
  split
  · rw [show i = 0 by omega]; rfl
  · rfl

theorem newOne_step (s : ByteArray) (t : Tok) (f : Nat → Bool) (j i : Nat) : newOne s t f (j + 1) i = if i = j + 1 then (f j && ok1 t (bt s j)) else newOne s t f j i := by
  unfold newOne
  by_cases e : i = j + 1
  · subst e
    simp [oneB]
  · by_cases h : i ≤ j
    · rw [if_pos (by omega), if_neg e, if_pos h]
    · rw [if_neg (by omega), if_neg e, if_neg h]

theorem newOne_no (s : ByteArray) (t : Tok) (f : Nat → Bool) (j i : Nat) (h : (f j && ok1 t (bt s j)) = false) : newOne s t f (j + 1) i = newOne s t f j i := by
  rw [newOne_step]
  split
  · rename_i e
    subst e
    rw [h, newOne, if_neg (by omega)]
  · rfl

theorem newOne_end (s : ByteArray) (t : Tok) (f : Nat → Bool) (n i : Nat) (h : i < n + 1) : newOne s t f n i = oneB s t f i := by
  unfold newOne
  rw [if_pos (by omega)]

theorem stepB_star (s : ByteArray) (f : Nat → Bool) (t : Tok) (h : t.kind = 2) : stepB s f t = starB f := by simp [stepB, h]
theorem stepB_one (s : ByteArray) (f : Nat → Bool) (t : Tok) (h : ¬ t.kind = 2) : stepB s f t = oneB s t f := by simp [stepB, h]

/-- The row after the first k tokens. -/
def upto (s : ByteArray) (ts : List Tok) (k : Nat) : Nat → Bool := rowB s (ts.take k)

theorem upto_zero (s : ByteArray) (ts : List Tok) : upto s ts 0 = beg := rfl

theorem upto_succ (s : ByteArray) (ts : List Tok) (k : Nat) (h : k < ts.length) : upto s ts (k + 1) = stepB s (upto s ts k) ts[k] := by
  unfold upto
  rw [List.take_succ_eq_append_getElem h, rowB_snoc]

theorem upto_all (s : ByteArray) (ts : List Tok) (k : Nat) (h : ts.length ≤ k) : upto s ts k s.size = matchB s ts := by
  unfold upto matchB
  rw [List.take_of_length_le h]

/-- A row of another element type is not touched by a store into a row of Booleans. -/
theorem owns_set {w : World} {base b m i : Nat} {e : TypeId} {size : Nat} {v x : Value} {n : Nat} {xs : List Value} {f : Nat → Bool} (he : e ≠ 4) (h : w.ownsRow base e size v n xs) (hb : bools w b m f) : (w.setCell ⟨b, i, none⟩ x).ownsRow base e size v n xs := by
  refine ⟨h.1, ?_⟩
  rcases h.2 with h2 | ⟨g, cap, cur, hv, hg, hh, r⟩
  · exact .inl h2
  · refine .inr ⟨g, cap, cur, hv, hg, ?_, r⟩
    rw [Below.heap_setCell _ _ _ _ ?_]
    · exact hh
    · intro e'
      simp at e'
      obtain ⟨c, hc, _⟩ := hb
      rw [← e', hh] at hc
      simp at hc
      exact he hc.2

end Go.Proofs.Ymwhax.Line
