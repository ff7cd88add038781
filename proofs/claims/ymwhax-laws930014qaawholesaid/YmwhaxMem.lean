/-
  How ranges and tokens lie in memory. By an AI agent.
-/
import Derived.Test.YmwhaxRows
import Derived.Test.YmwhaxPlain
import Derived.WalkKit
import Derived.WalkSpells
namespace Go.Proofs.Ymwhax.Mem
open Go.RowKit
open Go.Proofs.Ymwhax
set_option linter.unusedVariables false

/-- The cells of a list of ranges. -/
def flat (rs : List (UInt8 × UInt8)) : List Value := rs.flatMap fun r => [.int .u8 (r.1.toNat : Int), .int .u8 (r.2.toNat : Int)]

theorem flat_length (rs : List (UInt8 × UInt8)) : (flat rs).length = rs.length * 2 := by
  induction rs with
  | nil => rfl
  | cons r rs ih => simp [flat] at ih ⊢; omega

theorem flat_lo : ∀ (rs : List (UInt8 × UInt8)) (k : Nat) (h : k < rs.length), (flat rs)[k * 2]? = some (.int .u8 (rs[k].1.toNat : Int))
  | [], k, h => by simp at h
  | r :: rs, 0, h => by simp [flat]
  | r :: rs, k + 1, h => by
    have e : (flat (r :: rs))[(k + 1) * 2]? = (flat rs)[k * 2]? := by simp [flat, show (k + 1) * 2 = k * 2 + 1 + 1 by omega]
    rw [e, flat_lo rs k (by simpa using h)]; simp

theorem flat_hi : ∀ (rs : List (UInt8 × UInt8)) (k : Nat) (h : k < rs.length), (flat rs)[k * 2 + 1]? = some (.int .u8 (rs[k].2.toNat : Int))
  | [], k, h => by simp at h
  | r :: rs, 0, h => by simp [flat]
  | r :: rs, k + 1, h => by
    have e : (flat (r :: rs))[(k + 1) * 2 + 1]? = (flat rs)[k * 2 + 1]? := by simp [flat, show (k + 1) * 2 + 1 = k * 2 + 1 + 1 + 1 by omega]
    rw [e, flat_hi rs k (by simpa using h)]; simp

theorem flat_snoc (rs : List (UInt8 × UInt8)) (r : UInt8 × UInt8) : flat (rs ++ [r]) = flat rs ++ [.int .u8 (r.1.toNat : Int), .int .u8 (r.2.toNat : Int)] := by simp [flat]

/-- An owned row, kept below its heap's end. -/
theorem ownsRow_below {w w' : World} {base : Nat} {e : TypeId} {size : Nat} {v : Value} {n : Nat} {xs : List Value} {B : Nat} (h : w.ownsRow base e size v n xs) (hb : Below B w w') (hB : ∀ k, v.ownBlock = some k → k < B) : w'.ownsRow base e size v n xs := by
  refine ⟨h.1, ?_⟩
  rcases h.2 with hn | ⟨g, cap, cur, rfl, hbg, hgg, rest⟩
  · exact .inl hn
  · exact .inr ⟨g, cap, cur, rfl, hbg, by rw [hb.block g (hB g rfl)]; exact hgg, rest⟩

/-- The same at the heap's own size. -/
theorem ownsRow_later {w w' : World} {base : Nat} {e : TypeId} {size : Nat} {v : Value} {n : Nat} {xs : List Value} (h : w.ownsRow base e size v n xs) (hb : Below w.heap.size w w') : w'.ownsRow base e size v n xs :=
  ownsRow_below h hb fun k hk => (h.lt k hk).2

/-- Two owned rows of different element types lie in different blocks. -/
theorem ownsRow_apart {w : World} {base base' : Nat} {e e' : TypeId} {size size' : Nat} {v v' : Value} {n n' : Nat} {xs xs' : List Value} (h : w.ownsRow base e size v n xs) (h' : w.ownsRow base' e' size' v' n' xs') (he : e ≠ e') : v.ownBlock = none ∨ v.ownBlock ≠ v'.ownBlock := by
  rcases h.2 with ⟨rfl, _⟩ | ⟨g, cap, cur, rfl, _, hg, _⟩
  · exact .inl rfl
  · refine .inr fun eq => ?_
    rcases h'.2 with ⟨rfl, _⟩ | ⟨g', cap', cur', rfl, _, hg', _⟩
    · simp [Value.ownBlock] at eq
    · simp [Value.ownBlock] at eq
      subst eq
      rw [hg] at hg'
      simp at hg'
      exact he hg'.2

end Go.Proofs.Ymwhax.Mem
