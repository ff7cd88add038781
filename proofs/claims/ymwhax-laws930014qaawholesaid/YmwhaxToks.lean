/-
  The tokens in memory, as the library lays them. By an AI agent.
-/
import Derived.Test.YmwhaxClass
namespace Go.Proofs.Ymwhax.Toks
open Go.RowKit
open Go.Proofs.Ymwhax
open Go.Proofs.Ymwhax.Mem Go.Proofs.Ymwhax.In
set_option linter.unusedVariables false

/-- The four cells of a token whose ranges' slice is v. -/
def cell4 (p : Plain.Tok × Value) : List Value := [.int .i64 (p.1.kind : Int), .int .u8 (p.1.c.toNat : Int), .bool p.1.neg, p.2]

def cellsV (ps : List (Plain.Tok × Value)) : List Value := ps.flatMap cell4

theorem cellsV_snoc (ps : List (Plain.Tok × Value)) (p : Plain.Tok × Value) : cellsV (ps ++ [p]) = cellsV ps ++ cell4 p := by simp [cellsV]

theorem cellsV_at : ∀ (ps : List (Plain.Tok × Value)) (k r : Nat) (h : k < ps.length) (hr : r < 4), (cellsV ps)[k * 4 + r]? = (cell4 ps[k])[r]?
  | [], k, r, h, hr => by simp at h
  | p :: ps, 0, r, h, hr => by
    rw [cellsV, List.flatMap_cons, List.getElem?_append_left (by simp [cell4]; omega)]
    simp
  | p :: ps, k + 1, r, h, hr => by
    rw [cellsV, List.flatMap_cons, List.getElem?_append_right (by simp [cell4]; omega)]
    have := cellsV_at ps k r (by simpa using h) hr
    rw [show (k + 1) * 4 + r - (cell4 p).length = k * 4 + r by simp [cell4]; omega]
    simpa [cellsV] using this

/-- The slice value tv holds the tokens ps. -/
structure Toks (w : World) (base : Nat) (tv : Value) (ps : List (Plain.Tok × Value)) : Prop where
  row : w.ownsRow base 42 4 tv ps.length (cellsV ps)
  each : ∀ p ∈ ps, p.1.kind ≤ 3 ∧ p.1.rs.length ≤ 1000 ∧ w.ownsRow base 48 2 p.2 p.1.rs.length (flat p.1.rs)

theorem Toks.nil (w : World) (base : Nat) : Toks w base (.slice none 0 0) [] := ⟨World.ownsRow_nil _ _ _ _, fun p hp => by simp at hp⟩

theorem Toks.later {w w' : World} {base : Nat} {tv : Value} {ps : List (Plain.Tok × Value)} (h : Toks w base tv ps) (hb : Below w.heap.size w w') : Toks w' base tv ps :=
  ⟨ownsRow_later h.row hb, fun p hp => ⟨(h.each p hp).1, (h.each p hp).2.1, ownsRow_later (h.each p hp).2.2 hb⟩⟩

theorem Toks.snoc {w w' : World} {base : Nat} {tv tv' v : Value} {ps : List (Plain.Tok × Value)} {t : Plain.Tok} (h : Toks w base tv ps) (hg : w.grownBy w' tv.ownBlock)
    (hown : w'.ownsRow base 42 4 tv' (ps.length + 1) (cellsV ps ++ [.int .i64 (t.kind : Int), .int .u8 (t.c.toNat : Int), .bool t.neg, v])) (hk : t.kind ≤ 3) (hn : t.rs.length ≤ 1000) (hv : w.ownsRow base 48 2 v t.rs.length (flat t.rs)) :
    Toks w' base tv' (ps ++ [(t, v)]) := by
  refine ⟨?_, ?_⟩
  · rw [cellsV_snoc]
    simpa [cell4] using hown
  · intro p hp
    rcases List.mem_append.1 hp with hp | hp
    · obtain ⟨h1, h2, h3⟩ := h.each p hp
      exact ⟨h1, h2, h3.kept hg (ownsRow_apart h3 h.row (by decide))⟩
    · simp at hp
      subst hp
      exact ⟨hk, hn, hv.kept hg (ownsRow_apart hv h.row (by decide))⟩

theorem class_none {s : ByteArray} {j : Nat} (J : Int) (hJ : J = (j : Int)) (hs : s.size ≤ 400) (hj : j ≤ s.size) (h : Plain.clas s j = none) (w : World) :
    Calls Yaxv.prog 11 #[.string s, .int .i64 J] w fun e w' => e = .returned (.tuple #[.agg #[.int .i64 0, .int .u8 0, .bool false, .slice none 0 0], .int .i64 0, .bool false]) ∧ Below w.heap.size w w' := by
  subst hJ
  refine (Cls.class_any s j hs hj w).mono ?_
  rintro e w' ⟨hb, he⟩
  rw [h] at he
  exact ⟨he, hb⟩

theorem class_some {s : ByteArray} {j nj : Nat} {rs : List (UInt8 × UInt8)} {neg : Bool} (J : Int) (hJ : J = (j : Int)) (hs : s.size ≤ 400) (hj : j ≤ s.size) (h : Plain.clas s j = some (rs, nj)) (hn : Plain.bang s j = neg) (w : World) :
    Calls Yaxv.prog 11 #[.string s, .int .i64 J] w fun e w' => ∃ g cap, e = .returned (.tuple #[.agg #[.int .i64 3, .int .u8 0, .bool neg, .slice (some ⟨g, 0, none⟩) rs.length cap], .int .i64 ((nj : Int) + 1), .bool true]) ∧
      Below w.heap.size w w' ∧ w'.ownsRow w.heap.size 48 2 (.slice (some ⟨g, 0, none⟩) rs.length cap) rs.length (flat rs) ∧ rs.length ≤ 1000 := by
  subst hJ
  refine (Cls.class_any s j hs hj w).mono ?_
  rintro e w' ⟨hb, he⟩
  rw [h] at he
  obtain ⟨v, he, hown, hl⟩ := he
  have hp := Plain.rngs_ne _ _ _ h
  obtain ⟨m, hm⟩ : ∃ m, rs.length = m + 1 := ⟨rs.length - 1, by omega⟩
  obtain ⟨g, cap, hv⟩ : ∃ g cap, v = .slice (some ⟨g, 0, none⟩) rs.length cap := by
    rcases hown.2 with ⟨_, h0⟩ | ⟨g, cap, _, hv, _⟩
    · omega
    · exact ⟨g, cap, hv⟩
  subst hv
  rw [hn] at he
  exact ⟨g, cap, he, hb, hown, hl⟩

end Go.Proofs.Ymwhax.Toks
