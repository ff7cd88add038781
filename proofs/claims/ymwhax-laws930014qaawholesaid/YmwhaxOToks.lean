/-
  The tokens in memory, as the law's own parser lays them; its inner loop's state. By an AI agent.
-/
import Derived.Test.YmwhaxApp
import Derived.Test.YmwhaxItem
import Derived.Test.YmwhaxOne
namespace Go.Proofs.Ymwhax.OToks
open Go.RowKit
open Go.Proofs.Ymwhax
open Go.Proofs.Ymwhax.Mem Go.Proofs.Ymwhax.In Go.Proofs.Ymwhax.One
set_option linter.unusedVariables false

theorem info31 : (Yaxv.prog.info? 31).map (fun i => (i.zero, i.size, i.bytes)) = some (some (.agg #[.int .i64 0, .int .u8 0, .bool false, .slice none 0 0, .slice none 0 0]), 5, 64) := by kernel_rfl
theorem info5 : (Yaxv.prog.info? 5).map (fun i => (i.zero, i.size, i.bytes)) = some (some (.int .u8 0), 1, 1) := by kernel_rfl

/-- The five cells of a token. -/
def cell5 (p : Plain.Tok × Value × Value) : List Value := [.int .i64 (p.1.kind : Int), .int .u8 (p.1.c.toNat : Int), .bool p.1.neg, p.2.1, p.2.2]

def cellsO (ps : List (Plain.Tok × Value × Value)) : List Value := ps.flatMap cell5

theorem cellsO_snoc (ps : List (Plain.Tok × Value × Value)) (p : Plain.Tok × Value × Value) : cellsO (ps ++ [p]) = cellsO ps ++ cell5 p := by simp [cellsO]

theorem cellsO_at : ∀ (ps : List (Plain.Tok × Value × Value)) (k r : Nat) (h : k < ps.length) (hr : r < 5), (cellsO ps)[k * 5 + r]? = (cell5 ps[k])[r]?
  | [], k, r, h, hr => by simp at h
  | p :: ps, 0, r, h, hr => by
    rw [cellsO, List.flatMap_cons, List.getElem?_append_left (by simp [cell5]; omega)]
    simp
  | p :: ps, k + 1, r, h, hr => by
    rw [cellsO, List.flatMap_cons, List.getElem?_append_right (by simp [cell5]; omega)]
    have := cellsO_at ps k r (by simpa using h) hr
    rw [show (k + 1) * 5 + r - (cell5 p).length = k * 5 + r by simp [cell5]; omega]
    simpa [cellsO] using this

/-- The slice value tv holds the tokens ps. -/
structure OToks (w : World) (base : Nat) (tv : Value) (ps : List (Plain.Tok × Value × Value)) : Prop where
  row : w.ownsRow base 31 5 tv ps.length (cellsO ps)
  each : ∀ p ∈ ps, p.1.kind ≤ 3 ∧ p.1.rs.length ≤ 1000 ∧ w.ownsRow base 5 1 p.2.1 p.1.rs.length (los p.1.rs) ∧ w.ownsRow base 5 1 p.2.2 p.1.rs.length (his p.1.rs)

theorem OToks.nil (w : World) (base : Nat) : OToks w base (.slice none 0 0) [] := ⟨World.ownsRow_nil _ _ _ _, fun p hp => by simp at hp⟩

theorem OToks.later {w w' : World} {base : Nat} {tv : Value} {ps : List (Plain.Tok × Value × Value)} (h : OToks w base tv ps) (hb : Below w.heap.size w w') : OToks w' base tv ps :=
  ⟨ownsRow_later h.row hb, fun p hp => ⟨(h.each p hp).1, (h.each p hp).2.1, ownsRow_later (h.each p hp).2.2.1 hb, ownsRow_later (h.each p hp).2.2.2 hb⟩⟩

theorem OToks.snoc {w w' : World} {base : Nat} {tv tv' lo hi : Value} {ps : List (Plain.Tok × Value × Value)} {t : Plain.Tok} (h : OToks w base tv ps) (hg : w.grownBy w' tv.ownBlock)
    (hown : w'.ownsRow base 31 5 tv' (ps.length + 1) (cellsO ps ++ [.int .i64 (t.kind : Int), .int .u8 (t.c.toNat : Int), .bool t.neg, lo, hi])) (hk : t.kind ≤ 3) (hn : t.rs.length ≤ 1000)
    (hlo : w.ownsRow base 5 1 lo t.rs.length (los t.rs)) (hhi : w.ownsRow base 5 1 hi t.rs.length (his t.rs)) :
    OToks w' base tv' (ps ++ [(t, lo, hi)]) := by
  refine ⟨?_, ?_⟩
  · rw [cellsO_snoc]
    simpa [cell5] using hown
  · intro p hp
    rcases List.mem_append.1 hp with hp | hp
    · obtain ⟨h1, h2, h3, h4⟩ := h.each p hp
      exact ⟨h1, h2, h3.kept hg (ownsRow_apart h3 h.row (by decide)), h4.kept hg (ownsRow_apart h4 h.row (by decide))⟩
    · simp at hp
      subst hp
      exact ⟨hk, hn, hlo.kept hg (ownsRow_apart hlo h.row (by decide)), hhi.kept hg (ownsRow_apart hhi h.row (by decide))⟩

theorem cells5 {w : World} {b : Nat} {v0 v1 v2 v3 v4 : Value} {t : TypeId} (h : w.heap[b]? = some (.cells #[v0, v1, v2, v3, v4] t (0, 0))) :
    w.cell? ⟨b, 0, none⟩ = some v0 ∧ w.cell? ⟨b, 1, none⟩ = some v1 ∧ w.cell? ⟨b, 2, none⟩ = some v2 ∧ w.cell? ⟨b, 3, none⟩ = some v3 ∧ w.cell? ⟨b, 4, none⟩ = some v4 ∧ (∀ o, w.frozen? ⟨b, o, none⟩ = false) := by
  refine ⟨?_, ?_, ?_, ?_, ?_, fun o => ?_⟩
  all_goals simp [World.cell?, World.frozen?, h]

theorem new1 (w : World) (b : Nat) (hb : b = w.heap.size) (x : Value) (t : TypeId) : ∀ j q, [x][j]? = some q → (w.alloc (.cells #[x] t)).cell? ((⟨b, 0, none⟩ : Addr).add j) = some q := by
  subst hb
  intro j q hq
  match j, hq with
  | 0, hq => simp at hq; subst hq; simp [Addr.add]
  | j + 1, hq => simp at hq

theorem new5 (w : World) (b : Nat) (hb : b = w.heap.size) (x y z u v : Value) (t : TypeId) : ∀ j q, [x, y, z, u, v][j]? = some q → (w.alloc (.cells #[x, y, z, u, v] t)).cell? ((⟨b, 0, none⟩ : Addr).add j) = some q := by
  subst hb
  intro j q hq
  match j, hq with
  | 0, hq => simp at hq; subst hq; simp [Addr.add]
  | 1, hq => simp at hq; subst hq; simp [Addr.add]
  | 2, hq => simp at hq; subst hq; simp [Addr.add]
  | 3, hq => simp at hq; subst hq; simp [Addr.add]
  | 4, hq => simp at hq; subst hq; simp [Addr.add]
  | j + 5, hq => simp at hq

theorem one5 (k : Int) (c : Int) (b : Bool) {u v : Value} (hu : u.oneCell' = true) (hv : v.oneCell' = true) : ∀ x ∈ [Value.int .i64 k, Value.int .u8 c, Value.bool b, u, v], x.oneCell' = true := by
  intro x hx
  simp at hx
  rcases hx with rfl | rfl | rfl | rfl | rfl
  · rfl
  · rfl
  · rfl
  · exact hu
  · exact hv

/-- The state of the inner loop: B: the block of the token that is built. -/
structure St (w0 : World) (B : Nat) (neg : Bool) (al ah : List (UInt8 × UInt8)) (lo hi : Value) (w : World) : Prop where
  below : Below B w0 w
  cells : w.heap[B]? = some (.cells #[.int .i64 3, .int .u8 0, .bool neg, lo, hi] 31 (0, 0))
  los : w.ownsRow (B + 1) 5 1 lo al.length (los al)
  his : w.ownsRow (B + 1) 5 1 hi ah.length (his ah)
  apart : lo.ownBlock = none ∨ lo.ownBlock ≠ hi.ownBlock

theorem St.start (w0 w : World) (neg : Bool) (hb : Below w0.heap.size w0 w) (hc : w.heap[w0.heap.size]? = some (.cells #[.int .i64 3, .int .u8 0, .bool neg, .slice none 0 0, .slice none 0 0] 31 (0, 0))) :
    St w0 w0.heap.size neg [] [] (.slice none 0 0) (.slice none 0 0) w :=
  ⟨hb, hc, World.ownsRow_nil _ _ _ _, World.ownsRow_nil _ _ _ _, .inl rfl⟩

/-- 't.lo = append(t.lo, lo)'. -/
theorem St.lo {w0 w w1 : World} {B : Nat} {neg : Bool} {al ah : List (UInt8 × UInt8)} {lo hi v : Value} {o : Obj} {r : UInt8 × UInt8} (h : St w0 B neg al ah lo hi w) (hB : B ≤ w0.heap.size)
    (hown : w1.ownsRow (B + 1) 5 1 v (al.length + 1) (One.los al ++ [.int .u8 (r.1.toNat : Int)])) (hg : (w.alloc o).grownBy w1 lo.ownBlock) (ht : ∀ g, v.ownBlock = some g → lo.ownBlock = some g ∨ w.heap.size + 1 ≤ g) :
    w1.heap[B]? = some (.cells #[.int .i64 3, .int .u8 0, .bool neg, lo, hi] 31 (0, 0)) ∧ St w0 B neg (al ++ [r]) ah v hi (w1.setCell ⟨B, 3, none⟩ v) := by
  have hs := lt_of_block h.cells
  have hlo : ∀ q, lo.ownBlock = some q → B + 1 ≤ q := fun q hq => (h.los.lt q hq).1
  have b1 : w1.heap[B]? = w.heap[B]? := by
    rw [hg.block _ (by simp; omega) (fun e => by have := hlo _ e.symm; omega), Below.heap_alloc _ _ _ hs]
  refine ⟨b1.trans h.cells, ?_, ?_, ?_, ?_, ?_⟩
  · exact (((h.below.alloc (by omega) o).grown hg (by simp; omega) (fun q hq => by have := hlo q hq; omega))).setCell (by simp) _
  · have := heap_setCell_same w1 B 3 _ _ v (b1.trans h.cells)
    simpa using this
  · have := ownsRow_setCell_below hown (a := ⟨B, 3, none⟩) (by simp) v
    simpa [One.los] using this
  · exact ownsRow_setCell_below ((h.his.alloc o).kept hg (by
      rcases h.apart with e | e
      · cases hv : hi.ownBlock
        · exact .inl rfl
        · rw [e]; exact .inr (by simp)
      · exact .inr (fun x => e x.symm))) (a := ⟨B, 3, none⟩) (by simp) v
  · cases hv : v.ownBlock with
    | none => exact .inl rfl
    | some g =>
      refine .inr fun e => ?_
      rcases ht g hv with x | x
      · rcases h.apart with y | y
        · rw [y] at x; cases x
        · exact y (x.trans e)
      · have := (h.his.lt g e.symm).2
        omega

/-- 't.hi = append(t.hi, hi)'. -/
theorem St.hi {w0 w w1 : World} {B : Nat} {neg : Bool} {al ah : List (UInt8 × UInt8)} {lo hi v : Value} {o : Obj} {r : UInt8 × UInt8} (h : St w0 B neg al ah lo hi w) (hB : B ≤ w0.heap.size)
    (hown : w1.ownsRow (B + 1) 5 1 v (ah.length + 1) (One.his ah ++ [.int .u8 (r.2.toNat : Int)])) (hg : (w.alloc o).grownBy w1 hi.ownBlock) (ht : ∀ g, v.ownBlock = some g → hi.ownBlock = some g ∨ w.heap.size + 1 ≤ g) :
    w1.heap[B]? = some (.cells #[.int .i64 3, .int .u8 0, .bool neg, lo, hi] 31 (0, 0)) ∧ St w0 B neg al (ah ++ [r]) lo v (w1.setCell ⟨B, 4, none⟩ v) := by
  have hs := lt_of_block h.cells
  have hhi : ∀ q, hi.ownBlock = some q → B + 1 ≤ q := fun q hq => (h.his.lt q hq).1
  have b1 : w1.heap[B]? = w.heap[B]? := by
    rw [hg.block _ (by simp; omega) (fun e => by have := hhi _ e.symm; omega), Below.heap_alloc _ _ _ hs]
  refine ⟨b1.trans h.cells, ?_, ?_, ?_, ?_, ?_⟩
  · exact (((h.below.alloc (by omega) o).grown hg (by simp; omega) (fun q hq => by have := hhi q hq; omega))).setCell (by simp) _
  · have := heap_setCell_same w1 B 4 _ _ v (b1.trans h.cells)
    simpa using this
  · exact ownsRow_setCell_below ((h.los.alloc o).kept hg h.apart) (a := ⟨B, 4, none⟩) (by simp) v
  · have := ownsRow_setCell_below hown (a := ⟨B, 4, none⟩) (by simp) v
    simpa [One.his] using this
  · cases hv : lo.ownBlock with
    | none => exact .inl rfl
    | some g =>
      refine .inr fun e => ?_
      rcases ht g e.symm with x | x
      · rcases h.apart with y | y
        · rw [y] at hv; cases hv
        · exact y (hv.trans x.symm)
      · have := (h.los.lt g hv).2
        omega

end Go.Proofs.Ymwhax.OToks
