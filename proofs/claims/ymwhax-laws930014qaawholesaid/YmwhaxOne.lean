/-
  The walk of 'zzs930014qaaone' (8). By an AI agent.
-/
import Derived.Test.YmwhaxIn
namespace Go.Proofs.Ymwhax.One
open Go.RowKit
open Go.Proofs.Ymwhax
open Go.Proofs.Ymwhax.Mem Go.Proofs.Ymwhax.In
set_option linter.unusedVariables false

def los (rs : List (UInt8 × UInt8)) : List Value := rs.map fun r => .int .u8 (r.1.toNat : Int)
def his (rs : List (UInt8 × UInt8)) : List Value := rs.map fun r => .int .u8 (r.2.toNat : Int)

/-- A token as the law's own struct value, lo and hi its ranges' ends. -/
def tokO (t : Plain.Tok) (lo hi : Value) : Value := .agg #[.int .i64 (t.kind : Int), .int .u8 (t.c.toNat : Int), .bool t.neg, lo, hi]

set_option maxHeartbeats 1000000 in
theorem one0 (t : Plain.Tok) (lo hi : Value) (c : UInt8) (w : World) (h0 : t.kind = 0) :
    Calls Yaxv.prog 8 #[tokO t lo hi, .int .u8 (c.toNat : Int)] w fun e w' => e = .returned (.bool (Plain.ok1 t c)) ∧ Below w.heap.size w w' := by
  obtain ⟨kind, tc, neg, rs⟩ := t
  simp only at h0
  subst h0
  unfold tokO
  go_enter Yaxv.func8, Yaxv.ntmps8
  go_wp2
  go_ret
  exact ⟨ret_bool (ok1_0 tc c neg rs), (Below.refl _ _).alloc (Nat.le_refl _) _⟩

set_option maxHeartbeats 1000000 in
theorem one1 (t : Plain.Tok) (lo hi : Value) (c : UInt8) (w : World) (h0 : t.kind = 1) :
    Calls Yaxv.prog 8 #[tokO t lo hi, .int .u8 (c.toNat : Int)] w fun e w' => e = .returned (.bool (Plain.ok1 t c)) ∧ Below w.heap.size w w' := by
  obtain ⟨kind, tc, neg, rs⟩ := t
  simp only at h0
  subst h0
  unfold tokO
  go_enter Yaxv.func8, Yaxv.ntmps8
  go_wp2
  go_ret
  exact ⟨rfl, (Below.refl _ _).alloc (Nat.le_refl _) _⟩

/-- Has one of the first k ranges held the byte? -/
def seen (rs : List (UInt8 × UInt8)) (c : UInt8) (k : Nat) : Bool := (rs.take k).any (hit c)

theorem seen_succ (rs : List (UInt8 × UInt8)) (c : UInt8) (k : Nat) (h : k < rs.length) : seen rs c (k + 1) = (seen rs c k || hit c rs[k]) := any_take rs c k h

theorem seen_all (rs : List (UInt8 × UInt8)) (c : UInt8) (k : Nat) (h : rs.length ≤ k) : seen rs c k = rs.any (hit c) := by
  unfold seen
  rw [List.take_of_length_le h]

theorem ok1_3 (tc c : UInt8) (neg : Bool) (rs : List (UInt8 × UInt8)) : (!(rs.any (hit c) == neg)) = Plain.ok1 ⟨3, tc, neg, rs⟩ c := rfl

set_option maxHeartbeats 1000000 in
theorem one3 (rs : List (UInt8 × UInt8)) (tc : UInt8) (neg : Bool) (g cap g' cap' : Nat) (c : UInt8) (w : World) (base : Nat) (hn : rs.length ≤ 1000)
    (hlo : w.ownsRow base 5 1 (.slice (some ⟨g, 0, none⟩) rs.length cap) rs.length (los rs)) (hhi : w.ownsRow base 5 1 (.slice (some ⟨g', 0, none⟩) rs.length cap') rs.length (his rs)) :
    Calls Yaxv.prog 8 #[tokO ⟨3, tc, neg, rs⟩ (.slice (some ⟨g, 0, none⟩) rs.length cap) (.slice (some ⟨g', 0, none⟩) rs.length cap'), .int .u8 (c.toNat : Int)] w fun e w' => e = .returned (.bool (Plain.ok1 ⟨3, tc, neg, rs⟩ c)) ∧ Below w.heap.size w w' := by
  unfold tokO
  have H : Hid (∀ o : Obj, (w.alloc o).ownsRow base 5 1 (.slice (some ⟨g, 0, none⟩) rs.length cap) rs.length (los rs)) := fun o => hlo.alloc o
  have H' : Hid (∀ o : Obj, (w.alloc o).ownsRow base 5 1 (.slice (some ⟨g', 0, none⟩) rs.length cap') rs.length (his rs)) := fun o => hhi.alloc o
  clear hlo hhi
  go_enter Yaxv.func8, Yaxv.ntmps8
  go_wp2
  go_loop [5, 6] (fun b i => ∃ k : Nat, k ≤ rs.length ∧ i = .int .i64 k ∧ b = .bool (seen rs c k)) (fun _ i => rs.length - (intOf i).toNat)
  case atStart => exact ⟨0, Nat.zero_le _, rfl, rfl⟩
  case round =>
    obtain ⟨k, hk, rfl, rfl⟩ := hrel
    by_cases hlt : k < rs.length
    · have c0 : ∀ o : Obj, (w.alloc o).cell? ⟨g, k, none⟩ = some (.int .u8 (rs[k].1.toNat : Int)) := fun o => by rw [(H.out o).cellAt _ (by omega)]; simp [los, hlt]
      have c1 : ∀ o : Obj, (w.alloc o).cell? ⟨g', k, none⟩ = some (.int .u8 (rs[k].2.toNat : Int)) := fun o => by rw [(H'.out o).cellAt _ (by omega)]; simp [his, hlt]
      have HA : Hid (seen rs c (k + 1) = (seen rs c k || hit c rs[k])) := seen_succ rs c k hlt
      generalize rs[k] = r at *
      obtain ⟨lo, hi⟩ := r
      simp only at c0 c1
      generalize seen rs c k = b at *
      go_wp2
      · go_round
        case rel => exact ⟨k + 1, by omega, by go_num, by rw [HA.out, show hit c (lo, hi) = true from decide_eq_true ⟨by assumption, by assumption⟩, Bool.or_true]⟩
        case measure => simp [intOf]; omega
      all_goals
        have hf : hit c (lo, hi) = false := by simp only [hit]; exact decide_eq_false (by omega)
        go_round
        case rel => exact ⟨k + 1, by omega, by go_num, by rw [HA.out, hf, Bool.or_false]⟩
        case measure => simp [intOf]; omega
    · have HE : Hid (seen rs c k = rs.any (hit c)) := seen_all rs c k (by omega)
      generalize seen rs c k = b at *
      go_wp2
      go_ret
      refine ⟨?_, (Below.refl _ _).alloc (Nat.le_refl _) _⟩
      rw [← ok1_3, ← HE.out]
      rfl

set_option maxHeartbeats 1000000 in
/-- No ranges: no round. -/
theorem one3_nil (tc : UInt8) (neg : Bool) (ad : Option Addr) (cap : Nat) (hi : Value) (c : UInt8) (w : World) :
    Calls Yaxv.prog 8 #[tokO ⟨3, tc, neg, []⟩ (.slice ad 0 cap) hi, .int .u8 (c.toNat : Int)] w fun e w' => e = .returned (.bool (Plain.ok1 ⟨3, tc, neg, []⟩ c)) ∧ Below w.heap.size w w' := by
  unfold tokO
  go_enter Yaxv.func8, Yaxv.ntmps8
  go_wp2
  refine wp_loop_rounds 1 ?_
  rw [rounds_succ]
  go_wp2
  go_ret
  refine ⟨?_, (Below.refl _ _).alloc (Nat.le_refl _) _⟩
  cases neg <;> rfl

/-- 'zzs930014qaaone' at every token but a star. -/
theorem one_any (t : Plain.Tok) (lo hi : Value) (c : UInt8) (w : World) (base : Nat) (h2 : ¬ t.kind = 2) (h3 : t.kind ≤ 3) (hn : t.rs.length ≤ 1000)
    (hlo : w.ownsRow base 5 1 lo t.rs.length (los t.rs)) (hhi : w.ownsRow base 5 1 hi t.rs.length (his t.rs)) :
    Calls Yaxv.prog 8 #[tokO t lo hi, .int .u8 (c.toNat : Int)] w fun e w' => e = .returned (.bool (Plain.ok1 t c)) ∧ Below w.heap.size w w' := by
  obtain ⟨kind, tc, neg, rs⟩ := t
  simp only at h2 h3 hn hlo hhi
  rcases (show kind = 0 ∨ kind = 1 ∨ kind = 3 by omega) with h | h | h
  · exact one0 ⟨kind, tc, neg, rs⟩ lo hi c w h
  · exact one1 ⟨kind, tc, neg, rs⟩ lo hi c w h
  · subst h
    rcases hlo.2 with ⟨rfl, h0⟩ | ⟨g, cap, cur, rfl, _⟩
    · obtain rfl := List.eq_nil_of_length_eq_zero h0
      exact one3_nil tc neg none 0 hi c w
    · rcases hhi.2 with ⟨rfl, h0⟩ | ⟨g', cap', cur', rfl, _⟩
      · obtain rfl := List.eq_nil_of_length_eq_zero h0
        exact one3_nil tc neg (some ⟨g, 0, none⟩) cap _ c w
      · exact one3 rs tc neg g cap g' cap' c w base hn hlo hhi

/-- 'MatchOne' at every token but a star. -/
theorem matchOne_any (t : Plain.Tok) (v : Value) (c : UInt8) (w : World) (base : Nat) (h2 : ¬ t.kind = 2) (h3 : t.kind ≤ 3) (hn : t.rs.length ≤ 1000) (hown : w.ownsRow base 48 2 v t.rs.length (flat t.rs)) :
    Calls Yaxv.prog 13 #[tokV t v, .int .u8 (c.toNat : Int)] w fun e w' => e = .returned (.bool (Plain.ok1 t c)) ∧ Below w.heap.size w w' := by
  rcases (show t.kind = 0 ∨ t.kind = 1 ∨ t.kind = 3 by omega) with h | h | h
  · exact In.one0 t v c w h
  · exact In.one1 t v c w h
  · exact In.one3 t v c w h base hn hown

end Go.Proofs.Ymwhax.One
