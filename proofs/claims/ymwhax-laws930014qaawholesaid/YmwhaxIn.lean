/-
  The walks of 'InRanges' (14), 'MatchOne' (13), 'zzs930014qaaone' (8). By an AI agent.
-/
import Derived.Test.YmwhaxMem
import Derived.Deep.RegionWith
namespace Go.Proofs.Ymwhax.In
open Go.RowKit
open Go.Proofs.Ymwhax
open Go.Proofs.Ymwhax.Mem
set_option linter.unusedVariables false

/-- Does the range hold the byte? -/
def hit (c : UInt8) (r : UInt8 × UInt8) : Bool := decide (r.1.toNat ≤ c.toNat ∧ c.toNat ≤ r.2.toNat)

theorem inR_eq (rs : List (UInt8 × UInt8)) (c : UInt8) : Plain.inR rs c = rs.any (hit c) := rfl

theorem any_take (rs : List (UInt8 × UInt8)) (c : UInt8) (k : Nat) (h : k < rs.length) : (rs.take (k + 1)).any (hit c) = ((rs.take k).any (hit c) || hit c rs[k]) := by
  rw [List.take_succ_eq_append_getElem h, List.any_append]
  simp only [List.any_cons, List.any_nil, Bool.or_false]

theorem any_yes (rs : List (UInt8 × UInt8)) (c : UInt8) (k : Nat) (h : k < rs.length) (hh : hit c rs[k] = true) : rs.any (hit c) = true :=
  List.any_eq_true.2 ⟨rs[k], List.getElem_mem h, hh⟩

theorem ret_bool {a b : Bool} (h : a = b) : Ending.returned (.bool a) = .returned (.bool b) := by rw [h]

set_option maxHeartbeats 1000000 in
theorem in_some (g cap base : Nat) (rs : List (UInt8 × UInt8)) (c : UInt8) (hn : rs.length ≤ 1000) (w : World)
    (hown : w.ownsRow base 48 2 (.slice (some ⟨g, 0, none⟩) rs.length cap) rs.length (flat rs)) :
    Calls Yaxv.prog 14 #[.slice (some ⟨g, 0, none⟩) rs.length cap, .int .u8 (c.toNat : Int)] w fun e w' => e = .returned (.bool (Plain.inR rs c)) ∧ Below w.heap.size w w' := by
  go_enter Yaxv.func14, Yaxv.ntmps14
  go_wp2
  go_loopw [9] (fun i wr => ∃ k : Nat, k ≤ rs.length ∧ i = .int .i64 k ∧ Below w.heap.size w wr ∧ (rs.take k).any (hit c) = false) (fun i _ => rs.length - (intOf i).toNat)
  case atStart => exact ⟨0, Nat.zero_le _, rfl, Below.refl _ _, rfl⟩
  case round =>
    obtain ⟨k, hk, rfl, hb, hno⟩ := hrel
    by_cases hlt : k < rs.length
    · have hg : g < w.heap.size := (hown.lt g rfl).2
      have hown' := ownsRow_later hown hb
      have c0 : wr.cell? ⟨g, k * 2, none⟩ = some (.int .u8 (rs[k].1.toNat : Int)) := by rw [hown'.cellAt _ (by omega), flat_lo rs k hlt]
      have c1 : wr.cell? ⟨g, k * 2 + 1, none⟩ = some (.int .u8 (rs[k].2.toNat : Int)) := by rw [hown'.cellAt _ (by omega), flat_hi rs k hlt]
      have HA : Hid ((rs.take (k + 1)).any (hit c) = ((rs.take k).any (hit c) || hit c rs[k])) := any_take rs c k hlt
      have HY : Hid (hit c rs[k] = true → rs.any (hit c) = true) := any_yes rs c k hlt
      have HN : Hid ((rs.take k).any (hit c) = false) := hno
      have hz := hb.size
      clear hown hown' hno
      generalize rs[k] = r at *
      obtain ⟨lo, hi⟩ := r
      simp only at c0 c1
      go_wp2
      · go_ret
        exact ⟨ret_bool (by rw [inR_eq, HY.out (by simp only [hit]; exact decide_eq_true ⟨by assumption, by assumption⟩)]), hb.alloc hz _⟩
      all_goals
        have hf : hit c (lo, hi) = false := by simp only [hit]; exact decide_eq_false (by omega)
        go_roundw
        case rel => exact ⟨k + 1, by omega, by go_num, hb.alloc hz _, by rw [HA.out, HN.out, hf]; rfl⟩
        case measure => simp [intOf]; omega
    · go_wp2
      go_ret
      refine ⟨?_, hb⟩
      rw [List.take_of_length_le (by omega)] at hno
      exact ret_bool (by rw [inR_eq, hno])

set_option maxHeartbeats 1000000 in
theorem in_nil (c : UInt8) (w : World) :
    Calls Yaxv.prog 14 #[.slice none 0 0, .int .u8 (c.toNat : Int)] w fun e w' => e = .returned (.bool (Plain.inR [] c)) ∧ Below w.heap.size w w' := by
  go_enter Yaxv.func14, Yaxv.ntmps14
  go_wp2
  refine wp_loop_rounds 1 ?_
  rw [rounds_succ]
  go_wp2
  go_ret
  exact ⟨rfl, Below.refl _ _⟩

theorem in_any (v : Value) (base : Nat) (rs : List (UInt8 × UInt8)) (c : UInt8) (hn : rs.length ≤ 1000) (w : World) (hown : w.ownsRow base 48 2 v rs.length (flat rs)) :
    Calls Yaxv.prog 14 #[v, .int .u8 (c.toNat : Int)] w fun e w' => e = .returned (.bool (Plain.inR rs c)) ∧ Below w.heap.size w w' := by
  rcases hown.2 with ⟨rfl, h0⟩ | ⟨g, cap, cur, rfl, _⟩
  · obtain rfl := List.eq_nil_of_length_eq_zero h0
    exact in_nil c w
  · exact in_some g cap base rs c hn w hown

/-- A token as the library's struct value, v its ranges. -/
def tokV (t : Plain.Tok) (v : Value) : Value := .agg #[.int .i64 (t.kind : Int), .int .u8 (t.c.toNat : Int), .bool t.neg, v]

theorem ok1_0 (tc c : UInt8) (neg : Bool) (rs : List (UInt8 × UInt8)) : ((tc.toNat : Int) == (c.toNat : Int)) = Plain.ok1 ⟨0, tc, neg, rs⟩ c := by
  rw [Bool.eq_iff_iff]
  simp [Plain.ok1, ← UInt8.toNat_inj]
  omega

set_option maxHeartbeats 1000000 in
theorem one0 (t : Plain.Tok) (v : Value) (c : UInt8) (w : World) (h0 : t.kind = 0) :
    Calls Yaxv.prog 13 #[tokV t v, .int .u8 (c.toNat : Int)] w fun e w' => e = .returned (.bool (Plain.ok1 t c)) ∧ Below w.heap.size w w' := by
  obtain ⟨kind, tc, neg, rs⟩ := t
  simp only at h0
  subst h0
  unfold tokV
  go_enter Yaxv.func13, Yaxv.ntmps13
  go_wp2
  go_ret
  exact ⟨ret_bool (ok1_0 tc c neg rs), (Below.refl _ _).alloc (Nat.le_refl _) _⟩

set_option maxHeartbeats 1000000 in
theorem one1 (t : Plain.Tok) (v : Value) (c : UInt8) (w : World) (h0 : t.kind = 1) :
    Calls Yaxv.prog 13 #[tokV t v, .int .u8 (c.toNat : Int)] w fun e w' => e = .returned (.bool (Plain.ok1 t c)) ∧ Below w.heap.size w w' := by
  obtain ⟨kind, tc, neg, rs⟩ := t
  simp only at h0
  subst h0
  unfold tokV
  go_enter Yaxv.func13, Yaxv.ntmps13
  go_wp2
  go_ret
  exact ⟨rfl, (Below.refl _ _).alloc (Nat.le_refl _) _⟩

theorem bne_eq (a b : Bool) : (!(a == b)) = (a != b) := rfl

set_option maxHeartbeats 1000000 in
theorem one3 (t : Plain.Tok) (v : Value) (c : UInt8) (w : World) (h0 : t.kind = 3) (base : Nat) (hn : t.rs.length ≤ 1000) (hown : w.ownsRow base 48 2 v t.rs.length (flat t.rs)) :
    Calls Yaxv.prog 13 #[tokV t v, .int .u8 (c.toNat : Int)] w fun e w' => e = .returned (.bool (Plain.ok1 t c)) ∧ Below w.heap.size w w' := by
  obtain ⟨kind, tc, neg, rs⟩ := t
  simp only at h0 hn hown
  subst h0
  unfold tokV
  have H : Hid (∀ o : Obj, (w.alloc o).ownsRow base 48 2 v rs.length (flat rs)) := fun o => hown.alloc o
  clear hown
  go_enter Yaxv.func13, Yaxv.ntmps13
  go_wp2_with fail
  go_region_with (go_at_call 14; refine (in_any v base rs c hn _ (by exact H.out _)).mono ?_; rintro e w1 ⟨rfl, hb1⟩; have hc2 : w1.cell? ⟨w.heap.size, 2, none⟩ = some (.bool neg) := by (rw [hb1.cell (p := ⟨w.heap.size, 2, none⟩) (by simp)]; simp))
  all_goals go_wp2
  all_goals go_ret
  all_goals exact ⟨ret_bool rfl, (((Below.refl _ _).alloc (Nat.le_refl _) _).drew).trans (hb1.mono (by simp))⟩

end Go.Proofs.Ymwhax.In
