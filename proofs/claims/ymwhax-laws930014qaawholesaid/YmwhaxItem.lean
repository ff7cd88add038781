/-
  The walks of 'zzs930014qaaitem' (function 7) and 'readChar' (function 12): both compute 'Plain.item'. By an AI agent.
-/
import Derived.Test.YmwhaxRows
import Derived.Test.YmwhaxPlain
import Derived.WalkKit
import Derived.WalkSpells
namespace Go.Proofs.Ymwhax.Item
open Go.RowKit
open Go.Proofs.Ymwhax
set_option linter.unusedVariables false

/-- What the two functions hand back. -/
def res (r : UInt8 × Nat × Bool) : Value := .tuple #[.int .u8 (r.1.toNat : Int), .int .i64 (r.2.1 : Int), .bool r.2.2]

theorem res_mk {r : UInt8 × Nat × Bool} {a b : Int} {c : Bool} (ha : a = (r.1.toNat : Int)) (hb : b = (r.2.1 : Int)) (hc : c = r.2.2) :
    Ending.returned (.tuple #[.int .u8 a, .int .i64 b, .bool c]) = .returned (res r) := by rw [ha, hb, hc]; rfl

theorem byte_eq {c : UInt8} {k : Nat} (hk : k < 256) (h : ((c.toNat : Int) == (k : Int)) = true) : c = UInt8.ofNat k := by
  have h1 : c.toNat = k := by have := of_decide_eq_true h; omega
  apply UInt8.toNat_inj.1
  rw [h1, UInt8.toNat_ofNat']
  omega

theorem byte_ne {c : UInt8} {k : Nat} (hk : k < 256) (h : ((c.toNat : Int) == (k : Int)) = false) : ¬ c = UInt8.ofNat k := by
  intro e
  rw [e, UInt8.toNat_ofNat', Nat.mod_eq_of_lt (by omega)] at h
  simp at h

section
variable {s : ByteArray} {cls : Bool} {j : Nat}

theorem it_end (h : s.size ≤ j) : Plain.item s cls j = (0, j, false) := by simp [Plain.item, h]

theorem it_slash_end (h : j < s.size) (h1 : (((s[j]).toNat : Int) == 92) = true) (h2 : (s.size : Int) ≤ (j : Int) + 1) : Plain.item s cls j = (0, j, false) := by
  have e : Plain.bt s j = 92 := by rw [← Plain.bt_eq s j h]; exact byte_eq (k := 92) (by omega) h1
  have a : ¬ s.size ≤ j := by omega
  have b : s.size ≤ j + 1 := by omega
  simp [Plain.item, a, e, b]

theorem it_slash (h : j < s.size) (h1 : (((s[j]).toNat : Int) == 92) = true) (h2 : j + 1 < s.size) : Plain.item s cls j = (s[j + 1], j + 2, true) := by
  have e : Plain.bt s j = 92 := by rw [← Plain.bt_eq s j h]; exact byte_eq (k := 92) (by omega) h1
  have a : ¬ s.size ≤ j := by omega
  have b : ¬ s.size ≤ j + 1 := by omega
  simp [Plain.item, a, e, b, Plain.bt_eq s (j + 1) h2]

theorem it_bad (h : j < s.size) (h1 : (((s[j]).toNat : Int) == 92) = false) (h2 : (((s[j]).toNat : Int) == 93) = true ∨ (((s[j]).toNat : Int) == 45) = true) : Plain.item s true j = (0, j, false) := by
  have e : ¬ Plain.bt s j = 92 := by rw [← Plain.bt_eq s j h]; exact byte_ne (k := 92) (by omega) h1
  have a : ¬ s.size ≤ j := by omega
  have b : Plain.bt s j = 93 ∨ Plain.bt s j = 45 := by
    rw [← Plain.bt_eq s j h]
    rcases h2 with h2 | h2
    · exact .inl (byte_eq (k := 93) (by omega) h2)
    · exact .inr (byte_eq (k := 45) (by omega) h2)
  simp [Plain.item, a, e, b]

theorem it_plain (h : j < s.size) (h1 : (((s[j]).toNat : Int) == 92) = false) (h2 : cls = false ∨ (((s[j]).toNat : Int) == 93) = false ∧ (((s[j]).toNat : Int) == 45) = false) : Plain.item s cls j = (s[j], j + 1, true) := by
  have e : ¬ Plain.bt s j = 92 := by rw [← Plain.bt_eq s j h]; exact byte_ne (k := 92) (by omega) h1
  have a : ¬ s.size ≤ j := by omega
  have b : ¬ (cls = true ∧ (Plain.bt s j = 93 ∨ Plain.bt s j = 45)) := by
    rw [← Plain.bt_eq s j h]
    rcases h2 with h2 | ⟨h2, h3⟩
    · simp [h2]
    · have u := byte_ne (k := 93) (by omega) h2
      have v := byte_ne (k := 45) (by omega) h3
      rintro ⟨_, x | x⟩
      · exact u x
      · exact v x
  simp only [Plain.item, if_neg a, if_neg e, if_neg b, Plain.bt_eq s j h]
end

set_option maxHeartbeats 1000000 in
theorem item_any (s : ByteArray) (j : Nat) (hs : s.size ≤ 400) (hj : j ≤ 1000) (w : World) :
    Calls Yaxv.prog 7 #[.string s, .int .i64 (j : Int)] w fun e w' => e = .returned (res (Plain.item s true j)) ∧ w' = w := by
  go_enter Yaxv.func7, Yaxv.ntmps7
  go_wp2
  all_goals go_ret3
  all_goals refine ⟨?_, rfl⟩
  all_goals first
    | (rw [it_end (by assumption)]; exact res_mk rfl rfl rfl)
    | (rw [it_slash_end (by assumption) (by assumption) (by assumption)]; exact res_mk rfl rfl rfl)
    | (rw [it_slash (by assumption) (by assumption) (by omega)]; exact res_mk rfl rfl rfl)
    | (rw [it_bad (by assumption) (by assumption) (by assumption)]; exact res_mk rfl rfl rfl)
    | (rw [it_bad (by assumption) (by assumption) (.inl (beq_iff_eq.2 (by assumption)))]; exact res_mk rfl rfl rfl)
    | (rw [it_plain (by assumption) (by assumption) (.inr (by assumption))]; exact res_mk rfl rfl rfl)

set_option maxHeartbeats 1000000 in
theorem readChar_any (s : ByteArray) (j : Nat) (cls : Bool) (hs : s.size ≤ 400) (hj : j ≤ 1000) (w : World) :
    Calls Yaxv.prog 12 #[.string s, .int .i64 (j : Int), .bool cls] w fun e w' => e = .returned (res (Plain.item s cls j)) ∧ w' = w := by
  go_enter Yaxv.func12, Yaxv.ntmps12
  cases cls
  all_goals go_wp2
  all_goals go_ret3
  all_goals refine ⟨?_, rfl⟩
  all_goals first
    | (rw [it_end (by assumption)]; exact res_mk rfl rfl rfl)
    | (rw [it_slash_end (by assumption) (by assumption) (by assumption)]; exact res_mk rfl rfl rfl)
    | (rw [it_slash (by assumption) (by assumption) (by omega)]; exact res_mk rfl rfl rfl)
    | (rw [it_bad (by assumption) (by assumption) (by assumption)]; exact res_mk rfl rfl rfl)
    | (rw [it_bad (by assumption) (by assumption) (.inl (beq_iff_eq.2 (by assumption)))]; exact res_mk rfl rfl rfl)
    | (rw [it_plain (by assumption) (by assumption) (.inr (by assumption))]; exact res_mk rfl rfl rfl)
    | (rw [it_plain (by assumption) (by assumption) (.inl rfl)]; exact res_mk rfl rfl rfl)

theorem item_to {s : ByteArray} {j nj : Nat} {c : UInt8} {ok : Bool} (J : Int) (hJ : J = (j : Int)) (h : Plain.item s true j = (c, nj, ok)) (hs : s.size ≤ 400) (hj : j ≤ 1000) (w : World) :
    Calls Yaxv.prog 7 #[.string s, .int .i64 J] w fun e w' => e = .returned (.tuple #[.int .u8 (c.toNat : Int), .int .i64 (nj : Int), .bool ok]) ∧ w' = w := by
  have := item_any s j hs hj w
  rw [h] at this
  rw [hJ]
  exact this

theorem readChar_to {s : ByteArray} {j nj : Nat} {cls : Bool} {c : UInt8} {ok : Bool} (J : Int) (hJ : J = (j : Int)) (h : Plain.item s cls j = (c, nj, ok)) (hs : s.size ≤ 400) (hj : j ≤ 1000) (w : World) :
    Calls Yaxv.prog 12 #[.string s, .int .i64 J, .bool cls] w fun e w' => e = .returned (.tuple #[.int .u8 (c.toNat : Int), .int .i64 (nj : Int), .bool ok]) ∧ w' = w := by
  have := readChar_any s j cls hs hj w
  rw [h] at this
  rw [hJ]
  exact this

theorem item_at {s : ByteArray} {j nj : Nat} {c : UInt8} {ok : Bool} (h : Plain.item s true j = (c, nj, ok)) (hs : s.size ≤ 400) (hj : j ≤ 1000) (w : World) :
    Calls Yaxv.prog 7 #[.string s, .int .i64 (j : Int)] w fun e w' => e = .returned (.tuple #[.int .u8 (c.toNat : Int), .int .i64 (nj : Int), .bool ok]) ∧ w' = w := by
  have := item_any s j hs hj w
  rw [h] at this
  exact this

theorem readChar_at {s : ByteArray} {j nj : Nat} {cls : Bool} {c : UInt8} {ok : Bool} (h : Plain.item s cls j = (c, nj, ok)) (hs : s.size ≤ 400) (hj : j ≤ 1000) (w : World) :
    Calls Yaxv.prog 12 #[.string s, .int .i64 (j : Int), .bool cls] w fun e w' => e = .returned (.tuple #[.int .u8 (c.toNat : Int), .int .i64 (nj : Int), .bool ok]) ∧ w' = w := by
  have := readChar_any s j cls hs hj w
  rw [h] at this
  exact this

/-- A byte's test, in the walk's form. -/
theorem beq_byte (c : UInt8) (k : Nat) (hk : k < 256) : ((c.toNat : Int) == (k : Int)) = decide (c = UInt8.ofNat k) := by
  cases h : ((c.toNat : Int) == (k : Int))
  · exact (decide_eq_false (byte_ne hk h)).symm
  · exact (decide_eq_true (byte_eq hk h)).symm

theorem beq_yes {s : ByteArray} {j : Nat} (h : j < s.size) (k : Nat) (hk : k < 256) (e : Plain.bt s j = UInt8.ofNat k) : (((s[j]).toNat : Int) == (k : Int)) = true := by
  rw [beq_byte _ k hk, Plain.bt_eq s j h, e]; simp

theorem beq_no {s : ByteArray} {j : Nat} (h : j < s.size) (k : Nat) (hk : k < 256) (e : ¬ Plain.bt s j = UInt8.ofNat k) : (((s[j]).toNat : Int) == (k : Int)) = false := by
  rw [beq_byte _ k hk, Plain.bt_eq s j h]; simpa using e

end Go.Proofs.Ymwhax.Item
