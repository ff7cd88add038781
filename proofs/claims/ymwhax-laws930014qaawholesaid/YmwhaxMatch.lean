/-
  The walks of 'Match' (6) and of the law itself (3). By an AI agent.
-/
import Derived.Test.YmwhaxParse
import Derived.Test.YmwhaxOwn
import Derived.Test.YmwhaxMT
import Derived.Test.YmwhaxOM
namespace Go.Proofs.Ymwhax.Whole
open Go.RowKit
open Go.Proofs.Ymwhax
open Go.Proofs.Ymwhax.In
set_option linter.unusedVariables false

theorem parse_none {p : ByteArray} (hp : p.size ≤ 400) (h : Plain.toks p = none) (w : World) :
    Calls Yaxv.prog 9 #[.string p] w fun e w' => e = .returned (.tuple #[.slice none 0 0, .bool false]) ∧ Below w.heap.size w w' := by
  refine (Parse.parse_any p hp w).mono ?_
  rintro e w' ⟨hb, he⟩
  rw [h] at he
  exact ⟨he, hb⟩

theorem parse_some {p : ByteArray} {ts : List Plain.Tok} (hp : p.size ≤ 400) (h : Plain.toks p = some ts) (w : World) :
    Calls Yaxv.prog 9 #[.string p] w fun e w' => ∃ tv ps, e = .returned (.tuple #[tv, .bool true]) ∧ ps.map Prod.fst = ts ∧ ps.length ≤ 1000 ∧ Toks.Toks w' w.heap.size tv ps ∧ Below w.heap.size w w' := by
  refine (Parse.parse_any p hp w).mono ?_
  rintro e w' ⟨hb, he⟩
  rw [h] at he
  obtain ⟨tv, ps, h1, h2, h3, h4⟩ := he
  exact ⟨tv, ps, h1, h2, h3, h4, hb⟩

theorem own_none {p : ByteArray} (hp : p.size ≤ 400) (h : Plain.toks p = none) (w : World) :
    Calls Yaxv.prog 4 #[.string p] w fun e w' => e = .returned (.tuple #[.slice none 0 0, .bool false]) ∧ Below w.heap.size w w' := by
  refine (Own.own_any p hp w).mono ?_
  rintro e w' ⟨hb, he⟩
  rw [h] at he
  exact ⟨he, hb⟩

theorem own_some {p : ByteArray} {ts : List Plain.Tok} (hp : p.size ≤ 400) (h : Plain.toks p = some ts) (w : World) :
    Calls Yaxv.prog 4 #[.string p] w fun e w' => ∃ tv ps, e = .returned (.tuple #[tv, .bool true]) ∧ ps.map Prod.fst = ts ∧ ps.length ≤ 1000 ∧ OToks.OToks w' w.heap.size tv ps ∧ Below w.heap.size w w' := by
  refine (Own.own_any p hp w).mono ?_
  rintro e w' ⟨hb, he⟩
  rw [h] at he
  obtain ⟨tv, ps, h1, h2, h3, h4⟩ := he
  exact ⟨tv, ps, h1, h2, h3, h4, hb⟩

set_option maxHeartbeats 1000000 in
theorem match_none {p s : ByteArray} (hp : p.size ≤ 400) (h : Plain.toks p = none) (w : World) :
    Calls Yaxv.prog 6 #[.string p, .string s] w fun e w' => e = .returned (.tuple #[.bool false, .bool false]) ∧ Below w.heap.size w w' := by
  have H : Hid (Plain.toks p = none) := h
  clear h
  go_enter Yaxv.func6, Yaxv.ntmps6
  go_wp2_with fail
  refine (parse_none hp H.out _).mono ?_
  rintro e w1 ⟨rfl, hb1⟩
  have HB : Hid (Below w.heap.size w w1) := hb1
  clear hb1
  go_wp2_with fail
  go_ret2
  exact ⟨rfl, HB.out⟩

set_option maxHeartbeats 1000000 in
theorem match_some {p s : ByteArray} {ts : List Plain.Tok} (hp : p.size ≤ 400) (hs : s.size ≤ 400) (h : Plain.toks p = some ts) (w : World) :
    Calls Yaxv.prog 6 #[.string p, .string s] w fun e w' => e = .returned (.tuple #[.bool (Plain.matchB s ts), .bool true]) ∧ Below w.heap.size w w' := by
  have H : Hid (Plain.toks p = some ts) := h
  clear h
  go_enter Yaxv.func6, Yaxv.ntmps6
  go_wp2_with fail
  refine (parse_some hp H.out _).mono ?_
  rintro e w1 ⟨tv, ps, rfl, hps, hn, htk, hb1⟩
  have HB : Hid (Below w.heap.size w w1) := hb1
  have HP : Hid (ps.map Prod.fst = ts) := hps
  have HT : Hid (Toks.Toks w1 w.heap.size tv ps) := htk
  have hz := hb1.size
  clear hb1 hps htk
  go_wp2_with fail
  refine (MT.mt_any s hs ps tv w.heap.size hn _ HT.out).mono ?_
  rintro e w2 ⟨rfl, hb2⟩
  have HB2 : Hid (Below w.heap.size w w2) := HB.out.trans (hb2.mono hz)
  clear hb2
  rw [HP.out]
  go_wp2_with fail
  go_ret2
  exact ⟨rfl, HB2.out⟩

set_option maxHeartbeats 1000000 in
theorem law_long (a0 a1 : ByteArray) (w0 : a0.size ≤ maxLen) (w1 : a1.size ≤ maxLen) (h : 400 < a0.size ∨ 400 < a1.size) (w : World) :
    Calls Yaxv.prog 3 #[.string a0, .string a1] w fun e w' => e = .returned (.bool true) ∧ Below w.heap.size w w' := by
  unfold maxLen at w0 w1
  by_cases h0 : 400 < a0.size
  · have h0' : (400 : Int) < (a0.size : Int) := by omega
    go_enter Yaxv.func3, Yaxv.ntmps3
    go_wp2_with fail
    go_ret
    exact ⟨rfl, Below.refl _ _⟩
  · have h1' : (400 : Int) < (a1.size : Int) := by omega
    have h0' : ¬ (400 : Int) < (a0.size : Int) := by omega
    clear h
    go_enter Yaxv.func3, Yaxv.ntmps3
    go_wp2_with fail
    go_ret
    exact ⟨rfl, Below.refl _ _⟩

set_option maxHeartbeats 1000000 in
theorem law_none (a0 a1 : ByteArray) (h0 : a0.size ≤ 400) (h1 : a1.size ≤ 400) (h : Plain.toks a0 = none) (w : World) :
    Calls Yaxv.prog 3 #[.string a0, .string a1] w fun e w' => e = .returned (.bool true) ∧ Below w.heap.size w w' := by
  have H : Hid (Plain.toks a0 = none) := h
  clear h
  have h0' : ¬ (400 : Int) < (a0.size : Int) := by omega
  have h1' : ¬ (400 : Int) < (a1.size : Int) := by omega
  go_enter Yaxv.func3, Yaxv.ntmps3
  go_wp2_with fail
  refine (own_none h0 H.out _).mono ?_
  rintro e w1 ⟨rfl, hb1⟩
  have HB : Hid (Below w.heap.size w w1) := hb1
  have hz := hb1.size
  clear hb1
  go_wp2_with fail
  refine (match_none h0 H.out _).mono ?_
  rintro e w2 ⟨rfl, hb2⟩
  have HB2 : Hid (Below w.heap.size w w2) := HB.out.trans (hb2.mono hz)
  clear hb2
  go_wp2_with fail
  go_ret
  exact ⟨rfl, HB2.out⟩

set_option maxHeartbeats 1000000 in
theorem law_some (a0 a1 : ByteArray) (ts : List Plain.Tok) (h0 : a0.size ≤ 400) (h1 : a1.size ≤ 400) (h : Plain.toks a0 = some ts) (w : World) :
    Calls Yaxv.prog 3 #[.string a0, .string a1] w fun e w' => e = .returned (.bool true) ∧ Below w.heap.size w w' := by
  have H : Hid (Plain.toks a0 = some ts) := h
  clear h
  have h0' : ¬ (400 : Int) < (a0.size : Int) := by omega
  have h1' : ¬ (400 : Int) < (a1.size : Int) := by omega
  go_enter Yaxv.func3, Yaxv.ntmps3
  go_wp2_with fail
  refine (own_some h0 H.out _).mono ?_
  rintro e w1 ⟨tv, ps, rfl, hps, hn, htk, hb1⟩
  have HB : Hid (Below w.heap.size w w1) := hb1
  have HP : Hid (ps.map Prod.fst = ts) := hps
  have HT : Hid (OToks.OToks w1 w.heap.size tv ps) := htk
  have hz := hb1.size
  clear hb1 hps htk
  go_wp2_with fail
  refine (OM.om_any a1 h1 ps tv w.heap.size hn _ HT.out).mono ?_
  rintro e w2 ⟨rfl, hb2⟩
  have HB2 : Hid (Below w.heap.size w w2) := HB.out.trans (hb2.mono hz)
  have hz2 := hb2.size
  clear hb2
  rw [HP.out]
  go_wp2_with fail
  refine (match_some h0 h1 H.out _).mono ?_
  rintro e w3 ⟨rfl, hb3⟩
  have HB3 : Hid (Below w.heap.size w w3) := HB2.out.trans (hb3.mono (by omega))
  clear hb3
  generalize Plain.matchB a1 ts = m at *
  go_wp2_with fail
  go_ret
  exact ⟨ret_bool (by simp), HB3.out⟩

/-- THE LAW's WALK: whatever the two strings: true; nothing old has turned. -/
theorem law_any (a0 a1 : ByteArray) (w0 : a0.size ≤ maxLen) (w1 : a1.size ≤ maxLen) (w : World) :
    Calls Yaxv.prog 3 #[.string a0, .string a1] w fun e w' => e = .returned (.bool true) ∧ Below w.heap.size w w' := by
  by_cases h : 400 < a0.size ∨ 400 < a1.size
  · exact law_long a0 a1 w0 w1 h w
  · cases ht : Plain.toks a0 with
    | none => exact law_none a0 a1 (by omega) (by omega) ht w
    | some ts => exact law_some a0 a1 ts (by omega) (by omega) ht w

end Go.Proofs.Ymwhax.Whole
