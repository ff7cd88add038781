/-
  The walk of 'MatchTokens' (10). By an AI agent.
-/
import Derived.Test.YmwhaxLine
import Derived.Test.YmwhaxToks
import Derived.Test.YmwhaxOne
import Derived.Deep.RegionWith
namespace Go.Proofs.Ymwhax.MT
open Go.RowKit
open Go.Proofs.Ymwhax
open Go.Proofs.Ymwhax.Mem Go.Proofs.Ymwhax.In Go.Proofs.Ymwhax.Toks Go.Proofs.Ymwhax.Line
open Go.Proofs.Ymwhax.Cls (cells4 owns_low)
set_option linter.unusedVariables false

/-- The outer loop's relation. -/
def Rel (s : ByteArray) (ts : List Plain.Tok) (w : World) (i : Value) (wr : World) : Prop :=
  ∃ k : Nat, i = .int .i64 (k : Int) ∧ k ≤ ts.length ∧ Below w.heap.size w wr ∧ bools wr w.heap.size (s.size + 1) (upto s ts k)

/-- The star's loop. -/
def RelS (s : ByteArray) (f : Nat → Bool) (w : World) (jv : Value) (wi : World) : Prop :=
  ∃ j : Nat, jv = .int .i64 ((j : Int) + 1) ∧ j ≤ s.size ∧ Below w.heap.size w wi ∧ bools wi w.heap.size (s.size + 1) (starRow f (j + 1))

/-- The other loop: X: the token's box. -/
def RelN (s : ByteArray) (f : Nat → Bool) (t : Plain.Tok) (v : Value) (w : World) (X base : Nat) (jv : Value) (wi : World) : Prop :=
  ∃ j : Nat, jv = .int .i64 (j : Int) ∧ j ≤ s.size ∧ Below w.heap.size w wi ∧ bools wi w.heap.size (s.size + 1) (oneRow s t f j) ∧
    wi.heap[X]? = some (.cells #[.int .i64 (t.kind : Int), .int .u8 (t.c.toNat : Int), .bool t.neg, v] 42 (0, 0)) ∧ wi.ownsRow base 48 2 v t.rs.length (flat t.rs)

theorem RelN.drew {s : ByteArray} {f : Nat → Bool} {t : Plain.Tok} {v : Value} {w : World} {X base : Nat} {jv : Value} {wi : World} (h : RelN s f t v w X base jv wi) : RelN s f t v w X base jv wi.drew := by
  obtain ⟨j, h1, h2, h3, h4, h5, h6⟩ := h
  exact ⟨j, h1, h2, h3.drew, h4.drew, h5, h6⟩

theorem relN_step {s : ByteArray} {f : Nat → Bool} {t : Plain.Tok} {v : Value} {w wx : World} {X base j m : Nat} {x : Bool} (hm : j = m + 1) (hi1 : m < s.size) (hX : w.heap.size < X) (hb : Below w.heap.size w wx) (hr : bools wx w.heap.size (s.size + 1) (oneRow s t f j))
    (hx : wx.heap[X]? = some (.cells #[.int .i64 (t.kind : Int), .int .u8 (t.c.toNat : Int), .bool t.neg, v] 42 (0, 0))) (hv : wx.ownsRow base 48 2 v t.rs.length (flat t.rs)) (e : x = (f m && Plain.ok1 t (s[m]))) :
    RelN s f t v w X base (.int .i64 (m : Int)) (wx.setCell ⟨w.heap.size, j, none⟩ (.bool x)) := by
  subst hm
  refine ⟨m, rfl, by omega, hb.setCell (Nat.le_refl _) _, hr.set (m + 1) x (fun i _ => by rw [oneRow_step, e, Plain.bt_eq s m hi1]), ?_, owns_set (by decide) hv hr⟩
  rw [Below.heap_setCell _ _ _ _ (by simp; omega)]
  exact hx

theorem slice_shape {w : World} {base : Nat} {e : TypeId} {size : Nat} {v : Value} {n : Nat} {xs : List Value} (h : w.ownsRow base e size v n xs) : ∃ ad l c, v = .slice ad l c := by
  rcases h.2 with ⟨hv, _⟩ | ⟨g, cap, _, hv, _⟩
  · exact ⟨_, _, _, hv⟩
  · exact ⟨_, _, _, hv⟩

set_option maxRecDepth 100000 in
set_option maxHeartbeats 4000000 in
theorem mt_some (s : ByteArray) (hs : s.size ≤ 400) (ps : List (Plain.Tok × Value)) (g cap base : Nat) (hn : ps.length ≤ 1000) (w : World) (htk : Toks w base (.slice (some ⟨g, 0, none⟩) ps.length cap) ps) :
    Calls Yaxv.prog 10 #[.slice (some ⟨g, 0, none⟩) ps.length cap, .string s] w fun e w' => e = .returned (.bool (Plain.matchB s (ps.map Prod.fst))) ∧ Below w.heap.size w w' := by
  have hmk := run_make_row' (P := Yaxv.prog) 34 4 (.bool false) 1 Yaxv.underlying34 info4 rfl .i64 .i64 (s.size + 1) (by omega) (by omega)
  have ec : ((s.size + 1 : Nat) : Int) = (s.size : Int) + 1 := by omega
  rw [ec] at hmk
  clear ec
  have HT : Hid (Toks w base (.slice (some ⟨g, 0, none⟩) ps.length cap) ps) := htk
  clear htk
  have h0 := made0 s.size
  go_enter Yaxv.func10, Yaxv.ntmps10
  go_wp2_with fail
  go_loopw [18] (fun i wr => Rel s (ps.map Prod.fst) w i wr) (fun i _ => ps.length - (intOf i).toNat)
  case atStart => exact ⟨0, rfl, Nat.zero_le _, (Below.refl _ _).alloc (Nat.le_refl _) _, bools.first _ _⟩
  case round =>
    clear hmk h0
    obtain ⟨k, rfl, hk, hbl, hrow⟩ := hrel
    simp only [List.length_map] at hk
    obtain ⟨wo, hwo⟩ : ∃ wo, wo = wr := ⟨_, rfl⟩
    subst hwo
    obtain ⟨f, hf⟩ : ∃ f, upto s (ps.map Prod.fst) k = f := ⟨_, rfl⟩
    rw [hf] at hrow
    have HF : Hid (upto s (ps.map Prod.fst) k = f) := hf
    clear hf
    have HRow : Hid (bools wo w.heap.size (s.size + 1) f) := hrow
    have HB : Hid (Below w.heap.size w wo) := hbl
    have hsz := hbl.size
    have hbw : w.heap.size < wo.heap.size := hrow.lt
    by_cases hlt : k < ps.length
    · have htk := HT.out.later hbl
      have HU : Hid (upto s (ps.map Prod.fst) (k + 1) = Plain.stepB s f ps[k].1) := by
        have := upto_succ s (ps.map Prod.fst) k (by simpa using hlt)
        rw [HF.out] at this
        rw [List.getElem_map] at this
        exact this
      have c0 : wo.cell? ⟨g, k * 4, none⟩ = some (.int .i64 (ps[k].1.kind : Int)) := by rw [htk.row.cellAt _ (by omega), show k * 4 = k * 4 + 0 by rfl, cellsV_at ps k 0 hlt (by omega)]; rfl
      have c1 : wo.cell? ⟨g, k * 4 + 1, none⟩ = some (.int .u8 (ps[k].1.c.toNat : Int)) := by rw [htk.row.cellAt _ (by omega), cellsV_at ps k 1 hlt (by omega)]; rfl
      have c2 : wo.cell? ⟨g, k * 4 + 2, none⟩ = some (.bool ps[k].1.neg) := by rw [htk.row.cellAt _ (by omega), cellsV_at ps k 2 hlt (by omega)]; rfl
      have c3 : wo.cell? ⟨g, k * 4 + 3, none⟩ = some ps[k].2 := by rw [htk.row.cellAt _ (by omega), cellsV_at ps k 3 hlt (by omega)]; rfl
      obtain ⟨hk3, hrn, hrv⟩ := htk.each ps[k] (List.getElem_mem hlt)
      generalize ps[k] = p at *
      obtain ⟨t, v⟩ := p
      simp only at c0 c1 c2 c3 hk3 hrn hrv HU
      obtain ⟨ad, l, c, rfl⟩ := slice_shape hrv
      have HV : Hid (wo.ownsRow base 48 2 (.slice ad l c) t.rs.length (flat t.rs)) := hrv
      clear hrv htk hrow hbl
      by_cases hk2 : t.kind = 2
      · have e2 : ((t.kind : Int) == 2) = true := by rw [hk2]; rfl
        go_wp2_with fail
        go_loopw [8] (fun jv wi => RelS s f w jv wi) (fun jv _ => s.size + 1 - (intOf jv).toNat)
        case atStart => exact ⟨0, rfl, by omega, HB.out.alloc hsz _, (HRow.out.alloc _).congr (fun i _ => (starRow_start f i).symm)⟩
        case round =>
          obtain ⟨j, rfl, hj, hbi, hri⟩ := hrel
          have HBi : Hid (Below w.heap.size w wr) := hbi
          have HRi : Hid (bools wr w.heap.size (s.size + 1) (starRow f (j + 1))) := hri
          clear c0 c1 c2 c3 hbi
          by_cases hj2 : j < s.size
          · have d0 : wr.cell? ⟨w.heap.size, j + 1, none⟩ = some (.bool (f (j + 1))) := by rw [hri.cell (by omega), starRow_at]
            have d1 : wr.cell? ⟨w.heap.size, j, none⟩ = some (.bool (Plain.starB f j)) := by rw [hri.cell (by omega), starRow_pred]
            have df := fun i => hri.frozen i
            have HS : Hid (∀ x : Bool, x = (f (j + 1) || Plain.starB f j) → bools (wr.setCell ⟨w.heap.size, j + 1, none⟩ (.bool x)) w.heap.size (s.size + 1) (starRow f (j + 1 + 1))) := fun x hx => hri.set (j + 1) x fun i _ => by rw [starRow_step, hx]
            clear hri
            generalize f (j + 1) = a at *
            generalize Plain.starB f j = b at *
            cases a
            all_goals
              go_wp2_with fail
              go_roundw
              case rel => exact ⟨j + 1, by go_num, by omega, HBi.out.setCell (Nat.le_refl _) _, HS.out _ rfl⟩
              case measure => simp [intOf]; omega
          · clear hri
            go_wp2_with fail
            go_roundw
            case rel => exact ⟨k + 1, by go_num, by simp; omega, HBi.out, HRi.out.congr (fun i hi => by rw [HU.out, stepB_star s f t hk2, starRow_end f (j + 1) i (by omega)])⟩
            case measure => simp [intOf]; omega
      · have e2 : ((t.kind : Int) == 2) = false := by rw [beq_eq_false_iff_ne]; omega
        go_wp2_with fail
        go_loopw [9] (fun jv wi => RelN s f t (.slice ad l c) w wo.heap.size base jv wi) (fun jv _ => (intOf jv).toNat)
        case atStart => exact ⟨s.size, rfl, Nat.le_refl _, HB.out.alloc hsz _, (HRow.out.alloc _).congr (fun i hi => (oneRow_start s t f s.size i hi).symm), heap_alloc_new _ _, HV.out.alloc _⟩
        case round =>
          obtain ⟨j, rfl, hj, hbi, hri, hxi, hvi⟩ := hrel
          have HBi : Hid (Below w.heap.size w wr) := hbi
          have HRi : Hid (bools wr w.heap.size (s.size + 1) (oneRow s t f j)) := hri
          have HXi : Hid (wr.heap[wo.heap.size]? = some (.cells #[.int .i64 (t.kind : Int), .int .u8 (t.c.toNat : Int), .bool t.neg, .slice ad l c] 42 (0, 0))) := hxi
          have HVi : Hid (wr.ownsRow base 48 2 (.slice ad l c) t.rs.length (flat t.rs)) := hvi
          clear c0 c1 c2 c3 hbi
          by_cases hj1 : 1 ≤ j
          · obtain ⟨m, hm⟩ : ∃ m, j = m + 1 := ⟨j - 1, by omega⟩
            have hi1 : m < s.size := by omega
            have d0 : wr.cell? ⟨w.heap.size, m, none⟩ = some (.bool (f m)) := by
              have := oneRow_pred s t f m
              rw [← hm] at this
              rw [hri.cell (by omega), this]
            have d1 : wr.cell? ⟨w.heap.size, j, none⟩ = some (.bool (oneRow s t f j j)) := hri.cell (by omega)
            have df := fun i => hri.frozen i
            obtain ⟨x0, x1, x2, x3, xf⟩ := cells4 hxi
            have hbr : w.heap.size < wr.heap.size := hri.lt
            have hxr : wo.heap.size < wr.heap.size := lt_of_block hxi
            have hwr : IntKind.i64.wrap ((j : Int) - 1) = (m : Int) := by rw [IntKind.wrap_i64]; omega
            have b1 : (m : Int) < (s.size : Int) + 1 := by omega
            have b2 : (j : Int) < (s.size : Int) + 1 := by omega
            have b3 : (m : Int) < (s.size : Int) := by omega
            have HM : Hid (j = m + 1) := hm
            clear hri hxi hvi hm
            generalize oneRow s t f j j = q at *
            generalize hfa : f m = a at *
            have HA : Hid (f m = a) := hfa
            clear hfa
            cases a
            · go_wp2_with fail
              go_region
              all_goals go_wp2_with fail
              all_goals
                go_roundw
                case rel => exact (relN_step HM.out hi1 hbw HBi.out HRi.out HXi.out HVi.out (by rw [HA.out]; rfl)).drew
                case measure => have := HM.out; simp [intOf]; omega
            · go_wp2_with fail
              go_region_with (go_at_call 13; refine (One.matchOne_any t (.slice ad l c) (s[m]) _ base hk2 hk3 hrn (by exact HVi.out)).mono ?_; rintro e w1 ⟨rfl, hb1⟩; have g1 : w1.cell? ⟨w.heap.size, j, none⟩ = some (.bool q) := (by rw [hb1.cell (p := ⟨w.heap.size, j, none⟩) hbr]; exact d1); have g2 : w1.frozen? ⟨w.heap.size, j, none⟩ = false := (by rw [hb1.frozen (p := ⟨w.heap.size, j, none⟩) hbr]; exact df j))
              all_goals go_wp2_with fail
              all_goals
                have hb2 : Below wr.heap.size wr w1 := ((Below.refl _ _).drew).trans hb1
                go_roundw
                case rel => exact relN_step HM.out hi1 hbw (HBi.out.trans (hb2.mono (by omega))) (HRi.out.later hb2) ((hb2.block _ hxr).trans HXi.out) (ownsRow_later HVi.out hb2) (by rw [HA.out, Bool.true_and])
                case measure => have := HM.out; simp [intOf]; omega
          · obtain rfl : j = 0 := by omega
            have d0 : wr.cell? ⟨w.heap.size, 0, none⟩ = some (.bool (oneRow s t f 0 0)) := hri.cell (by omega)
            have df := fun i => hri.frozen i
            clear hri hxi hvi
            go_wp2_with fail
            go_roundw
            case rel => exact ⟨k + 1, by go_num, by simp; omega, HBi.out.setCell (Nat.le_refl _) _, HRi.out.set 0 false (fun i hi => by rw [HU.out, stepB_one s f t hk2, oneRow_end])⟩
            case measure => simp [intOf]; omega
    · have hc : wo.cell? ⟨w.heap.size, s.size, none⟩ = some (.bool (f s.size)) := hrow.cell (by omega)
      clear hrow hbl
      go_wp2_with fail
      go_ret
      exact ⟨ret_bool (by rw [← HF.out, upto_all _ _ _ (by simpa using hlt)]), HB.out⟩

set_option maxRecDepth 100000 in
set_option maxHeartbeats 4000000 in
theorem mt_nil (s : ByteArray) (hs : s.size ≤ 400) (w : World) :
    Calls Yaxv.prog 10 #[.slice none 0 0, .string s] w fun e w' => e = .returned (.bool (Plain.matchB s [])) ∧ Below w.heap.size w w' := by
  have hmk := run_make_row' (P := Yaxv.prog) 34 4 (.bool false) 1 Yaxv.underlying34 info4 rfl .i64 .i64 (s.size + 1) (by omega) (by omega)
  have ec : ((s.size + 1 : Nat) : Int) = (s.size : Int) + 1 := by omega
  rw [ec] at hmk
  clear ec
  have h0 := made0 s.size
  have hc : (w.alloc (.cells ((madeCells #[.bool false] (s.size + 1)).setIfInBounds 0 (.bool true)) 4)).cell? ⟨w.heap.size, s.size, none⟩ = some (.bool (Plain.beg s.size)) := (bools.first w s.size).cell (by omega)
  have HE : Hid (Plain.beg s.size = Plain.matchB s []) := rfl
  generalize Plain.beg s.size = b at *
  go_enter Yaxv.func10, Yaxv.ntmps10
  go_wp2_with fail
  refine wp_loop_rounds 1 ?_
  rw [rounds_succ]
  go_wp2_with fail
  go_ret
  exact ⟨ret_bool HE.out, (Below.refl _ _).alloc (Nat.le_refl _) _⟩

theorem mt_any (s : ByteArray) (hs : s.size ≤ 400) (ps : List (Plain.Tok × Value)) (tv : Value) (base : Nat) (hn : ps.length ≤ 1000) (w : World) (htk : Toks w base tv ps) :
    Calls Yaxv.prog 10 #[tv, .string s] w fun e w' => e = .returned (.bool (Plain.matchB s (ps.map Prod.fst))) ∧ Below w.heap.size w w' := by
  rcases htk.row.2 with ⟨rfl, h0⟩ | ⟨g, cap, cur, rfl, _⟩
  · obtain rfl := List.eq_nil_of_length_eq_zero h0
    exact mt_nil s hs w
  · exact mt_some s hs ps g cap base hn w htk

end Go.Proofs.Ymwhax.MT
