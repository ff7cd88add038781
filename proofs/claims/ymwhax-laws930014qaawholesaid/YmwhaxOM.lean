/-
  The walk of 'zzs930014qaamatch' (5). By an AI agent.
-/
import Derived.Test.YmwhaxLine
import Derived.Test.YmwhaxOToks
import Derived.Deep.RegionWith
namespace Go.Proofs.Ymwhax.OM
open Go.RowKit
open Go.Proofs.Ymwhax
open Go.Proofs.Ymwhax.Mem Go.Proofs.Ymwhax.In Go.Proofs.Ymwhax.OToks Go.Proofs.Ymwhax.Line
open Go.Proofs.Ymwhax.One (los his)
set_option linter.unusedVariables false

/-- The outer loop's relation: C: the block of the row 'cur'. -/
def Rel (s : ByteArray) (ts : List Plain.Tok) (w : World) (cv i : Value) (wr : World) : Prop :=
  ∃ k C : Nat, i = .int .i64 (k : Int) ∧ cv = .slice (some ⟨C, 0, none⟩) (s.size + 1) (s.size + 1) ∧ k ≤ ts.length ∧ w.heap.size ≤ C ∧ Below w.heap.size w wr ∧ bools wr C (s.size + 1) (upto s ts k)

/-- The star's loop: N: the block of the row 'nxt'. -/
def RelS (s : ByteArray) (f : Nat → Bool) (w : World) (C N : Nat) (sv jv : Value) (wi : World) : Prop :=
  ∃ j : Nat, jv = .int .i64 (j : Int) ∧ sv = .bool (seenB f j) ∧ j ≤ s.size + 1 ∧ Below w.heap.size w wi ∧ bools wi C (s.size + 1) f ∧ bools wi N (s.size + 1) (newStar f j)

/-- The other loop: X: the token's box. -/
def RelN (s : ByteArray) (f : Nat → Bool) (t : Plain.Tok) (lo hi : Value) (w : World) (C N X base : Nat) (jv : Value) (wi : World) : Prop :=
  ∃ j : Nat, jv = .int .i64 (j : Int) ∧ j ≤ s.size ∧ Below w.heap.size w wi ∧ bools wi C (s.size + 1) f ∧ bools wi N (s.size + 1) (newOne s t f j) ∧
    wi.heap[X]? = some (.cells #[.int .i64 (t.kind : Int), .int .u8 (t.c.toNat : Int), .bool t.neg, lo, hi] 31 (0, 0)) ∧ wi.ownsRow base 5 1 lo t.rs.length (los t.rs) ∧ wi.ownsRow base 5 1 hi t.rs.length (his t.rs)

theorem RelN.drew {s : ByteArray} {f : Nat → Bool} {t : Plain.Tok} {lo hi : Value} {w : World} {C N X base : Nat} {jv : Value} {wi : World} (h : RelN s f t lo hi w C N X base jv wi) : RelN s f t lo hi w C N X base jv wi.drew := by
  obtain ⟨j, h1, h2, h3, h4, h5, h6, h7, h8⟩ := h
  exact ⟨j, h1, h2, h3.drew, h4.drew, h5.drew, h6, h7, h8⟩

/-- The byte was taken: 'nxt[j+1] = true'. -/
theorem relN_yes {s : ByteArray} {f : Nat → Bool} {t : Plain.Tok} {lo hi : Value} {w wx : World} {C N X base j : Nat} (hi1 : j < s.size) (hN : w.heap.size ≤ N) (hCN : C ≠ N) (hXN : X ≠ N) (hb : Below w.heap.size w wx) (hc : bools wx C (s.size + 1) f) (hn : bools wx N (s.size + 1) (newOne s t f j))
    (hx : wx.heap[X]? = some (.cells #[.int .i64 (t.kind : Int), .int .u8 (t.c.toNat : Int), .bool t.neg, lo, hi] 31 (0, 0))) (hlo : wx.ownsRow base 5 1 lo t.rs.length (los t.rs)) (hhi : wx.ownsRow base 5 1 hi t.rs.length (his t.rs)) (e : (f j && Plain.ok1 t (s[j])) = true) :
    RelN s f t lo hi w C N X base (.int .i64 ((j : Int) + 1)) (wx.setCell ⟨N, j + 1, none⟩ (.bool true)) := by
  refine ⟨j + 1, by go_num, by omega, hb.setCell hN _, hc.other hCN _, hn.set (j + 1) true (fun i _ => by rw [newOne_step, ← Plain.bt_eq s j hi1, e]), ?_, owns_set (by decide) hlo hn, owns_set (by decide) hhi hn⟩
  rw [Below.heap_setCell _ _ _ _ hXN]
  exact hx

/-- It was not. -/
theorem relN_no {s : ByteArray} {f : Nat → Bool} {t : Plain.Tok} {lo hi : Value} {w wx : World} {C N X base j : Nat} (hi1 : j < s.size) (hb : Below w.heap.size w wx) (hc : bools wx C (s.size + 1) f) (hn : bools wx N (s.size + 1) (newOne s t f j))
    (hx : wx.heap[X]? = some (.cells #[.int .i64 (t.kind : Int), .int .u8 (t.c.toNat : Int), .bool t.neg, lo, hi] 31 (0, 0))) (hlo : wx.ownsRow base 5 1 lo t.rs.length (los t.rs)) (hhi : wx.ownsRow base 5 1 hi t.rs.length (his t.rs)) (e : (f j && Plain.ok1 t (s[j])) = false) :
    RelN s f t lo hi w C N X base (.int .i64 ((j : Int) + 1)) wx :=
  ⟨j + 1, by go_num, by omega, hb, hc, hn.congr (fun i _ => by rw [newOne_no s t f j i (by rw [← Plain.bt_eq s j hi1]; exact e)]), hx, hlo, hhi⟩

theorem made_next (w : World) (o : Obj) (n : Nat) : bools ((w.alloc o).alloc (.cells (madeCells #[.bool false] n) 4)) (w.heap.size + 1) n (fun _ => false) := by
  have := bools.made (w.alloc o) n
  rw [World.size_alloc] at this
  exact this

theorem slice_shape {w : World} {base : Nat} {e : TypeId} {size : Nat} {v : Value} {n : Nat} {xs : List Value} (h : w.ownsRow base e size v n xs) : ∃ ad l c, v = .slice ad l c := by
  rcases h.2 with ⟨hv, _⟩ | ⟨g, cap, _, hv, _⟩
  · exact ⟨_, _, _, hv⟩
  · exact ⟨_, _, _, hv⟩

set_option maxRecDepth 100000 in
set_option maxHeartbeats 4000000 in
theorem om_some (s : ByteArray) (hs : s.size ≤ 400) (ps : List (Plain.Tok × Value × Value)) (g cap base : Nat) (hn : ps.length ≤ 1000) (w : World) (htk : OToks w base (.slice (some ⟨g, 0, none⟩) ps.length cap) ps) :
    Calls Yaxv.prog 5 #[.slice (some ⟨g, 0, none⟩) ps.length cap, .string s] w fun e w' => e = .returned (.bool (Plain.matchB s (ps.map Prod.fst))) ∧ Below w.heap.size w w' := by
  have hmk := run_make_row' (P := Yaxv.prog) 34 4 (.bool false) 1 Yaxv.underlying34 info4 rfl .i64 .i64 (s.size + 1) (by omega) (by omega)
  have ec : ((s.size + 1 : Nat) : Int) = (s.size : Int) + 1 := by omega
  rw [ec] at hmk
  clear ec
  have HT : Hid (OToks w base (.slice (some ⟨g, 0, none⟩) ps.length cap) ps) := htk
  clear htk
  have h0 := made0 s.size
  go_enter Yaxv.func5, Yaxv.ntmps5
  go_wp2_with fail
  go_loopw [6, 22] (fun cv i wr => Rel s (ps.map Prod.fst) w cv i wr) (fun _ i _ => ps.length - (intOf i).toNat)
  case atStart => exact ⟨0, w.heap.size, rfl, rfl, Nat.zero_le _, Nat.le_refl _, (Below.refl _ _).alloc (Nat.le_refl _) _, bools.first _ _⟩
  case round =>
    clear h0
    obtain ⟨k, C, rfl, rfl, hk, hwC, hbl, hrow⟩ := hrel
    simp only [List.length_map] at hk
    obtain ⟨wo, hwo⟩ : ∃ wo, wo = wr := ⟨_, rfl⟩
    subst hwo
    obtain ⟨f, hf⟩ : ∃ f, upto s (ps.map Prod.fst) k = f := ⟨_, rfl⟩
    rw [hf] at hrow
    have HF : Hid (upto s (ps.map Prod.fst) k = f) := hf
    clear hf
    have HRow : Hid (bools wo C (s.size + 1) f) := hrow
    have HB : Hid (Below w.heap.size w wo) := hbl
    have hsz := hbl.size
    have hbw : C < wo.heap.size := hrow.lt
    by_cases hlt : k < ps.length
    · have htk := HT.out.later hbl
      have HU : Hid (upto s (ps.map Prod.fst) (k + 1) = Plain.stepB s f ps[k].1) := by
        have := upto_succ s (ps.map Prod.fst) k (by simpa using hlt)
        rw [HF.out] at this
        rw [List.getElem_map] at this
        exact this
      have c0 : wo.cell? ⟨g, k * 5, none⟩ = some (.int .i64 (ps[k].1.kind : Int)) := by rw [htk.row.cellAt _ (by omega), show k * 5 = k * 5 + 0 by rfl, cellsO_at ps k 0 hlt (by omega)]; rfl
      have c1 : wo.cell? ⟨g, k * 5 + 1, none⟩ = some (.int .u8 (ps[k].1.c.toNat : Int)) := by rw [htk.row.cellAt _ (by omega), cellsO_at ps k 1 hlt (by omega)]; rfl
      have c2 : wo.cell? ⟨g, k * 5 + 2, none⟩ = some (.bool ps[k].1.neg) := by rw [htk.row.cellAt _ (by omega), cellsO_at ps k 2 hlt (by omega)]; rfl
      have c3 : wo.cell? ⟨g, k * 5 + 3, none⟩ = some ps[k].2.1 := by rw [htk.row.cellAt _ (by omega), cellsO_at ps k 3 hlt (by omega)]; rfl
      have c4 : wo.cell? ⟨g, k * 5 + 4, none⟩ = some ps[k].2.2 := by rw [htk.row.cellAt _ (by omega), cellsO_at ps k 4 hlt (by omega)]; rfl
      obtain ⟨hk3, hrn, hrlo, hrhi⟩ := htk.each ps[k] (List.getElem_mem hlt)
      generalize ps[k] = p at *
      obtain ⟨t, lo, hi⟩ := p
      simp only at c0 c1 c2 c3 c4 hk3 hrn hrlo hrhi HU
      obtain ⟨ad, l, c, rfl⟩ := slice_shape hrlo
      obtain ⟨ad', l', c', rfl⟩ := slice_shape hrhi
      have HLo : Hid (wo.ownsRow base 5 1 (.slice ad l c) t.rs.length (los t.rs)) := hrlo
      have HHi : Hid (wo.ownsRow base 5 1 (.slice ad' l' c') t.rs.length (his t.rs)) := hrhi
      clear hrlo hrhi htk hrow hbl
      by_cases hk2 : t.kind = 2
      · have e2 : ((t.kind : Int) == 2) = true := by rw [hk2]; rfl
        go_wp2_with fail
        go_loopw [10, 11] (fun sv jv wi => RelS s f w C (wo.heap.size + 1) sv jv wi) (fun _ jv _ => s.size + 1 - (intOf jv).toNat)
        case atStart => exact ⟨0, rfl, rfl, by omega, (HB.out.alloc hsz _).alloc (by simp; omega) _, (HRow.out.alloc _).alloc _, (made_next wo _ _).congr (fun i _ => (newStar_start f i).symm)⟩
        case round =>
          clear hmk c0 c1 c2 c3 c4
          obtain ⟨j, rfl, rfl, hj, hbi, hci, hni⟩ := hrel
          have HBi : Hid (Below w.heap.size w wr) := hbi
          have HNi : Hid (bools wr (wo.heap.size + 1) (s.size + 1) (newStar f j)) := hni
          have HCi : Hid (bools wr C (s.size + 1) f) := hci
          by_cases hj2 : j ≤ s.size
          · have d0 : wr.cell? ⟨C, j, none⟩ = some (.bool (f j)) := hci.cell (by omega)
            have d1 : wr.cell? ⟨wo.heap.size + 1, j, none⟩ = some (.bool (newStar f j j)) := hni.cell (by omega)
            have df := fun i => hni.frozen i
            have HS : Hid (seenB f (j + 1) = (seenB f j || f j)) := seenB_succ f j
            have HW : Hid (∀ x : Bool, x = seenB f (j + 1) → bools (wr.setCell ⟨wo.heap.size + 1, j, none⟩ (.bool x)) (wo.heap.size + 1) (s.size + 1) (newStar f (j + 1))) := fun x hx => hni.set j x fun i _ => by rw [newStar_step, hx]
            clear hbi hci hni
            generalize newStar f j j = q at *
            generalize f j = b at *
            generalize seenB f j = a at *
            cases a
            all_goals
              go_wp2_with fail
              go_roundw
              case rel => exact ⟨j + 1, by go_num, by rw [HS.out]; rfl, by omega, HBi.out.setCell (by simp; omega) _, HCi.out.other (by simp; omega) _, HW.out _ (by rw [HS.out]; rfl)⟩
              case measure => simp [intOf]; omega
          · clear hbi hci hni
            go_wp2_with fail
            go_roundw
            case rel => exact ⟨k + 1, wo.heap.size + 1, by go_num, rfl, by simp; omega, by omega, HBi.out, HNi.out.congr (fun i hi => by rw [HU.out, stepB_star s f t hk2, newStar_end f j i (by omega)])⟩
            case measure => simp [intOf]; omega
      · have e2 : ((t.kind : Int) == 2) = false := by rw [beq_eq_false_iff_ne]; omega
        go_wp2_with fail
        go_loopw [12] (fun jv wi => RelN s f t (.slice ad l c) (.slice ad' l' c') w C (wo.heap.size + 1) wo.heap.size base jv wi) (fun jv _ => s.size - (intOf jv).toNat)
        case atStart => exact ⟨0, rfl, by omega, (HB.out.alloc hsz _).alloc (by simp; omega) _, (HRow.out.alloc _).alloc _, (made_next wo _ _).congr (fun i _ => (newOne_start s t f i).symm), by rw [Below.heap_alloc _ _ _ (by simp)]; exact heap_alloc_new _ _, (HLo.out.alloc _).alloc _, (HHi.out.alloc _).alloc _⟩
        case round =>
          clear hmk c0 c1 c2 c3 c4
          obtain ⟨j, rfl, hj, hbi, hci, hni, hxi, hli, hhi⟩ := hrel
          have HBi : Hid (Below w.heap.size w wr) := hbi
          have HNi : Hid (bools wr (wo.heap.size + 1) (s.size + 1) (newOne s t f j)) := hni
          have HCi : Hid (bools wr C (s.size + 1) f) := hci
          have HXi : Hid (wr.heap[wo.heap.size]? = some (.cells #[.int .i64 (t.kind : Int), .int .u8 (t.c.toNat : Int), .bool t.neg, .slice ad l c, .slice ad' l' c'] 31 (0, 0))) := hxi
          have HLi : Hid (wr.ownsRow base 5 1 (.slice ad l c) t.rs.length (los t.rs)) := hli
          have HHi' : Hid (wr.ownsRow base 5 1 (.slice ad' l' c') t.rs.length (his t.rs)) := hhi
          by_cases hj2 : j < s.size
          · have d0 : wr.cell? ⟨C, j, none⟩ = some (.bool (f j)) := hci.cell (by omega)
            have d1 : wr.cell? ⟨wo.heap.size + 1, j + 1, none⟩ = some (.bool (newOne s t f j (j + 1))) := hni.cell (by omega)
            have df := fun i => hni.frozen i
            obtain ⟨x0, x1, x2, x3, x4, xf⟩ := cells5 hxi
            have hnr : wo.heap.size + 1 < wr.heap.size := hni.lt
            have b1 : (j : Int) < (s.size : Int) + 1 := by omega
            have b3 : (j : Int) < (s.size : Int) := by omega
            clear hbi hci hni hxi hli hhi
            generalize newOne s t f j (j + 1) = q at *
            generalize hfa : f j = a at *
            have HA : Hid (f j = a) := hfa
            clear hfa
            cases a
            · go_wp2_with fail
              go_region
              all_goals go_wp2_with fail
              all_goals
                go_roundw
                case rel => exact (relN_no hj2 HBi.out HCi.out HNi.out HXi.out HLi.out HHi'.out (by rw [HA.out]; rfl)).drew
                case measure => simp [intOf]; omega
            · obtain ⟨b, hb⟩ : ∃ b, Plain.ok1 t (s[j]) = b := ⟨_, rfl⟩
              have HO : Hid (Plain.ok1 t (s[j]) = b) := hb
              clear hb
              cases b
              · go_wp2_with fail
                go_region_with (go_at_call 8; refine (One.one_any t (.slice ad l c) (.slice ad' l' c') (s[j]) _ base hk2 hk3 hrn (by exact HLi.out) (by exact HHi'.out)).mono ?_; rintro e w1 ⟨rfl, hb1⟩; rw [HO.out])
                all_goals go_wp2_with fail
                all_goals
                  have hb2 : Below wr.heap.size wr w1 := ((Below.refl _ _).drew).trans hb1
                  go_roundw
                  case rel => exact relN_no hj2 (HBi.out.trans (hb2.mono (by omega))) (HCi.out.later hb2) (HNi.out.later hb2) ((hb2.block _ (by omega)).trans HXi.out) (ownsRow_later HLi.out hb2) (ownsRow_later HHi'.out hb2) (by rw [HA.out, HO.out]; rfl)
                  case measure => simp [intOf]; omega
              · go_wp2_with fail
                go_region_with (go_at_call 8; refine (One.one_any t (.slice ad l c) (.slice ad' l' c') (s[j]) _ base hk2 hk3 hrn (by exact HLi.out) (by exact HHi'.out)).mono ?_; rintro e w1 ⟨rfl, hb1⟩; rw [HO.out])
                all_goals (have g1 : w1.cell? ⟨wo.heap.size + 1, j + 1, none⟩ = some (.bool q) := (by rw [hb1.cell (p := ⟨wo.heap.size + 1, j + 1, none⟩) hnr]; exact d1); have g2 : w1.frozen? ⟨wo.heap.size + 1, j + 1, none⟩ = false := (by rw [hb1.frozen (p := ⟨wo.heap.size + 1, j + 1, none⟩) hnr]; exact df (j + 1)))
                all_goals go_wp2_with fail
                all_goals
                  have hb2 : Below wr.heap.size wr w1 := ((Below.refl _ _).drew).trans hb1
                  go_roundw
                  case rel => exact relN_yes hj2 (by omega) (by omega) (by omega) (HBi.out.trans (hb2.mono (by omega))) (HCi.out.later hb2) (HNi.out.later hb2) ((hb2.block _ (by omega)).trans HXi.out) (ownsRow_later HLi.out hb2) (ownsRow_later HHi'.out hb2) (by rw [HA.out, HO.out]; rfl)
                  case measure => simp [intOf]; omega
          · clear hbi hci hni hxi hli hhi
            go_wp2_with fail
            go_roundw
            case rel => exact ⟨k + 1, wo.heap.size + 1, by go_num, rfl, by simp; omega, by omega, HBi.out, HNi.out.congr (fun i hi => by rw [HU.out, stepB_one s f t hk2, newOne_end s t f j i (by omega)])⟩
            case measure => simp [intOf]; omega
    · have hc : wo.cell? ⟨C, s.size, none⟩ = some (.bool (f s.size)) := hrow.cell (by omega)
      clear hrow hbl hmk
      go_wp2_with fail
      go_ret
      exact ⟨ret_bool (by rw [← HF.out, upto_all _ _ _ (by simpa using hlt)]), HB.out⟩

set_option maxRecDepth 100000 in
set_option maxHeartbeats 4000000 in
theorem om_nil (s : ByteArray) (hs : s.size ≤ 400) (w : World) :
    Calls Yaxv.prog 5 #[.slice none 0 0, .string s] w fun e w' => e = .returned (.bool (Plain.matchB s [])) ∧ Below w.heap.size w w' := by
  have hmk := run_make_row' (P := Yaxv.prog) 34 4 (.bool false) 1 Yaxv.underlying34 info4 rfl .i64 .i64 (s.size + 1) (by omega) (by omega)
  have ec : ((s.size + 1 : Nat) : Int) = (s.size : Int) + 1 := by omega
  rw [ec] at hmk
  clear ec
  have h0 := made0 s.size
  have hc : (w.alloc (.cells ((madeCells #[.bool false] (s.size + 1)).setIfInBounds 0 (.bool true)) 4)).cell? ⟨w.heap.size, s.size, none⟩ = some (.bool (Plain.beg s.size)) := (bools.first w s.size).cell (by omega)
  have HE : Hid (Plain.beg s.size = Plain.matchB s []) := rfl
  generalize Plain.beg s.size = b at *
  go_enter Yaxv.func5, Yaxv.ntmps5
  go_wp2_with fail
  refine wp_loop_rounds 1 ?_
  rw [rounds_succ]
  go_wp2_with fail
  go_ret
  exact ⟨ret_bool HE.out, (Below.refl _ _).alloc (Nat.le_refl _) _⟩

theorem om_any (s : ByteArray) (hs : s.size ≤ 400) (ps : List (Plain.Tok × Value × Value)) (tv : Value) (base : Nat) (hn : ps.length ≤ 1000) (w : World) (htk : OToks w base tv ps) :
    Calls Yaxv.prog 5 #[tv, .string s] w fun e w' => e = .returned (.bool (Plain.matchB s (ps.map Prod.fst))) ∧ Below w.heap.size w w' := by
  rcases htk.row.2 with ⟨rfl, h0⟩ | ⟨g, cap, cur, rfl, _⟩
  · obtain rfl := List.eq_nil_of_length_eq_zero h0
    exact om_nil s hs w
  · exact om_some s hs ps g cap base hn w htk

end Go.Proofs.Ymwhax.OM
