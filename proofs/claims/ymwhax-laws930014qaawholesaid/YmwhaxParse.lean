/-
  The walk of 'Parse' (9). By an AI agent.
-/
import Derived.Test.YmwhaxToks
namespace Go.Proofs.Ymwhax.Parse
open Go.RowKit
open Go.Proofs.Ymwhax
open Go.Proofs.Ymwhax.Mem Go.Proofs.Ymwhax.In Go.Proofs.Ymwhax.Toks
open Go.Proofs.Ymwhax.Cls (info42 cells4 put4 clsEnd class_any shape owns_low)
set_option linter.unusedVariables false

/-- What 'Parse' comes to. -/
def parseEnd (R : Option (List Plain.Tok)) (w : World) (e : Ending) (w' : World) : Prop :=
  Below w.heap.size w w' ∧ match R with
    | none => e = .returned (.tuple #[.slice none 0 0, .bool false])
    | some ts => ∃ tv ps, e = .returned (.tuple #[tv, .bool true]) ∧ ps.map Prod.fst = ts ∧ ps.length ≤ 1000 ∧ Toks w' w.heap.size tv ps

/-- The loop's relation. -/
def Rel (s : ByteArray) (R : Option (List Plain.Tok)) (w : World) (tv i : Value) (wr : World) : Prop :=
  ∃ (k f : Nat) (ps : List (Plain.Tok × Value)), i = .int .i64 (k : Int) ∧ k ≤ s.size ∧ ps.length ≤ k ∧ s.size - k < f ∧ Plain.toksFrom s f k (ps.map Prod.fst) = R ∧ Below w.heap.size w wr ∧ Toks wr w.heap.size tv ps

theorem end_none {R : Option (List Plain.Tok)} {w w' : World} (hR : R = none) (hb : Below w.heap.size w w') : parseEnd R w (.returned (.tuple #[.slice none 0 0, .bool false])) w' := by
  subst hR
  exact ⟨hb, rfl⟩

theorem end_some {R : Option (List Plain.Tok)} {w w' : World} {tv : Value} {ps : List (Plain.Tok × Value)} (hR : R = some (ps.map Prod.fst)) (hb : Below w.heap.size w w') (hn : ps.length ≤ 1000) (ht : Toks w' w.heap.size tv ps) :
    parseEnd R w (.returned (.tuple #[tv, .bool true])) w' := by
  subst hR
  exact ⟨hb, tv, ps, rfl, rfl, hn, ht⟩

theorem new4 (w : World) (b : Nat) (hb : b = w.heap.size) (x y z u : Value) (t : TypeId) : ∀ j q, [x, y, z, u][j]? = some q → (w.alloc (.cells #[x, y, z, u] t)).cell? ((⟨b, 0, none⟩ : Addr).add j) = some q := by
  subst hb
  intro j q hq
  match j, hq with
  | 0, hq => simp at hq; subst hq; simp [Addr.add]
  | 1, hq => simp at hq; subst hq; simp [Addr.add]
  | 2, hq => simp at hq; subst hq; simp [Addr.add]
  | 3, hq => simp at hq; subst hq; simp [Addr.add]
  | j + 4, hq => simp at hq

/-- A round that appends one token: w2 is the world at the append. -/
theorem rel_step {s : ByteArray} {R : Option (List Plain.Tok)} {w wr w2 w3 : World} {k f k' : Nat} {ps : List (Plain.Tok × Value)} {t : Plain.Tok} {tv tv' v : Value}
    (hlt : k < s.size) (ht : Plain.tok s k = some (t, k')) (hps : ps.length ≤ k) (hf : s.size - k < f) (hR : Plain.toksFrom s f k (ps.map Prod.fst) = R) (hbl : Below w.heap.size w wr) (htk : Toks wr w.heap.size tv ps)
    (hb2 : Below wr.heap.size wr w2) (hg : w2.grownBy w3 tv.ownBlock)
    (hown : w3.ownsRow w.heap.size 42 4 tv' (ps.length + 1) (cellsV ps ++ [.int .i64 (t.kind : Int), .int .u8 (t.c.toNat : Int), .bool t.neg, v])) (hn : t.rs.length ≤ 1000) (hv : w2.ownsRow w.heap.size 48 2 v t.rs.length (flat t.rs)) :
    Rel s R w tv' (.int .i64 (k' : Int)) w3 := by
  have u := Plain.tok_up hlt ht
  have hsz := hbl.size
  have hsz2 := hb2.size
  refine ⟨k', f - 1, ps ++ [(t, v)], rfl, u.2, by simp; omega, by omega, ?_, ?_, ?_⟩
  · obtain ⟨f', rfl⟩ : ∃ f', f = f' + 1 := ⟨f - 1, by omega⟩
    rw [← hR, Plain.from_step hlt ht]
    simp
  · exact (hbl.trans (hb2.mono hsz)).grown hg (by omega) fun q hq => (htk.row.lt q hq).1
  · exact (htk.later hb2).snoc hg hown (Plain.tok_kind ht) hn hv

theorem one4 (k : Int) (c : Int) (b : Bool) {v : Value} (hv : v.oneCell' = true) : ∀ u ∈ [Value.int .i64 k, Value.int .u8 c, Value.bool b, v], u.oneCell' = true := by
  intro u hu
  simp at hu
  rcases hu with rfl | rfl | rfl | rfl
  · rfl
  · rfl
  · rfl
  · exact hv

set_option maxHeartbeats 4000000 in
theorem parse_any (s : ByteArray) (hs : s.size ≤ 400) (w : World) : Calls Yaxv.prog 9 #[.string s] w (parseEnd (Plain.toks s) w) := by
  obtain ⟨i0, hinf, hz0, hz1, hz2⟩ := info_parts info42
  obtain ⟨R, hR0⟩ : ∃ R, R = Plain.toks s := ⟨_, rfl⟩
  rw [← hR0]
  have HR0 : Hid (Plain.toks s = R) := hR0.symm
  clear hR0
  go_enter Yaxv.func9, Yaxv.ntmps9
  go_wp2_with fail
  go_loopw [4, 5] (fun tv i wr => Rel s R w tv i wr) (fun _ i _ => s.size - (intOf i).toNat)
  case atStart => exact ⟨0, s.size + 1, [], rfl, by omega, by simp, by omega, HR0.out, Below.refl _ _, Toks.nil _ _⟩
  case round =>
    clear HR0
    obtain ⟨k, f, ps, rfl, hk, hps, hf, hR, hbl, htk⟩ := hrel
    have HR : Hid (Plain.toksFrom s f k (ps.map Prod.fst) = R) := hR
    have HT : Hid (Toks wr w.heap.size u4 ps) := htk
    have HB : Hid (Below w.heap.size w wr) := hbl
    have hsz := hbl.size
    clear hR htk hbl
    by_cases hlt : k < s.size
    · by_cases h42 : Plain.bt s k = 42
      · have e42 : (((s[k]).toNat : Int) == 42) = true := Item.beq_yes hlt 42 (by omega) h42
        go_wp2_with (at_builtin; refine wpList_append_own _ rfl (.tmp 45) (.tmp 47) 36 rfl w.heap.size 42 i0 _ 4 40 Yaxv.underlying36 hinf hz0 hz1 hz2 rfl (by decide) _ _ _ rfl ((HT.out.row.alloc _).alloc _) ⟨wr.heap.size + 1, 0, none⟩ 1 1 [.int .i64 2, .int .u8 0, .bool false, .slice none 0 0] rfl rfl (new4 _ _ (by simp) _ _ _ _ _) (one4 _ _ _ rfl) (by unfold maxLen; omega) (by omega) (by simp; omega) ?_)
        intro v' w1 hown' hgrow _
        have hrl := rel_step hlt (Plain.tok_star h42) hps hf HR.out HB.out HT.out (((Below.refl _ _).alloc (Nat.le_refl _) _).alloc (by simp) _) hgrow hown' (by simp) (World.ownsRow_nil _ _ _ _)
        have HREL : Hid _ := hrl
        clear hrl hown' hgrow
        go_wp2_with fail
        go_roundw
        case rel => exact HREL.out
        case measure => simp [intOf]; omega
      · have e42 : (((s[k]).toNat : Int) == 42) = false := Item.beq_no hlt 42 (by omega) h42
        by_cases h63 : Plain.bt s k = 63
        · have e63 : (((s[k]).toNat : Int) == 63) = true := Item.beq_yes hlt 63 (by omega) h63
          go_wp2_with (at_builtin; refine wpList_append_own _ rfl (.tmp 45) (.tmp 47) 36 rfl w.heap.size 42 i0 _ 4 40 Yaxv.underlying36 hinf hz0 hz1 hz2 rfl (by decide) _ _ _ rfl ((HT.out.row.alloc _).alloc _) ⟨wr.heap.size + 1, 0, none⟩ 1 1 [.int .i64 1, .int .u8 0, .bool false, .slice none 0 0] rfl rfl (new4 _ _ (by simp) _ _ _ _ _) (one4 _ _ _ rfl) (by unfold maxLen; omega) (by omega) (by simp; omega) ?_)
          intro v' w3 hown' hgrow _
          have hrl := rel_step hlt (Plain.tok_any h63) hps hf HR.out HB.out HT.out (((Below.refl _ _).alloc (Nat.le_refl _) _).alloc (by simp) _) hgrow hown' (by simp) (World.ownsRow_nil _ _ _ _)
          have HREL : Hid _ := hrl
          clear hrl hown' hgrow
          go_wp2_with fail
          go_roundw
          case rel => exact HREL.out
          case measure => simp [intOf]; omega
        · have e63 : (((s[k]).toNat : Int) == 63) = false := Item.beq_no hlt 63 (by omega) h63
          by_cases h91 : Plain.bt s k = 91
          · have e91 : (((s[k]).toNat : Int) == 91) = true := Item.beq_yes hlt 91 (by omega) h91
            rcases hc : Plain.clas s (k + 1) with _ | ⟨rs, nj⟩
            · have HC : Hid (Plain.clas s (k + 1) = none) := hc
              clear hc
              go_wp2_with fail
              refine (class_none _ (by omega) hs (by omega) HC.out _).mono ?_
              rintro e w1 ⟨rfl, hb1⟩
              have hc4 : w1.heap[wr.heap.size]? = some (.cells #[.int .i64 0, .int .u8 0, .bool false, .slice none 0 0] 42 (0, 0)) := by
                rw [hb1.block _ (by simp)]
                exact heap_alloc_new _ _
              obtain ⟨t0, t1, t2, t3, tf⟩ := cells4 hc4
              have HW : Hid (Below w.heap.size w w1) := HB.out.trans ((((Below.refl _ _).alloc (Nat.le_refl _) _).trans (hb1.mono (by simp))).mono hsz)
              clear hc4 hb1
              go_wp2_with fail
              go_ret2
              exact end_none (by rw [← HR.out, Plain.from_none hlt (Plain.tok_clas_none h91 HC.out)]) ((((HW.out.setCell hsz _).setCell hsz _).setCell hsz _).setCell hsz _)
            · have HC : Hid (Plain.clas s (k + 1) = some (rs, nj)) := hc
              clear hc
              obtain ⟨neg, hneg⟩ : ∃ neg, Plain.bang s (k + 1) = neg := ⟨_, rfl⟩
              have HN : Hid (Plain.bang s (k + 1) = neg) := hneg
              clear hneg
              go_wp2_with fail
              refine (class_some _ (by omega) hs (by omega) HC.out HN.out _).mono ?_
              rintro e w1 ⟨g, cap, rfl, hb1, hv1, hl1⟩
              have hc4 : w1.heap[wr.heap.size]? = some (.cells #[.int .i64 0, .int .u8 0, .bool false, .slice none 0 0] 42 (0, 0)) := by
                rw [hb1.block _ (by simp)]
                exact heap_alloc_new _ _
              obtain ⟨t0, t1, t2, t3, tf⟩ := cells4 hc4
              have HB1 : Hid (Below wr.heap.size wr w1) := ((Below.refl _ _).alloc (Nat.le_refl _) _).trans (hb1.mono (by simp))
              have HV : Hid (w1.ownsRow (wr.heap.size + 1) 48 2 (.slice (some ⟨g, 0, none⟩) rs.length cap) rs.length (flat rs)) := by rw [World.size_alloc] at hv1; exact hv1
              have hz1' : wr.heap.size < w1.heap.size := by have := hb1.size; simp at this; omega
              obtain ⟨p0, pb⟩ := put4 (.int .i64 3) (.int .u8 0) (.bool neg) (.slice (some ⟨g, 0, none⟩) rs.length cap) HB1.out (Nat.le_refl _) hc4
              have PB : Hid _ := pb
              have HV4 : Hid _ := ownsRow_setCell_below (ownsRow_setCell_below (ownsRow_setCell_below (ownsRow_setCell_below HV.out (a := ⟨wr.heap.size, 0, none⟩) (by simp) (.int .i64 3)) (a := ⟨wr.heap.size, 1, none⟩) (by simp) (.int .u8 0)) (a := ⟨wr.heap.size, 2, none⟩) (by simp) (.bool neg)) (a := ⟨wr.heap.size, 3, none⟩) (by simp) (.slice (some ⟨g, 0, none⟩) rs.length cap)
              clear p0 pb hc4 hb1 hv1
              go_wp2_with (at_builtin; refine wpList_append_own _ rfl (.tmp 45) (.tmp 47) 36 rfl w.heap.size 42 i0 _ 4 40 Yaxv.underlying36 hinf hz0 hz1 hz2 rfl (by decide) _ _ _ rfl ((HT.out.later PB.out).row.alloc _) ⟨w1.heap.size, 0, none⟩ 1 1 [.int .i64 3, .int .u8 0, .bool neg, .slice (some ⟨g, 0, none⟩) rs.length cap] rfl rfl (new4 _ _ (by simp) _ _ _ _ _) (one4 _ _ _ rfl) (by unfold maxLen; omega) (by omega) (by simp; omega) ?_)
              intro v' w3 hown' hgrow _
              have hrl := rel_step hlt (Plain.tok_clas h91 HC.out HN.out) hps hf HR.out HB.out HT.out (PB.out.alloc (by have := PB.out.size; omega) _) hgrow hown' hl1 (owns_low (World.ownsRow.alloc HV4.out _) (by omega))
              have HREL : Hid _ := hrl
              clear hrl hown' hgrow
              go_wp2_with fail
              go_roundw
              case rel => exact HREL.out
              case measure => have := Plain.tok_up hlt (Plain.tok_clas h91 HC.out HN.out); simp [intOf]; omega
          · have e91 : (((s[k]).toNat : Int) == 91) = false := Item.beq_no hlt 91 (by omega) h91
            rcases hI : Plain.item s false k with ⟨c, ni, ok⟩
            have HI : Hid (Plain.item s false k = (c, ni, ok)) := hI
            clear hI
            go_wp2_with fail
            refine (Item.readChar_at HI.out hs (by omega) _).mono ?_
            rintro e w1 ⟨rfl, hw⟩
            subst w1
            cases ok
            · go_wp2_with fail
              go_ret2
              exact end_none (by rw [← HR.out, Plain.from_none hlt (Plain.tok_lit_none h42 h63 h91 HI.out)]) (HB.out.alloc hsz _)
            · skip
              go_wp2_with (at_builtin; refine wpList_append_own _ rfl (.tmp 45) (.tmp 47) 36 rfl w.heap.size 42 i0 _ 4 40 Yaxv.underlying36 hinf hz0 hz1 hz2 rfl (by decide) _ _ _ rfl ((HT.out.row.alloc _).alloc _) ⟨wr.heap.size + 1, 0, none⟩ 1 1 [.int .i64 0, .int .u8 (c.toNat : Int), .bool false, .slice none 0 0] rfl rfl (new4 _ _ (by simp) _ _ _ _ _) (one4 _ _ _ rfl) (by unfold maxLen; omega) (by omega) (by simp; omega) ?_)
              intro v' w3 hown' hgrow _
              have hrl := rel_step hlt (Plain.tok_lit h42 h63 h91 HI.out) hps hf HR.out HB.out HT.out (((Below.refl _ _).alloc (Nat.le_refl _) _).alloc (by simp) _) hgrow hown' (by simp) (World.ownsRow_nil _ _ _ _)
              have HREL : Hid _ := hrl
              clear hrl hown' hgrow
              go_wp2_with fail
              go_roundw
              case rel => exact HREL.out
              case measure => have := Plain.tok_up hlt (Plain.tok_lit h42 h63 h91 HI.out); simp [intOf]; omega
    · go_wp2_with fail
      go_ret2
      exact end_some (by rw [← HR.out, Plain.from_out (by omega) hlt]) HB.out (by omega) HT.out

end Go.Proofs.Ymwhax.Parse
