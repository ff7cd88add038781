/-
  The walk of 'zzs930014qaaparse' (4). By an AI agent.
-/
import Derived.Test.YmwhaxOToks
import Derived.Test.YmwhaxClass
namespace Go.Proofs.Ymwhax.Own
open Go.RowKit
open Go.Proofs.Ymwhax
open Go.Proofs.Ymwhax.Mem Go.Proofs.Ymwhax.In Go.Proofs.Ymwhax.OToks Go.Proofs.Ymwhax.App
open Go.Proofs.Ymwhax.One (los his)
open Go.Proofs.Ymwhax.Cls (owns_low bang_out bang_no bang_yes)
set_option linter.unusedVariables false

/-- What the own parser comes to. -/
def ownEnd (R : Option (List Plain.Tok)) (w : World) (e : Ending) (w' : World) : Prop :=
  Below w.heap.size w w' ∧ match R with
    | none => e = .returned (.tuple #[.slice none 0 0, .bool false])
    | some ts => ∃ tv ps, e = .returned (.tuple #[tv, .bool true]) ∧ ps.map Prod.fst = ts ∧ ps.length ≤ 1000 ∧ OToks w' w.heap.size tv ps

/-- The outer loop's relation. -/
def Rel (s : ByteArray) (R : Option (List Plain.Tok)) (w : World) (tv i : Value) (wr : World) : Prop :=
  ∃ (k f : Nat) (ps : List (Plain.Tok × Value × Value)), i = .int .i64 (k : Int) ∧ k ≤ s.size ∧ ps.length ≤ k ∧ s.size - k < f ∧ Plain.toksFrom s f k (ps.map Prod.fst) = R ∧ Below w.heap.size w wr ∧ OToks wr w.heap.size tv ps

/-- The inner loop's relation. -/
def RelI (s : ByteArray) (neg : Bool) (Rc : Option (List (UInt8 × UInt8) × Nat)) (wo : World) (jv cv : Value) (wi : World) : Prop :=
  ∃ (k f : Nat) (acc : List (UInt8 × UInt8)) (lo hi : Value), jv = .int .i64 (k : Int) ∧ cv = .bool false ∧ k ≤ s.size ∧ acc.length ≤ k ∧ s.size - k < f ∧ Plain.rngs s f k acc = Rc ∧ St wo wo.heap.size neg acc acc lo hi wi

theorem end_none {R : Option (List Plain.Tok)} {w w' : World} (hR : R = none) (hb : Below w.heap.size w w') : ownEnd R w (.returned (.tuple #[.slice none 0 0, .bool false])) w' := by
  subst hR
  exact ⟨hb, rfl⟩

theorem end_some {R : Option (List Plain.Tok)} {w w' : World} {tv : Value} {ps : List (Plain.Tok × Value × Value)} (hR : R = some (ps.map Prod.fst)) (hb : Below w.heap.size w w') (hn : ps.length ≤ 1000) (ht : OToks w' w.heap.size tv ps) :
    ownEnd R w (.returned (.tuple #[tv, .bool true])) w' := by
  subst hR
  exact ⟨hb, tv, ps, rfl, rfl, hn, ht⟩

/-- A round that appends one token: w2 is the world at the append. -/
theorem rel_step {s : ByteArray} {R : Option (List Plain.Tok)} {w wr w2 w3 : World} {k f k' : Nat} {ps : List (Plain.Tok × Value × Value)} {t : Plain.Tok} {tv tv' lo hi : Value}
    (hlt : k < s.size) (ht : Plain.tok s k = some (t, k')) (hps : ps.length ≤ k) (hf : s.size - k < f) (hR : Plain.toksFrom s f k (ps.map Prod.fst) = R) (hbl : Below w.heap.size w wr) (htk : OToks wr w.heap.size tv ps)
    (hb2 : Below wr.heap.size wr w2) (hg : w2.grownBy w3 tv.ownBlock)
    (hown : w3.ownsRow w.heap.size 31 5 tv' (ps.length + 1) (cellsO ps ++ [.int .i64 (t.kind : Int), .int .u8 (t.c.toNat : Int), .bool t.neg, lo, hi])) (hn : t.rs.length ≤ 1000)
    (hlo : w2.ownsRow w.heap.size 5 1 lo t.rs.length (los t.rs)) (hhi : w2.ownsRow w.heap.size 5 1 hi t.rs.length (his t.rs)) :
    Rel s R w tv' (.int .i64 (k' : Int)) w3 := by
  have u := Plain.tok_up hlt ht
  have hsz := hbl.size
  have hsz2 := hb2.size
  refine ⟨k', f - 1, ps ++ [(t, lo, hi)], rfl, u.2, by simp; omega, by omega, ?_, ?_, ?_⟩
  · obtain ⟨f', rfl⟩ : ∃ f', f = f' + 1 := ⟨f - 1, by omega⟩
    rw [← hR, Plain.from_step hlt ht]
    simp
  · exact (hbl.trans (hb2.mono hsz)).grown hg (by omega) fun q hq => (htk.row.lt q hq).1
  · exact (htk.later hb2).snoc hg hown (Plain.tok_kind ht) hn hlo hhi

theorem nil5 (w : World) (base : Nat) : w.ownsRow base 5 1 (.slice none 0 0) ([] : List (UInt8 × UInt8)).length (los []) := World.ownsRow_nil _ _ _ _

theorem start_plain {s : ByteArray} {j : Nat} {neg : Bool} {Rc : Option (List (UInt8 × UInt8) × Nat)} (wo : World) (hj : j + 1 ≤ s.size) (hN : Plain.bang s (j + 1) = neg) (hR : Plain.clas s (j + 1) = Rc) (hb : Plain.bang s (j + 1) = false) :
    RelI s neg Rc wo (.int .i64 ((j : Int) + 1)) (.bool false) (wo.alloc (.cells #[.int .i64 3, .int .u8 0, .bool false, .slice none 0 0, .slice none 0 0] 31)) := by
  rw [hb] at hN
  subst hN
  subst hR
  unfold Plain.clas Plain.behind
  rw [hb]
  exact ⟨j + 1, s.size + 1, [], _, _, rfl, rfl, hj, by simp, by omega, rfl, St.start wo _ false ((Below.refl _ _).alloc (Nat.le_refl _) _) (heap_alloc_new _ _)⟩

theorem start_bang {s : ByteArray} {j : Nat} {neg : Bool} {Rc : Option (List (UInt8 × UInt8) × Nat)} (wo : World) (hj : j + 1 < s.size) (hN : Plain.bang s (j + 1) = neg) (hR : Plain.clas s (j + 1) = Rc) (hb : Plain.bang s (j + 1) = true) :
    RelI s neg Rc wo (.int .i64 ((j : Int) + 1 + 1)) (.bool false) (wo.alloc (.cells #[.int .i64 3, .int .u8 0, .bool true, .slice none 0 0, .slice none 0 0] 31)) := by
  rw [hb] at hN
  subst hN
  subst hR
  unfold Plain.clas Plain.behind
  rw [hb]
  exact ⟨j + 1 + 1, s.size + 1, [], _, _, by go_num, rfl, hj, by simp, by omega, rfl, St.start wo _ true ((Below.refl _ _).alloc (Nat.le_refl _) _) (heap_alloc_new _ _)⟩

theorem shape' {w : World} {base : Nat} {e : TypeId} {size : Nat} {v : Value} {n : Nat} {xs : List Value} (h : w.ownsRow base e size v n xs) (hn : ¬ n = 0) : ∃ g cap, v = .slice (some ⟨g, 0, none⟩) n cap := by
  rcases h.2 with ⟨_, h0⟩ | ⟨g, cap, _, hv, _⟩
  · omega
  · exact ⟨g, cap, hv⟩

theorem relI_step {s : ByteArray} {neg : Bool} {Rc : Option (List (UInt8 × UInt8) × Nat)} {wo w' : World} {k f nk : Nat} {acc : List (UInt8 × UInt8)} {a b : UInt8} {lo hi : Value}
    (hlt : k < s.size) (h93 : ¬ Plain.bt s k = 93) (hr : Plain.rng s k = some (a, b, nk)) (hacc : acc.length ≤ k) (hf : s.size - k < f) (hR : Plain.rngs s f k acc = Rc) (hst : St wo wo.heap.size neg (acc ++ [(a, b)]) (acc ++ [(a, b)]) lo hi w') :
    RelI s neg Rc wo (.int .i64 (nk : Int)) (.bool false) w' := by
  have u := Plain.rng_up hr
  refine ⟨nk, f - 1, acc ++ [(a, b)], lo, hi, rfl, rfl, u.2, by simp; omega, by omega, ?_, hst⟩
  obtain ⟨f', rfl⟩ : ∃ f', f = f' + 1 := ⟨f - 1, by omega⟩
  rw [← hR, Plain.rngs_step hlt h93 hr]
  simp

set_option maxRecDepth 100000 in
set_option maxHeartbeats 4000000 in
theorem own_any (s : ByteArray) (hs : s.size ≤ 400) (w : World) : Calls Yaxv.prog 4 #[.string s] w (ownEnd (Plain.toks s) w) := by
  obtain ⟨i0, hinf, hz0, hz1, hz2⟩ := info_parts info31
  obtain ⟨R, hR0⟩ : ∃ R, R = Plain.toks s := ⟨_, rfl⟩
  rw [← hR0]
  have HR0 : Hid (Plain.toks s = R) := hR0.symm
  clear hR0
  go_enter Yaxv.func4, Yaxv.ntmps4
  go_wp2_with fail
  go_loopw [4, 5] (fun tv i wr => Rel s R w tv i wr) (fun _ i _ => s.size - (intOf i).toNat)
  case atStart => exact ⟨0, s.size + 1, [], rfl, by omega, by simp, by omega, HR0.out, Below.refl _ _, OToks.nil _ _⟩
  case round =>
    clear HR0
    obtain ⟨k, f, ps, rfl, hk, hps, hf, hR, hbl, htk⟩ := hrel
    obtain ⟨wo, hwo⟩ : ∃ wo, wo = wr := ⟨_, rfl⟩
    subst hwo
    obtain ⟨ov, hov⟩ : ∃ ov, ov = u4 := ⟨_, rfl⟩
    subst hov
    have HR : Hid (Plain.toksFrom s f k (ps.map Prod.fst) = R) := hR
    have HT : Hid (OToks wo w.heap.size ov ps) := htk
    have HB : Hid (Below w.heap.size w wo) := hbl
    have hsz := hbl.size
    clear hR htk hbl
    by_cases hlt : k < s.size
    · by_cases h42 : Plain.bt s k = 42
      · have e42 : (((s[k]).toNat : Int) == 42) = true := Item.beq_yes hlt 42 (by omega) h42
        go_wp2_with (at_builtin; refine wpList_append_own _ rfl (.tmp 23) (.tmp 25) 22 rfl w.heap.size 31 i0 _ 5 64 Yaxv.underlying22 hinf hz0 hz1 hz2 rfl (by decide) _ _ _ rfl (HT.out.row.alloc _) ⟨wo.heap.size, 0, none⟩ 1 1 [.int .i64 2, .int .u8 0, .bool false, .slice none 0 0, .slice none 0 0] rfl rfl (new5 _ _ rfl _ _ _ _ _ _) (one5 _ _ _ rfl rfl) (by unfold maxLen; omega) (by omega) (by simp; omega) ?_)
        intro v' w3 hown' hgrow _
        have hrl := rel_step hlt (Plain.tok_star h42) hps hf HR.out HB.out HT.out ((Below.refl _ _).alloc (Nat.le_refl _) _) hgrow hown' (by simp) (World.ownsRow_nil _ _ _ _) (World.ownsRow_nil _ _ _ _)
        have HREL : Hid _ := hrl
        clear hrl hown' hgrow
        go_wp2_with fail
        go_roundw
        case rel => exact HREL.out
        case measure => simp [intOf]; omega
      · have e42 : (((s[k]).toNat : Int) == 42) = false := Item.beq_no hlt 42 (by omega) h42
        by_cases h63 : Plain.bt s k = 63
        · have e63 : (((s[k]).toNat : Int) == 63) = true := Item.beq_yes hlt 63 (by omega) h63
          go_wp2_with (at_builtin; refine wpList_append_own _ rfl (.tmp 31) (.tmp 33) 22 rfl w.heap.size 31 i0 _ 5 64 Yaxv.underlying22 hinf hz0 hz1 hz2 rfl (by decide) _ _ _ rfl (HT.out.row.alloc _) ⟨wo.heap.size, 0, none⟩ 1 1 [.int .i64 1, .int .u8 0, .bool false, .slice none 0 0, .slice none 0 0] rfl rfl (new5 _ _ rfl _ _ _ _ _ _) (one5 _ _ _ rfl rfl) (by unfold maxLen; omega) (by omega) (by simp; omega) ?_)
          intro v' w3 hown' hgrow _
          have hrl := rel_step hlt (Plain.tok_any h63) hps hf HR.out HB.out HT.out ((Below.refl _ _).alloc (Nat.le_refl _) _) hgrow hown' (by simp) (World.ownsRow_nil _ _ _ _) (World.ownsRow_nil _ _ _ _)
          have HREL : Hid _ := hrl
          clear hrl hown' hgrow
          go_wp2_with fail
          go_roundw
          case rel => exact HREL.out
          case measure => simp [intOf]; omega
        · have e63 : (((s[k]).toNat : Int) == 63) = false := Item.beq_no hlt 63 (by omega) h63
          by_cases h92 : Plain.bt s k = 92
          · have e92 : (((s[k]).toNat : Int) == 92) = true := Item.beq_yes hlt 92 (by omega) h92
            have h91 : ¬ Plain.bt s k = 91 := by rw [h92]; decide
            by_cases hk1 : k + 1 < s.size
            · have HI : Hid (Plain.item s false k = (s[k + 1], k + 2, true)) := Plain.item_slash hk1 h92
              have hk1' : (k : Int) + 1 < (s.size : Int) := by omega
              have HTK : Hid (Plain.tok s k = some (⟨0, s[k + 1], false, []⟩, k + 2)) := Plain.tok_lit h42 h63 h91 HI.out
              go_wp2_with (at_builtin; refine wpList_append_own _ rfl (.tmp 44) (.tmp 50) 22 rfl w.heap.size 31 i0 _ 5 64 Yaxv.underlying22 hinf hz0 hz1 hz2 rfl (by decide) _ _ _ rfl (HT.out.row.alloc _) ⟨wo.heap.size, 0, none⟩ 1 1 [.int .i64 0, .int .u8 ((s[k + 1]).toNat : Int), .bool false, .slice none 0 0, .slice none 0 0] rfl rfl (new5 _ _ rfl _ _ _ _ _ _) (one5 _ _ _ rfl rfl) (by unfold maxLen; omega) (by omega) (by simp; omega) ?_)
              intro v' w3 hown' hgrow _
              have hrl := rel_step hlt HTK.out hps hf HR.out HB.out HT.out ((Below.refl _ _).alloc (Nat.le_refl _) _) hgrow hown' (by simp) (World.ownsRow_nil _ _ _ _) (World.ownsRow_nil _ _ _ _)
              have HREL : Hid _ := hrl
              clear hrl hown' hgrow
              go_wp2_with fail
              go_roundw
              case rel => exact HREL.out
              case measure => simp [intOf]; omega
            · have HI : Hid (Plain.item s false k = (0, k, false)) := Plain.item_slash_end hlt h92 hk1
              have hk1' : (s.size : Int) ≤ (k : Int) + 1 := by omega
              go_wp2_with fail
              go_ret2
              exact end_none (by rw [← HR.out, Plain.from_none hlt (Plain.tok_lit_none h42 h63 h91 HI.out)]) HB.out
          · have e92 : (((s[k]).toNat : Int) == 92) = false := Item.beq_no hlt 92 (by omega) h92
            by_cases h91 : Plain.bt s k = 91
            · have e91 : (((s[k]).toNat : Int) == 91) = true := Item.beq_yes hlt 91 (by omega) h91
              obtain ⟨j0, hjnf, hy0, hy1, hy2⟩ := info_parts info5
              have hx1 : k + 1 ≤ s.size := hlt
              have HX : Hid (¬ k + 1 < s.size → Plain.bang s (k + 1) = false) := bang_out
              have HX0 : Hid (∀ h : k + 1 < s.size, (((s[k + 1]).toNat : Int) == 33) = false → Plain.bang s (k + 1) = false) := fun h => bang_no h
              have HX1 : Hid (∀ h : k + 1 < s.size, (((s[k + 1]).toNat : Int) == 33) = true → Plain.bang s (k + 1) = true) := fun h => bang_yes h
              obtain ⟨neg, hneg⟩ : ∃ neg, Plain.bang s (k + 1) = neg := ⟨_, rfl⟩
              obtain ⟨Rc, hRc⟩ : ∃ Rc, Plain.clas s (k + 1) = Rc := ⟨_, rfl⟩
              have HN : Hid (Plain.bang s (k + 1) = neg) := hneg
              have HC : Hid (Plain.clas s (k + 1) = Rc) := hRc
              clear hneg hRc
              rcases (show (¬ k + 1 < s.size ∧ (s.size : Int) ≤ (k : Int) + 1) ∨ (∃ h : k + 1 < s.size, (k : Int) + 1 < (s.size : Int) ∧ (((s[k + 1]).toNat : Int) == 33) = false) ∨ (∃ h : k + 1 < s.size, (k : Int) + 1 < (s.size : Int) ∧ (((s[k + 1]).toNat : Int) == 33) = true) from by
                by_cases h : k + 1 < s.size
                · cases hh : (((s[k + 1]).toNat : Int) == 33)
                  · exact .inr (.inl ⟨h, by omega, hh⟩)
                  · exact .inr (.inr ⟨h, by omega, hh⟩)
                · exact .inl ⟨h, by omega⟩) with ⟨hjs, hjs'⟩ | ⟨hjs, hjs', hjb⟩ | ⟨hjs, hjs', hjb⟩
              · have HBo : Hid (Below w.heap.size w (wo.alloc (.cells #[.int .i64 3, .int .u8 0, .bool false, .slice none 0 0, .slice none 0 0] 31))) := HB.out.alloc hsz _
                have HE : Hid (Plain.clas s (k + 1) = none) := by
                  unfold Plain.clas Plain.behind
                  rw [HX.out hjs]
                  exact Plain.rngs_out hjs
                clear HX HX0 HX1
                go_wp2_with fail
                refine wp_loop_rounds 1 ?_
                rw [rounds_succ]
                go_wp2_with fail
                go_ret2
                exact end_none (by rw [← HR.out, Plain.from_none hlt (Plain.tok_clas_none h91 HE.out)]) HBo.out
              all_goals
                go_wp2_with fail
                go_loopw [7, 9] (fun jv cv wi => RelI s neg Rc wo jv cv wi) (fun jv _ _ => s.size - (intOf jv).toNat)
                case atStart => first | exact start_plain wo hx1 HN.out HC.out (HX0.out hjs hjb) | exact start_bang wo hjs HN.out HC.out (HX1.out hjs hjb)
                case round =>
                  clear HX HX0 HX1
                  obtain ⟨k2, f2, acc, lov, hiv, rfl, rfl, hk2, hacc, hf2, hRI, hst⟩ := hrel
                  have HRI : Hid (Plain.rngs s f2 k2 acc = Rc) := hRI
                  have HSt : Hid (St wo wo.heap.size neg acc acc lov hiv wr) := hst
                  obtain ⟨t0, t1, t2, t3, t4, tf⟩ := cells5 hst.cells
                  have hbs : wo.heap.size < wr.heap.size := lt_of_block hst.cells
                  have HBI : Hid (Below w.heap.size w wr) := HB.out.trans (hst.below.mono hsz)
                  clear hst hRI
                  by_cases hlt2 : k2 < s.size
                  · by_cases h93 : Plain.bt s k2 = 93
                    · have e93 : (((s[k2]).toNat : Int) == 93) = true := Item.beq_yes hlt2 93 (by omega) h93
                      have HCl : Hid (Plain.rngs s f2 k2 acc = if acc = [] then none else some (acc, k2)) := Plain.rngs_close (by omega) hlt2 h93
                      by_cases hz : acc.length = 0
                      · have hz' : ((acc.length : Int) == 0) = true := by rw [hz]; rfl
                        rcases HSt.out.los.2 with ⟨rfl, h0⟩ | ⟨g, cap, cur, rfl, _⟩
                        all_goals
                          go_wp2_with fail
                          go_ret2
                          exact end_none (by rw [← HR.out, Plain.from_none hlt (Plain.tok_clas_none h91 (HC.out.trans (HRI.out.symm.trans (HCl.out.trans (if_pos (List.eq_nil_of_length_eq_zero hz))))))]) HBI.out
                      · have hz' : ((acc.length : Int) == 0) = false := by rw [beq_eq_false_iff_ne]; omega
                        obtain ⟨g, cap, rfl⟩ := shape' HSt.out.los hz
                        obtain ⟨g', cap', rfl⟩ := shape' HSt.out.his hz
                        have HTK : Hid (Plain.tok s k = some (⟨3, 0, neg, acc⟩, k2 + 1)) := Plain.tok_clas h91 (HC.out.trans (HRI.out.symm.trans (HCl.out.trans (if_neg (fun h => hz (by rw [h]; rfl)))))) HN.out
                        have HBo : Hid (Below wo.heap.size wo wr) := HSt.out.below
                        go_wp2_with (at_builtin; refine wpList_append_own _ rfl (.tmp 136) (.tmp 138) 22 rfl w.heap.size 31 i0 _ 5 64 Yaxv.underlying22 hinf hz0 hz1 hz2 rfl (by decide) _ _ _ rfl ((HT.out.later HBo.out).row.alloc _) ⟨wr.heap.size, 0, none⟩ 1 1 [.int .i64 3, .int .u8 0, .bool neg, .slice (some ⟨g, 0, none⟩) acc.length cap, .slice (some ⟨g', 0, none⟩) acc.length cap'] rfl rfl (new5 _ _ rfl _ _ _ _ _ _) (one5 _ _ _ rfl rfl) (by unfold maxLen; omega) (by omega) (by simp; omega) ?_)
                        intro v' w3 hown' hgrow _
                        have hrl := rel_step hlt HTK.out hps hf HR.out HB.out HT.out (HBo.out.alloc (by omega) _) hgrow hown' (by simp only; omega) (owns_low (HSt.out.los.alloc _) (by omega)) (owns_low (HSt.out.his.alloc _) (by omega))
                        have HREL : Hid _ := hrl
                        clear hrl hown' hgrow
                        go_wp2_with fail
                        go_roundw
                        case rel => exact HREL.out
                        case measure => have := Plain.tok_up hlt HTK.out; simp [intOf]; omega
                    · have e93 : (((s[k2]).toNat : Int) == 93) = false := Item.beq_no hlt2 93 (by omega) h93
                      rcases hI : Plain.item s true k2 with ⟨lo, nj, ok⟩
                      have hnj := Plain.item_ge s true k2
                      rw [hI] at hnj
                      simp only at hnj
                      have HI : Hid (Plain.item s true k2 = (lo, nj, ok)) := hI
                      clear hI
                      go_wp2_with fail
                      refine (Item.item_at HI.out hs (by omega) _).mono ?_
                      rintro e w1 ⟨rfl, hw⟩
                      subst w1
                      cases ok
                      · go_wp2_with fail
                        go_ret2
                        exact end_none (by rw [← HR.out, Plain.from_none hlt (Plain.tok_clas_none h91 (HC.out.trans (HRI.out.symm.trans (Plain.rngs_fail hlt2 h93 (Plain.rng_bad HI.out)))))]) HBI.out
                      · by_cases hd : nj < s.size
                        · by_cases h45 : Plain.bt s nj = 45
                          · have e45 : (((s[nj]).toNat : Int) == 45) = true := Item.beq_yes hd 45 (by omega) h45
                            rcases hI2 : Plain.item s true (nj + 1) with ⟨hi, nk, ok2⟩
                            have HI2 : Hid (Plain.item s true (nj + 1) = (hi, nk, ok2)) := hI2
                            clear hI2
                            go_wp2_with fail
                            refine (Item.item_to _ (by omega) HI2.out hs (by omega) _).mono ?_
                            rintro e w1 ⟨rfl, hw⟩
                            subst w1
                            cases ok2
                            · go_wp2_with fail
                              go_ret2
                              exact end_none (by rw [← HR.out, Plain.from_none hlt (Plain.tok_clas_none h91 (HC.out.trans (HRI.out.symm.trans (Plain.rngs_fail hlt2 h93 (Plain.rng_bad2 HI.out hd h45 HI2.out (.inl rfl))))))]) HBI.out
                            · by_cases hlh : hi.toNat < lo.toNat
                              · go_wp2_with fail
                                go_ret2
                                exact end_none (by rw [← HR.out, Plain.from_none hlt (Plain.tok_clas_none h91 (HC.out.trans (HRI.out.symm.trans (Plain.rngs_fail hlt2 h93 (Plain.rng_bad2 HI.out hd h45 HI2.out (.inr hlh))))))]) HBI.out
                              · skip
                                go_wp2_with (at_builtin; refine wpList_append_tells _ rfl (.tmp 116) (.tmp 118) 29 rfl (wo.heap.size + 1) 5 j0 _ 1 1 Yaxv.underlying29 hjnf hy0 hy1 hy2 rfl (by decide) _ _ _ rfl (HSt.out.los.alloc _) ⟨wr.heap.size, 0, none⟩ 1 1 [.int .u8 (lo.toNat : Int)] rfl rfl (new1 _ _ rfl _ _) (by simp [Value.oneCell']) (by unfold maxLen; omega) (by omega) (by simp; omega) ?_)
                                intro v1 w1 hown1 hgrow1 htell1
                                obtain ⟨g1, cap1, rfl⟩ := Cls.shape hown1
                                obtain ⟨hc1, hst1⟩ := HSt.out.lo (r := (lo, hi)) (Nat.le_refl _) hown1 hgrow1 (fun g hg => by simpa using htell1 g hg)
                                have HSt1 : Hid _ := hst1
                                have hz1' : wr.heap.size < w1.heap.size := by have := hgrow1.size; simp at this; omega
                                obtain ⟨_, _, _, d3, d4, df⟩ := cells5 hc1
                                clear hst1 hc1 hown1 hgrow1 htell1 t0 t1 t2 t3 t4 tf
                                go_wp2_with (at_builtin; refine wpList_append_tells _ rfl (.tmp 122) (.tmp 124) 29 rfl (wo.heap.size + 1) 5 j0 _ 1 1 Yaxv.underlying29 hjnf hy0 hy1 hy2 rfl (by decide) _ _ _ rfl (World.ownsRow.alloc (St.his HSt1.out) _) ⟨w1.heap.size, 0, none⟩ 1 1 [.int .u8 (hi.toNat : Int)] rfl rfl (new1 _ _ (by simp) _ _) (by simp [Value.oneCell']) (by unfold maxLen; omega) (by omega) (by simp; omega) ?_)
                                intro v2 w2 hown2 hgrow2 htell2
                                obtain ⟨g2, cap2, rfl⟩ := Cls.shape hown2
                                obtain ⟨hc2, hst2⟩ := St.hi HSt1.out (r := (lo, hi)) (Nat.le_refl _) hown2 hgrow2 (fun g hg => by simpa using htell2 g hg)
                                have HSt2 : Hid _ := hst2
                                obtain ⟨_, _, _, _, d4', df'⟩ := cells5 hc2
                                clear hst2 hc2 hown2 hgrow2 htell2 d3 d4 df
                                go_wp2_with fail
                                go_roundw
                                case rel => exact relI_step hlt2 h93 (Plain.rng_pair HI.out hd h45 HI2.out hlh) hacc hf2 HRI.out HSt2.out
                                case measure => have := Plain.rng_up (Plain.rng_pair HI.out hd h45 HI2.out hlh); simp [intOf]; omega
                          · have e45 : (((s[nj]).toNat : Int) == 45) = false := Item.beq_no hd 45 (by omega) h45
                            go_wp2_with (at_builtin; refine wpList_append_tells _ rfl (.tmp 116) (.tmp 118) 29 rfl (wo.heap.size + 1) 5 j0 _ 1 1 Yaxv.underlying29 hjnf hy0 hy1 hy2 rfl (by decide) _ _ _ rfl (HSt.out.los.alloc _) ⟨wr.heap.size, 0, none⟩ 1 1 [.int .u8 (lo.toNat : Int)] rfl rfl (new1 _ _ rfl _ _) (by simp [Value.oneCell']) (by unfold maxLen; omega) (by omega) (by simp; omega) ?_)
                            intro v1 w1 hown1 hgrow1 htell1
                            obtain ⟨g1, cap1, rfl⟩ := Cls.shape hown1
                            obtain ⟨hc1, hst1⟩ := HSt.out.lo (r := (lo, lo)) (Nat.le_refl _) hown1 hgrow1 (fun g hg => by simpa using htell1 g hg)
                            have HSt1 : Hid _ := hst1
                            have hz1' : wr.heap.size < w1.heap.size := by have := hgrow1.size; simp at this; omega
                            obtain ⟨_, _, _, d3, d4, df⟩ := cells5 hc1
                            clear hst1 hc1 hown1 hgrow1 htell1 t0 t1 t2 t3 t4 tf
                            go_wp2_with (at_builtin; refine wpList_append_tells _ rfl (.tmp 122) (.tmp 124) 29 rfl (wo.heap.size + 1) 5 j0 _ 1 1 Yaxv.underlying29 hjnf hy0 hy1 hy2 rfl (by decide) _ _ _ rfl (World.ownsRow.alloc (St.his HSt1.out) _) ⟨w1.heap.size, 0, none⟩ 1 1 [.int .u8 (lo.toNat : Int)] rfl rfl (new1 _ _ (by simp) _ _) (by simp [Value.oneCell']) (by unfold maxLen; omega) (by omega) (by simp; omega) ?_)
                            intro v2 w2 hown2 hgrow2 htell2
                            obtain ⟨g2, cap2, rfl⟩ := Cls.shape hown2
                            obtain ⟨hc2, hst2⟩ := St.hi HSt1.out (r := (lo, lo)) (Nat.le_refl _) hown2 hgrow2 (fun g hg => by simpa using htell2 g hg)
                            have HSt2 : Hid _ := hst2
                            obtain ⟨_, _, _, _, d4', df'⟩ := cells5 hc2
                            clear hst2 hc2 hown2 hgrow2 htell2 d3 d4 df
                            go_wp2_with fail
                            go_roundw
                            case rel => exact relI_step hlt2 h93 (Plain.rng_single HI.out (fun x => h45 x.2)) hacc hf2 HRI.out HSt2.out
                            case measure => have := Plain.rng_up (Plain.rng_single HI.out (fun x => h45 x.2)); simp [intOf]; omega
                        · skip
                          go_wp2_with (at_builtin; refine wpList_append_tells _ rfl (.tmp 116) (.tmp 118) 29 rfl (wo.heap.size + 1) 5 j0 _ 1 1 Yaxv.underlying29 hjnf hy0 hy1 hy2 rfl (by decide) _ _ _ rfl (HSt.out.los.alloc _) ⟨wr.heap.size, 0, none⟩ 1 1 [.int .u8 (lo.toNat : Int)] rfl rfl (new1 _ _ rfl _ _) (by simp [Value.oneCell']) (by unfold maxLen; omega) (by omega) (by simp; omega) ?_)
                          intro v1 w1 hown1 hgrow1 htell1
                          obtain ⟨g1, cap1, rfl⟩ := Cls.shape hown1
                          obtain ⟨hc1, hst1⟩ := HSt.out.lo (r := (lo, lo)) (Nat.le_refl _) hown1 hgrow1 (fun g hg => by simpa using htell1 g hg)
                          have HSt1 : Hid _ := hst1
                          have hz1' : wr.heap.size < w1.heap.size := by have := hgrow1.size; simp at this; omega
                          obtain ⟨_, _, _, d3, d4, df⟩ := cells5 hc1
                          clear hst1 hc1 hown1 hgrow1 htell1 t0 t1 t2 t3 t4 tf
                          go_wp2_with (at_builtin; refine wpList_append_tells _ rfl (.tmp 122) (.tmp 124) 29 rfl (wo.heap.size + 1) 5 j0 _ 1 1 Yaxv.underlying29 hjnf hy0 hy1 hy2 rfl (by decide) _ _ _ rfl (World.ownsRow.alloc (St.his HSt1.out) _) ⟨w1.heap.size, 0, none⟩ 1 1 [.int .u8 (lo.toNat : Int)] rfl rfl (new1 _ _ (by simp) _ _) (by simp [Value.oneCell']) (by unfold maxLen; omega) (by omega) (by simp; omega) ?_)
                          intro v2 w2 hown2 hgrow2 htell2
                          obtain ⟨g2, cap2, rfl⟩ := Cls.shape hown2
                          obtain ⟨hc2, hst2⟩ := St.hi HSt1.out (r := (lo, lo)) (Nat.le_refl _) hown2 hgrow2 (fun g hg => by simpa using htell2 g hg)
                          have HSt2 : Hid _ := hst2
                          obtain ⟨_, _, _, _, d4', df'⟩ := cells5 hc2
                          clear hst2 hc2 hown2 hgrow2 htell2 d3 d4 df
                          go_wp2_with fail
                          go_roundw
                          case rel => exact relI_step hlt2 h93 (Plain.rng_single HI.out (fun x => hd x.1)) hacc hf2 HRI.out HSt2.out
                          case measure => have := Plain.rng_up (Plain.rng_single HI.out (fun x => hd x.1)); simp [intOf]; omega
                  · go_wp2_with fail
                    go_ret2
                    exact end_none (by rw [← HR.out, Plain.from_none hlt (Plain.tok_clas_none h91 (HC.out.trans (HRI.out.symm.trans (Plain.rngs_out hlt2))))]) HBI.out
            · have e91 : (((s[k]).toNat : Int) == 91) = false := Item.beq_no hlt 91 (by omega) h91
              have HTK : Hid (Plain.tok s k = some (⟨0, s[k], false, []⟩, k + 1)) := Plain.tok_lit h42 h63 h91 (Plain.item_free hlt h92)
              go_wp2_with (at_builtin; refine wpList_append_own _ rfl (.tmp 142) (.tmp 145) 22 rfl w.heap.size 31 i0 _ 5 64 Yaxv.underlying22 hinf hz0 hz1 hz2 rfl (by decide) _ _ _ rfl (HT.out.row.alloc _) ⟨wo.heap.size, 0, none⟩ 1 1 [.int .i64 0, .int .u8 ((s[k]).toNat : Int), .bool false, .slice none 0 0, .slice none 0 0] rfl rfl (new5 _ _ rfl _ _ _ _ _ _) (one5 _ _ _ rfl rfl) (by unfold maxLen; omega) (by omega) (by simp; omega) ?_)
              intro v' w3 hown' hgrow _
              have hrl := rel_step hlt HTK.out hps hf HR.out HB.out HT.out ((Below.refl _ _).alloc (Nat.le_refl _) _) hgrow hown' (by simp) (World.ownsRow_nil _ _ _ _) (World.ownsRow_nil _ _ _ _)
              have HREL : Hid _ := hrl
              clear hrl hown' hgrow
              go_wp2_with fail
              go_roundw
              case rel => exact HREL.out
              case measure => simp [intOf]; omega
    · go_wp2_with fail
      go_ret2
      exact end_some (by rw [← HR.out, Plain.from_out (by omega) hlt]) HB.out (by omega) HT.out

end Go.Proofs.Ymwhax.Own
