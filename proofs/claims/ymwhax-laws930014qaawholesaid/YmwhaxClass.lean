/-
  The walk of 'readClass' (11). By an AI agent.
-/
import Derived.Test.YmwhaxItem
import Derived.Test.YmwhaxIn
namespace Go.Proofs.Ymwhax.Cls
open Go.RowKit
open Go.Proofs.Ymwhax
open Go.Proofs.Ymwhax.Mem Go.Proofs.Ymwhax.In
set_option linter.unusedVariables false

theorem info48 : (Yaxv.prog.info? 48).map (fun i => (i.zero, i.size, i.bytes)) = some (some (.agg #[.int .u8 0, .int .u8 0]), 2, 2) := by kernel_rfl
theorem info42 : (Yaxv.prog.info? 42).map (fun i => (i.zero, i.size, i.bytes)) = some (some (.agg #[.int .i64 0, .int .u8 0, .bool false, .slice none 0 0]), 4, 40) := by kernel_rfl

/-- What 'readClass' comes to. -/
def clsEnd (neg : Bool) (R : Option (List (UInt8 × UInt8) × Nat)) (w : World) (e : Ending) (w' : World) : Prop :=
  Below w.heap.size w w' ∧ match R with
    | none => e = .returned (.tuple #[.agg #[.int .i64 0, .int .u8 0, .bool false, .slice none 0 0], .int .i64 0, .bool false])
    | some (rs, nj) => ∃ v, e = .returned (.tuple #[tokV ⟨3, 0, neg, rs⟩ v, .int .i64 ((nj : Int) + 1), .bool true]) ∧ w'.ownsRow w.heap.size 48 2 v rs.length (flat rs) ∧ rs.length ≤ 1000

/-- The cells of the result's slot, as it lies at the start. -/
def zero4 : Array Value := #[.int .i64 0, .int .u8 0, .bool false, .slice none 0 0]

/-- The loop's relation: j: the place; acc: the ranges so far; v: the field 'Ranges'. -/
def Rel (s : ByteArray) (neg : Bool) (R : Option (List (UInt8 × UInt8) × Nat)) (w : World) (i : Value) (wr : World) : Prop :=
  ∃ (j f : Nat) (acc : List (UInt8 × UInt8)) (v : Value), i = .int .i64 (j : Int) ∧ j ≤ s.size ∧ acc.length ≤ j ∧ s.size - j < f ∧ Plain.rngs s f j acc = R ∧ Below w.heap.size w wr ∧
    wr.heap[w.heap.size]? = some (.cells #[.int .i64 0, .int .u8 0, .bool false, .slice none 0 0] 42 (0, 0)) ∧
    wr.heap[w.heap.size + 1]? = some (.cells #[.int .i64 3, .int .u8 0, .bool neg, v] 42 (0, 0)) ∧ wr.ownsRow (w.heap.size + 2) 48 2 v acc.length (flat acc)

theorem rel_start (s : ByteArray) (neg : Bool) (w : World) (j : Nat) (hj : j ≤ s.size) :
    Rel s neg (Plain.rngs s (s.size + 1) j []) w (.int .i64 (j : Int))
      ((w.alloc (.cells #[.int .i64 0, .int .u8 0, .bool false, .slice none 0 0] 42)).alloc (.cells #[.int .i64 3, .int .u8 0, .bool neg, .slice none 0 0] 42)) := by
  refine ⟨j, s.size + 1, [], .slice none 0 0, rfl, hj, by simp, by omega, rfl, ((Below.refl _ _).alloc (Nat.le_refl _) _).alloc (by simp) _, ?_, ?_, World.ownsRow_nil _ _ _ _⟩
  · rw [Below.heap_alloc _ _ _ (by simp)]
    exact heap_alloc_new _ _
  · have := heap_alloc_new (w.alloc (.cells #[.int .i64 0, .int .u8 0, .bool false, .slice none 0 0] 42)) (.cells #[.int .i64 3, .int .u8 0, .bool neg, .slice none 0 0] 42)
    simpa using this

theorem cells4 {w : World} {b : Nat} {v0 v1 v2 v3 : Value} {t : TypeId} (h : w.heap[b]? = some (.cells #[v0, v1, v2, v3] t (0, 0))) :
    w.cell? ⟨b, 0, none⟩ = some v0 ∧ w.cell? ⟨b, 1, none⟩ = some v1 ∧ w.cell? ⟨b, 2, none⟩ = some v2 ∧ w.cell? ⟨b, 3, none⟩ = some v3 ∧ (∀ o, w.frozen? ⟨b, o, none⟩ = false) := by
  refine ⟨?_, ?_, ?_, ?_, fun o => ?_⟩
  all_goals simp [World.cell?, World.frozen?, h]

theorem new2 (w : World) (x y : Value) (t : TypeId) : ∀ j u, [x, y][j]? = some u → (w.alloc (.cells #[x, y] t)).cell? ((⟨w.heap.size, 0, none⟩ : Addr).add j) = some u := by
  intro j u hu
  match j, hu with
  | 0, hu => simp at hu; subst hu; simp [Addr.add]
  | 1, hu => simp at hu; subst hu; simp [Addr.add]
  | j + 2, hu => simp at hu

theorem shape {w : World} {base : Nat} {e : TypeId} {size : Nat} {v : Value} {n : Nat} {xs : List Value} (h : w.ownsRow base e size v (n + 1) xs) : ∃ g cap, v = .slice (some ⟨g, 0, none⟩) (n + 1) cap := by
  rcases h.2 with ⟨_, h0⟩ | ⟨g, cap, _, hv, _⟩
  · omega
  · exact ⟨g, cap, hv⟩

/-- Four stores into one block of four cells. -/
theorem put4 {w wr : World} {b : Nat} {a0 a1 a2 a3 : Value} {t : TypeId} (v0 v1 v2 v3 : Value) (hb : Below w.heap.size w wr) (hbb : w.heap.size ≤ b) (h : wr.heap[b]? = some (.cells #[a0, a1, a2, a3] t (0, 0))) :
    ((((wr.setCell ⟨b, 0, none⟩ v0).setCell ⟨b, 1, none⟩ v1).setCell ⟨b, 2, none⟩ v2).setCell ⟨b, 3, none⟩ v3).heap[b]? = some (.cells #[v0, v1, v2, v3] t (0, 0)) ∧
    Below w.heap.size w ((((wr.setCell ⟨b, 0, none⟩ v0).setCell ⟨b, 1, none⟩ v1).setCell ⟨b, 2, none⟩ v2).setCell ⟨b, 3, none⟩ v3) := by
  refine ⟨?_, (((hb.setCell hbb _).setCell hbb _).setCell hbb _).setCell hbb _⟩
  have h0 := heap_setCell_same wr b 0 _ _ v0 h
  have h1 := heap_setCell_same _ b 1 _ _ v1 h0
  have h2 := heap_setCell_same _ b 2 _ _ v2 h1
  have h3 := heap_setCell_same _ b 3 _ _ v3 h2
  simpa using h3

theorem start_plain {s : ByteArray} {j : Nat} {neg : Bool} {R : Option (List (UInt8 × UInt8) × Nat)} (w : World) (hj : j ≤ s.size) (hN : Plain.bang s j = neg) (hR : Plain.clas s j = R) (hb : Plain.bang s j = false) :
    Rel s neg R w (.int .i64 (j : Int)) ((w.alloc (.cells #[.int .i64 0, .int .u8 0, .bool false, .slice none 0 0] 42)).alloc (.cells #[.int .i64 3, .int .u8 0, .bool false, .slice none 0 0] 42)) := by
  rw [hb] at hN
  subst hN
  subst hR
  unfold Plain.clas Plain.behind
  rw [hb]
  exact rel_start s false w j hj

theorem start_bang {s : ByteArray} {j : Nat} {neg : Bool} {R : Option (List (UInt8 × UInt8) × Nat)} (w : World) (hj : j < s.size) (hN : Plain.bang s j = neg) (hR : Plain.clas s j = R) (hb : Plain.bang s j = true) :
    Rel s neg R w (.int .i64 ((j : Int) + 1)) ((w.alloc (.cells #[.int .i64 0, .int .u8 0, .bool false, .slice none 0 0] 42)).alloc (.cells #[.int .i64 3, .int .u8 0, .bool true, .slice none 0 0] 42)) := by
  rw [hb] at hN
  subst hN
  subst hR
  unfold Plain.clas Plain.behind
  rw [hb]
  exact rel_start s true w (j + 1) hj

theorem bang_yes {s : ByteArray} {j : Nat} (h : j < s.size) (hb : (((s[j]).toNat : Int) == 33) = true) : Plain.bang s j = true := by
  have := Item.byte_eq (k := 33) (by omega) hb
  rw [Plain.bt_eq s j h] at this
  simp only [Plain.bang]
  exact decide_eq_true ⟨h, this⟩

theorem bang_no {s : ByteArray} {j : Nat} (h : j < s.size) (hb : (((s[j]).toNat : Int) == 33) = false) : Plain.bang s j = false := by
  have := Item.byte_ne (k := 33) (by omega) hb
  rw [Plain.bt_eq s j h] at this
  simp only [Plain.bang]
  exact decide_eq_false fun x => this x.2

theorem bang_out {s : ByteArray} {j : Nat} (h : ¬ j < s.size) : Plain.bang s j = false := by
  simp only [Plain.bang]
  exact decide_eq_false fun x => h x.1

theorem end_none {neg : Bool} {R : Option (List (UInt8 × UInt8) × Nat)} {w w' : World} (hR : R = none) (hb : Below w.heap.size w w') :
    clsEnd neg R w (.returned (.tuple #[.agg #[.int .i64 0, .int .u8 0, .bool false, .slice none 0 0], .int .i64 0, .bool false])) w' := by
  subst hR
  exact ⟨hb, rfl⟩

theorem end_some {neg : Bool} {R : Option (List (UInt8 × UInt8) × Nat)} {w w' : World} {acc : List (UInt8 × UInt8)} {k : Nat} {v : Value} (hR : R = some (acc, k)) (hb : Below w.heap.size w w') (hown : w'.ownsRow w.heap.size 48 2 v acc.length (flat acc)) (hl : acc.length ≤ 1000) :
    clsEnd neg R w (.returned (.tuple #[.agg #[.int .i64 3, .int .u8 0, .bool neg, v], .int .i64 ((k : Int) + 1), .bool true])) w' := by
  subst hR
  exact ⟨hb, v, rfl, hown, hl⟩

theorem owns_low {w : World} {base base' : Nat} {e : TypeId} {size : Nat} {v : Value} {n : Nat} {xs : List Value} (h : w.ownsRow base e size v n xs) (hb : base' ≤ base) : w.ownsRow base' e size v n xs := by
  refine ⟨h.1, ?_⟩
  rcases h.2 with h2 | ⟨g, cap, cur, hv, hg, r⟩
  · exact .inl h2
  · exact .inr ⟨g, cap, cur, hv, Nat.le_trans hb hg, r⟩

/-- What an append and the store of its result make of the relation. -/
theorem rel_step {s : ByteArray} {neg : Bool} {R : Option (List (UInt8 × UInt8) × Nat)} {w wr w1 : World} {k f nk : Nat} {acc : List (UInt8 × UInt8)} {lo hi : UInt8} {v v' : Value} {o : Obj}
    (hlt : k < s.size) (h93 : ¬ Plain.bt s k = 93) (hr : Plain.rng s k = some (lo, hi, nk)) (hacc : acc.length ≤ k) (hf : s.size - k < f) (hR : Plain.rngs s f k acc = R) (hbl : Below w.heap.size w wr)
    (hc0 : wr.heap[w.heap.size]? = some (.cells #[.int .i64 0, .int .u8 0, .bool false, .slice none 0 0] 42 (0, 0)))
    (hc1 : wr.heap[w.heap.size + 1]? = some (.cells #[.int .i64 3, .int .u8 0, .bool neg, v] 42 (0, 0)))
    (hown : wr.ownsRow (w.heap.size + 2) 48 2 v acc.length (flat acc))
    (hown' : w1.ownsRow (w.heap.size + 2) 48 2 v' (acc.length + 1) (flat acc ++ [.int .u8 (lo.toNat : Int), .int .u8 (hi.toNat : Int)])) (hg : (wr.alloc o).grownBy w1 v.ownBlock) :
    w1.heap[w.heap.size + 1]? = some (.cells #[.int .i64 3, .int .u8 0, .bool neg, v] 42 (0, 0)) ∧
    Rel s neg R w (.int .i64 (nk : Int)) (w1.setCell ⟨w.heap.size + 1, 3, none⟩ v') := by
  have u := Plain.rng_up hr
  have hs0 := lt_of_block hc0
  have hs1 := lt_of_block hc1
  have hlo : ∀ q, v.ownBlock = some q → w.heap.size + 2 ≤ q := fun q hq => (hown.lt q hq).1
  have b0 : w1.heap[w.heap.size]? = wr.heap[w.heap.size]? := by
    rw [hg.block _ (by simp; omega) (fun e => by have := hlo _ e.symm; omega), Below.heap_alloc _ _ _ hs0]
  have b1 : w1.heap[w.heap.size + 1]? = wr.heap[w.heap.size + 1]? := by
    rw [hg.block _ (by simp; omega) (fun e => by have := hlo _ e.symm; omega), Below.heap_alloc _ _ _ hs1]
  refine ⟨b1.trans hc1, nk, f - 1, acc ++ [(lo, hi)], v', rfl, u.2, by simp; omega, by omega, ?_, ?_, ?_, ?_, ?_⟩
  · obtain ⟨f', rfl⟩ : ∃ f', f = f' + 1 := ⟨f - 1, by omega⟩
    rw [← hR, Plain.rngs_step hlt h93 hr]
    simp
  · exact (((hbl.alloc hbl.size o).grown hg (by have := hbl.size; simp; omega) (fun q hq => by have := hlo q hq; omega))).setCell (by simp) _
  · rw [Below.heap_setCell _ _ _ _ (by simp)]
    exact b0.trans hc0
  · have := heap_setCell_same w1 (w.heap.size + 1) 3 _ _ v' (b1.trans hc1)
    simpa using this
  · rw [flat_snoc]
    have := ownsRow_setCell_below hown' (a := ⟨w.heap.size + 1, 3, none⟩) (by simp) v'
    simpa using this

set_option maxHeartbeats 4000000 in
theorem class_any (s : ByteArray) (j : Nat) (hs : s.size ≤ 400) (hj : j ≤ s.size) (w : World) :
    Calls Yaxv.prog 11 #[.string s, .int .i64 (j : Int)] w (clsEnd (Plain.bang s j) (Plain.clas s j) w) := by
  obtain ⟨i0, hinf, hz0, hz1, hz2⟩ := info_parts info48
  have HB : Hid (¬ j < s.size → Plain.bang s j = false) := bang_out
  have HB0 : Hid (∀ h : j < s.size, (((s[j]).toNat : Int) == 33) = false → Plain.bang s j = false) := fun h => bang_no h
  have HB1 : Hid (∀ h : j < s.size, (((s[j]).toNat : Int) == 33) = true → Plain.bang s j = true) := fun h => bang_yes h
  obtain ⟨neg, hneg⟩ : ∃ neg, neg = Plain.bang s j := ⟨_, rfl⟩
  obtain ⟨R, hR0⟩ : ∃ R, R = Plain.clas s j := ⟨_, rfl⟩
  rw [← hneg, ← hR0]
  have HN : Hid (Plain.bang s j = neg) := hneg.symm
  have HR0 : Hid (Plain.clas s j = R) := hR0.symm
  clear hneg hR0
  rcases (show ¬ j < s.size ∨ (∃ h : j < s.size, (((s[j]).toNat : Int) == 33) = false) ∨ (∃ h : j < s.size, (((s[j]).toNat : Int) == 33) = true) from by
    by_cases h : j < s.size
    · cases hh : (((s[j]).toNat : Int) == 33)
      · exact .inr (.inl ⟨h, hh⟩)
      · exact .inr (.inr ⟨h, hh⟩)
    · exact .inl h) with hjs | ⟨hjs, hjb⟩ | ⟨hjs, hjb⟩
  all_goals
    go_enter Yaxv.func11, Yaxv.ntmps11
    go_wp2_with fail
    go_loopw [1] (fun i wr => Rel s neg R w i wr) (fun i _ => s.size - (intOf i).toNat)
    case atStart => first | exact start_plain w hj HN.out HR0.out (HB.out hjs) | exact start_plain w hj HN.out HR0.out (HB0.out hjs hjb) | exact start_bang w hjs HN.out HR0.out (HB1.out hjs hjb)
    case round =>
      clear HB HB0 HB1 HN HR0
      obtain ⟨k, f, acc, v, rfl, hk, hacc, hf, hR, hbl, hc0, hc1, hown⟩ := hrel
      obtain ⟨t0, t1, t2, t3, tf⟩ := cells4 hc1
      obtain ⟨r0, r1, r2, r3, rf⟩ := cells4 hc0
      have H0 : Hid (wr.heap[w.heap.size]? = some (.cells #[.int .i64 0, .int .u8 0, .bool false, .slice none 0 0] 42 (0, 0))) := hc0
      have H1 : Hid (wr.heap[w.heap.size + 1]? = some (.cells #[.int .i64 3, .int .u8 0, .bool neg, v] 42 (0, 0))) := hc1
      have HR : Hid (Plain.rngs s f k acc = R) := hR
      have HO : Hid (wr.ownsRow (w.heap.size + 2) 48 2 v acc.length (flat acc)) := hown
      clear hc0 hc1 hR
      obtain ⟨p0, pb⟩ := put4 (.int .i64 0) (.int .u8 0) (.bool false) (.slice none 0 0) hbl (Nat.le_refl _) H0.out
      obtain ⟨q0, q1, q2, q3, _⟩ := cells4 p0
      have PB : Hid _ := pb
      clear p0 pb
      have Q : Hid (_ ∧ _ ∧ _ ∧ _) := And.intro q0 (And.intro q1 (And.intro q2 q3))
      clear q0 q1 q2 q3
      by_cases hlt : k < s.size
      · by_cases h93 : Plain.bt s k = 93
        · have e93 : (((s[k]).toNat : Int) == 93) = true := Item.beq_yes hlt 93 (by omega) h93
          have HC : Hid (Plain.rngs s f k acc = if acc = [] then none else some (acc, k)) := Plain.rngs_close (by omega) hlt h93
          rcases hown.2 with ⟨rfl, h0⟩ | ⟨g, cap, cur, rfl, _⟩
          · clear hown
            go_wp2_with fail
            obtain ⟨q0, q1, q2, q3⟩ := Q.out
            refine bodyPost_ret (v := .tuple #[.agg #[.int .i64 0, .int .u8 0, .bool false, .slice none 0 0], .int .i64 0, .bool false]) (by simp [results, Yaxv.results11, go_sem, q0, q1, q2, q3]) rfl ?_
            exact end_none (by rw [← HR.out, HC.out, if_pos (List.eq_nil_of_length_eq_zero h0)]) PB.out
          · clear hown
            by_cases hz : acc.length = 0
            · have hz' : ((acc.length : Int) == 0) = true := by rw [hz]; rfl
              go_wp2_with fail
              obtain ⟨q0, q1, q2, q3⟩ := Q.out
              refine bodyPost_ret (v := .tuple #[.agg #[.int .i64 0, .int .u8 0, .bool false, .slice none 0 0], .int .i64 0, .bool false]) (by simp [results, Yaxv.results11, go_sem, q0, q1, q2, q3]) rfl ?_
              exact end_none (by rw [← HR.out, HC.out, if_pos (List.eq_nil_of_length_eq_zero hz)]) PB.out
            · have hz' : ((acc.length : Int) == 0) = false := by rw [beq_eq_false_iff_ne]; omega
              go_wp2_with fail
              obtain ⟨m0, mb⟩ := put4 (.int .i64 3) (.int .u8 0) (.bool neg) (.slice (some ⟨g, 0, none⟩) acc.length cap) hbl (Nat.le_refl _) H0.out
              obtain ⟨q0, q1, q2, q3, _⟩ := cells4 m0
              refine bodyPost_ret (v := .tuple #[.agg #[.int .i64 3, .int .u8 0, .bool neg, .slice (some ⟨g, 0, none⟩) acc.length cap], .int .i64 ((k : Int) + 1), .bool true]) (by simp [results, Yaxv.results11, go_sem, q0, q1, q2, q3]) rfl ?_
              exact end_some (by rw [← HR.out, HC.out, if_neg (fun h => hz (by rw [h]; rfl))]) mb (owns_low (ownsRow_setCell_below (ownsRow_setCell_below (ownsRow_setCell_below (ownsRow_setCell_below HO.out (by simp) _) (by simp) _) (by simp) _) (by simp) _) (by omega)) (by omega)
        · have e93 : (((s[k]).toNat : Int) == 93) = false := Item.beq_no hlt 93 (by omega) h93
          rcases hI : Plain.item s true k with ⟨lo, nj, ok⟩
          have hnj := Plain.item_ge s true k
          rw [hI] at hnj
          simp only at hnj
          have HI : Hid (Plain.item s true k = (lo, nj, ok)) := hI
          have HS : Hid (w.heap.size + 1 < wr.heap.size) := lt_of_block H1.out
          clear hI hown
          go_wp2_with fail
          refine (Item.readChar_at HI.out hs (by omega) _).mono ?_
          rintro e w1 ⟨rfl, hw⟩
          subst w1
          cases ok
          · go_wp2_with fail
            obtain ⟨q0, q1, q2, q3⟩ := Q.out
            refine bodyPost_ret (v := .tuple #[.agg #[.int .i64 0, .int .u8 0, .bool false, .slice none 0 0], .int .i64 0, .bool false]) (by simp [results, Yaxv.results11, go_sem, q0, q1, q2, q3]) rfl ?_
            exact end_none (by rw [← HR.out, Plain.rngs_fail hlt h93 (Plain.rng_bad HI.out)]) PB.out
          · by_cases hd : nj < s.size
            · by_cases h45 : Plain.bt s nj = 45
              · have e45 : (((s[nj]).toNat : Int) == 45) = true := Item.beq_yes hd 45 (by omega) h45
                rcases hI2 : Plain.item s true (nj + 1) with ⟨hi, nk, ok2⟩
                have HI2 : Hid (Plain.item s true (nj + 1) = (hi, nk, ok2)) := hI2
                clear hI2
                go_wp2_with fail
                refine (Item.readChar_to _ (by omega) HI2.out hs (by omega) _).mono ?_
                rintro e w1 ⟨rfl, hw⟩
                subst w1
                cases ok2
                · go_wp2_with fail
                  obtain ⟨q0, q1, q2, q3⟩ := Q.out
                  refine bodyPost_ret (v := .tuple #[.agg #[.int .i64 0, .int .u8 0, .bool false, .slice none 0 0], .int .i64 0, .bool false]) (by simp [results, Yaxv.results11, go_sem, q0, q1, q2, q3]) rfl ?_
                  exact end_none (by rw [← HR.out, Plain.rngs_fail hlt h93 (Plain.rng_bad2 HI.out hd h45 HI2.out (.inl rfl))]) PB.out
                · by_cases hlh : hi.toNat < lo.toNat
                  · go_wp2_with fail
                    obtain ⟨q0, q1, q2, q3⟩ := Q.out
                    refine bodyPost_ret (v := .tuple #[.agg #[.int .i64 0, .int .u8 0, .bool false, .slice none 0 0], .int .i64 0, .bool false]) (by simp [results, Yaxv.results11, go_sem, q0, q1, q2, q3]) rfl ?_
                    exact end_none (by rw [← HR.out, Plain.rngs_fail hlt h93 (Plain.rng_bad2 HI.out hd h45 HI2.out (.inr hlh))]) PB.out
                  · skip
                    go_wp2_with (at_builtin; refine wpList_append_own _ rfl (.tmp 74) (.tmp 78) 40 rfl (w.heap.size + 2) 48 i0 _ 2 2 Yaxv.underlying40 hinf hz0 hz1 hz2 rfl (by decide) _ _ _ rfl (HO.out.alloc _) ⟨wr.heap.size, 0, none⟩ 1 1 [.int .u8 (lo.toNat : Int), .int .u8 (hi.toNat : Int)] rfl rfl (new2 _ _ _ _) (by simp [Value.oneCell']) (by unfold maxLen; omega) (by omega) (by have := hbl.size; have := HS.out; simp; omega) ?_)
                    intro v' w1 hown' hgrow _
                    obtain ⟨g', cap', rfl⟩ := shape hown'
                    obtain ⟨hc, hrl⟩ := rel_step hlt h93 (Plain.rng_pair HI.out hd h45 HI2.out hlh) hacc hf HR.out hbl H0.out H1.out HO.out hown' hgrow
                    have HREL : Hid _ := hrl
                    obtain ⟨_, _, _, d3, df⟩ := cells4 hc
                    clear hrl hc hown' hgrow t0 t1 t2 t3 tf r0 r1 r2 r3 rf
                    go_wp2_with fail
                    go_roundw
                    case rel => exact HREL.out
                    case measure => have := Plain.rng_up (Plain.rng_pair HI.out hd h45 HI2.out hlh); simp [intOf]; omega
              · have e45 : (((s[nj]).toNat : Int) == 45) = false := Item.beq_no hd 45 (by omega) h45
                go_wp2_with (at_builtin; refine wpList_append_own _ rfl (.tmp 74) (.tmp 78) 40 rfl (w.heap.size + 2) 48 i0 _ 2 2 Yaxv.underlying40 hinf hz0 hz1 hz2 rfl (by decide) _ _ _ rfl (HO.out.alloc _) ⟨wr.heap.size, 0, none⟩ 1 1 [.int .u8 (lo.toNat : Int), .int .u8 (lo.toNat : Int)] rfl rfl (new2 _ _ _ _) (by simp [Value.oneCell']) (by unfold maxLen; omega) (by omega) (by have := hbl.size; have := HS.out; simp; omega) ?_)
                intro v' w1 hown' hgrow _
                obtain ⟨g', cap', rfl⟩ := shape hown'
                obtain ⟨hc, hrl⟩ := rel_step hlt h93 (Plain.rng_single HI.out (fun x => h45 x.2)) hacc hf HR.out hbl H0.out H1.out HO.out hown' hgrow
                have HREL : Hid _ := hrl
                obtain ⟨_, _, _, d3, df⟩ := cells4 hc
                clear hrl hc hown' hgrow t0 t1 t2 t3 tf r0 r1 r2 r3 rf
                go_wp2_with fail
                go_roundw
                case rel => exact HREL.out
                case measure => have := Plain.rng_up (Plain.rng_single HI.out (fun x => h45 x.2)); simp [intOf]; omega
            · skip
              go_wp2_with (at_builtin; refine wpList_append_own _ rfl (.tmp 74) (.tmp 78) 40 rfl (w.heap.size + 2) 48 i0 _ 2 2 Yaxv.underlying40 hinf hz0 hz1 hz2 rfl (by decide) _ _ _ rfl (HO.out.alloc _) ⟨wr.heap.size, 0, none⟩ 1 1 [.int .u8 (lo.toNat : Int), .int .u8 (lo.toNat : Int)] rfl rfl (new2 _ _ _ _) (by simp [Value.oneCell']) (by unfold maxLen; omega) (by omega) (by have := hbl.size; have := HS.out; simp; omega) ?_)
              intro v' w1 hown' hgrow _
              obtain ⟨g', cap', rfl⟩ := shape hown'
              obtain ⟨hc, hrl⟩ := rel_step hlt h93 (Plain.rng_single HI.out (fun x => hd x.1)) hacc hf HR.out hbl H0.out H1.out HO.out hown' hgrow
              have HREL : Hid _ := hrl
              obtain ⟨_, _, _, d3, df⟩ := cells4 hc
              clear hrl hc hown' hgrow t0 t1 t2 t3 tf r0 r1 r2 r3 rf
              go_wp2_with fail
              go_roundw
              case rel => exact HREL.out
              case measure => have := Plain.rng_up (Plain.rng_single HI.out (fun x => hd x.1)); simp [intOf]; omega
      · go_wp2_with fail
        obtain ⟨q0, q1, q2, q3⟩ := Q.out
        refine bodyPost_ret (v := .tuple #[.agg #[.int .i64 0, .int .u8 0, .bool false, .slice none 0 0], .int .i64 0, .bool false]) (by simp [results, Yaxv.results11, go_sem, q0, q1, q2, q3]) rfl ?_
        exact end_none (by rw [← HR.out, Plain.rngs_out hlt]) PB.out

end Go.Proofs.Ymwhax.Cls
