/-
  The reference's Len, Width, Scan. Conditions: none.
-/
import Derived.Test.YthkaicbkcaiffaaQ
namespace Go.Proofs.Ythkaicbkcaiffaa
open Go.RowKit

theorem RefAt.below {w w' : World} {base rb wd : Nat} {ps : List ByteArray} {lv : Value} {F : Nat → Value} (h : RefAt w base rb wd ps lv F) (hb : Below w.heap.size w w') : RefAt w' base rb wd ps lv F := by
  obtain ⟨cs, c0, c1, c2, c3⟩ := h.head
  exact ⟨⟨cs, c0.below hb c0.lt, c1, c2, c3⟩, own_same h.strs fun b q => hb.block b (h.strs.lt b q).2, fun b hb' => own_same (h.idx b hb') fun x q => hb.block x ((h.idx b hb').lt x q).2, h.apart, h.b0⟩
theorem refLen_nil (w : World) : Calls Try.prog 19 #[.pointer none] w fun e w' => e = .returned (.int .i64 0) ∧ w' = w := by
  go_enter Try.func19, Try.ntmps19
  go_wp2
  go_ret
  exact ⟨rfl, rfl⟩
theorem refWidth_nil (w : World) : Calls Try.prog 21 #[.pointer none] w fun e w' => e = .returned (.int .i64 0) ∧ w' = w := by
  go_enter Try.func21, Try.ntmps21
  go_wp2
  go_ret
  exact ⟨rfl, rfl⟩
theorem refScan_nil (ao : Option Addr) (n c : Nat) (w : World) : Calls Try.prog 24 #[.pointer none, .slice ao n c] w fun e w' => e = .returned (.slice none 0 0) ∧ w' = w := by
  go_enter Try.func24, Try.ntmps24
  go_wp2
  go_ret
  exact ⟨rfl, rfl⟩
theorem refLen_at {w : World} {base rb wd : Nat} {ps : List ByteArray} {lv : Value} {F : Nat → Value} (h : RefAt w base rb wd ps lv F) : Calls Try.prog 19 #[.pointer (some ⟨rb, 0, none⟩)] w fun e w' => e = .returned (.int .i64 (ps.length : Int)) ∧ w' = w := by
  obtain ⟨cs, c0, c1, c2, c3⟩ := h.head
  obtain ⟨lo, lc, rfl⟩ := own_form h.strs
  have k0 := c0.cell c1
  clear h c0 c1 c2 c3
  go_enter Try.func19, Try.ntmps19
  go_wp2
  go_ret
  exact ⟨rfl, rfl⟩
theorem refWidth_at {w : World} {base rb wd : Nat} {ps : List ByteArray} {lv : Value} {F : Nat → Value} (h : RefAt w base rb wd ps lv F) : Calls Try.prog 21 #[.pointer (some ⟨rb, 0, none⟩)] w fun e w' => e = .returned (.int .i64 (wd : Int)) ∧ w' = w := by
  obtain ⟨cs, c0, c1, c2, c3⟩ := h.head
  have k0 := c0.cell c2
  clear h c0 c1 c2 c3
  go_enter Try.func21, Try.ntmps21
  go_wp2
  go_ret
  exact ⟨rfl, rfl⟩

/-- Which pattern stands at the head of l. -/
def headK (P : List (List Nat)) (wd : Nat) (l : List Nat) : Option Nat := P.findIdx? (fun p => p == l.take wd)
/-- The reference's hits, as far as place j. -/
def refHits (P : List (List Nat)) (wd : Nat) (l : List Nat) (j : Nat) : List (Int × Nat) := (List.range j).flatMap fun (i : Nat) => hitOf (i : Int) (headK P wd (l.drop i))
theorem refHits_succ (P : List (List Nat)) (wd : Nat) (l : List Nat) (j : Nat) : refHits P wd l (j + 1) = refHits P wd l j ++ hitOf (j : Int) (headK P wd (l.drop j)) := by
  simp [refHits, List.range_succ]
theorem hitOf_len (a : Int) (o : Option Nat) : (hitOf a o).length ≤ 1 := by cases o <;> simp [hitOf]
theorem refHits_len (P : List (List Nat)) (wd : Nat) (l : List Nat) (j : Nat) : (refHits P wd l j).length ≤ j := by
  induction j with
  | zero => simp [refHits]
  | succ j ih => rw [refHits_succ, List.length_append]; have := hitOf_len (j : Int) (headK P wd (l.drop j)); omega
theorem atPost_head {ps : List ByteArray} {wd : Nat} {l : List Nat} {r : Int} (hd : (ps.map bts).Nodup) (h1 : 1 ≤ wd) (hl : wd ≤ l.length) (h : AtPost ps wd l r) : r = match headK (ps.map bts) wd l with | some k => (k : Int) | none => -1 := by
  have hg : ∀ k, k < ps.length → (ps.map bts)[k]? = some (bts (ps.getD k .empty)) := fun k hk => by simp [List.getD, hk]
  cases hq : headK (ps.map bts) wd l with
  | some k =>
    obtain ⟨k1, k2, _⟩ := List.findIdx?_eq_some_iff_getElem.1 hq
    have hkl : k < ps.length := by simpa using k1
    have e1 : bts (ps.getD k .empty) = l.take wd := by
      have := hg k hkl
      rw [List.getElem?_eq_getElem k1] at this
      rw [← Option.some.inj this]; simpa using k2
    rcases h with ⟨k', rfl, _, _, h3, h4⟩ | ⟨rfl, h3⟩
    · have e2 : (ps.map bts)[k]? = (ps.map bts)[k']? := by rw [hg k hkl, hg k' h3, e1, h4]
      have := (List.getElem?_inj k1 hd).1 e2
      rw [this]
    · exact absurd e1 (h3 h1 hl k hkl)
  | none =>
    rcases h with ⟨k', rfl, _, _, h3, h4⟩ | ⟨rfl, h3⟩
    · have := List.findIdx?_eq_none_iff.1 hq _ (List.mem_of_getElem? (hg k' h3))
      rw [h4] at this
      simp at this
    · rfl
theorem findIdx_congr {P : List (List Nat)} {f g : List Nat → Bool} (h : ∀ p, p ∈ P → f p = g p) : P.findIdx? f = P.findIdx? g := by
  induction P with
  | nil => rfl
  | cons p P ih => rw [List.findIdx?_cons, List.findIdx?_cons, h p List.mem_cons_self, ih fun q hq => h q (List.mem_cons_of_mem _ hq)]
/-- Scan and the reference's Scan find the same. -/
theorem hits_same {P : List (List Nat)} {wd : Nat} (h1 : 1 ≤ wd) (hP : ∀ p, p ∈ P → p.length = wd) (l : List Nat) : hitsOf P wd 0 [] l = refHits P wd l (l.length + 1 - wd) := by
  have key : ∀ j, j ≤ l.length → hitsOf P wd 0 [] (l.take j) = refHits P wd l (j + 1 - wd) := by
    intro j
    induction j with
    | zero => intro _; rw [show 0 + 1 - wd = 0 by omega]; simp [hitsOf, refHits]
    | succ j ih =>
      intro hj
      rw [take_snoc (b := l.getD j 0) (by omega) rfl, hitsOf_snoc, ih (by omega), ← take_snoc (by omega) rfl]
      simp only [List.nil_append, List.length_take, Nat.min_eq_left (show j ≤ l.length by omega), Nat.zero_add]
      by_cases hw : wd ≤ j + 1
      · rw [show j + 1 + 1 - wd = (j + 1 - wd) + 1 by omega, refHits_succ]
        congr 1
        rw [show (((j + 1 : Nat) : Int) - wd) = ((j + 1 - wd : Nat) : Int) by omega]
        congr 1
        unfold endK headK
        refine findIdx_congr fun p hp => ?_
        have hl := hP p hp
        have e : (l.drop (j + 1 - wd)).take wd = (l.take (j + 1)).drop ((l.take (j + 1)).length - p.length) := by
          rw [List.drop_take, List.length_take, Nat.min_eq_left (by omega), hl, show j + 1 - (j + 1 - wd) = wd by omega]
        rw [Bool.eq_iff_iff, List.isSuffixOf_iff_suffix, List.suffix_iff_eq_drop, beq_iff_eq, e]
      · rw [show j + 1 + 1 - wd = j + 1 - wd by omega]
        have : endK P (l.take (j + 1)) = none := by
          refine List.findIdx?_eq_none_iff.2 fun p hp => ?_
          have hl := hP p hp
          cases hq : p.isSuffixOf (l.take (j + 1)) with
          | false => rfl
          | true =>
            have := (List.isSuffixOf_iff_suffix.1 hq).length_le
            simp at this; omega
        rw [this]; simp [hitOf]
  have := key l.length (Nat.le_refl _)
  rwa [List.take_length] at this
end Go.Proofs.Ythkaicbkcaiffaa
