/-
  The reference's sieve while it grows. Conditions: none.
-/
import Derived.Test.YthkaicbkcaiffaaV
namespace Go.Proofs.Ythkaicbkcaiffaa
open Go.RowKit

/-- RefAt with its lists by themselves. -/
structure RefRaw (w : World) (base rb wd : Nat) (S : List ByteArray) (I : Nat → List Nat) (lv : Value) (F : Nat → Value) : Prop where
  head : ∃ cs, Blk w rb 91 cs ∧ cs[0]? = some lv ∧ cs[257]? = some (.int .i64 (wd : Int)) ∧ ∀ b, b < 256 → cs[1 + b]? = some (F b)
  strs : w.ownsRow base 9 1 lv S.length (S.map Value.string)
  idx : ∀ b, b < 256 → w.ownsRow base 3 1 (F b) (I b).length ((I b).map fun k : Nat => .int .i64 (k : Int))
  apart : ∀ b b', b < 256 → b' < 256 → b ≠ b' → ∀ x, (F b).ownBlock = some x → (F b').ownBlock ≠ some x
  b0 : base ≤ rb
theorem RefRaw.at {w : World} {base rb wd : Nat} {ps : List ByteArray} {lv : Value} {F : Nat → Value} (h : RefRaw w base rb wd ps (idxs ps) lv F) : RefAt w base rb wd ps lv F := ⟨h.head, h.strs, h.idx, h.apart, h.b0⟩
theorem RefAt.raw {w : World} {base rb wd : Nat} {ps : List ByteArray} {lv : Value} {F : Nat → Value} (h : RefAt w base rb wd ps lv F) : RefRaw w base rb wd ps (idxs ps) lv F := ⟨h.head, h.strs, h.idx, h.apart, h.b0⟩
theorem RefRaw.below {w w' : World} {base rb wd : Nat} {S : List ByteArray} {I : Nat → List Nat} {lv : Value} {F : Nat → Value} (h : RefRaw w base rb wd S I lv F) (hb : Below w.heap.size w w') : RefRaw w' base rb wd S I lv F := by
  obtain ⟨cs, c0, c1, c2, c3⟩ := h.head
  exact ⟨⟨cs, c0.below hb c0.lt, c1, c2, c3⟩, own_same h.strs fun b q => hb.block b (h.strs.lt b q).2, fun b hb' => own_same (h.idx b hb') fun x q => hb.block x ((h.idx b hb').lt x q).2, h.apart, h.b0⟩
theorem zero91 : Try.zeroCells91 = #[.slice none 0 0] ++ Array.replicate 256 (.slice none 0 0) ++ #[.int .i64 0] := by kernel_rfl
theorem ref_new (w : World) : RefRaw (w.alloc (.cells Try.zeroCells91 91)) w.heap.size w.heap.size 0 [] (fun _ => []) (.slice none 0 0) (fun _ => .slice none 0 0) := by
  refine ⟨⟨Try.zeroCells91, Blk.new, by kernel_rfl, by kernel_rfl, fun b hb => ?_⟩, World.ownsRow_nil _ _ _ _, fun b hb => World.ownsRow_nil _ _ _ _, fun b b' _ _ _ x hx => (by cases hx), Nat.le_refl _⟩
  rw [zero91, Array.getElem?_append_left (by simp; omega), Array.getElem?_append_right (by simp)]
  simp [hb]
theorem row_ne {w : World} {base n size rb x : Nat} {e : TypeId} {v : Value} {xs : List Value} {cs : Array Value} (h : w.ownsRow base e size v n xs) (hb : Blk w rb 91 cs) (he : e ≠ 91) (hx : v.ownBlock = some x) : x ≠ rb := by
  rintro rfl
  rcases h.2 with ⟨rfl, _⟩ | ⟨g, cap, cur, rfl, _, hh, _⟩
  · cases hx
  · obtain rfl : g = x := by simpa [Value.ownBlock] using hx
    rw [show w.heap[g]? = _ from hb] at hh; injection hh with hh; injection hh with _ h6 _; exact he h6.symm
theorem RefRaw.setW {w : World} {base rb wd wd' : Nat} {S : List ByteArray} {I : Nat → List Nat} {lv : Value} {F : Nat → Value} (h : RefRaw w base rb wd S I lv F) : RefRaw (w.setCell ⟨rb, 257, none⟩ (.int .i64 (wd' : Int))) base rb wd' S I lv F := by
  obtain ⟨cs, c0, c1, c2, c3⟩ := h.head
  have hsz : 257 < cs.size := (Array.getElem?_eq_some_iff.1 c2).1
  refine ⟨⟨_, c0.set, ?_, ?_, fun b hb => ?_⟩, own_same h.strs fun x q => Below.heap_setCell _ _ _ _ (row_ne h.strs c0 (by decide) q), fun b hb => own_same (h.idx b hb) fun x q => Below.heap_setCell _ _ _ _ (row_ne (h.idx b hb) c0 (by decide) q), h.apart, h.b0⟩
  · rw [Array.getElem?_setIfInBounds_ne (by omega)]; exact c1
  · rw [Array.getElem?_setIfInBounds_self_of_lt hsz]
  · rw [Array.getElem?_setIfInBounds_ne (by omega)]; exact c3 b hb
theorem RefRaw.putS {w w3 : World} {base rb wd : Nat} {S : List ByteArray} {s : ByteArray} {I : Nat → List Nat} {lv v' : Value} {F : Nat → Value} (h : RefRaw w base rb wd S I lv F) (hr : w3.ownsRow base 9 1 v' (S.length + 1) (S.map Value.string ++ [.string s])) (hg : w.grownBy w3 lv.ownBlock) :
    RefRaw (w3.setCell ⟨rb, 0, none⟩ v') base rb wd (S ++ [s]) I v' F := by
  obtain ⟨cs, c0, c1, c2, c3⟩ := h.head
  have hsz : 0 < cs.size := (Array.getElem?_eq_some_iff.1 c1).1
  have d0 := grown_blk c0 hg (fun e => row_ne h.strs c0 (by decide) e.symm rfl)
  have hi : ∀ b, b < 256 → w3.ownsRow base 3 1 (F b) (I b).length ((I b).map fun k : Nat => .int .i64 (k : Int)) := fun b hb => (h.idx b hb).kept hg (tags (h.idx b hb) h.strs (by decide))
  refine ⟨⟨_, d0.set, ?_, ?_, fun b hb => ?_⟩, ?_, fun b hb => own_same (hi b hb) fun x q => Below.heap_setCell _ _ _ _ (row_ne (hi b hb) d0 (by decide) q), h.apart, h.b0⟩
  · rw [Array.getElem?_setIfInBounds_self_of_lt hsz]
  · rw [Array.getElem?_setIfInBounds_ne (by omega)]; exact c2
  · rw [Array.getElem?_setIfInBounds_ne (by omega)]; exact c3 b hb
  · have := own_same hr fun x q => Below.heap_setCell w3 ⟨rb, 0, none⟩ v' x (row_ne hr d0 (by decide) q)
    simpa using this
theorem RefRaw.putI {w w3 : World} {base rb wd x k : Nat} {S : List ByteArray} {I : Nat → List Nat} {lv u' : Value} {F : Nat → Value} (h : RefRaw w base rb wd S I lv F) (hx : x < 256) (hr : w3.ownsRow base 3 1 u' ((I x).length + 1) (((I x).map fun k : Nat => .int .i64 (k : Int)) ++ [.int .i64 (k : Int)])) (hg : w.grownBy w3 (F x).ownBlock)
    (hat : (F x).ownBlock = u'.ownBlock ∨ ∃ g, u'.ownBlock = some g ∧ w.heap.size ≤ g) :
    RefRaw (w3.setCell ⟨rb, 1 + x, none⟩ u') base rb wd S (fun b => if b = x then I x ++ [k] else I b) lv (fun b => if b = x then u' else F b) := by
  obtain ⟨cs, c0, c1, c2, c3⟩ := h.head
  have hsz : 257 < cs.size := (Array.getElem?_eq_some_iff.1 c2).1
  have d0 := grown_blk c0 hg (fun e => row_ne (h.idx x hx) c0 (by decide) e.symm rfl)
  have hst := h.strs.kept hg (tags h.strs (h.idx x hx) (by decide))
  refine ⟨⟨_, d0.set, ?_, ?_, fun b hb => ?_⟩, own_same hst fun y q => Below.heap_setCell _ _ _ _ (row_ne hst d0 (by decide) q), fun b hb => ?_, fun b b' hb hb' hne y hy => ?_, h.b0⟩
  · rw [Array.getElem?_setIfInBounds_ne (by omega)]; exact c1
  · rw [Array.getElem?_setIfInBounds_ne (by omega)]; exact c2
  · by_cases e : b = x
    · subst e; rw [Array.getElem?_setIfInBounds_self_of_lt (by omega), if_pos rfl]
    · rw [Array.getElem?_setIfInBounds_ne (by omega), if_neg e]; exact c3 b hb
  · by_cases e : b = x
    · subst e
      simp only [if_true]
      have := own_same hr fun y q => Below.heap_setCell w3 ⟨rb, 1 + b, none⟩ u' y (row_ne hr d0 (by decide) q)
      simpa using this
    · simp only [if_neg e]
      have hk : w3.ownsRow base 3 1 (F b) (I b).length ((I b).map fun k : Nat => .int .i64 (k : Int)) := (h.idx b hb).kept hg (by
        cases hq : (F b).ownBlock with
        | none => exact .inl rfl
        | some y => exact .inr fun q => h.apart b x hb hx e y hq q.symm)
      exact own_same hk fun y q => Below.heap_setCell _ _ _ _ (row_ne hk d0 (by decide) q)
  · by_cases e : b = x
    · subst e
      simp only [if_true] at hy
      simp only [if_neg (Ne.symm hne)]
      rcases hat with q | ⟨g, q1, q2⟩
      · exact h.apart b b' hb hb' hne y (q.trans hy)
      · intro q
        rw [q1] at hy
        obtain rfl : g = y := by simpa using hy
        have := ((h.idx b' hb').lt g q).2
        omega
    · simp only [if_neg e] at hy
      by_cases e2 : b' = x
      · subst e2
        simp only [if_true]
        rcases hat with q | ⟨g, q1, q2⟩
        · rw [← q]; exact h.apart b b' hb hb' e y hy
        · rw [q1]; intro q
          obtain rfl : g = y := by simpa using q
          have := ((h.idx b hb).lt g hy).2
          omega
      · simp only [if_neg e2]; exact h.apart b b' hb hb' hne y hy
end Go.Proofs.Ythkaicbkcaiffaa
