/-
  The heap in small words: a block known whole, what a store, a new block, a draw leave of it; lists of bytes as blocks. Conditions: none.
-/
import Derived.Test.YthkaicbkcaiffaaProg
import Derived.WalkKit
import Derived.WalkLawsBesides
import Derived.Deep.OwnRows
import Derived.Deep.QuietTactic
import Derived.BigQuiet
import Derived.Laws.BitsLemmas
import Derived.StillTailTactics
import Derived.Lib.Hide
namespace Go.Proofs.Ythkaicbkcaiffaa
open Go.RowKit

theorem ret_int {k : IntKind} {a b : Int} (h : a = b) : Ending.returned (.int k a) = .returned (.int k b) := by rw [h]
theorem ret_bool {a b : Bool} (h : a = b) : Ending.returned (.bool a) = .returned (.bool b) := by rw [h]

/-- A region that draws: reads and calls that leave the world, then a tail in its one order; the world by its draw's name. -/
theorem region_tail {P : Program} {id : Nat} {Q : Exit → Act → World → Prop} {a : Act} {w : World} {l : List Oper} (n : Nat) (hm : P.follows .mixedOrders = true) (hB : Region.lexTailB .any l.toArray n = true)
    (h : wpStill P l.toArray w.drew (fun a' => wpList P l.toArray Q (l.drop n) a' w.drew) (l.take n) a) : (Code.region id l.toArray true).wp P Q a w := wp_region_still_tail n hm hB h
theorem region_still {P : Program} {id : Nat} {Q : Exit → Act → World → Prop} {a : Act} {w : World} {l : List Oper} (hm : P.follows .mixedOrders = true) (hB : Region.lexB .any l.toArray = true)
    (h : wpStill P l.toArray w.drew (fun a' => Q .normal a' w.drew) l a) : (Code.region id l.toArray true).wp P Q a w := wp_region_still_lit hm hB h

/-- Block b holds the cells cs, a row of elements of type e, none of them frozen. -/
def Blk (w : World) (b : Nat) (e : TypeId) (cs : Array Value) : Prop := w.heap[b]? = some (.cells cs e (0, 0))

section
variable {w w' : World} {b b' i B n : Nat} {e : TypeId} {cs : Array Value} {v : Value} {o : Obj}
theorem Blk.cell (h : Blk w b e cs) (hi : cs[i]? = some v) : w.cell? ⟨b, i, none⟩ = some v := by
  unfold World.cell?; rw [show w.heap[b]? = _ from h]; simpa using hi
theorem Blk.free (h : Blk w b e cs) : w.frozen? ⟨b, i, none⟩ = false := by
  unfold World.frozen?; rw [show w.heap[b]? = _ from h]; simp
theorem Blk.lt (h : Blk w b e cs) : b < w.heap.size := by
  by_cases hb : b < w.heap.size
  · exact hb
  · rw [Blk, Array.getElem?_eq_none (by omega)] at h; cases h
theorem Blk.set (h : Blk w b e cs) : Blk (w.setCell ⟨b, i, none⟩ v) b e (cs.setIfInBounds i v) := by
  unfold Blk World.setCell; simp only [Array.getElem?_modify, if_true]; rw [show w.heap[b]? = _ from h]; simp
theorem Blk.set_ne (h : Blk w b e cs) (hb : b' ≠ b) : Blk (w.setCell ⟨b', i, none⟩ v) b e cs := by
  unfold Blk; rw [Below.heap_setCell _ _ _ _ (by simpa using hb.symm)]; exact h
theorem Blk.alloc (h : Blk w b e cs) : Blk (w.alloc o) b e cs := by
  unfold Blk; rw [Below.heap_alloc _ _ _ h.lt]; exact h
theorem Blk.new : Blk (w.alloc (.cells cs e)) w.heap.size e cs := by
  unfold Blk; show (w.heap.push _)[w.heap.size]? = _; simp
theorem Blk.drew (h : Blk w b e cs) : Blk w.drew b e cs := h
theorem Blk.drewN (h : Blk w b e cs) : Blk (w.drewN n) b e cs := h
theorem Blk.below (h : Blk w b e cs) (hb : Below B w w') (hB : b < B) : Blk w' b e cs := (hb.block b hB).trans h
end

/-- Bytes as cells. -/
def u8s (l : List Nat) : Array Value := (l.map fun x : Nat => Value.int .u8 (x : Int)).toArray
theorem u8s_size (l : List Nat) : (u8s l).size = l.length := by simp [u8s]
theorem u8s_get (l : List Nat) (i : Nat) (h : i < l.length) : (u8s l)[i]? = some (.int .u8 (l.getD i 0 : Nat)) := by
  simp [u8s, List.getD, h]
theorem u8s_set (l : List Nat) (i x : Nat) : (u8s l).setIfInBounds i (.int .u8 (x : Int)) = u8s (l.set i x) := by
  unfold u8s; apply Array.ext'; simp [List.map_set]
theorem u8s_made (n : Nat) : madeCells #[.int .u8 0] n = u8s (List.replicate n 0) := by
  have hs : (madeCells #[.int .u8 0] n).size = n := by simp [size_madeCells]
  apply Array.ext
  · rw [hs, u8s_size]; simp
  · intro i h1 h2
    have : (u8s (List.replicate n 0))[i]? = some (.int .u8 0) := by
      rw [u8s_get _ _ (by simpa [hs] using h1)]; simp [List.getD, show i < n by simpa [hs] using h1]
    rw [Array.getElem?_eq_getElem h2] at this
    rw [Option.some.inj this]
    simp [madeCells, Nat.mod_one]

/-- The cells of a list of bytes, from an address on. -/
def ByteCells (w : World) (b off : Nat) (l : List Nat) : Prop := ∀ i, i < l.length → w.cell? ⟨b, off + i, none⟩ = some (.int .u8 (l.getD i 0 : Nat))
theorem ByteCells.below {w w' : World} {b off B : Nat} {l : List Nat} (h : ByteCells w b off l) (hb : Below B w w') (hB : b < B) : ByteCells w' b off l :=
  fun i hi => (hb.cell (p := ⟨b, off + i, none⟩) hB).trans (h i hi)
theorem ByteCells.take {w : World} {b off n : Nat} {l : List Nat} (h : ByteCells w b off l) : ByteCells w b off (l.take n) := by
  intro i hi
  have : i < n ∧ i < l.length := by simpa [Nat.lt_min] using hi
  rw [h i this.2]; simp [List.getD, this.1]
theorem Blk.bytes {w : World} {b : Nat} {e : TypeId} {l : List Nat} (h : Blk w b e (u8s l)) : ByteCells w b 0 l := by
  intro i hi; rw [Nat.zero_add]; exact h.cell (u8s_get l i hi)
end Go.Proofs.Ythkaicbkcaiffaa
