/-
  The sieve's readers: Len, Width, Scanner, Feed, At, Held, Scan. Conditions: none.
-/
import Derived.Test.YthkaicbkcaiffaaE
namespace Go.Proofs.Ythkaicbkcaiffaa
open Go.RowKit

/-- Which pattern stands at the end of D. -/
def endK (P : List (List Nat)) (D : List Nat) : Option Nat := P.findIdx? (fun p => p.isSuffixOf D)
theorem endK_some {P : List (List Nat)} {D : List Nat} {k : Nat} (h : endK P D = some k) : Ends P D k := by
  obtain ⟨h1, h2, _⟩ := List.findIdx?_eq_some_iff_getElem.1 h
  exact ⟨P[k], by simp [h1], by simpa using h2⟩
theorem endK_none {P : List (List Nat)} {D : List Nat} (h : endK P D = none) (k : Nat) : ¬ Ends P D k := by
  rintro ⟨p, hp, hs⟩
  have := List.findIdx?_eq_none_iff.1 h p (List.mem_of_getElem? hp)
  rw [← List.isSuffixOf_iff_suffix] at hs
  rw [hs] at this; cases this
theorem Auto.endK {T : Tb} {P : List (List Nat)} {wd : Nat} (A : Auto T P wd) {D : List Nat} {i : Nat} (h : Best T D i) : (T.nd i).which = match Ythkaicbkcaiffaa.endK P D with | some k => (k : Int) | none => -1 := by
  cases hq : Ythkaicbkcaiffaa.endK P D with
  | some k => exact (A.which D i h k).2 (endK_some hq)
  | none =>
    obtain ⟨w1, w2⟩ := A.wh i (A.lt D i h)
    rcases Int.lt_or_le (T.nd i).which 0 with q | q
    · show (T.nd i).which = -1; omega
    · obtain ⟨k, hk⟩ := Int.eq_ofNat_of_zero_le q
      exact absurd ((A.which D i h k).1 hk) (endK_none hq k)
/-- One hit, or none. -/
def hitOf (a : Int) : Option Nat → List (Int × Nat)
  | some k => [(a, k)]
  | none => []
/-- The hits that end in l, behind D, of which 'at' bytes were taken. -/
def hitsOf (P : List (List Nat)) (wd : Nat) : Nat → List Nat → List Nat → List (Int × Nat)
  | _, _, [] => []
  | at_, D, b :: l => hitOf (((at_ + 1 : Nat) : Int) - wd) (endK P (D ++ [b])) ++ hitsOf P wd (at_ + 1) (D ++ [b]) l
def hcs (hs : List (Int × Nat)) : List Value := hs.flatMap fun h => [.int .i64 h.1, .int .i64 (h.2 : Int)]
theorem hitsOf_snoc (P : List (List Nat)) (wd : Nat) (l : List Nat) (b : Nat) : ∀ at_ D, hitsOf P wd at_ D (l ++ [b]) = hitsOf P wd at_ D l ++ hitOf (((at_ + l.length + 1 : Nat) : Int) - wd) (endK P (D ++ (l ++ [b]))) := by
  induction l with
  | nil => intro at_ D; simp [hitsOf]
  | cons c l ih =>
    intro at_ D
    simp only [List.cons_append, hitsOf, ih, List.append_assoc, List.length_cons, List.nil_append]
    rw [show at_ + 1 + l.length + 1 = at_ + (l.length + 1) + 1 by omega]
theorem hitsOf_len (P : List (List Nat)) (wd : Nat) (l : List Nat) : ∀ at_ D, (hitsOf P wd at_ D l).length ≤ l.length := by
  induction l with
  | nil => intro at_ D; simp [hitsOf]
  | cons c l ih =>
    intro at_ D
    have := ih (at_ + 1) (D ++ [c])
    simp only [hitsOf, List.length_append, List.length_cons]
    have h1 : ∀ a o, (hitOf a o).length ≤ 1 := by intro a o; cases o <;> simp [hitOf]
    have := h1 (((at_ + 1 : Nat) : Int) - wd) (Ythkaicbkcaiffaa.endK P (D ++ [c]))
    omega
theorem hcs_snoc (hs : List (Int × Nat)) (a : Int) (k : Nat) : hcs (hs ++ [(a, k)]) = hcs hs ++ [.int .i64 a, .int .i64 (k : Int)] := by simp [hcs]

theorem len_at {w : World} {base sb tb mb nb cap wd n : Nat} {T : Tb} (h : SieveAt w base sb tb mb nb cap wd n T) : Calls Try.prog 18 #[.pointer (some ⟨sb, 0, none⟩)] w fun e w' => e = .returned (.int .i64 (n : Int)) ∧ w' = w := by
  have c := h.head.cell (i := 1) rfl
  go_enter Try.func18, Try.ntmps18
  go_wp2
  go_ret
  exact ⟨rfl, rfl⟩
theorem len_nil (w : World) : Calls Try.prog 18 #[.pointer none] w fun e w' => e = .returned (.int .i64 0) ∧ w' = w := by
  go_enter Try.func18, Try.ntmps18
  go_wp2
  go_ret
  exact ⟨rfl, rfl⟩
theorem width_at {w : World} {base sb tb mb nb cap wd n : Nat} {T : Tb} (h : SieveAt w base sb tb mb nb cap wd n T) : Calls Try.prog 20 #[.pointer (some ⟨sb, 0, none⟩)] w fun e w' => e = .returned (.int .i64 (wd : Int)) ∧ w' = w := by
  have c := h.head.cell (i := 0) rfl
  go_enter Try.func20, Try.ntmps20
  go_wp2
  go_ret
  exact ⟨rfl, rfl⟩
theorem width_nil (w : World) : Calls Try.prog 20 #[.pointer none] w fun e w' => e = .returned (.int .i64 0) ∧ w' = w := by
  go_enter Try.func20, Try.ntmps20
  go_wp2
  go_ret
  exact ⟨rfl, rfl⟩
def scCells (sb at_ node : Nat) : Array Value := #[.pointer (some ⟨sb, 0, none⟩), .int .i64 (at_ : Int), .int .i32 (node : Int)]
theorem scanner_at (w : World) (sb : Nat) : Calls Try.prog 26 #[.pointer (some ⟨sb, 0, none⟩)] w fun e w' => e = .returned (.pointer (some ⟨w.heap.size, 0, none⟩)) ∧ w' = w.alloc (.cells (scCells sb 0 0) 94) := by
  go_enter Try.func26, Try.ntmps26
  go_wp2
  go_ret
  exact ⟨rfl, rfl⟩
theorem scanner_nil (w : World) : Calls Try.prog 26 #[.pointer none] w fun e w' => e = .returned (.pointer none) ∧ w' = w := by
  go_enter Try.func26, Try.ntmps26
  go_wp2
  go_ret
  exact ⟨rfl, rfl⟩

/-- A scanner's cells at the head of a block of more. -/
def scX (sb at_ node : Nat) (ex : Array Value) : Array Value := scCells sb at_ node ++ ex
theorem scX_0 {sb at_ node : Nat} {ex : Array Value} : (scX sb at_ node ex)[0]? = some (.pointer (some ⟨sb, 0, none⟩)) := by unfold scX scCells; rw [Array.getElem?_append_left (by simp)]; rfl
theorem scX_1 {sb at_ node : Nat} {ex : Array Value} : (scX sb at_ node ex)[1]? = some (.int .i64 (at_ : Int)) := by unfold scX scCells; rw [Array.getElem?_append_left (by simp)]; rfl
theorem scX_2 {sb at_ node : Nat} {ex : Array Value} : (scX sb at_ node ex)[2]? = some (.int .i32 (node : Int)) := by unfold scX scCells; rw [Array.getElem?_append_left (by simp)]; rfl
theorem scX_set1 {sb at_ a node : Nat} {ex : Array Value} : (scX sb at_ node ex).setIfInBounds 1 (.int .i64 (a : Int)) = scX sb a node ex := by
  unfold scX scCells; rw [Array.setIfInBounds_append_left (by simp)]; rfl
theorem scX_set2 {sb at_ node r : Nat} {ex : Array Value} : (scX sb at_ node ex).setIfInBounds 2 (.int .i32 (r : Int)) = scX sb at_ r ex := by
  unfold scX scCells; rw [Array.setIfInBounds_append_left (by simp)]; rfl
theorem scX_nil (sb at_ node : Nat) : scX sb at_ node #[] = scCells sb at_ node := Array.append_empty
/-- The types that a scanner's block has not. -/
def ScE (e : TypeId) : Prop := e ≠ 5 ∧ e ≠ 44 ∧ e ≠ 87 ∧ e ≠ 110 ∧ e ≠ 114
theorem sce94 : ScE 94 := by unfold ScE; decide
/-- What a Feed may touch: the scanner, and what is new. -/
theorem SieveAt.keep {w w' : World} {base sb tb mb nb cap wd n cb : Nat} {T : Tb} {cs : Array Value} (h : SieveAt w base sb tb mb nb cap wd n T) {e : TypeId} (he : ScE e) (hc : Blk w cb e cs) (hk : Keep w.heap.size (fun k => k = cb) w w') : SieveAt w' base sb tb mb nb cap wd n T := by
  have hcb : w.heap[cb]? = _ := hc
  obtain ⟨x1, x2, x3, x4, x5⟩ := he
  have n1 : sb ≠ cb := by
    rintro rfl; have h2 : w.heap[sb]? = _ := h.head
    rw [hcb] at h2; injection h2 with h2; injection h2 with _ h6 _; first | exact x3 h6 | exact x4 h6 | exact x5 h6
  have n2 : tb ≠ cb := by
    rintro rfl; have h2 : w.heap[tb]? = _ := h.tab.head
    rw [hcb] at h2; injection h2 with h2; injection h2 with _ h6 _; first | exact x3 h6 | exact x4 h6 | exact x5 h6
  have n3 : mb ≠ cb := by
    rintro rfl; obtain ⟨a, c, h2, _⟩ := h.tab.map
    rw [hcb] at h2; injection h2 with h2; cases h2
  have n4 : nb ≠ cb := by
    rintro rfl; obtain ⟨cur, h2, _⟩ := (row_cells h.tab.row).2.2.2.2.1
    rw [hcb] at h2; injection h2 with h2; injection h2 with _ h6 _; first | exact x3 h6 | exact x4 h6 | exact x5 h6
  have hnb := (row_cells h.tab.row).2.2.2.1
  exact ⟨h.head.keep hk h.head.lt n1, ⟨h.tab.head.keep hk h.tab.head.lt n2, h.tab.map.of_block (hk.block _ h.tab.map.lt n3), row_of_block h.tab.row (hk.block _ hnb n4), h.tab.b1, h.tab.b2⟩, h.b0⟩
end Go.Proofs.Ythkaicbkcaiffaa
