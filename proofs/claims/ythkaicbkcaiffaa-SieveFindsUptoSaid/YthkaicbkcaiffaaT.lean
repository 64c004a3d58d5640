/-
  The automaton's table in memory, and the walks that only read it: step, which, open. Conditions: none.
-/
import Derived.Test.YthkaicbkcaiffaaM
import Derived.StillTailTactics
import Derived.Deep.CutRange
import Derived.Outline
namespace Go.Proofs.Ythkaicbkcaiffaa
open Go.RowKit

/-- Below block number B only blocks of S have turned. -/
structure Keep (B : Nat) (S : Nat → Prop) (w w' : World) : Prop where
  os : w'.os = w.os
  tape : w'.tape = w.tape
  output : w'.output = w.output
  size : w.heap.size ≤ w'.heap.size
  block : ∀ k, k < B → ¬ S k → w'.heap[k]? = w.heap[k]?
def NoB : Nat → Prop := fun _ => False
theorem Keep.refl (B : Nat) (S : Nat → Prop) (w : World) : Keep B S w w := ⟨rfl, rfl, rfl, Nat.le_refl _, fun _ _ _ => rfl⟩
theorem Keep.trans {B : Nat} {S : Nat → Prop} {a b c : World} (h : Keep B S a b) (k : Keep B S b c) : Keep B S a c :=
  ⟨k.os.trans h.os, k.tape.trans h.tape, k.output.trans h.output, Nat.le_trans h.size k.size, fun i hi hs => (k.block i hi hs).trans (h.block i hi hs)⟩
theorem Keep.mono {B B' : Nat} {S S' : Nat → Prop} {w w' : World} (h : Keep B S w w') (hB : B' ≤ B) (hS : ∀ k, k < B' → S k → S' k) : Keep B' S' w w' :=
  ⟨h.os, h.tape, h.output, h.size, fun k hk hs => h.block k (Nat.lt_of_lt_of_le hk hB) (fun q => hs (hS k hk q))⟩
theorem Keep.below {B : Nat} {w w' : World} (h : Keep B NoB w w') : Below B w w' := ⟨h.os, h.tape, h.output, h.size, fun k hk => h.block k hk (fun q => q)⟩
theorem Keep.of_below {B : Nat} {S : Nat → Prop} {w w' : World} (h : Below B w w') : Keep B S w w' := ⟨h.os, h.tape, h.output, h.size, fun k hk _ => h.block k hk⟩
theorem Keep.drew {B : Nat} {S : Nat → Prop} {a w : World} (h : Keep B S a w) : Keep B S a w.drew := ⟨h.os, h.tape, h.output, h.size, h.block⟩
theorem Keep.drewN {B : Nat} {S : Nat → Prop} {a w : World} (h : Keep B S a w) (n : Nat) : Keep B S a (w.drewN n) := ⟨h.os, h.tape, h.output, h.size, h.block⟩
theorem Keep.alloc {B : Nat} {S : Nat → Prop} {a w : World} (h : Keep B S a w) (hB : B ≤ w.heap.size) (o : Obj) : Keep B S a (w.alloc o) :=
  h.trans (.of_below ((Below.refl B w).alloc hB o))
theorem Keep.setCell {B : Nat} {S : Nat → Prop} {a w : World} (h : Keep B S a w) {p : Addr} (hp : B ≤ p.block ∨ S p.block) (u : Value) : Keep B S a (w.setCell p u) :=
  h.trans ⟨rfl, rfl, rfl, by simp [World.setCell], fun k hk hs => Below.heap_setCell _ _ _ _ (by rintro rfl; rcases hp with hp | hp; omega; exact hs hp)⟩
theorem Keep.setObj {B : Nat} {S : Nat → Prop} {a w : World} (h : Keep B S a w) {m : Nat} (hp : B ≤ m ∨ S m) (o : Obj) : Keep B S a { w with heap := w.heap.setIfInBounds m o } :=
  h.trans ⟨rfl, rfl, rfl, by simp, fun k hk hs => by
    show (w.heap.setIfInBounds m o)[k]? = _
    rw [Array.getElem?_setIfInBounds_ne]
    rintro rfl; rcases hp with hp | hp; omega; exact hs hp⟩
theorem Keep.grown {B : Nat} {S : Nat → Prop} {a w w' : World} {row : Option Nat} (h : Keep B S a w) (hg : w.grownBy w' row) (hB : B ≤ w.heap.size) (hr : ∀ k, row = some k → B ≤ k ∨ S k) : Keep B S a w' :=
  h.trans ⟨hg.os, hg.tape, hg.output, hg.size, fun k hk hs => hg.block k (by omega) (fun e => by rcases hr k e.symm with q | q; omega; exact hs q)⟩
/-- A callee's word, met in a later world. -/
theorem Keep.call {B B' : Nat} {S S' : Nat → Prop} {a w w' : World} (h : Keep B S a w) (hc : Keep B' S' w w') (hB : B ≤ B') (hS : ∀ k, k < B → S' k → S k) : Keep B S a w' :=
  h.trans (hc.mono hB hS)
theorem Blk.keep {w w' : World} {b B : Nat} {S : Nat → Prop} {e : TypeId} {cs : Array Value} (h : Blk w b e cs) (hk : Keep B S w w') (hB : b < B) (hS : ¬ S b) : Blk w' b e cs := (hk.block b hB hS).trans h

structure Nd where
  depth : Nat
  fail : Nat
  which : Int
  up : Nat
  by_ : Nat
def nd0 : Nd := ⟨0, 0, -1, 0, 0⟩
structure Tb where
  next : List ((Nat × Nat) × Nat)
  nodes : List Nd
def Tb.nd (T : Tb) (i : Nat) : Nd := T.nodes.getD i nd0
def ndCells (x : Nd) : List Value := [.int .i32 (x.depth : Int), .int .i32 (x.fail : Int), .int .i32 x.which, .int .i32 (x.up : Int), .int .u8 (x.by_ : Int)]
def nodeCells (l : List Nd) : List Value := l.flatMap ndCells
theorem nodeCells_len (l : List Nd) : (nodeCells l).length = l.length * 5 := by
  induction l with
  | nil => rfl
  | cons x l ih => simp only [nodeCells, List.flatMap_cons, List.length_append, List.length_cons] at *; rw [ih]; simp [ndCells]; omega
theorem nodeCells_get (l : List Nd) (i j : Nat) (hi : i < l.length) (hj : j < 5) : (nodeCells l)[i * 5 + j]? = (ndCells (l.getD i nd0))[j]? := by
  induction l generalizing i with
  | nil => simp at hi
  | cons x l ih =>
    have hx : (ndCells x).length = 5 := rfl
    simp only [nodeCells, List.flatMap_cons] at *
    cases i with
    | zero => rw [List.getElem?_append_left (by omega)]; simp
    | succ i =>
      rw [List.getElem?_append_right (by omega), hx, show (i + 1) * 5 + j - 5 = i * 5 + j by omega]
      simpa using ih i (by simpa using hi)

/-- The table's blocks: the struct, the map, the nodes; from block 'base' on. -/
structure TabAt (w : World) (base tb mb nb cap : Nat) (T : Tb) : Prop where
  head : Blk w tb 110 #[.map (some mb), .slice (some ⟨nb, 0, none⟩) T.nodes.length cap]
  map : MapIs w mb T.next
  row : w.ownsRow base 114 5 (.slice (some ⟨nb, 0, none⟩) T.nodes.length cap) T.nodes.length (nodeCells T.nodes)
  b1 : base ≤ tb
  b2 : base ≤ mb

theorem row_cells {w : World} {base n size nb cap : Nat} {e : TypeId} {xs : List Value} (h : w.ownsRow base e size (.slice (some ⟨nb, 0, none⟩) n cap) n xs) :
    base ≤ nb ∧ n ≤ cap ∧ cap ≤ maxLen ∧ nb < w.heap.size ∧ (∃ cur, w.heap[nb]? = some (.cells cur e (0, 0)) ∧ cur.size = cap * size ∧ cur.toList.take (n * size) = xs) ∧ ∀ (j : Nat) u, xs[j]? = some u → w.cell? ⟨nb, j, none⟩ = some u ∧ w.frozen? ⟨nb, j, none⟩ = false := by
  obtain ⟨h1, h2⟩ := h
  rcases h2 with ⟨h, _⟩ | ⟨g, cap', cur, hv, hg, hh, hc, hm, hs, ht⟩
  · cases h
  obtain ⟨rfl, rfl⟩ : nb = g ∧ cap = cap' := by simpa using hv
  refine ⟨hg, hc, hm, ?_, ⟨cur, hh, hs, ht⟩, fun j u hj => ⟨?_, ?_⟩⟩
  · by_cases hb : nb < w.heap.size
    · exact hb
    · rw [Array.getElem?_eq_none (by omega)] at hh; cases hh
  · unfold World.cell?
    rw [hh]
    have hjl : j < n * size := by have := (List.getElem?_eq_some_iff.1 hj).1; omega
    rw [← ht, List.getElem?_take_of_lt hjl] at hj
    simpa using hj
  · unfold World.frozen?; rw [hh]; simp
theorem TabAt.cell {w : World} {base tb mb nb cap : Nat} {T : Tb} (h : TabAt w base tb mb nb cap T) {i : Nat} (hi : i < T.nodes.length) :
    w.cell? ⟨nb, i * 5, none⟩ = some (.int .i32 ((T.nd i).depth : Int)) ∧ w.cell? ⟨nb, i * 5 + 1, none⟩ = some (.int .i32 ((T.nd i).fail : Int)) ∧ w.cell? ⟨nb, i * 5 + 2, none⟩ = some (.int .i32 (T.nd i).which) ∧
    w.cell? ⟨nb, i * 5 + 3, none⟩ = some (.int .i32 ((T.nd i).up : Int)) ∧ w.cell? ⟨nb, i * 5 + 4, none⟩ = some (.int .u8 ((T.nd i).by_ : Int)) := by
  have hr := (row_cells h.row).2.2.2.2.2
  exact ⟨(hr (i * 5 + 0) _ (by rw [nodeCells_get _ _ 0 hi (by omega)]; rfl)).1, (hr (i * 5 + 1) _ (by rw [nodeCells_get _ _ 1 hi (by omega)]; rfl)).1, (hr (i * 5 + 2) _ (by rw [nodeCells_get _ _ 2 hi (by omega)]; rfl)).1,
    (hr (i * 5 + 3) _ (by rw [nodeCells_get _ _ 3 hi (by omega)]; rfl)).1, (hr (i * 5 + 4) _ (by rw [nodeCells_get _ _ 4 hi (by omega)]; rfl)).1⟩

/-- Where a symbol leads. -/
inductive Step (T : Tb) (b : Nat) : Nat → Nat → Prop where
  | hit {i r : Nat} : fnd T.next (i, b) = some r → Step T b i r
  | root : fnd T.next (0, b) = none → Step T b 0 0
  | back {i r : Nat} : fnd T.next (i, b) = none → i ≠ 0 → Step T b (T.nd i).fail r → Step T b i r

structure WF (T : Tb) : Prop where
  pos : 0 < T.nodes.length
  max : T.nodes.length ≤ 262145
  tgt : ∀ k v, fnd T.next k = some v → v < T.nodes.length
  fail : ∀ i, i < T.nodes.length → 0 < i → (T.nd i).fail < T.nodes.length ∧ (T.nd (T.nd i).fail).depth < (T.nd i).depth
  depth : ∀ i, i < T.nodes.length → (T.nd i).depth ≤ 64
  root : (T.nd 0).which = -1 ∧ (T.nd 0).depth = 0

def StepPost (T : Tb) (b i : Nat) (w : World) (e : Ending) (w' : World) : Prop := ∃ r : Nat, r < T.nodes.length ∧ Step T b i r ∧ e = .returned (.int .i32 (r : Int)) ∧ w = w'

set_option maxHeartbeats 400000 in
theorem step_any {w : World} {base tb mb nb cap : Nat} {T : Tb} (h : TabAt w base tb mb nb cap T) (wf : WF T) (i b : Nat) (hi : i < T.nodes.length) :
    Calls Try.prog 62 #[.pointer (some ⟨tb, 0, none⟩), .int .i32 (i : Int), .int .u8 (b : Int)] w (StepPost T b i w) := by
  have c0 := h.head.cell (i := 0) rfl
  have c1 := h.head.cell (i := 1) rfl
  have hlen := wf.max
  go_enter Try.func62, Try.ntmps62
  go_wp2
  go_loop [1] (fun a => ∃ k : Nat, k < T.nodes.length ∧ a = .int .i32 (k : Int) ∧ ∀ r, Step T b k r → Step T b i r) (fun a => (T.nd (intOf a).toNat).depth)
  case atStart => exact ⟨i, hi, rfl, fun _ h => h⟩
  case round =>
    obtain ⟨k, hk, rfl, hs⟩ := hrel
    have hl := run_lookup h.map (k, b)
    simp only [ky, vl] at hl
    cases hf : fnd T.next (k, b) with
    | some r =>
      rw [hf] at hl
      have hr := wf.tgt _ _ hf
      have HS := Lib.hid (hs r (.hit hf))
      simp only [Option.getD_some, Option.isSome_some] at hl
      clear hf hs
      go_wp2
      go_ret
      exact ⟨r, hr, HS.out, rfl, rfl⟩
    | none =>
      rw [hf] at hl
      simp only [Option.getD_none, Option.isSome_none] at hl
      by_cases h0 : k = 0
      · have HS := Lib.hid (hs 0 (by rw [h0]; exact .root (h0 ▸ hf)))
        have h1 : ((k : Int) == 0) = true := by simpa using h0
        clear hf hs h0
        go_wp2
        go_ret
        exact ⟨0, wf.pos, HS.out, rfl, rfl⟩
      · have h1 : ((k : Int) == 0) = false := by simpa using h0
        have hc := (h.cell hk).2.1
        obtain ⟨hf1, hf2⟩ := wf.fail k hk (by omega)
        have HS := Lib.hid (fun r q => hs r (.back hf h0 q))
        clear hf hs
        go_wp2
        go_round
        case rel => exact ⟨(T.nd k).fail, hf1, rfl, HS.out⟩
        case measure => simpa [intOf] using hf2

set_option maxHeartbeats 400000 in
theorem which_any {w : World} {base tb mb nb cap : Nat} {T : Tb} (h : TabAt w base tb mb nb cap T) (wf : WF T) (i : Nat) (hi : i < T.nodes.length) (hw : -1 ≤ (T.nd i).which ∧ (T.nd i).which ≤ 4096) :
    Calls Try.prog 63 #[.pointer (some ⟨tb, 0, none⟩), .int .i32 (i : Int)] w fun e w' => e = .returned (.int .i64 (T.nd i).which) ∧ w' = w := by
  have c1 := h.head.cell (i := 1) rfl
  have hlen := wf.max
  have hc := (h.cell hi).2.2.1
  have hcv : IntKind.i64.wrap (T.nd i).which = (T.nd i).which := IntWalk.i64_in _ (by omega)
  go_enter Try.func63, Try.ntmps63
  go_wp2
  go_ret
  exact ⟨rfl, rfl⟩

/-- How many of the last symbols may still begin a pattern. -/
def Tb.opn (T : Tb) (i : Nat) : Nat := if 0 ≤ (T.nd i).which then (T.nd (T.nd i).fail).depth else (T.nd i).depth

set_option maxRecDepth 100000 in
set_option maxHeartbeats 400000 in
theorem open_any {w : World} {base tb mb nb cap : Nat} {T : Tb} (h : TabAt w base tb mb nb cap T) (wf : WF T) (i : Nat) (hi : i < T.nodes.length) :
    Calls Try.prog 64 #[.pointer (some ⟨tb, 0, none⟩), .int .i32 (i : Int)] w fun e w' => e = .returned (.int .i64 (T.opn i : Nat)) ∧ Below w.heap.size w w' := by
  have c1 := h.head.cell (i := 1) rfl
  have hlen := wf.max
  obtain ⟨q0, q1, q2, q3, q4⟩ := h.cell hi
  have hd := wf.depth i hi
  have hd0 : ((T.nd i).depth : Int) ≤ 64 := by omega
  have ht := h.head.lt
  have hn := (row_cells h.row).2.2.2.1
  by_cases h0 : 0 ≤ (T.nd i).which
  · have hi0 : 0 < i := by
      rcases Nat.eq_zero_or_pos i with e | e
      · subst e; have := wf.root.1; omega
      · exact e
    obtain ⟨hf, _⟩ := wf.fail i hi hi0
    obtain ⟨j, hj⟩ : ∃ j, (T.nd i).fail = j := ⟨_, rfl⟩
    rw [hj] at hf q1
    obtain ⟨p0, p1, p2, p3, p4⟩ := h.cell hf
    have hd2 := wf.depth j hf
    have hd3 : ((T.nd j).depth : Int) ≤ 64 := by omega
    have HJ := Lib.hid hj
    clear hj
    have hO : Hid (T.opn i = (T.nd j).depth) := by show T.opn i = _; rw [Tb.opn, if_pos h0, HJ.out]
    go_enter Try.func64, Try.ntmps64
    go_wp2
    refine region_tail 8 (by kernel_rfl) (by kernel_rfl) ?_
    simp only [List.take_succ_cons, List.take_zero, List.drop_succ_cons, List.drop_zero]
    repeat still_step
    refine wpStill_nil ?_
    go_wp2
    go_ret
    exact ⟨ret_int (by rw [hO.out]), by repeat (first | (with_reducible exact Below.refl _ _) | apply Below.drew | refine Below.setCell ?_ (by simp) _ | refine Below.alloc ?_ (by simp) _)⟩
  · have hO : Hid (T.opn i = (T.nd i).depth) := by show T.opn i = _; rw [Tb.opn, if_neg h0]
    go_enter Try.func64, Try.ntmps64
    go_wp2
    go_ret
    exact ⟨ret_int (by rw [hO.out]), (Below.refl _ _).alloc (Nat.le_refl _) _⟩
end Go.Proofs.Ythkaicbkcaiffaa
