/-
  The automaton's table grows: newTable, add. Conditions: none.
-/
import Derived.Test.YthkaicbkcaiffaaT
import Derived.Test.YthkaicbkcaiffaaOz
import Derived.Deep.RegionLaw
import Derived.Deep.AppendLies
import Derived.Deep.DeepCutAuto
namespace Go.Proofs.Ythkaicbkcaiffaa
open Go.RowKit

theorem info114 : (Try.prog.info? 114).map (fun i => (i.zero, i.size, i.bytes)) = some (some (.agg #[.int .i32 0, .int .i32 0, .int .i32 0, .int .i32 0, .int .u8 0]), 5, 20) := by kernel_rfl

def Tb0 : Tb := ⟨[], [nd0]⟩
theorem tab_new (w : World) : TabAt (((w.alloc (.map #[] 0)).alloc (.cells #[.int .i32 0, .int .i32 0, .int .i32 (-1), .int .i32 0, .int .u8 0] 114)).alloc (.cells #[.map (some w.heap.size), .slice (some ⟨w.heap.size + 1, 0, none⟩) 1 1] 110)) w.heap.size (w.heap.size + 2) w.heap.size (w.heap.size + 1) 1 Tb0 where
  head := by
    have h := @Blk.new ((w.alloc (.map #[] 0)).alloc (.cells #[.int .i32 0, .int .i32 0, .int .i32 (-1), .int .i32 0, .int .u8 0] 114)) 110 #[.map (some w.heap.size), .slice (some ⟨w.heap.size + 1, 0, none⟩) 1 1]
    rw [show ((w.alloc (.map #[] 0)).alloc (.cells #[.int .i32 0, .int .i32 0, .int .i32 (-1), .int .i32 0, .int .u8 0] 114)).heap.size = w.heap.size + 2 by simp] at h
    exact h
  map := (MapIs.new w).of_block (by rw [Below.heap_alloc _ _ _ (by simp <;> omega), Below.heap_alloc _ _ _ (by simp)])
  row := by
    have h := World.ownsRow_lit (base := w.heap.size) (e := 114) (size := 5) (w.alloc (.map #[] 0)) #[.int .i32 0, .int .i32 0, .int .i32 (-1), .int .i32 0, .int .u8 0] 1 (by simp) (by decide) rfl
    have h2 := h.alloc (.cells #[.map (some w.heap.size), .slice (some ⟨w.heap.size + 1, 0, none⟩) 1 1] 110)
    rw [show (w.alloc (.map #[] 0)).heap.size = w.heap.size + 1 by simp] at h2
    exact h2
  b1 := by omega
  b2 := by omega
set_option maxHeartbeats 400000 in
theorem newTable_any (w : World) : Calls Try.prog 66 #[] w fun e w' => ∃ tb mb nb cap, e = .returned (.pointer (some ⟨tb, 0, none⟩)) ∧ TabAt w' w.heap.size tb mb nb cap Tb0 ∧ Below w.heap.size w w' := by
  have hmm := @run_makeMap Try.prog
  go_enter Try.func66, Try.ntmps66
  go_wp2
  go_ret
  refine ⟨w.heap.size + 2, w.heap.size, w.heap.size + 1, 1, rfl, ?_, by repeat (first | (with_reducible exact Below.refl _ _) | apply Below.drew | refine Below.setCell ?_ (by simp) _ | refine Below.alloc ?_ (by simp <;> omega) _)⟩
  exact tab_new w

def Tb.addB (T : Tb) (i b : Nat) : Tb × Nat :=
  match fnd T.next (i, b) with
  | some r => (T, r)
  | none => (⟨T.next ++ [((i, b), T.nodes.length)], T.nodes ++ [⟨(T.nd i).depth + 1, 0, -1, i, b⟩]⟩, T.nodes.length)
def Tb.addL (T : Tb) (i : Nat) : List Nat → Tb × Nat
  | [] => (T, i)
  | b :: l => (T.addB i b).1.addL (T.addB i b).2 l
def Tb.mark (T : Tb) (i : Nat) (k : Int) : Tb := ⟨T.next, T.nodes.set i { T.nd i with which := k }⟩

/-- What the growing needs: numbers that fit. -/
structure Fits (T : Tb) (i : Nat) (m : Nat) : Prop where
  pos : i < T.nodes.length
  max : T.nodes.length + m ≤ 262145
  tgt : ∀ i b r, fnd T.next (i, b) = some r → i < T.nodes.length ∧ r < T.nodes.length ∧ (T.nd r).depth = (T.nd i).depth + 1
  depth : (T.nd i).depth + m ≤ 64

theorem wpList_mapUpdate_run {P : Program} {w : World} {ops : Array Oper} {rest : List Oper} {o : Oper} {a : Act} {Q : Exit → Act → World → Prop} (hgd : o.guard = none) (m x v : Operand) (t : TypeId)
    (ho : o.op = .mapUpdate t m x v) (um ux uv : Value) (w' : World) (hm : a.eval m = um) (hx : a.eval x = ux) (hv : a.eval v = uv)
    (hrun : (Instr.mapUpdate t um ux uv).run P w = .ok () w') (h : wpList P ops Q rest (a.put o.dst undef) w') : wpList P ops Q (o :: rest) a w := by
  refine wpList_plain hgd fun K hK => ?_
  unfold Oper.wp
  simp [execOp, ho, hm, hx, hv, hrun, Result.andThen]
  exact hK _ _ h

/-- A source of bytes: a block of bytes, some of them these. -/
def SrcB (w : World) (b off : Nat) (l : List Nat) : Prop := ∃ cs fz, w.heap[b]? = some (.cells cs 5 fz) ∧ ∀ i, i < l.length → cs[off + i]? = some (.int .u8 (l.getD i 0 : Nat))
theorem SrcB.of_block {w w' : World} {b off : Nat} {l : List Nat} (h : SrcB w b off l) (hb : w'.heap[b]? = w.heap[b]?) : SrcB w' b off l := by
  obtain ⟨cs, fz, h1, h2⟩ := h; exact ⟨cs, fz, hb.trans h1, h2⟩
theorem SrcB.cells {w : World} {b off : Nat} {l : List Nat} (h : SrcB w b off l) : ByteCells w b off l := by
  obtain ⟨cs, fz, h1, h2⟩ := h
  intro i hi; unfold World.cell?; rw [h1]; simpa using h2 i hi
theorem SrcB.lt {w : World} {b off : Nat} {l : List Nat} (h : SrcB w b off l) : b < w.heap.size := by
  obtain ⟨cs, fz, h1, h2⟩ := h
  by_cases hb : b < w.heap.size
  · exact hb
  · rw [Array.getElem?_eq_none (by omega)] at h1; cases h1
theorem SrcB.ne_blk {w : World} {b b' off : Nat} {l : List Nat} {e : TypeId} {cs : Array Value} (h : SrcB w b off l) (h' : Blk w b' e cs) (he : e ≠ 5) : b ≠ b' := by
  rintro rfl
  obtain ⟨cs, fz, h1, h2⟩ := h
  rw [show w.heap[b]? = _ from h'] at h1
  injection h1 with h1; injection h1 with _ h3 _; exact he h3
theorem SrcB.ne_row {w : World} {b nb off base n size cap : Nat} {l : List Nat} {e : TypeId} {xs : List Value} (h : SrcB w b off l) (h' : w.ownsRow base e size (.slice (some ⟨nb, 0, none⟩) n cap) n xs) (he : e ≠ 5) : b ≠ nb := by
  rintro rfl
  obtain ⟨cs, fz, h1, h2⟩ := h
  obtain ⟨cur, h3, _⟩ := (row_cells h').2.2.2.2.1
  rw [h3] at h1
  injection h1 with h1; injection h1 with _ h3 _; exact he h3
theorem SrcB.ne_map {w : World} {b m off : Nat} {l : List Nat} {es : List ((Nat × Nat) × Nat)} (h : SrcB w b off l) (h' : MapIs w m es) : b ≠ m := by
  rintro rfl
  obtain ⟨cs, fz, h1, h2⟩ := h
  obtain ⟨a, c, h3, _⟩ := h'
  rw [h3] at h1; injection h1 with h1; cases h1
theorem TabAt.ne {w : World} {base tb mb nb cap : Nat} {T : Tb} (h : TabAt w base tb mb nb cap T) : tb ≠ mb ∧ tb ≠ nb ∧ mb ≠ nb := by
  obtain ⟨a, c, h3, _⟩ := h.map
  obtain ⟨cur, h4, _⟩ := (row_cells h.row).2.2.2.2.1
  have h5 : w.heap[tb]? = _ := h.head
  refine ⟨?_, ?_, ?_⟩
  · rintro rfl; rw [h3] at h5; injection h5 with h5; cases h5
  · rintro rfl; rw [h4] at h5; injection h5 with h5; injection h5 with _ h6 _; revert h6; decide
  · rintro rfl; rw [h3] at h4; injection h4 with h4; cases h4

theorem row_of_block {w w' : World} {base n size nb cap : Nat} {e : TypeId} {xs : List Value} (h : w.ownsRow base e size (.slice (some ⟨nb, 0, none⟩) n cap) n xs) (hb : w'.heap[nb]? = w.heap[nb]?) :
    w'.ownsRow base e size (.slice (some ⟨nb, 0, none⟩) n cap) n xs := by
  obtain ⟨h1, h2⟩ := h
  refine ⟨h1, ?_⟩
  rcases h2 with ⟨h, _⟩ | ⟨g, cap', cur, hv, hg, hh, r⟩
  · cases h
  obtain ⟨rfl, rfl⟩ : nb = g ∧ cap = cap' := by simpa using hv
  exact .inr ⟨nb, cap, cur, rfl, hg, hb.trans hh, r⟩
theorem row_set {w : World} {base n size nb cap j : Nat} {e : TypeId} {xs : List Value} {u : Value} (h : w.ownsRow base e size (.slice (some ⟨nb, 0, none⟩) n cap) n xs) :
    (w.setCell ⟨nb, j, none⟩ u).ownsRow base e size (.slice (some ⟨nb, 0, none⟩) n cap) n (xs.set j u) := by
  obtain ⟨h1, h2⟩ := h
  refine ⟨by simpa using h1, ?_⟩
  rcases h2 with ⟨h, _⟩ | ⟨g, cap', cur, hv, hg, hh, hc, hm, hs, ht⟩
  · cases h
  obtain ⟨rfl, rfl⟩ : nb = g ∧ cap = cap' := by simpa using hv
  refine .inr ⟨nb, cap, cur.setIfInBounds j u, rfl, hg, ?_, hc, hm, by simpa using hs, ?_⟩
  · unfold World.setCell; simp only [Array.getElem?_modify, if_true, hh]; simp
  · rw [← ht]; simp [List.take_set]
theorem heap_set_ne {w : World} {m k : Nat} {o : Obj} (h : m ≠ k) : ({ w with heap := w.heap.setIfInBounds m o } : World).heap[k]? = w.heap[k]? :=
  Array.getElem?_setIfInBounds_ne h
theorem alloc_cells {w : World} {cs : Array Value} {e : TypeId} (j : Nat) (u : Value) (h : cs.toList[j]? = some u) : (w.alloc (.cells cs e)).cell? ((⟨w.heap.size, 0, none⟩ : Addr).add j) = some u := by
  have ha : (⟨w.heap.size, 0, none⟩ : Addr).add j = ⟨w.heap.size, j, none⟩ := by unfold Addr.add; split <;> simp_all
  rw [ha]
  exact Blk.new.cell (by simpa using h)
theorem nodeCells_which (l : List Nd) (i : Nat) (k : Int) (hi : i < l.length) : nodeCells (l.set i { l.getD i nd0 with which := k }) = (nodeCells l).set (i * 5 + 2) (.int .i32 k) := by
  induction l generalizing i with
  | nil => simp at hi
  | cons x l ih =>
    cases i with
    | zero => simp [nodeCells, ndCells]
    | succ i =>
      have := ih i (by simpa using hi)
      simp only [nodeCells, List.set_cons_succ, List.flatMap_cons, List.getD_cons_succ] at *
      rw [this, List.set_append_right _ _ (by simp [ndCells]; omega)]
      congr 2
      simp [ndCells]; omega
theorem ndCells_one (x : Nd) : ∀ u ∈ ndCells x, u.oneCell' = true := by
  intro u hu; simp [ndCells] at hu; rcases hu with rfl | rfl | rfl | rfl | rfl <;> rfl
theorem le_alloc {w : World} {o : Obj} {B : Nat} (h : B ≤ w.heap.size) : B ≤ (w.alloc o).heap.size := by simp; omega
theorem size_alloc1 (w : World) (o : Obj) : (w.alloc o).heap.size = w.heap.size + 1 := by simp
theorem grown_blk {w w' : World} {b : Nat} {e : TypeId} {cs : Array Value} {row : Option Nat} (h : Blk w b e cs) (hg : w.grownBy w' row) (hb : some b ≠ row) : Blk w' b e cs := (hg.block b h.lt hb).trans h
theorem nodeCells_snoc (l : List Nd) (x : Nd) : nodeCells (l ++ [x]) = nodeCells l ++ ndCells x := by simp [nodeCells]



theorem Tb.addL_hit {T : Tb} {i b r : Nat} {l : List Nat} (h : fnd T.next (i, b) = some r) : T.addL i (b :: l) = T.addL r l := by simp [Tb.addL, Tb.addB, h]
def Tb.grow (T : Tb) (i b : Nat) : Tb := ⟨T.next ++ [((i, b), T.nodes.length)], T.nodes ++ [⟨(T.nd i).depth + 1, 0, -1, i, b⟩]⟩
theorem Tb.addL_new {T : Tb} {i b : Nat} {l : List Nat} (h : fnd T.next (i, b) = none) : T.addL i (b :: l) = (T.grow i b).addL T.nodes.length l := by simp [Tb.addL, Tb.addB, h, Tb.grow]
theorem Fits.hit {T : Tb} {i m b r : Nat} (h : Fits T i (m + 1)) (hf : fnd T.next (i, b) = some r) : Fits T r m :=
  ⟨(h.tgt _ _ _ hf).2.1, by have := h.max; omega, h.tgt, by have := h.depth; have := (h.tgt _ _ _ hf).2.2; omega⟩
theorem Tb.nd_grow {T : Tb} {i b : Nat} (k : Nat) (hk : k < T.nodes.length) : (T.grow i b).nd k = T.nd k := by
  simp [Tb.grow, Tb.nd, List.getD, List.getElem?_append_left hk]
theorem Tb.nd_grow_new {T : Tb} {i b : Nat} : (T.grow i b).nd T.nodes.length = ⟨(T.nd i).depth + 1, 0, -1, i, b⟩ := by
  simp [Tb.grow, Tb.nd, List.getD]
theorem Fits.new {T : Tb} {i m b : Nat} (h : Fits T i (m + 1)) : Fits (T.grow i b) T.nodes.length m := by
  have hlen : (T.grow i b).nodes.length = T.nodes.length + 1 := by simp [Tb.grow]
  refine ⟨by omega, by have := h.max; omega, ?_, ?_⟩
  · intro i' b' r hv
    rw [hlen]
    replace hv : (fnd T.next (i', b')).or (fnd [((i, b), T.nodes.length)] (i', b')) = some r := by rw [← fnd_append]; exact hv
    cases hk : fnd T.next (i', b') with
    | some r' =>
      rw [hk] at hv
      obtain rfl : r' = r := by simpa using hv
      obtain ⟨h1, h2, h3⟩ := h.tgt _ _ _ hk
      rw [Tb.nd_grow _ h1, Tb.nd_grow _ h2]
      exact ⟨by omega, by omega, h3⟩
    | none =>
      rw [hk] at hv
      simp only [fnd, Option.none_or] at hv
      split at hv
      · rename_i e
        obtain ⟨rfl, rfl⟩ := Prod.mk.inj e
        obtain rfl : T.nodes.length = r := by simpa using hv
        rw [Tb.nd_grow_new, Tb.nd_grow _ h.pos]
        exact ⟨by have := h.pos; omega, by omega, rfl⟩
      · cases hv
  · rw [Tb.nd_grow_new]; have := h.depth; simp; omega

theorem grow_tab {wr w1 w3 : World} {o : Obj} {base tb mb nb cap g cap2 cur x dv : Nat} {T : Tb} (A : TabAt wr base tb mb nb cap T) (M : MapIs w1 mb (T.next ++ [((cur, x), T.nodes.length)])) (D : (T.nd cur).depth = dv)
    (HH : Blk w3 tb 110 #[.map (some mb), .slice (some ⟨nb, 0, none⟩) T.nodes.length cap])
    (HO : w3.ownsRow base 114 5 (.slice (some ⟨g, 0, none⟩) (T.nodes.length + 1) cap2) (T.nodes.length + 1) (nodeCells T.nodes ++ ndCells ⟨dv + 1, 0, -1, cur, x⟩))
    (HG : (w1.alloc o).drew.grownBy w3 (Value.slice (some ⟨nb, 0, none⟩) T.nodes.length cap).ownBlock) :
    TabAt (w3.setCell ⟨tb, 1, none⟩ (.slice (some ⟨g, 0, none⟩) (T.nodes.length + 1) cap2)) base tb mb g cap2 (T.grow cur x) := by
  have hlen : (T.grow cur x).nodes.length = T.nodes.length + 1 := by simp [Tb.grow]
  have hne := A.ne
  have gne : g ≠ tb := by
    rintro rfl
    obtain ⟨c, h1, _⟩ := (row_cells HO).2.2.2.2.1
    have h2 : w3.heap[g]? = _ := HH
    rw [h1] at h2; injection h2 with h2; injection h2 with _ h6 _; revert h6; decide
  have hm3 : w3.heap[mb]? = w1.heap[mb]? := by
    have h1 := M.lt
    have h2 : (w1.alloc o).drew.heap[mb]? = w1.heap[mb]? := Below.heap_alloc _ _ _ h1
    exact (HG.block mb (by show mb < (w1.alloc o).heap.size; simp; omega) (by simp [Value.ownBlock]; exact hne.2.2)).trans h2
  refine ⟨?_, ?_, ?_, A.b1, A.b2⟩
  · rw [hlen]; exact HH.set
  · refine (M.of_block hm3).of_block (Below.heap_setCell _ _ _ _ ?_)
    exact hne.1.symm
  · rw [hlen, show nodeCells (T.grow cur x).nodes = nodeCells T.nodes ++ ndCells ⟨dv + 1, 0, -1, cur, x⟩ by simp only [Tb.grow]; rw [nodeCells_snoc, D]]
    exact row_of_block HO (Below.heap_setCell _ _ _ _ gne)
theorem grow_below {w w1 w3 wr : World} {o : Obj} {base tb mb nb cap : Nat} {T : Tb} {u : Value} {n : Nat} {xs : List Value} (B : Below base w w1) (HG : (w1.alloc o).drew.grownBy w3 (Value.slice (some ⟨nb, 0, none⟩) n cap).ownBlock) (hb : base ≤ w1.heap.size)
    (A : TabAt wr base tb mb nb cap T) (R : w1.ownsRow base 114 5 (.slice (some ⟨nb, 0, none⟩) n cap) n xs) : Below base w (w3.setCell ⟨tb, 1, none⟩ u) := by
  have h1 := ((B.alloc hb o).drew.grown HG (by show base ≤ (w1.alloc o).heap.size; simp; omega) (fun k hk => by
    simp [Value.ownBlock] at hk; subst hk; exact (row_cells R).1))
  exact h1.setCell A.b1 _
/-- Blocks of other kinds than the table's are as they were. -/
def Oth (w w' : World) : Prop := ∀ (q : Nat) (cs : Array Value) (e : TypeId) (fz : Nat × Nat), w.heap[q]? = some (.cells cs e fz) → e ≠ 110 → e ≠ 114 → w'.heap[q]? = w.heap[q]?
theorem Oth.refl (w : World) : Oth w w := fun _ _ _ _ _ _ _ => rfl
theorem Oth.trans {a b c : World} (h : Oth a b) (k : Oth b c) : Oth a c := fun q cs e fz hq n1 n2 => by
  have h1 := h q cs e fz hq n1 n2
  rw [k q cs e fz (h1.trans hq) n1 n2, h1]
theorem Oth.of_below {a b : World} (h : Below a.heap.size a b) : Oth a b := fun q cs e fz hq _ _ => h.block q (by
  by_cases hb : q < a.heap.size
  · exact hb
  · rw [Array.getElem?_eq_none (by omega)] at hq; cases hq)
theorem Oth.src {w w' : World} {b off : Nat} {l : List Nat} (h : Oth w w') (s : SrcB w b off l) : w'.heap[b]? = w.heap[b]? := by
  obtain ⟨cs, fz, h1, _⟩ := s
  exact h b cs 5 fz h1 (by decide) (by decide)
theorem Oth.set {w : World} {b i : Nat} {u : Value} {cs : Array Value} {e : TypeId} {fz : Nat × Nat} (h : w.heap[b]? = some (.cells cs e fz)) (he : e = 110 ∨ e = 114) : Oth w (w.setCell ⟨b, i, none⟩ u) := fun q cs' e' fz' hq n1 n2 => by
  refine Below.heap_setCell _ _ _ _ ?_
  rintro rfl
  rw [h] at hq; injection hq with hq; injection hq with _ h6 _
  rcases he with rfl | rfl
  · exact n1 h6.symm
  · exact n2 h6.symm
theorem Oth.map {w : World} {m : Nat} {o : Obj} {es : List ((Nat × Nat) × Nat)} (h : MapIs w m es) : Oth w { w with heap := w.heap.setIfInBounds m o } := fun q cs' e' fz' hq _ _ => by
  refine heap_set_ne ?_
  rintro rfl
  obtain ⟨a, c, h3, _⟩ := h
  rw [h3] at hq; injection hq with hq; cases hq
theorem Oth.grown {w w' : World} {base nb cap n : Nat} {xs : List Value} (hg : w.grownBy w' (Value.slice (some ⟨nb, 0, none⟩) n cap).ownBlock) (h : w.ownsRow base 114 5 (.slice (some ⟨nb, 0, none⟩) n cap) n xs) : Oth w w' := fun q cs e fz hq n1 n2 => by
  refine hg.block q ?_ ?_
  · by_cases hb : q < w.heap.size
    · exact hb
    · rw [Array.getElem?_eq_none (by omega)] at hq; cases hq
  · simp only [Value.ownBlock, ne_eq, Option.some.injEq]
    rintro rfl
    obtain ⟨cur, h3, _⟩ := (row_cells h).2.2.2.2.1
    rw [h3] at hq; injection hq with hq; injection hq with _ h6 _
    exact n2 h6.symm
theorem grow_pb {w w1 w3 : World} {o : Obj} {base tb nb cap n : Nat} {u : Value} {xs : List Value} {cs : Array Value} (P : Oth w w1) (HG : (w1.alloc o).drew.grownBy w3 (Value.slice (some ⟨nb, 0, none⟩) n cap).ownBlock)
    (R : w1.ownsRow base 114 5 (.slice (some ⟨nb, 0, none⟩) n cap) n xs) (H : Blk w3 tb 110 cs) : Oth w (w3.setCell ⟨tb, 1, none⟩ u) :=
  (P.trans (Oth.of_below (((Below.refl _ w1).alloc (Nat.le_refl _) o).drew))).trans ((Oth.grown HG ((R.alloc o))).trans (Oth.set H (.inl rfl)))

/-- What add makes, and whether the pattern was new. -/
def Tb.out (T : Tb) (l : List Nat) (k : Nat) : Tb × Bool :=
  if 0 ≤ ((T.addL 0 l).1.nd (T.addL 0 l).2).which then ((T.addL 0 l).1, false) else ((T.addL 0 l).1.mark (T.addL 0 l).2 k, true)
def AddPost (base tb mb : Nat) (w : World) (T : Tb) (l : List Nat) (k : Nat) (e : Ending) (w' : World) : Prop :=
  ∃ R ok, T.out l k = (R, ok) ∧ e = .returned (.bool ok) ∧ Below base w w' ∧ Oth w w' ∧ ∃ nb cap, TabAt w' base tb mb nb cap R
theorem mark_tab {w : World} {base tb mb nb cap cur k : Nat} {T : Tb} (A : TabAt w base tb mb nb cap T) (hc : cur < T.nodes.length) : TabAt (w.setCell ⟨nb, cur * 5 + 2, none⟩ (.int .i32 (k : Int))) base tb mb nb cap (T.mark cur k) := by
  have hlen : (T.mark cur k).nodes.length = T.nodes.length := by simp [Tb.mark]
  have hne := A.ne
  refine ⟨?_, A.map.of_block (Below.heap_setCell _ _ _ _ hne.2.2), ?_, A.b1, A.b2⟩
  · rw [hlen]; exact A.head.set_ne (Ne.symm hne.2.1)
  · rw [hlen, show nodeCells (T.mark cur k).nodes = (nodeCells T.nodes).set (cur * 5 + 2) (.int .i32 (k : Int)) from nodeCells_which _ _ _ hc]
    exact row_set A.row

/-- The loop of add: what has come, what is left. -/
def AddRel (base tb mb : Nat) (w : World) (T : Tb) (l : List Nat) (_pb : Nat) (j cur : Nat) (wr : World) : Prop :=
  ∃ T' nb' cap', T.addL 0 l = T'.addL cur (l.drop j) ∧ TabAt wr base tb mb nb' cap' T' ∧ Fits T' cur (l.length - j) ∧ Below base w wr ∧ Oth w wr

set_option maxRecDepth 100000 in
set_option maxHeartbeats 2000000 in
theorem add_any {w : World} {base tb mb nb cap : Nat} {T : Tb} (h : TabAt w base tb mb nb cap T) (pb off pc n : Nat) (l : List Nat) (k : Nat) (hn : l.length = n) (hl : Fits T 0 n) (hb : ∀ i, l.getD i 0 < 256) (hk : k < 4096)
    (hp : SrcB w pb off l) (hbase : base ≤ w.heap.size) :
    Calls Try.prog 67 #[.pointer (some ⟨tb, 0, none⟩), .slice (some ⟨pb, off, none⟩) n pc, .int .i64 (k : Int)] w (AddPost base tb mb w T l k) := by
  have hmax := hl.max
  go_enter Try.func67, Try.ntmps67
  go_wp2
  go_loopw [7, 14] (fun a i wr => ∃ j cur : Nat, j ≤ n ∧ i = .int .i64 (j : Int) ∧ a = .int .i32 (cur : Int) ∧ AddRel base tb mb w T l pb j cur wr) (fun _ i _ => n - (intOf i).toNat)
  case atStart => exact ⟨0, 0, by omega, rfl, rfl, T, nb, cap, by simp, h, by rw [hn]; exact hl, Below.refl _ _, Oth.refl _⟩
  case round =>
    obtain ⟨j, cur, hj, rfl, rfl, T', nb', cap', hT, hA, hF, hB, hP⟩ := hrel
    by_cases hlt : j < n
    · obtain ⟨x, hx, hdrop⟩ : ∃ x, x < 256 ∧ l.drop j = x :: l.drop (j + 1) := ⟨l.getD j 0, hb j, by rw [List.drop_eq_getElem_cons (by omega)]; simp [List.getD, show j < l.length by omega]⟩
      have hxc : l.getD j 0 = x := by
        have : (l.drop j)[0]? = some x := by rw [hdrop]; rfl
        rw [List.getElem?_drop, Nat.add_zero] at this
        simp [List.getD, this]
      have hS := hp.of_block (hP.src hp)
      have cx := hS.cells j (by omega)
      rw [hxc] at cx
      have c0 := hA.head.cell (i := 0) rfl
      have c1 := hA.head.cell (i := 1) rfl
      have hlk := run_lookup hA.map (cur, x)
      have hcm := hF.max
      have hcp := hF.pos
      rw [hn] at hF hcm
      rw [hdrop] at hT
      cases hf : fnd T'.next (cur, x) with
      | some r =>
        rw [hf] at hlk
        simp only [ky, vl, Option.getD_some, Option.isSome_some] at hlk
        rw [Tb.addL_hit hf] at hT
        have HR := Lib.hid (show AddRel base tb mb w T l pb (j + 1) r wr from ⟨T', nb', cap', hT, hA, by rw [hn]; exact Fits.hit (by rw [show n - (j + 1) + 1 = n - j by omega]; exact hF) hf, hB, hP⟩)
        clear hT hA hF hB hP hf hdrop hxc hS
        go_wp2
        go_roundw
        case rel => exact ⟨j + 1, r, by omega, by go_num, rfl, HR.out⟩
        case measure => simp [intOf]; omega
      | none =>
        rw [hf] at hlk
        simp only [ky, vl, Option.getD_none, Option.isSome_none] at hlk
        replace hlk : (Instr.lookup 107 (.map (some mb)) (.agg #[.int .i32 (cur : Int), .int .u8 (x : Int)]) true).run Try.prog wr = .ok (.tuple #[.int .i32 0, .bool false]) wr := hlk
        rw [Tb.addL_new hf] at hT
        obtain ⟨o, hup, hmap1⟩ := run_update hA.map (cur, x) T'.nodes.length hf
        simp only [ky, vl] at hup
        obtain ⟨w1, hw1⟩ : ∃ w1 : World, w1 = { wr with heap := wr.heap.setIfInBounds mb o } := ⟨_, rfl⟩
        obtain ⟨ne1, ne2, ne3⟩ := hA.ne
        have hpm := hS.ne_map hA.map
        have hB1 : Below base w w1 := by
          refine hB.trans ⟨by rw [hw1], by rw [hw1], by rw [hw1], by rw [hw1]; simp, fun k hk => ?_⟩
          rw [hw1]; exact heap_set_ne (by have := hA.b2; omega)
        have head1 : Blk w1 tb 110 #[.map (some mb), .slice (some ⟨nb', 0, none⟩) T'.nodes.length cap'] := by rw [hw1]; exact (heap_set_ne (Ne.symm ne1)).trans hA.head
        have row1 := row_of_block (w' := w1) hA.row (by rw [hw1]; exact heap_set_ne ne3)
        have hmap1 : MapIs w1 mb (T'.next ++ [((cur, x), T'.nodes.length)]) := by rw [hw1]; exact hmap1
        have hP1 : Oth w w1 := by rw [hw1]; exact hP.trans (Oth.map hA.map)
        rw [← hw1] at hup
        clear hw1
        have hS1 := hp.of_block (hP1.src hp)
        have d0 := head1.cell (i := 0) rfl
        have d1 := head1.cell (i := 1) rfl
        have f1 : w1.frozen? ⟨tb, 1, none⟩ = false := head1.free
        have dd := ((row_cells row1).2.2.2.2.2 (cur * 5 + 0) _ (by rw [nodeCells_get _ _ 0 hcp (by omega)]; rfl)).1
        rw [Nat.add_zero] at dd
        have hdep := hF.depth
        change (T'.nd cur).depth + (n - j) ≤ 64 at hdep
        obtain ⟨dv, hdv⟩ : ∃ dv, (T'.nd cur).depth = dv := ⟨_, rfl⟩
        change w1.cell? _ = some (.int .i32 (((T'.nd cur).depth : Nat) : Int)) at dd
        rw [hdv] at dd hdep
        have hdv1 : (dv : Int) ≤ 63 := by omega
        have hlenb := hA.head.lt
        have DV := Lib.hid hdv
        clear hdv
        have A1 := Lib.hid hA
        have T1 := Lib.hid hT
        have F1 := Lib.hid hF
        have B1 := Lib.hid hB1
        have P1 := Lib.hid hP1
        have S1 := Lib.hid hS1
        have R1 := Lib.hid row1
        have M1 := Lib.hid hmap1
        have H1 := Lib.hid head1
        have NF := Lib.hid hf
        clear hA hT hF hB1 hP1 hS1 row1 hmap1 head1 hf hdrop hxc hS hB hP hpm ne1 ne2 ne3 hlenb
        have hN : (T'.nodes.length : Int) ≤ 262145 := by omega
        go_upto_region 9 with (refine wpList_mapUpdate_run (by rfl) (.tmp 40) (.tmp 43) (.tmp 44) 107 (by rfl) _ _ _ _ (by rfl) (by rfl) (by rfl) hup ?_)
        dsimp only [Act.put]
        clear hup hlk
        have hms := M1.out.lt
        have hsz := B1.out.size
        obtain ⟨i0, hi, hz0, hz1, hz2⟩ := info_parts info114
        have hmx : T'.nodes.length + 1 ≤ maxLen := by unfold maxLen; omega
        have hby : (T'.nodes.length + 1) * 20 ≤ 140737488355328 := by omega
        have hbs : base ≤ w1.heap.size := by omega
        have htl := H1.out.lt
        have hnl := (row_cells R1.out).2.2.2.1
        have htn : some tb ≠ (Value.slice (some ⟨nb', 0, none⟩) T'.nodes.length cap').ownBlock := by simpa [Value.ownBlock] using A1.out.ne.2.1
        have hwr : IntKind.i32.wrap ((dv : Int) + 1) = (dv : Int) + 1 := by rw [IntKind.wrap_i32]; omega
        go_cut [] (fun wx => ∃ g cap2, TabAt wx base tb mb g cap2 (T'.grow cur x) ∧ Below base w wx ∧ Oth w wx)
        case first =>
          go_region_law (first | (refine step_append_lies _ (by rfl) (.tmp 49) (.tmp 62) 108 (by rfl) base 114 i0 (.agg #[.int .i32 0, .int .i32 0, .int .i32 0, .int .i32 0, .int .u8 0]) 5 20 Try.underlying108 hi hz0 hz1 hz2 (by rfl) (by decide) (.slice (some ⟨nb', 0, none⟩) T'.nodes.length cap') T'.nodes.length (nodeCells T'.nodes) (by rfl) (R1.out.alloc _) ⟨w1.heap.size, 0, none⟩ 1 1 (ndCells ⟨dv + 1, 0, -1, cur, x⟩) (by rfl) (by rfl) (fun _ _ hj => alloc_cells _ _ hj) (ndCells_one _) (by decide) hmx hby (le_alloc hbs) (w1.heap.size + 1) (size_alloc1 _ _) ?_; intro g cap2 w3 hown hgrow hat hlt3; have hh := grown_blk H1.out.alloc.drew hgrow htn; have z1 := hh.cell (i := 1) rfl; have z2 : w3.frozen? ⟨tb, 1, none⟩ = false := hh.free; have HH := Lib.hid hh; have HO := Lib.hid hown; have HG := Lib.hid hgrow; clear hh hown hgrow hat))
          all_goals go_wp2_with fail
          all_goals go_meet
          all_goals exact ⟨g, cap2, grow_tab A1.out M1.out DV.out HH.out HO.out HG.out, grow_below B1.out HG.out hbs A1.out R1.out, grow_pb P1.out HG.out R1.out HH.out⟩
        case rest =>
          obtain ⟨g, cap2, q1, q2, q3⟩ := hcut
          have HR := Lib.hid (show AddRel base tb mb w T l pb (j + 1) T'.nodes.length wc from ⟨_, g, cap2, T1.out, q1, by rw [hn]; exact Fits.new (by rw [show n - (j + 1) + 1 = n - j by omega]; exact F1.out), q2, q3⟩)
          clear q1 q2 q3 T1 F1 A1 M1 DV R1 H1 B1 P1 S1 NF
          go_wp2
          go_roundw
          case rel => exact ⟨j + 1, _, by omega, by go_num, rfl, HR.out⟩
          case measure => simp [intOf]; omega
    · obtain rfl : j = n := by omega
      have c1 := hA.head.cell (i := 1) rfl
      have hcp := hF.pos
      have hcm := hF.max
      have cw := (hA.cell hcp).2.2.1
      have fw : wr.frozen? ⟨nb', cur * 5 + 2, none⟩ = false := ((row_cells hA.row).2.2.2.2.2 (cur * 5 + 2) _ (by rw [nodeCells_get _ _ 2 hcp (by omega)]; rfl)).2
      have hT2 : T.addL 0 l = (T', cur) := by rw [hT, List.drop_of_length_le (by omega)]; rfl
      obtain ⟨v, hv⟩ : ∃ v, (T'.nd cur).which = v := ⟨_, rfl⟩
      rw [hv] at cw
      have HV := Lib.hid hv
      have HT := Lib.hid hT2
      have HA := Lib.hid hA
      have HB := Lib.hid hB
      have HP := Lib.hid hP
      have kw : IntKind.i32.wrap (k : Int) = (k : Int) := by rw [IntKind.wrap_i32]; omega
      clear hv hT2 hT hA hB hP hF
      by_cases h0 : 0 ≤ v
      · go_wp2
        go_ret
        exact ⟨T', false, by simp only [Tb.out, HT.out]; rw [if_pos (by rw [HV.out]; exact h0)], rfl, HB.out, HP.out, nb', cap', HA.out⟩
      · go_wp2
        go_ret
        refine ⟨T'.mark cur k, true, by simp only [Tb.out, HT.out]; rw [if_neg (by rw [HV.out]; omega)], rfl, HB.out.setCell (row_cells HA.out.row).1 _, HP.out.trans (Oth.set (row_cells HA.out.row).2.2.2.2.1.choose_spec.1 (.inr rfl)), nb', cap', ?_⟩
        exact mark_tab HA.out hcp
end Go.Proofs.Ythkaicbkcaiffaa
