/-
  The automaton's links: the walk of link. Conditions: none.
-/
import Derived.Test.YthkaicbkcaiffaaA
namespace Go.Proofs.Ythkaicbkcaiffaa
open Go.RowKit

theorem info21 : (Try.prog.info? 21).map (fun i => (i.zero, i.size, i.bytes)) = some (some (.int .i32 0), 1, 4) := by kernel_rfl
theorem info116 : (Try.prog.info? 116).map (fun i => (i.zero, i.size, i.bytes)) = some (some (.slice none 0 0), 1, 24) := by kernel_rfl

/-- Lists of numbers, one behind the other, each in a block of its own. -/
structure LevAt (w : World) (base : Nat) (v : Value) (L : List (List Nat)) (vals : List Value) : Prop where
  len : vals.length = L.length
  row : w.ownsRow base 116 1 v L.length vals
  rows : ∀ j, j < L.length → w.ownsRow base 21 1 (vals.getD j undef) (L.getD j []).length ((L.getD j []).map vl)
  apart : ∀ i j b, i < L.length → j < L.length → i ≠ j → (vals.getD i undef).ownBlock = some b → (vals.getD j undef).ownBlock ≠ some b

theorem own_form {w : World} {base n size : Nat} {e : TypeId} {v : Value} {xs : List Value} (h : w.ownsRow base e size v n xs) : ∃ ao c, v = .slice ao n c := by
  rcases h.2 with ⟨rfl, rfl⟩ | ⟨g, cap, cur, rfl, _⟩
  · exact ⟨none, 0, rfl⟩
  · exact ⟨_, _, rfl⟩
theorem tags {w : World} {b1 b2 n1 n2 s1 s2 : Nat} {e1 e2 : TypeId} {v1 v2 : Value} {x1 x2 : List Value} (h1 : w.ownsRow b1 e1 s1 v1 n1 x1) (h2 : w.ownsRow b2 e2 s2 v2 n2 x2) (he : e1 ≠ e2) : v1.ownBlock = none ∨ v1.ownBlock ≠ v2.ownBlock := by
  rcases h1.2 with ⟨rfl, rfl⟩ | ⟨g, cap, cur, rfl, _, hh, _⟩
  · exact .inl rfl
  · refine .inr fun e => ?_
    rcases h2.2 with ⟨rfl, rfl⟩ | ⟨g', cap', cur', rfl, _, hh', _⟩
    · cases e
    · obtain rfl : g = g' := by simpa [Value.ownBlock] using e
      rw [hh] at hh'; injection hh' with h3; injection h3 with _ h4 _; exact he h4
theorem one_nil : ∀ u ∈ [Value.slice none 0 0], u.oneCell' = true := by intro u hu; simp at hu; subst hu; rfl
theorem one_vl {k : Nat} : ∀ u ∈ [vl k], u.oneCell' = true := by intro u hu; simp at hu; subst hu; rfl
theorem lt_alloc {w : World} {o : Obj} {b : Nat} (h : b < w.heap.size) : b < (w.alloc o).heap.size := by simp; omega
theorem row_there {w : World} {base n size nb cap j : Nat} {e : TypeId} {xs : List Value} (h : w.ownsRow base e size (.slice (some ⟨nb, 0, none⟩) n cap) n xs) (hj : j < xs.length) : w.cell? ⟨nb, j, none⟩ = some (xs.getD j undef) ∧ w.frozen? ⟨nb, j, none⟩ = false :=
  (row_cells h).2.2.2.2.2 j _ (by simp [List.getD, hj])
theorem LevAt.alloc {w : World} {base : Nat} {v : Value} {L : List (List Nat)} {vals : List Value} (h : LevAt w base v L vals) (o : Obj) : LevAt (w.alloc o) base v L vals :=
  ⟨h.len, h.row.alloc o, fun j hj => (h.rows j hj).alloc o, h.apart⟩
/-- One more list, empty. -/
theorem LevAt.more {w w' : World} {base : Nat} {v v' : Value} {L : List (List Nat)} {vals : List Value} (h : LevAt w base v L vals) (hr : w'.ownsRow base 116 1 v' (L.length + 1) (vals ++ [.slice none 0 0])) (hg : w.grownBy w' v.ownBlock) :
    LevAt w' base v' (L ++ [[]]) (vals ++ [.slice none 0 0]) := by
  refine ⟨by simp [h.len], by simpa using hr, fun j hj => ?_, fun i j b hi hj hne hb => ?_⟩
  · by_cases e : j < L.length
    · have h1 := h.rows j e
      simp only [List.getD, List.getElem?_append_left e, List.getElem?_append_left (show j < vals.length by rw [h.len]; exact e)]
      exact h1.kept hg (tags h1 h.row (by decide))
    · have e2 : j = L.length := by simp at hj; omega
      subst e2
      have e3 : (vals ++ [Value.slice none 0 0])[L.length]? = some (.slice none 0 0) := by rw [← h.len]; simp
      simp only [List.getD, e3]
      simpa using World.ownsRow_nil w' base 21 1
  · have g : ∀ k, k < (L ++ [[]]).length → (k < L.length ∧ (vals ++ [Value.slice none 0 0]).getD k undef = vals.getD k undef) ∨ (vals ++ [Value.slice none 0 0]).getD k undef = .slice none 0 0 := by
      intro k hk
      by_cases e : k < L.length
      · exact .inl ⟨e, by simp only [List.getD, List.getElem?_append_left (show k < vals.length by rw [h.len]; exact e)]⟩
      · have e2 : k = L.length := by simp at hk; omega
        subst e2
        exact .inr (by simp [List.getD, ← h.len])
    rcases g i hi with ⟨i1, i2⟩ | i2 <;> rw [i2] at hb
    · rcases g j hj with ⟨j1, j2⟩ | j2 <;> rw [j2]
      · exact h.apart i j b i1 j1 hne hb
      · simp [Value.ownBlock]
    · cases hb
theorem LevAt.drew {w : World} {base : Nat} {v : Value} {L : List (List Nat)} {vals : List Value} (h : LevAt w base v L vals) : LevAt w.drew base v L vals := ⟨h.len, h.row, h.rows, h.apart⟩

theorem own_same {w w' : World} {base n size : Nat} {e : TypeId} {v : Value} {xs : List Value} (h : w.ownsRow base e size v n xs) (hb : ∀ b, v.ownBlock = some b → w'.heap[b]? = w.heap[b]?) : w'.ownsRow base e size v n xs := by
  refine ⟨h.1, ?_⟩
  rcases h.2 with hn | ⟨g, cap, cur, rfl, hg, hh, r⟩
  · exact .inl hn
  · exact .inr ⟨g, cap, cur, rfl, hg, (hb g rfl).trans hh, r⟩
theorem getD_set_eq {α : Type} (l : List α) (d : Nat) (x y : α) (h : d < l.length) : (l.set d x).getD d y = x := by simp [List.getD, h]
theorem getD_set_ne' {α : Type} (l : List α) (d j : Nat) (x y : α) (h : d ≠ j) : (l.set d x).getD j y = l.getD j y := by simp [List.getD, h]
/-- One number more in one of the lists. -/
theorem LevAt.put {w w1 : World} {base lb c d k : Nat} {L : List (List Nat)} {vals : List Value} {u' : Value} (h : LevAt w base (.slice (some ⟨lb, 0, none⟩) L.length c) L vals) (hd : d < L.length)
    (hr : w1.ownsRow base 21 1 u' ((L.getD d []).length + 1) ((L.getD d []).map vl ++ [vl k])) (hg : w.grownBy w1 (vals.getD d undef).ownBlock)
    (hat : (vals.getD d undef).ownBlock = u'.ownBlock ∨ ∃ g, u'.ownBlock = some g ∧ w.heap.size ≤ g) :
    LevAt (w1.setCell ⟨lb, d, none⟩ u') base (.slice (some ⟨lb, 0, none⟩) L.length c) (L.set d (L.getD d [] ++ [k])) (vals.set d u') := by
  have hrow1 := h.row.kept hg (tags h.row (h.rows d hd) (by decide))
  have hvl : d < vals.length := by rw [h.len]; exact hd
  have hst : ∀ {v : Value} {n : Nat} {xs : List Value}, w1.ownsRow base 21 1 v n xs → (w1.setCell ⟨lb, d, none⟩ u').ownsRow base 21 1 v n xs := by
    intro v n xs hv
    refine own_same hv fun b hb => Below.heap_setCell _ _ _ _ ?_
    rintro rfl
    rcases tags hv hrow1 (by decide) with e | e
    · rw [hb] at e; cases e
    · exact e hb
  refine ⟨by simp [h.len], ?_, fun j hj => ?_, fun i j b hi hj hne hb => ?_⟩
  · rw [List.length_set]; exact row_set hrow1
  · rw [List.length_set] at hj
    by_cases e : d = j
    · subst e
      rw [getD_set_eq _ _ _ _ hvl, getD_set_eq _ _ _ _ hd]
      have := hst hr
      simpa using this
    · rw [getD_set_ne' _ _ _ _ _ e, getD_set_ne' _ _ _ _ _ e]
      refine hst ((h.rows j hj).kept hg ?_)
      cases hq : (vals.getD j undef).ownBlock with
      | none => exact .inl rfl
      | some b => exact .inr fun q => h.apart j d b hj hd (Ne.symm e) hq q.symm
  · rw [List.length_set] at hi hj
    by_cases e : d = i
    · subst e
      rw [getD_set_eq _ _ _ _ hvl] at hb
      rw [getD_set_ne' _ _ _ _ _ hne]
      rcases hat with q | ⟨g, q1, q2⟩
      · exact h.apart d j b hd hj hne (q.trans hb)
      · intro q
        rw [q1] at hb
        obtain rfl : g = b := by simpa using hb
        have := ((h.rows j hj).lt g q).2
        omega
    · rw [getD_set_ne' _ _ _ _ _ e] at hb
      by_cases e2 : d = j
      · subst e2
        rw [getD_set_eq _ _ _ _ hvl]
        rcases hat with q | ⟨g, q1, q2⟩
        · rw [← q]; exact h.apart i d b hi hd hne hb
        · rw [q1]; intro q
          obtain rfl : g = b := by simpa using q
          have := ((h.rows i hi).lt g hb).2
          omega
      · rw [getD_set_ne' _ _ _ _ _ e2]; exact h.apart i j b hi hj hne hb

/-- What the nodes tell of one another. -/
structure Tree (T : Tb) : Prop where
  up : ∀ i, i < T.nodes.length → 0 < i → (T.nd i).up < T.nodes.length ∧ (T.nd i).depth = (T.nd (T.nd i).up).depth + 1
  by_ : ∀ i, i < T.nodes.length → (T.nd i).by_ < 256
  hit : ∀ i b r, fnd T.next (i, b) = some r → i < T.nodes.length ∧ r < T.nodes.length ∧ (T.nd r).depth = (T.nd i).depth + 1

def Tb.setFail (T : Tb) (i r : Nat) : Tb := ⟨T.next, T.nodes.set i { T.nd i with fail := r }⟩
/-- The links, laid one behind the other. -/
inductive Lk (T : Tb) : List Nat → Tb → Prop where
  | nil : Lk T [] T
  | skip {l : List Nat} {T' : Tb} {i : Nat} : Lk T l T' → (T'.nd i).depth ≤ 1 → Lk T (l ++ [i]) T'
  | set {l : List Nat} {T' : Tb} {i r : Nat} : Lk T l T' → 1 < (T'.nd i).depth → Step T' (T'.nd i).by_ (T'.nd (T'.nd i).up).fail r → Lk T (l ++ [i]) (T'.setFail i r)
theorem Tb.nd_setFail {T : Tb} {i r k : Nat} (hi : i < T.nodes.length) : (T.setFail i r).nd k = if i = k then { T.nd i with fail := r } else T.nd k := by
  unfold Tb.setFail Tb.nd
  by_cases e : i = k
  · subst e; simp [List.getD, hi]
  · simp [List.getD, e]
theorem Step.depth {T : Tb} {b i r : Nat} (wf : WF T) (tr : Tree T) (h : Step T b i r) (hi : i < T.nodes.length) : r < T.nodes.length ∧ (T.nd r).depth ≤ (T.nd i).depth + 1 := by
  induction h with
  | hit h => have := tr.hit _ _ _ h; exact ⟨this.2.1, by omega⟩
  | root _ => exact ⟨hi, by omega⟩
  | @back i r _ h0 _ ih =>
    have := wf.fail i hi (by omega)
    have := ih this.1
    exact ⟨this.1, by omega⟩
theorem setFail_wf {T : Tb} {i r : Nat} (wf : WF T) (tr : Tree T) (hi : i < T.nodes.length) (h1 : 1 < (T.nd i).depth) (hs : Step T (T.nd i).by_ (T.nd (T.nd i).up).fail r) : WF (T.setFail i r) ∧ Tree (T.setFail i r) := by
  have hlen : (T.setFail i r).nodes.length = T.nodes.length := by simp [Tb.setFail]
  have hi0 : 0 < i := by
    rcases Nat.eq_zero_or_pos i with e | e
    · subst e; have := wf.root.2; omega
    · exact e
  obtain ⟨u1, u2⟩ := tr.up i hi hi0
  have hu0 : 0 < (T.nd i).up := by
    rcases Nat.eq_zero_or_pos (T.nd i).up with e | e
    · rw [e] at u2; have := wf.root.2; omega
    · exact e
  obtain ⟨f1, f2⟩ := wf.fail _ u1 hu0
  obtain ⟨s1, s2⟩ := hs.depth wf tr f1
  have hdep : ∀ k, ((T.setFail i r).nd k).depth = (T.nd k).depth := by intro k; rw [Tb.nd_setFail hi]; split <;> simp_all
  have hup : ∀ k, ((T.setFail i r).nd k).up = (T.nd k).up := by intro k; rw [Tb.nd_setFail hi]; split <;> simp_all
  have hby : ∀ k, ((T.setFail i r).nd k).by_ = (T.nd k).by_ := by intro k; rw [Tb.nd_setFail hi]; split <;> simp_all
  have hwh : ∀ k, ((T.setFail i r).nd k).which = (T.nd k).which := by intro k; rw [Tb.nd_setFail hi]; split <;> simp_all
  refine ⟨⟨by rw [hlen]; exact wf.pos, by rw [hlen]; exact wf.max, fun k v hv => by rw [hlen]; exact wf.tgt k v hv, fun k hk h0 => ?_, fun k hk => by rw [hdep]; exact wf.depth k (by rwa [hlen] at hk), by rw [hwh, hdep]; exact wf.root⟩, ⟨fun k hk h0 => ?_, fun k hk => by rw [hby]; exact tr.by_ k (by rwa [hlen] at hk), fun a b c hh => ?_⟩⟩
  · rw [hlen] at hk ⊢
    rw [hdep, hdep]
    by_cases e : i = k
    · subst e
      rw [Tb.nd_setFail hi, if_pos rfl]
      exact ⟨s1, by show (T.nd r).depth < _; omega⟩
    · rw [Tb.nd_setFail hi, if_neg e]; exact wf.fail k hk h0
  · rw [hlen] at hk ⊢
    rw [hup, hdep, hdep]; exact tr.up k hk h0
  · rw [hlen, hdep, hdep]; exact tr.hit a b c hh

/-- The nodes by their depth, as far as k. -/
def levs (T : Tb) : Nat → List (List Nat)
  | 0 => []
  | k + 1 =>
    if k = 0 then [] else
    let L := levs T k
    let M := L ++ List.replicate ((T.nd k).depth + 1 - L.length) []
    M.set (T.nd k).depth (M.getD (T.nd k).depth [] ++ [k])

theorem levs_len {T : Tb} (wf : WF T) (k : Nat) (hk : k ≤ T.nodes.length) : (levs T k).length ≤ 65 := by
  induction k with
  | zero => simp [levs]
  | succ k ih =>
    have := ih (by omega)
    have hd := wf.depth k (by omega)
    unfold levs
    split
    · simp
    · simp; omega
theorem levs_row {T : Tb} (k j : Nat) : ((levs T k).getD j []).length ≤ k := by
  induction k with
  | zero => simp [levs]
  | succ k ih =>
    unfold levs
    split
    · simp
    · have hM : ∀ j, ((levs T k ++ List.replicate ((T.nd k).depth + 1 - (levs T k).length) []).getD j []) = (levs T k).getD j [] := by
        intro j
        by_cases e : j < (levs T k).length
        · simp only [List.getD, List.getElem?_append_left e]
        · simp only [List.getD]
          rw [List.getElem?_append_right (by omega), List.getElem?_eq_none (show (levs T k).length ≤ j by omega), List.getElem?_replicate]
          split <;> rfl
      by_cases e : (T.nd k).depth = j
      · subst e
        rw [getD_set_eq _ _ _ _ (by simp; omega), hM, List.length_append]; simp only [List.length_cons, List.length_nil]; omega
      · rw [getD_set_ne' _ _ _ _ _ e, hM]; omega
theorem TabAt.below {w w' : World} {base tb mb nb cap : Nat} {T : Tb} (h : TabAt w base tb mb nb cap T) (hb : Below w.heap.size w w') : TabAt w' base tb mb nb cap T :=
  ⟨h.head.below hb h.head.lt, h.map.of_block (hb.block _ h.map.lt), row_of_block h.row (hb.block _ (row_cells h.row).2.2.2.1), h.b1, h.b2⟩

theorem levs_mem {T : Tb} (k x : Nat) (hx : x ∈ (levs T k).flatten) : x < k := by
  induction k with
  | zero => simp [levs] at hx
  | succ k ih =>
    unfold levs at hx
    split at hx
    · simp at hx
    · obtain ⟨l, hl, hxl⟩ := List.mem_flatten.1 hx
      rcases List.mem_or_eq_of_mem_set hl with h | h
      · rcases List.mem_append.1 h with h | h
        · have := ih (List.mem_flatten.2 ⟨l, h, hxl⟩); omega
        · obtain ⟨_, rfl⟩ := List.mem_replicate.1 h; cases hxl
      · subst h
        rcases List.mem_append.1 hxl with h | h
        · have : x ∈ (levs T k ++ List.replicate ((T.nd k).depth + 1 - (levs T k).length) []).flatten := by
            simp only [List.getD] at h
            cases hq : (levs T k ++ List.replicate ((T.nd k).depth + 1 - (levs T k).length) [])[(T.nd k).depth]? with
            | none => rw [hq] at h; cases h
            | some l => rw [hq] at h; exact List.mem_flatten.2 ⟨l, List.mem_of_getElem? hq, h⟩
          rw [List.flatten_append] at this
          rcases List.mem_append.1 this with h | h
          · have := ih h; omega
          · simp at h
        · simp at h; omega
/-- Only one block may have turned. -/
structure Only (nb : Nat) (w w' : World) : Prop where
  os : w'.os = w.os
  tape : w'.tape = w.tape
  output : w'.output = w.output
  size : w'.heap.size = w.heap.size
  block : ∀ k, k ≠ nb → w'.heap[k]? = w.heap[k]?
theorem Only.refl (nb : Nat) (w : World) : Only nb w w := ⟨rfl, rfl, rfl, rfl, fun _ _ => rfl⟩
theorem Only.drew {nb : Nat} {w w' : World} (h : Only nb w w') : Only nb w w'.drew := ⟨h.os, h.tape, h.output, h.size, h.block⟩
theorem Only.setCell {nb off : Nat} {w w' : World} (h : Only nb w w') (u : Value) : Only nb w (w'.setCell ⟨nb, off, none⟩ u) :=
  ⟨h.os, h.tape, h.output, by rw [← h.size]; simp [World.setCell], fun k hk => (Below.heap_setCell _ _ _ _ hk).trans (h.block k hk)⟩
theorem Only.below {nb B : Nat} {w w' : World} (h : Only nb w w') (hB : B ≤ nb) : Below B w w' := ⟨h.os, h.tape, h.output, by rw [h.size]; exact Nat.le_refl _, fun k hk => h.block k (by omega)⟩
theorem Oth.only {w w' : World} {base nb cap n : Nat} {xs : List Value} (hg : Only nb w w') (h : w.ownsRow base 114 5 (.slice (some ⟨nb, 0, none⟩) n cap) n xs) : Oth w w' := fun q cs e fz hq n1 n2 => by
  refine hg.block q ?_
  rintro rfl
  obtain ⟨cur, h3, _⟩ := (row_cells h).2.2.2.2.1
  rw [h3] at hq; injection hq with hq; injection hq with _ h6 _
  exact n2 h6.symm
def LkRel (base tb mb nb cap : Nat) (T : Tb) (W0 : World) (l : List Nat) (T' : Tb) (wr : World) : Prop :=
  Lk T l T' ∧ TabAt wr base tb mb nb cap T' ∧ WF T' ∧ Tree T' ∧ T'.nodes.length = T.nodes.length ∧ Only nb W0 wr

theorem Step.det {T : Tb} {b i r r' : Nat} (h : Step T b i r) (h' : Step T b i r') : r = r' := by
  induction h with
  | hit h =>
    cases h' with
    | hit h2 => rw [h] at h2; injection h2
    | root h2 => rw [h] at h2; cases h2
    | back h2 _ _ => rw [h] at h2; cases h2
  | root h =>
    cases h' with
    | hit h2 => rw [h] at h2; cases h2
    | root h2 => rfl
    | back _ h3 _ => exact absurd rfl h3
  | back h h0 _ ih =>
    cases h' with
    | hit h2 => rw [h] at h2; cases h2
    | root h2 => exact absurd rfl h0
    | back _ _ h3 => exact ih h3
theorem Step.total {T : Tb} (wf : WF T) (b : Nat) : ∀ (i : Nat), i < T.nodes.length → ∃ r, Step T b i r := by
  have key : ∀ (d i : Nat), (T.nd i).depth = d → i < T.nodes.length → ∃ r, Step T b i r := by
    intro d
    induction d using Nat.strongRecOn with
    | _ d ih =>
      intro i hd hi
      cases hf : fnd T.next (i, b) with
      | some r => exact ⟨r, .hit hf⟩
      | none =>
        rcases Nat.eq_zero_or_pos i with e | e
        · subst e; exact ⟨0, .root hf⟩
        · obtain ⟨h1, h2⟩ := wf.fail i hi e
          obtain ⟨r, hr⟩ := ih _ (by omega) _ rfl h1
          exact ⟨r, .back hf (by omega) hr⟩
  exact fun i hi => key _ i rfl hi
theorem step_at {w : World} {base tb mb nb cap i b r : Nat} {T : Tb} (h : TabAt w base tb mb nb cap T) (wf : WF T) (hi : i < T.nodes.length) (hr : Step T b i r) :
    Calls Try.prog 62 #[.pointer (some ⟨tb, 0, none⟩), .int .i32 (i : Int), .int .u8 (b : Int)] w fun e w' => e = .returned (.int .i32 (r : Int)) ∧ w' = w :=
  (step_any h wf i b hi).mono fun e w' ⟨r', _, h2, h3, h4⟩ => ⟨by rw [h3, hr.det h2], h4.symm⟩
theorem nodeCells_fail (l : List Nd) (i r : Nat) (hi : i < l.length) : nodeCells (l.set i { l.getD i nd0 with fail := r }) = (nodeCells l).set (i * 5 + 1) (.int .i32 (r : Int)) := by
  induction l generalizing i with
  | nil => simp at hi
  | cons x l ih =>
    cases i with
    | zero => simp [nodeCells, ndCells]
    | succ i =>
      have := ih i (by simpa using hi)
      simp only [nodeCells, List.set_cons_succ, List.flatMap_cons, List.getD_cons_succ] at *
      rw [this, List.set_append_right _ _ (by simp [ndCells]; omega)]
      congr 2
      simp [ndCells]; omega
theorem setFail_tab {w : World} {base tb mb nb cap i r : Nat} {T : Tb} (A : TabAt w base tb mb nb cap T) (hc : i < T.nodes.length) : TabAt (w.setCell ⟨nb, i * 5 + 1, none⟩ (.int .i32 (r : Int))) base tb mb nb cap (T.setFail i r) := by
  have hlen : (T.setFail i r).nodes.length = T.nodes.length := by simp [Tb.setFail]
  have hne := A.ne
  refine ⟨?_, A.map.of_block (Below.heap_setCell _ _ _ _ hne.2.2), ?_, A.b1, A.b2⟩
  · rw [hlen]; exact A.head.set_ne (Ne.symm hne.2.1)
  · rw [hlen, show nodeCells (T.setFail i r).nodes = (nodeCells T.nodes).set (i * 5 + 1) (.int .i32 (r : Int)) from nodeCells_fail _ _ _ hc]
    exact row_set A.row

def LinkPost (base tb mb nb cap : Nat) (T : Tb) (w : World) (e : Ending) (w' : World) : Prop :=
  e = .returned (.tuple #[]) ∧ ∃ T', Lk T (levs T T.nodes.length).flatten T' ∧ TabAt w' base tb mb nb cap T' ∧ WF T' ∧ Tree T' ∧ T'.nodes.length = T.nodes.length ∧ Below base w w' ∧ Oth w w'

set_option maxRecDepth 100000 in
set_option maxHeartbeats 2000000 in
theorem link_any {w : World} {base tb mb nb cap : Nat} {T : Tb} (h : TabAt w base tb mb nb cap T) (wf : WF T) (tr : Tree T) (hb : base ≤ w.heap.size) :
    Calls Try.prog 68 #[.pointer (some ⟨tb, 0, none⟩)] w (LinkPost base tb mb nb cap T w) := by
  obtain ⟨i21, a1, a2, a3, a4⟩ := info_parts info21
  obtain ⟨i116, b1, b2, b3, b4⟩ := info_parts info116
  have hmax := wf.max
  go_enter Try.func68, Try.ntmps68
  go_wp2
  go_loopw [2, 3] (fun v i wr => ∃ k : Nat, 1 ≤ k ∧ (k ≤ T.nodes.length) ∧ i = .int .i64 (k : Int) ∧ Below w.heap.size w wr ∧ ∃ vals, LevAt wr w.heap.size v (levs T k) vals) (fun _ i _ => T.nodes.length - (intOf i).toNat)
  case atStart => exact ⟨1, by omega, by have := wf.pos; omega, rfl, Below.refl _ _, [], rfl, World.ownsRow_nil _ _ _ _, fun j hj => absurd hj (Nat.not_lt_zero _), fun i j b hi => absurd hi (Nat.not_lt_zero _)⟩
  case round =>
    obtain ⟨k, k1, hk, rfl, hB, vals, hL⟩ := hrel
    have hA := h.below hB
    by_cases hlt : k < T.nodes.length
    · obtain ⟨q0, q1, q2, q3, q4⟩ := hA.cell hlt
      have c1 := hA.head.cell (i := 1) rfl
      obtain ⟨D, hD⟩ : ∃ D, (T.nd k).depth = D := ⟨_, rfl⟩
      have hD64 := wf.depth k hlt
      rw [hD] at q0 hD64
      obtain ⟨n0, hn0⟩ : ∃ n0, (levs T k).length = n0 := ⟨_, rfl⟩
      have hn65 := levs_len wf k hk
      rw [hn0] at hn65
      have HL := Lib.hid hL
      have HB := Lib.hid hB
      have HD := Lib.hid hD
      have HN := Lib.hid hn0
      obtain ⟨wo, rfl⟩ : ∃ wo : World, wo = wr := ⟨_, rfl⟩
      clear hL hB hD hn0 q1 q2 q3 q4 hA
      go_wp2
      go_loopw [2] (fun v wr => ∃ m ao c, v = .slice ao (n0 + m) c ∧ (n0 + m ≤ max n0 (D + 1)) ∧ Below w.heap.size w wr ∧ LevAt wr w.heap.size v (levs T k ++ List.replicate m []) (vals ++ List.replicate m (.slice none 0 0))) (fun v _ => 70 - (match v with | .slice _ n _ => n | _ => 0))
      case atStart =>
        obtain ⟨ao, c, hv⟩ := own_form HL.out.row
        exact ⟨0, ao, c, by rw [hv, HN.out]; rfl, by omega, HB.out, by simpa using HL.out⟩
      case round =>
        obtain ⟨m, ao, c, rfl, hm, hB1, hL1⟩ := hrel
        have hA1 := h.below hB1
        have d1 := hA1.head.cell (i := 1) rfl
        have d0 := (hA1.cell hlt).1
        rw [HD.out] at d0
        have HL1 := Lib.hid hL1
        have HB1 := Lib.hid hB1
        clear hL1 hB1 hA1
        by_cases hle : n0 + m ≤ D
        · have hlen : (levs T k ++ List.replicate m []).length = n0 + m := by rw [List.length_append, HN.out, List.length_replicate]
          have hrow := Lib.hid (show wr.ownsRow w.heap.size 116 1 (.slice ao (n0 + m) c) (n0 + m) (vals ++ List.replicate m (.slice none 0 0)) from by have := HL1.out.row; rwa [hlen] at this)
          have HLen := Lib.hid hlen
          clear hlen
          have hmx : n0 + m + 1 ≤ maxLen := by unfold maxLen; omega
          have hby : (n0 + m + 1) * 24 ≤ 140737488355328 := by omega
          have hbs : w.heap.size ≤ wr.heap.size := HB1.out.size
          go_wp2_with (first | (at_builtin; refine wpList_append_lies _ (by rfl) (.tmp 31) (.tmp 32) 115 (by rfl) w.heap.size 116 i116 (.slice none 0 0) 1 24 Try.underlying115 b1 b2 b3 b4 (by rfl) (by decide) (.slice ao (n0 + m) c) (n0 + m) (vals ++ List.replicate m (.slice none 0 0)) (by rfl) (hrow.out.alloc _) ⟨wr.heap.size, 0, none⟩ 1 1 [.slice none 0 0] (by rfl) (by rfl) (fun _ _ hj => alloc_cells _ _ hj) one_nil (by decide) hmx hby (le_alloc hbs) (wr.heap.size + 1) (size_alloc1 _ _) ?_; intro g cap2 w1 hown hgrow hat hlt1))
          go_roundw
          case rel =>
            refine ⟨m + 1, some ⟨g, 0, none⟩, cap2, rfl, by omega, (HB1.out.alloc hbs _).grown hgrow (by simp; omega) (fun b hb => (hrow.out.lt b hb).1), ?_⟩
            have h1 := (HL1.out.alloc _).more (by rw [HLen.out]; exact hown) hgrow
            rw [List.replicate_succ', List.replicate_succ', ← List.append_assoc, ← List.append_assoc]
            exact h1
          case measure => simp; omega
        · have hlen : (levs T k ++ List.replicate m []).length = n0 + m := by rw [List.length_append, HN.out, List.length_replicate]
          have hDl : D < n0 + m := by omega
          have hmD : n0 + m = max n0 (D + 1) := by omega
          obtain ⟨N1, hN1⟩ : ∃ N1, n0 + m = N1 := ⟨_, rfl⟩
          obtain ⟨L1, hL1⟩ : ∃ L1, levs T k ++ List.replicate m [] = L1 := ⟨_, rfl⟩
          obtain ⟨V1, hV1⟩ : ∃ V1, vals ++ List.replicate m (Value.slice none 0 0) = V1 := ⟨_, rfl⟩
          have hlev : levs T (k + 1) = L1.set D (L1.getD D [] ++ [k]) := by
            rw [← hL1]
            conv => lhs; unfold levs
            rw [if_neg (by omega)]
            simp only [HD.out, HN.out]
            rw [show D + 1 - n0 = m by omega]
          rw [hN1] at hDl hlen
          have HL2 := Lib.hid (show LevAt wr w.heap.size (.slice ao N1 c) L1 V1 from by have := HL1.out; rwa [hN1, hL1, hV1] at this)
          rw [hL1] at hlen
          have hN65 : N1 ≤ 65 := by omega
          have HLev := Lib.hid hlev
          have HLen := Lib.hid hlen
          clear HL1 hL1 hV1 hmD hlev hlen hle
          rw [hN1]
          clear hN1
          obtain ⟨lb, hao⟩ : ∃ lb, ao = some ⟨lb, 0, none⟩ := by
            obtain ⟨g, cc, hq, _⟩ := own_cell HL2.out.row (by rw [HLen.out]; omega)
            exact ⟨g, by injection hq⟩
          subst hao
          have hrowD := HL2.out.rows D (by rw [HLen.out]; exact hDl)
          obtain ⟨ad, cd, hvd⟩ := own_form hrowD
          have hlrow : wr.ownsRow w.heap.size 116 1 (.slice (some ⟨lb, 0, none⟩) N1 c) N1 V1 := by have := HL2.out.row; rwa [HLen.out] at this
          have hDl' : D < V1.length := by rw [HL2.out.len, HLen.out]; exact hDl
          have hVD : V1[D]? = some (.slice ad (L1.getD D []).length cd) := by
            have : D < V1.length := by rw [HL2.out.len, HLen.out]; exact hDl
            rw [← hvd]; simp [List.getD, this]
          have e0 := ((row_cells hlrow).2.2.2.2.2 D _ hVD).1
          have HVD := Lib.hid hvd
          have HR := Lib.hid hrowD
          have HLR := Lib.hid hlrow
          have kw : IntKind.i32.wrap (k : Int) = (k : Int) := by rw [IntKind.wrap_i32]; omega
          have hrl : (L1.getD D []).length ≤ 262145 := by
            have h1 := levs_row (T := T) (k + 1) D
            rw [HLev.out, getD_set_eq _ _ _ _ (by rw [HLen.out]; exact hDl)] at h1
            rw [List.length_append] at h1; simp only [List.length_cons, List.length_nil] at h1; omega
          obtain ⟨rl, hrl2⟩ : ∃ rl, (L1.getD D []).length = rl := ⟨_, rfl⟩
          rw [hrl2] at e0 hrl
          have hrow2 := Lib.hid (show wr.ownsRow w.heap.size 21 1 (.slice ad rl cd) rl ((L1.getD D []).map vl) from by rw [← hrl2, ← HVD.out]; exact HR.out)
          have HVD2 := Lib.hid (show V1.getD D undef = .slice ad rl cd by rw [← hrl2]; exact HVD.out)
          have HRL := Lib.hid hrl2
          clear hvd hrowD hlrow hVD hrl2
          have hmx : rl + 1 ≤ maxLen := by unfold maxLen; omega
          have hby : (rl + 1) * 4 ≤ 140737488355328 := by omega
          have hbs : w.heap.size ≤ wr.heap.size := HB1.out.size
          have hlbl := (row_cells HLR.out).2.2.2.1
          have htg : some lb ≠ (Value.slice ad rl cd).ownBlock := by
            rcases tags HLR.out hrow2.out (by decide) with e | e
            · cases e
            · exact e
          go_wp2_with (first | (at_builtin; refine wpList_append_lies _ (by rfl) (.tmp 47) (.tmp 50) 116 (by rfl) w.heap.size 21 i21 (.int .i32 0) 1 4 Try.underlying116 a1 a2 a3 a4 (by rfl) (by decide) (.slice ad rl cd) rl ((L1.getD D []).map vl) (by rfl) (hrow2.out.alloc _) ⟨wr.heap.size, 0, none⟩ 1 1 [vl k] (by rfl) (by rfl) (fun _ _ hj => alloc_cells _ _ hj) one_vl (by decide) hmx hby (le_alloc hbs) (wr.heap.size + 1) (size_alloc1 _ _) ?_; intro g cap2 w1 hown hgrow hat hlt1; have hlr1 := row_of_block (w' := w1) (HLR.out.alloc _) (hgrow.block lb (lt_alloc hlbl) htg); have z1 := (row_there hlr1 hDl').1; have z2 := (row_there hlr1 hDl').2; have HO := Lib.hid hown; have HG := Lib.hid hgrow; have HAt := Lib.hid hat; clear hlr1 hown hgrow hat))
          go_roundw
          case rel =>
            refine ⟨k + 1, by omega, by omega, by go_num, (((HB1.out.alloc hbs _).grown HG.out (by simp; omega) (fun b hb => (hrow2.out.lt b hb).1)).setCell (row_cells HLR.out).1 _), V1.set D (.slice (some ⟨g, 0, none⟩) (rl + 1) cap2), ?_⟩
            have h1 := LevAt.put (d := D) (k := k) (u' := .slice (some ⟨g, 0, none⟩) (rl + 1) cap2) (show LevAt (wr.alloc (.cells #[vl k] 21)) w.heap.size (.slice (some ⟨lb, 0, none⟩) L1.length c) L1 V1 from by rw [HLen.out]; exact HL2.out.alloc _) (by rw [HLen.out]; exact hDl) (by rw [HRL.out]; exact HO.out) (by rw [HVD2.out]; exact HG.out) (by
              rw [HVD2.out]
              rcases HAt.out with q | q
              · exact .inl q
              · exact .inr ⟨g, rfl, by rw [q]; simp⟩)
            rw [HLev.out]
            rw [HLen.out] at h1
            exact h1
          case measure => simp [intOf]; omega
    · obtain rfl : k = T.nodes.length := by omega
      obtain ⟨ao, c, rfl⟩ := own_form hL.row
      have HL := Lib.hid hL
      have HB := Lib.hid hB
      obtain ⟨W0, rfl⟩ : ∃ W0 : World, W0 = wr := ⟨_, rfl⟩
      have c1 := hA.head.cell (i := 1) rfl
      have HA := Lib.hid hA
      obtain ⟨LL, hLL⟩ : ∃ LL, levs T T.nodes.length = LL := ⟨_, rfl⟩
      have hmem := Lib.hid (fun x hx => (levs_mem (T := T) T.nodes.length x hx))
      rw [hLL] at HL hmem
      obtain ⟨n1, hn1⟩ : ∃ n1, LL.length = n1 := ⟨_, rfl⟩
      have hn65 : n1 ≤ 65 := by rw [← hn1, ← hLL]; exact levs_len wf _ (Nat.le_refl _)
      have HLL := Lib.hid hLL
      have HN1 := Lib.hid hn1
      rw [hLL, hn1]
      have WFT := Lib.hid wf
      have TRT := Lib.hid tr
      clear hL hB hA hLL hn1 wf tr h
      go_wp2
      go_loopw [55] (fun i wr => ∃ (j : Nat) (T' : Tb), j ≤ n1 ∧ i = .int .i64 (j : Int) ∧ LkRel base tb mb nb cap T W0 (LL.take j).flatten T' wr) (fun i _ => n1 - (intOf i).toNat)
      case atStart => exact ⟨0, T, by omega, rfl, Lk.nil, HA.out, WFT.out, TRT.out, rfl, Only.refl _ _⟩
      case round =>
        obtain ⟨j, T', hj, rfl, hR⟩ := hrel
        by_cases hlt2 : j < n1
        · have hrowj := HL.out.rows j (by rw [HN1.out]; exact hlt2)
          obtain ⟨aj, cj, hvj⟩ := own_form hrowj
          have hjl : j < vals.length := by rw [HL.out.len, HN1.out]; exact hlt2
          have hlr : W0.ownsRow w.heap.size 116 1 (.slice ao n1 c) n1 vals := by have := HL.out.row; rwa [HN1.out] at this
          obtain ⟨lb, hao⟩ : ∃ lb, ao = some ⟨lb, 0, none⟩ := by
            obtain ⟨g, cc, hq, _⟩ := own_cell hlr (by omega)
            exact ⟨g, by injection hq⟩
          subst hao
          have hlbn : lb ≠ nb := by
            have h1 := (row_cells hlr).1; have h2 := (row_cells HA.out.row).2.2.2.1
            rintro rfl
            exact absurd ((row_cells (HA.out.row)).2.2.2.2.1) (by
              rintro ⟨cur, q1, _⟩
              obtain ⟨cur2, q2, _⟩ := (row_cells hlr).2.2.2.2.1
              rw [q1] at q2; injection q2 with q3; injection q3 with _ q4 _; revert q4; decide)
          have hO := hR.2.2.2.2.2
          have e0 : wr.cell? ⟨lb, j, none⟩ = some (.slice aj (LL.getD j []).length cj) := by
            rw [← hvj, ← (row_there hlr hjl).1]
            exact World.cell?_of_block (hO.block lb hlbn)
          obtain ⟨lj, hlj⟩ : ∃ lj, LL.getD j [] = lj := ⟨_, rfl⟩
          rw [hlj] at e0 hrowj hvj
          rw [hvj] at hrowj
          have hlk : LL[j]? = some lj := by rw [← hlj]; simp [List.getD, show j < LL.length by rw [HN1.out]; exact hlt2]
          have hlj2 : lj.length ≤ 262145 := by have := levs_row (T := T) T.nodes.length j; rw [HLL.out, hlj] at this; omega
          obtain ⟨m1, hm1⟩ : ∃ m1, lj.length = m1 := ⟨_, rfl⟩
          rw [hm1] at e0 hrowj hlj2
          have HRj := Lib.hid hrowj
          have HM1 := Lib.hid hm1
          have HLk := Lib.hid hlk
          have HRel := Lib.hid hR
          clear hR hO hlr hvj hlj hlk hm1 hrowj hjl
          obtain ⟨wo, rfl⟩ : ∃ wo : World, wo = wr := ⟨_, rfl⟩
          go_wp2
          go_loopw [61] (fun i wr => ∃ (q : Nat) (T2 : Tb), q ≤ m1 ∧ i = .int .i64 (q : Int) ∧ LkRel base tb mb nb cap T W0 ((LL.take j).flatten ++ lj.take q) T2 wr) (fun i _ => m1 - (intOf i).toNat)
          case atStart => exact ⟨0, T', by omega, rfl, by simpa using HRel.out⟩
          case round =>
            obtain ⟨q, T2, hq, rfl, hK, hA2, hW2, hT2, hN2, hO2⟩ := hrel
            by_cases hlt3 : q < m1
            · obtain ⟨x, hx0⟩ : ∃ x, lj[q]? = some x := ⟨lj[q]'(by rw [HM1.out]; exact hlt3), by simp [HM1.out, hlt3]⟩
              have hx : x < T2.nodes.length := by
                rw [hN2]
                exact hmem.out x (List.mem_flatten.2 ⟨lj, List.mem_of_getElem? HLk.out, List.mem_of_getElem? hx0⟩)
              obtain ⟨rb, rc, hq1, _, _, _, _, hq2⟩ := own_cell HRj.out (by omega)
              injection hq1 with hq1 _ hq3
              subst hq1
              have hrbn : rb ≠ nb := by
                rintro rfl
                obtain ⟨cur, q1, _⟩ := (row_cells HA.out.row).2.2.2.2.1
                obtain ⟨cur2, q2, _⟩ := (row_cells HRj.out).2.2.2.2.1
                rw [q1] at q2; injection q2 with q3; injection q3 with _ q4 _; revert q4; decide
              have e1 : wr.cell? ⟨rb, q, none⟩ = some (.int .i32 (x : Int)) := by
                have h0 := hq2 q (vl x) (by rw [List.getElem?_map, hx0]; rfl)
                exact (World.cell?_of_block (hO2.block rb hrbn)).trans h0
              have hNm : T2.nodes.length ≤ 262145 := hW2.max
              obtain ⟨p0, p1, p2, p3, p4⟩ := hA2.cell hx
              have c2 := hA2.head.cell (i := 1) rfl
              have htk : (LL.take j).flatten ++ lj.take (q + 1) = ((LL.take j).flatten ++ lj.take q) ++ [x] := by
                rw [List.take_add_one, hx0, List.append_assoc]; rfl
              by_cases hdx : (T2.nd x).depth ≤ 1
              · have hd1 : ((T2.nd x).depth : Int) ≤ 1 := by omega
                have HR2 := Lib.hid (show LkRel base tb mb nb cap T W0 ((LL.take j).flatten ++ lj.take (q + 1)) T2 wr from by
                  rw [htk]; exact ⟨hK.skip hdx, hA2, hW2, hT2, hN2, hO2⟩)
                clear hK hA2 hW2 hT2 hN2 hO2 hq2 hx0 htk hq3
                go_wp2
                go_roundw
                case rel => exact ⟨q + 1, T2, by omega, by go_num, HR2.out⟩
                case measure => simp [intOf]; omega
              · have hd1 : 1 < ((T2.nd x).depth : Int) := by omega
                have hx1 : 0 < x := by
                  rcases Nat.eq_zero_or_pos x with e | e
                  · subst e; have := hW2.root.2; omega
                  · exact e
                obtain ⟨u1, u2⟩ := hT2.up x hx hx1
                have hu0 : 0 < (T2.nd x).up := by
                  rcases Nat.eq_zero_or_pos (T2.nd x).up with e | e
                  · rw [e] at u2; have := hW2.root.2; omega
                  · exact e
                obtain ⟨f1, f2⟩ := hW2.fail _ u1 hu0
                obtain ⟨r, hr⟩ := Step.total hW2 (T2.nd x).by_ _ f1
                have hset := setFail_wf hW2 hT2 hx (by omega) hr
                have hrl := (hr.depth hW2 hT2 f1).1
                have u5 := (hA2.cell u1).2.1
                have hst := step_at (show TabAt wr.drew base tb mb nb cap T2 from ⟨hA2.head, hA2.map, hA2.row, hA2.b1, hA2.b2⟩) hW2 f1 hr
                have ffree : wr.frozen? ⟨nb, x * 5 + 1, none⟩ = false := ((row_cells hA2.row).2.2.2.2.2 (x * 5 + 1) _ (by rw [nodeCells_get _ _ 1 hx (by omega)]; rfl)).2
                have HR2 := Lib.hid (show LkRel base tb mb nb cap T W0 ((LL.take j).flatten ++ lj.take (q + 1)) (T2.setFail x r) (wr.drew.setCell ⟨nb, x * 5 + 1, none⟩ (.int .i32 (r : Int))) from by
                  rw [htk]; exact ⟨hK.set (by omega) hr, setFail_tab (show TabAt wr.drew base tb mb nb cap T2 from ⟨hA2.head, hA2.map, hA2.row, hA2.b1, hA2.b2⟩) hx, hset.1, hset.2, by simpa [Tb.setFail] using hN2, hO2.drew.setCell _⟩)
                obtain ⟨u, hu⟩ : ∃ u, (T2.nd x).up = u := ⟨_, rfl⟩
                obtain ⟨f, hf⟩ : ∃ f, (T2.nd u).fail = f := ⟨_, rfl⟩
                obtain ⟨b, hb5⟩ : ∃ b, (T2.nd x).by_ = b := ⟨_, rfl⟩
                rw [hu] at p3 u1 u5 f1
                rw [hu, hf, hb5] at hst
                rw [hf] at u5 f1
                rw [hb5] at p4
                have HST := Lib.hid hst
                clear hK hA2 hW2 hT2 hN2 hO2 hq2 hx0 htk hq3 hr hset u2 f2 hst hu hf hb5 hu0
                go_upto_region 16 with fail
                refine region_tail 20 (by kernel_rfl) (by kernel_rfl) ?_
                simp only [List.take_succ_cons, List.take_zero, List.drop_succ_cons, List.drop_zero]
                repeat still_step
                still_call HST.out
                repeat still_step
                refine wpStill_nil ?_
                go_wp2
                go_roundw
                case rel => exact ⟨q + 1, _, by omega, by go_num, HR2.out⟩
                case measure => simp [intOf]; omega
            · obtain rfl : q = m1 := by omega
              have HR2 := Lib.hid (show LkRel base tb mb nb cap T W0 (LL.take (j + 1)).flatten T2 wr from by
                rw [List.take_add_one, List.flatten_append, HLk.out]
                simp only [Option.toList_some, List.flatten_cons, List.flatten_nil, List.append_nil]
                rw [List.take_of_length_le (l := lj) (by rw [HM1.out]; exact Nat.le_refl _)] at hK
                exact ⟨hK, hA2, hW2, hT2, hN2, hO2⟩)
              clear hK hA2 hW2 hT2 hN2 hO2
              go_wp2
              go_roundw
              case rel => exact ⟨j + 1, T2, by omega, by go_num, HR2.out⟩
              case measure => simp [intOf]; omega
        · obtain rfl : j = n1 := by omega
          go_wp2
          go_end0
          obtain ⟨q1, q2, q3, q4, q5, q6⟩ := hR
          rw [List.take_of_length_le (by rw [HN1.out]; exact Nat.le_refl _)] at q1
          exact ⟨rfl, T', by rw [HLL.out]; exact q1, q2, q3, q4, q5, (HB.out.mono hb).trans (q6.below (row_cells HA.out.row).1), (Oth.of_below HB.out).trans (Oth.only q6 HA.out.row)⟩
end Go.Proofs.Ythkaicbkcaiffaa
