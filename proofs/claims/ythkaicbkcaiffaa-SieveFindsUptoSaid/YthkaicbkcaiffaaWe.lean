/-
  SieveFinds: what is known of hits; appends. Conditions: none.
-/
import Derived.Test.YthkaicbkcaiffaaWc
import Derived.Test.YthkaicbkcaiffaaLd
import Derived.Lib.AppendStr
import Derived.ArgAppend
namespace Go.Proofs.Ythkaicbkcaiffaa
open Go.RowKit

theorem step_append_run {P : Program} {ops : Array Oper} {o : Oper} {a : Act} {w : World} {K : Act → World → Prop} {Q : Exit → Act → World → Prop} {E : Prop} (hgd : o.guard = none) (s x : Operand) (ts : Array TypeId)
    (ho : o.op = .call { callee := .builtin .append, args := #[s, x], argTypes := ts }) (u y v' : Value) (w' : World) (hs : a.eval s = u) (hx : a.eval x = y)
    (hrun : (Builtin.append_ ts o.type #[u, y]).run P w = .ok v' w') (h : K (a.put o.dst v') w') : if Region.wanted o (yielded ops a.tmps) = true then Oper.wp P o a w K Q else E := by
  have hw : Region.wanted o (yielded ops a.tmps) = true := by simp [Region.wanted, hgd]
  rw [if_pos hw]
  unfold Oper.wp
  rw [show execOp a.eval o = builtin .append ts o.type (#[s, x].map fun | .const _ => true | _ => false) (#[s, x].map a.eval) by unfold execOp; rw [ho]; rfl]
  simp only [List.map_toArray, List.map_cons, List.map_nil, hs, hx]
  rw [show builtin .append ts o.type _ #[u, y] = (do pure (.value (← Builtin.append_ ts o.type #[u, y]))) from rfl, Sem.run_bind, hrun]
  exact h
def abS : ByteArray := ⟨#[97, 98]⟩
/-- The strings of a row. -/
theorem Strs.of_own {w : World} {base n c : Nat} {ao : Option Addr} {ps : List ByteArray} (h : w.ownsRow base 9 1 (.slice ao n c) n (ps.map Value.string)) : Strs w ao ps := fun h0 => by
  have hl : ps.length = n := by have := h.1; simpa using this
  obtain ⟨g, rfl⟩ := own_some h (by omega)
  refine ⟨g, 0, rfl, (row_cells h).2.2.2.1, fun i hi => ?_⟩
  rw [Nat.zero_add]
  exact ((row_cells h).2.2.2.2.2 i _ (by rw [List.getElem?_map]; simp [List.getD, hi])).1
theorem Strs.cells {w : World} {ao : Option Addr} {ps : List ByteArray} (h : Strs w ao ps) (b : Addr) (hb : ao = some b) : ∀ j u, (ps.map Value.string)[j]? = some u → w.cell? (b.add j) = some u := fun j u hj => by
  have hjl : j < ps.length := by have := (List.getElem?_eq_some_iff.1 hj).1; simpa using this
  obtain ⟨bb, off, e1, _, e3⟩ := h (by omega)
  rw [hb] at e1
  obtain rfl := Option.some.inj e1
  rw [add0, e3 j hjl, ← hj, List.getElem?_map]; simp [List.getD, hjl]

theorem hits_end {P : List (List Nat)} {wd : Nat} {X p : List Nat} (hp : p ∈ P) (h0 : 0 < p.length) : 0 < (hitsOf P wd 0 [] (X ++ p)).length := by
  have hne : p ≠ [] := fun e => by rw [e] at h0; exact absurd h0 (Nat.lt_irrefl 0)
  have e : X ++ p = (X ++ p.dropLast) ++ [p.getLast hne] := by rw [List.append_assoc, List.dropLast_concat_getLast hne]
  rw [e, hitsOf_snoc, List.length_append, ← e, List.nil_append]
  cases hq : endK P (X ++ p) with
  | some k => simp [hitOf]
  | none =>
    obtain ⟨k, hk, rfl⟩ := List.mem_iff_getElem.1 hp
    exact absurd ⟨_, List.getElem?_eq_getElem hk, List.suffix_append _ _⟩ (endK_none hq k)
theorem cell_lt {W : World} {b o : Nat} {v : Value} (h : W.cell? ⟨b, o, none⟩ = some v) : b < W.heap.size := by
  by_cases hb2 : b < W.heap.size
  · exact hb2
  · unfold World.cell? at h; simp [Array.getElem?_eq_none (show W.heap.size ≤ b by omega)] at h
theorem getD_mem_bts {L : List ByteArray} {k : Nat} (hk : k < L.length) : bts (L.getD k .empty) ∈ L.map bts := by
  refine List.mem_map.2 ⟨L.getD k .empty, ?_, rfl⟩
  simp only [List.getD, List.getElem?_eq_getElem hk, Option.getD_some]; exact List.getElem_mem _
theorem Blk.byt {w : World} {g : Nat} {X : List Nat} (h : Blk w g 5 (u8s X)) : Byt w (some ⟨g, 0, none⟩) X := fun _ => ⟨g, 0, rfl, h.lt, h.bytes⟩
theorem Blk.dat {w : World} {g : Nat} {X : List Nat} (h : Blk w g 5 (u8s X)) : Dat w (some ⟨g, 0, none⟩) X := fun _ => ⟨g, 0, rfl, _, (0, 0), h, fun i hi => by rw [Nat.zero_add]; exact u8s_get X i hi⟩
theorem strCells_bts (s : ByteArray) : Lib.strCells s = (bts s).map fun x : Nat => Value.int .u8 (x : Int) := by
  unfold Lib.strCells bts; rw [List.map_map]; rfl
/-- append(copied, s...): the bytes and the string's. -/
theorem append_str {w w1 : World} {base g n c : Nat} {xs : List Nat} {s : ByteArray} (hb : Below base w w1) (hbase : base ≤ w1.heap.size) (hown : w1.ownsRow base 5 1 (.slice (some ⟨g, 0, none⟩) n c) n (xs.map fun x : Nat => .int .u8 (x : Int))) (hmax : n + s.size ≤ 1099511627776) :
    ∃ ao' c' w2, (Builtin.append_ #[27, 9] 27 #[.slice (some ⟨g, 0, none⟩) n c, .string s]).run Try.prog w1 = .ok (.slice ao' (n + s.size) c') w2 ∧
      w2.ownsRow base 5 1 (.slice ao' (n + s.size) c') (n + s.size) ((xs ++ bts s).map fun x : Nat => .int .u8 (x : Int)) ∧ Below base w w2 ∧ w1.grownBy w2 (some g) := by
  obtain ⟨i0, a1, a2, a3, a4⟩ := info_parts infoU8
  obtain ⟨v', w2, h1, h2, h3, h4⟩ := Lib.run_append_own_string (P := Try.prog) w1 base 27 9 27 5 i0 Try.underlying27 Try.underlying9 a1 a2 a3 a4 _ n _ hown s (by unfold maxLen; omega) (by omega) hbase
  obtain ⟨ao', c', rfl⟩ := own_form h2
  rw [strCells_bts, byte_list_append] at h2
  exact ⟨ao', c', w2, h1, h2, hb.grown h3 hbase (fun k hk => (hown.lt k hk).1), h3⟩
theorem refHits_mem {P : List (List Nat)} {wd : Nat} {X : List Nat} {j : Nat} : ∀ h ∈ refHits P wd X j, ∃ i : Nat, i < j ∧ h.1 = (i : Int) ∧ headK P wd (X.drop i) = some h.2 := by
  induction j with
  | zero => intro h hh; simp [refHits] at hh
  | succ j ih =>
    intro h hh
    rw [refHits_succ, List.mem_append] at hh
    rcases hh with hh | hh
    · obtain ⟨i, h1, h2, h3⟩ := ih h hh
      exact ⟨i, by omega, h2, h3⟩
    · cases ho : headK P wd (X.drop j) with
      | none => rw [ho] at hh; simp [hitOf] at hh
      | some k => rw [ho] at hh; simp [hitOf] at hh; subst hh; exact ⟨j, by omega, rfl, ho⟩
theorem refHits_up {P : List (List Nat)} {wd : Nat} {X : List Nat} (j : Nat) : (refHits P wd X j).Pairwise (fun a b => a.1 < b.1) := by
  induction j with
  | zero => simp [refHits]
  | succ j ih =>
    rw [refHits_succ, List.pairwise_append]
    refine ⟨ih, ?_, fun a ha b hb => ?_⟩
    · cases headK P wd (X.drop j) <;> simp [hitOf]
    · have h1 := (refHits_place a ha).2
      cases ho : headK P wd (X.drop j) with
      | none => rw [ho] at hb; simp [hitOf] at hb
      | some k => rw [ho] at hb; simp [hitOf] at hb; subst hb; exact h1
/-- What is known of the j-th hit. -/
theorem hit_facts {L : List ByteArray} {wd j : Nat} {X : List Nat} {hs : List (Int × Nat)} (h1 : 1 ≤ wd) (hP : ∀ p, p ∈ L.map bts → p.length = wd) (hhs : hitsOf (L.map bts) wd 0 [] X = hs) (hj : j < hs.length) :
    ∃ a : Nat, (hs.getD j (0, 0)).1 = (a : Int) ∧ a + wd ≤ X.length ∧ (hs.getD j (0, 0)).2 < L.length ∧ bts (L.getD (hs.getD j (0, 0)).2 .empty) = (X.drop a).take wd ∧ (0 < j → (hs.getD (j - 1) (0, 0)).1 < (a : Int) ∧ 0 ≤ (hs.getD (j - 1) (0, 0)).1) := by
  rw [hits_same h1 hP] at hhs
  have hg : ∀ i (hi : i < hs.length), hs.getD i (0, 0) = hs[i] := fun i hi => by simp [List.getD, hi]
  have hm : hs[j] ∈ refHits (L.map bts) wd X (X.length + 1 - wd) := by rw [hhs]; exact List.getElem_mem _
  obtain ⟨i, e1, e2, e3⟩ := refHits_mem _ hm
  obtain ⟨e4, e5, _⟩ := List.findIdx?_eq_some_iff_getElem.1 e3
  have e4' : hs[j].2 < L.length := by simpa using e4
  refine ⟨i, by rw [hg j hj]; exact e2, by omega, by rw [hg j hj]; exact e4', ?_, fun h0 => ?_⟩
  · rw [hg j hj]
    have e6 : (L.map bts)[hs[j].2] = (X.drop i).take wd := by simpa using e5
    rw [← e6, List.getElem_map]
    congr 1
    simp [List.getD, e4']
  · have hp := refHits_up (P := L.map bts) (wd := wd) (X := X) (X.length + 1 - wd)
    rw [hhs, List.pairwise_iff_getElem] at hp
    have h2 := hp (j - 1) j (by omega) hj (by omega)
    have hm2 : hs[j - 1] ∈ refHits (L.map bts) wd X (X.length + 1 - wd) := by rw [hhs]; exact List.getElem_mem _
    rw [hg (j - 1) (by omega), ← e2]
    exact ⟨h2, (refHits_place _ hm2).1⟩
theorem overlap_row {w : World} {b M c : Nat} {wd : Int} {ao : Option Addr} {hs : List (Int × Nat)} (hM : hs.length = M) (hr : w.ownsRow b 44 2 (.slice ao M c) M (hcs hs)) (hmax : M ≤ 1099511627776) (hw : in64 wd) (hin : ∀ i, i < M → in64 (hs.getD i (0, 0)).1) :
    Calls Try.prog 14 #[.slice ao M c, .int .i64 wd] w (OvPost (fun i => (hs.getD i (0, 0)).1) M wd w) := by
  by_cases h0 : 0 < M
  · obtain ⟨g, rfl⟩ := own_some hr h0
    refine overlap_any g 0 M c (fun i => (hs.getD i (0, 0)).1) (fun i => ((hs.getD i (0, 0)).2 : Int)) wd w (by unfold maxLen; omega) hw ⟨fun i hi => ?_, fun i hi => ?_, hin⟩
    · rw [Nat.zero_add]; exact ((row_cells hr).2.2.2.2.2 _ _ (hcs_get hs i (by omega)).1).1
    · rw [Nat.zero_add]; exact ((row_cells hr).2.2.2.2.2 _ _ (hcs_get hs i (by omega)).2).1
  · obtain rfl : M = 0 := by omega
    exact (overlap_zero ao c wd w).mono fun e w' ⟨h1, h2⟩ => ⟨-1, h1, .inl ⟨rfl, fun j a b => absurd b (Nat.not_lt_zero j)⟩, 0, h2⟩
theorem IsOv.step_no {A : Nat → Int} {j : Nat} {wd : Int} (h : IsOv A j wd (-1)) (hn : 1 ≤ j → nearB (A (j - 1)) (A j) wd = false) : IsOv A (j + 1) wd (-1) := by
  rcases h with ⟨_, h⟩ | ⟨i, hi, h1, _⟩
  · refine .inl ⟨rfl, fun k h1 h2 => ?_⟩
    by_cases e : k = j
    · subst e; exact hn h1
    · exact h k h1 (by omega)
  · omega
theorem IsOv.step_yes {A : Nat → Int} {j : Nat} {wd : Int} (h : IsOv A j wd (-1)) (h1 : 1 ≤ j) (hn : nearB (A (j - 1)) (A j) wd = true) : IsOv A (j + 1) wd (j : Int) := by
  rcases h with ⟨_, h⟩ | ⟨i, hi, h1, _⟩
  · exact .inr ⟨j, rfl, h1, by omega, hn, h⟩
  · omega
theorem IsOv.more {A : Nat → Int} {j : Nat} {wd r : Int} (h : IsOv A j wd r) (hr : 0 ≤ r) : IsOv A (j + 1) wd r := by
  rcases h with ⟨rfl, _⟩ | ⟨i, hi, h1, h2, h3, h4⟩
  · omega
  · exact .inr ⟨i, hi, h1, by omega, h3, h4⟩
theorem IsOv.sign {A : Nat → Int} {j : Nat} {wd r : Int} (h : IsOv A j wd r) : r = -1 ∨ (0 ≤ r ∧ r < j) := by
  rcases h with ⟨rfl, _⟩ | ⟨i, rfl, h1, h2, _⟩
  · exact .inl rfl
  · right; omega
theorem own_of_u8s {w : World} {b base n : Nat} {l : List Nat} (h : Blk w b 5 (u8s l)) (hb : base ≤ b) (hn : l.length = n) (hm : n ≤ maxLen) : w.ownsRow base 5 1 (.slice (some ⟨b, 0, none⟩) n n) n (l.map fun x : Nat => .int .u8 (x : Int)) := by
  have h2 := own_of_blk (n := n) (cap := n) h hb (by rw [u8s_size]; exact hn) (Nat.le_refl _) hm
  rw [u8s_toList, List.take_of_length_le (by simp; omega)] at h2; exact h2
theorem dat_of_own' {w : World} {base n cap : Nat} {ao : Option Addr} {l : List Nat} (h : w.ownsRow base 5 1 (.slice ao n cap) n (l.map fun x : Nat => .int .u8 (x : Int))) : Dat w ao l := fun h0 => by
  have hl : l.length = n := by have := h.1; simpa using this
  obtain ⟨g, rfl⟩ := own_some h (by omega)
  exact ⟨g, 0, rfl, SrcB.of_own (m := []) (by rw [List.append_nil]; exact h)⟩
end Go.Proofs.Ythkaicbkcaiffaa
