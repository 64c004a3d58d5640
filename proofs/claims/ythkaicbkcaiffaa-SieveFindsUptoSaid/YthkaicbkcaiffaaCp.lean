/-
  copy into a block of bytes that is known whole, out of a string or a slice. Conditions: none.
-/
import Derived.Test.YthkaicbkcaiffaaRa
import Derived.Lib.BufferWrite
namespace Go.Proofs.Ythkaicbkcaiffaa
open Go.RowKit

theorem wpList_copy_run {P : Program} {w : World} {ops : Array Oper} {rest : List Oper} {o : Oper} {a : Act} {Q : Exit → Act → World → Prop} (hgd : o.guard = none) (s x : Operand) (ts : Array TypeId)
    (ho : o.op = .call { callee := .builtin .copy, args := #[s, x], argTypes := ts }) (u y v' : Value) (w' : World) (hs : a.eval s = u) (hx : a.eval x = y)
    (hrun : (Builtin.copy_ ts o.type #[u, y]).run P w = .ok v' w') (h : wpList P ops Q rest (a.put o.dst v') w') : wpList P ops Q (o :: rest) a w := by
  refine wpList_plain hgd fun K hK => ?_
  unfold Oper.wp
  rw [show execOp a.eval o = builtin .copy ts o.type (#[s, x].map fun | .const _ => true | _ => false) (#[s, x].map a.eval) by unfold execOp; rw [ho]; rfl]
  simp only [List.map_toArray, List.map_cons, List.map_nil, hs, hx]
  rw [show builtin .copy ts o.type _ #[u, y] = (do pure (.value (← Builtin.copy_ ts o.type #[u, y]))) from rfl, Sem.run_bind, hrun]
  exact hK _ _ h
theorem step_copy_run {P : Program} {ops : Array Oper} {o : Oper} {a : Act} {w : World} {K : Act → World → Prop} {Q : Exit → Act → World → Prop} {E : Prop} (hgd : o.guard = none) (s x : Operand) (ts : Array TypeId)
    (ho : o.op = .call { callee := .builtin .copy, args := #[s, x], argTypes := ts }) (u y v' : Value) (w' : World) (hs : a.eval s = u) (hx : a.eval x = y)
    (hrun : (Builtin.copy_ ts o.type #[u, y]).run P w = .ok v' w') (h : K (a.put o.dst v') w') : if Region.wanted o (yielded ops a.tmps) = true then Oper.wp P o a w K Q else E := by
  have hw : Region.wanted o (yielded ops a.tmps) = true := by simp [Region.wanted, hgd]
  rw [if_pos hw]
  unfold Oper.wp
  rw [show execOp a.eval o = builtin .copy ts o.type (#[s, x].map fun | .const _ => true | _ => false) (#[s, x].map a.eval) by unfold execOp; rw [ho]; rfl]
  simp only [List.map_toArray, List.map_cons, List.map_nil, hs, hx]
  rw [show builtin .copy ts o.type _ #[u, y] = (do pure (.value (← Builtin.copy_ ts o.type #[u, y]))) from rfl, Sem.run_bind, hrun]
  exact h
theorem splice_u8s (X l : List Nat) (o : Nat) : (splice (u8s X).toList o (l.map fun x : Nat => Value.int .u8 (x : Int))).toArray = u8s (splice X o l) := by
  unfold splice u8s; simp [List.map_take, List.map_drop]
theorem byteCells_bts (s : ByteArray) : Lib.byteCells s.data.toList = (bts s).map fun x : Nat => Value.int .u8 (x : Int) := by
  unfold Lib.byteCells bts; rw [List.map_map]; rfl
theorem run_copy_str (w : World) (g o dLen dCap k : Nat) (s : ByteArray) (cur : Array Value) (hg : w.heap[g]? = some (.cells cur 5 (0, 0))) (hk : Nat.min s.size dLen = k) (hfit : o + k ≤ cur.size) :
    (Builtin.copy_ #[27, 9] 3 #[.slice (some ⟨g, o, none⟩) dLen dCap, .string s]).run Try.prog w = .ok (goInt k) (w.setRow g (splice cur.toList o ((Lib.byteCells s.data.toList).take k)).toArray) := by
  have hle : k ≤ s.size := by rw [← hk]; exact Nat.min_le_left _ _
  have hlen : ((Lib.byteCells s.data.toList).take k).length = k := by rw [List.length_take, Lib.byteCells_length, ← Lib.size_eq]; omega
  have hst := run_storeCells_at Try.prog g o 5 ((Lib.byteCells s.data.toList).take k) 0 cur w hg (by rw [hlen]; simpa using hfit) (fun v hv => Lib.byteCells_one _ v (List.mem_of_mem_take hv))
  rw [hlen] at hst
  simp only [Nat.add_zero] at hst
  have hq := size5
  cases hq2 : Try.prog.info? 5 with
  | none => simp [hq2] at hq
  | some i =>
    rw [hq2] at hq
    have e : (List.map (fun b : UInt8 => Value.int IntKind.u8 (b.toNat : Int)) s.data.toList) = Lib.byteCells s.data.toList := rfl
    simp [Builtin.copy_, run_underlying Try.underlying27, Builtin.lenOf, Builtin.firstCells, sizeOf, typeInfo, hq2, hk]
    rw [e, hst]
    simp [Result.andThen, splice, hlen]
theorem setRow_keep (w : World) (g : Nat) (cs : Array Value) : Keep w.heap.size (fun k => k = g) w (w.setRow g cs) :=
  ⟨rfl, rfl, rfl, by simp, fun k _ hk => setRow_other w g k cs hk⟩
/-- copy out of a string. -/
theorem copy_str {w : World} {g : Nat} {X : List Nat} (h : Blk w g 5 (u8s X)) (o dLen dCap k : Nat) (s : ByteArray) (hk : min s.size dLen = k) (ho : o + k ≤ X.length) :
    ∃ w', (Builtin.copy_ #[27, 9] 3 #[.slice (some ⟨g, o, none⟩) dLen dCap, .string s]).run Try.prog w = .ok (.int .i64 (k : Int)) w' ∧ Blk w' g 5 (u8s (splice X o ((bts s).take k))) ∧ Keep w.heap.size (fun k => k = g) w w' ∧ w'.heap.size = w.heap.size := by
  refine ⟨_, run_copy_str w g o dLen dCap k s (u8s X) h hk (by rw [u8s_size]; exact ho), ?_, setRow_keep _ _ _, by simp⟩
  have := setRow_heap w g (u8s X) (splice (u8s X).toList o ((Lib.byteCells s.data.toList).take k)).toArray 5 (0, 0) h
  rw [byteCells_bts, ← List.map_take, splice_u8s] at this
  rw [byteCells_bts, ← List.map_take, splice_u8s]; exact this
theorem bytes_one' (l : List Nat) : ∀ u ∈ l.map fun x : Nat => Value.int .u8 (x : Int), u.oneCell' = true := by intro u hu; simp only [List.mem_map] at hu; obtain ⟨x, _, rfl⟩ := hu; rfl
/-- copy out of a slice of bytes. -/
theorem copy_sl {w : World} {g : Nat} {X l : List Nat} {ao : Option Addr} {n : Nat} (h : Blk w g 5 (u8s X)) (o dLen dCap k c : Nat) (hn : l.length = n) (hl : Byt w ao l) (hk : min n dLen = k) (ho : o + k ≤ X.length) :
    ∃ w', (Builtin.copy_ #[27, 27] 3 #[.slice (some ⟨g, o, none⟩) dLen dCap, .slice ao n c]).run Try.prog w = .ok (.int .i64 (k : Int)) w' ∧ Blk w' g 5 (u8s (splice X o (l.take k))) ∧ Keep w.heap.size (fun k => k = g) w w' ∧ w'.heap.size = w.heap.size := by
  by_cases h0 : k = 0
  · subst h0
    refine ⟨w, run_copy_none (P := Try.prog) w 27 27 3 5 _ _ dLen dCap n c Try.underlying27 size5 hk, by simpa [splice] using h, Keep.refl _ _ _, rfl⟩
  · obtain ⟨b, off, rfl, hb, hc⟩ := hl (by omega)
    have hlk : (l.take k).length = k := by rw [List.length_take]; omega
    obtain ⟨cs, hcs⟩ : ∃ cs, (l.take k).map (fun x : Nat => Value.int .u8 (x : Int)) = cs := ⟨_, rfl⟩
    have hcl : cs.length = k := by rw [← hcs, List.length_map, hlk]
    have hrun := run_copy_row (P := Try.prog) w 27 27 3 5 g o dLen dCap ⟨b, off, none⟩ n c (u8s X) 5 cs Try.underlying27 size5 h (by rw [hcl]; exact hk.symm) (fun j v hj => by
      rw [← hcs] at hj
      have hjl : j < k := by have := (List.getElem?_eq_some_iff.1 hj).1; rw [List.length_map, hlk] at this; exact this
      have hj2 : j < l.length := by omega
      rw [add0, hc j hj2, ← hj]
      simp [List.getD, hj2, hjl]) (by rw [u8s_size, hcl]; exact ho) (by rw [← hcs]; exact bytes_one' _)
    rw [List.append_assoc, show (u8s X).toList.take o ++ (cs ++ (u8s X).toList.drop (o + cs.length)) = splice (u8s X).toList o cs from rfl, hcl] at hrun
    refine ⟨_, hrun, ?_, setRow_keep _ _ _, by simp⟩
    have := setRow_heap w g (u8s X) (splice (u8s X).toList o cs).toArray 5 (0, 0) h
    rw [← hcs, splice_u8s] at this
    rw [← hcs, splice_u8s]; exact this
end Go.Proofs.Ythkaicbkcaiffaa
