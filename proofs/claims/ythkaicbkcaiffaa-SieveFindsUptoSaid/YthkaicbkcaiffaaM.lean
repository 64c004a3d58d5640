/-
  The automaton's map: what a look-up and a store do to it. Conditions: none.
-/
import Derived.Test.YthkaicbkcaiffaaH
import Derived.Laws.StructEq
import Derived.Lib.Hide
import Derived.Carry
namespace Go.Proofs.Ythkaicbkcaiffaa
open Go.RowKit

/-- A key: a node's number and a byte. -/
def ky (x : Nat × Nat) : Value := .agg #[.int .i32 (x.1 : Int), .int .u8 (x.2 : Int)]
def vl (n : Nat) : Value := .int .i32 (n : Int)

/-- What a list of entries tells of a key: the first that has it. -/
def fnd : List ((Nat × Nat) × Nat) → Nat × Nat → Option Nat
  | [], _ => none
  | e :: l, k => if e.1 = k then some e.2 else fnd l k

/-- Block m is a map with these entries. -/
def MapIs (w : World) (m : Nat) (l : List ((Nat × Nat) × Nat)) : Prop :=
  ∃ es clock, w.heap[m]? = some (.map es clock) ∧ es.toList.map (fun e => (e.key, e.val)) = l.map fun e => (ky e.1, vl e.2)

theorem MapIs.lt {w : World} {m : Nat} {l : List ((Nat × Nat) × Nat)} (h : MapIs w m l) : m < w.heap.size := by
  obtain ⟨es, c, h, _⟩ := h
  by_cases hb : m < w.heap.size
  · exact hb
  · rw [Array.getElem?_eq_none (by omega)] at h; cases h
theorem MapIs.of_block {w w' : World} {m : Nat} {l : List ((Nat × Nat) × Nat)} (h : MapIs w m l) (hb : w'.heap[m]? = w.heap[m]?) : MapIs w' m l := by
  obtain ⟨es, c, h, h2⟩ := h; exact ⟨es, c, hb.trans h, h2⟩
theorem MapIs.new (w : World) : MapIs (w.alloc (.map #[] 0)) w.heap.size [] :=
  ⟨#[], 0, by show (w.heap.push _)[w.heap.size]? = _; simp, rfl⟩

theorem eqA (d : Nat) (a b : Nat × Nat) (w : World) : (Op.equalIn (d + 2) 112 (ky a) (ky b)).run Try.prog w = .ok ((a.1 : Int) == b.1 && (a.2 : Int) == b.2) w := by
  unfold ky
  rw [run_equalIn_struct (P := Try.prog) w (d + 1) 112 _ _ (by simp [Program.fieldsOf, Try.underlying112]) (by kernel_rfl)]
  simp only [Program.fieldsOf, Try.underlying112]
  by_cases h1 : (a.1 : Int) = b.1 <;> by_cases h2 : (a.2 : Int) = b.2 <;> simp [Op.eqFields, go_sem, h1, h2, Try.underlying21, Try.underlying5]
theorem checkA (em : Bool) (d : Nat) (a : Nat × Nat) (w : World) : (Instr.checkKey em (d + 2) 112 (ky a)).run Try.prog w = .ok () w := by
  unfold ky
  simp [Instr.checkKey, go_sem]
theorem eq_ky (a b : Nat × Nat) (w : World) : (Op.equal 112 (ky a) (ky b)).run Try.prog w = .ok (decide (b = a)) w := by
  have : (Op.equal 112 (ky a) (ky b)).run Try.prog w = .ok ((a.1 : Int) == b.1 && (a.2 : Int) == b.2) w := by
    have h := eqA 9998 a b w
    rw [show (9998 + 2 : Nat) = Op.maxDepth from rfl] at h
    rw [Op.equal, h]
  rw [this]
  refine congrArg (fun r => Result.ok r w) ?_
  rw [Bool.eq_iff_iff]
  simp only [Bool.and_eq_true, beq_iff_eq, decide_eq_true_eq]
  constructor
  · rintro ⟨h1, h2⟩; exact (Prod.ext (by omega) (by omega))
  · rintro rfl; exact ⟨rfl, rfl⟩
theorem check_ky (em : Bool) (a : Nat × Nat) (w : World) : (Instr.checkKey em 10000 112 (ky a)).run Try.prog w = .ok () w := by
  rw [show (10000 : Nat) = 9998 + 2 from rfl]
  exact checkA em 9998 a w

/-- The place and the value of the first entry with this key. -/
def fndI : List ((Nat × Nat) × Nat) → Nat × Nat → Nat → Option (Nat × Nat)
  | [], _, _ => none
  | e :: l, k, i => if e.1 = k then some (i, e.2) else fndI l k (i + 1)
theorem fndI_fnd (l : List ((Nat × Nat) × Nat)) (k : Nat × Nat) : ∀ i, (fndI l k i).map (·.2) = fnd l k := by
  induction l with
  | nil => intro i; rfl
  | cons e l ih => intro i; simp only [fndI, fnd]; split <;> simp [ih]

theorem run_findAsking (k : Nat × Nat) (w : World) : ∀ (es : List MapEntry) (l : List ((Nat × Nat) × Nat)) (i : Nat), es.map (fun e => (e.key, e.val)) = l.map (fun e => (ky e.1, vl e.2)) →
    (Instr.findAsking 112 (ky k) es i).run Try.prog w = .ok ((fndI l k i).map fun x => (x.1, vl x.2)) w
  | [], [], i, _ => by simp [Instr.findAsking, fndI]
  | [], _ :: _, i, h => by simp at h
  | _ :: _, [], i, h => by simp at h
  | e :: es, x :: l, i, h => by
    simp only [List.map_cons, List.cons.injEq, Prod.mk.injEq] at h
    obtain ⟨⟨h1, h2⟩, h3⟩ := h
    unfold Instr.findAsking
    rw [Sem.run_bind, h1, eq_ky]
    simp only [Result.andThen_ok, fndI]
    by_cases hx : x.1 = k
    · simp [hx, h2]
    · simp only [hx, decide_false, Bool.false_eq_true, if_false]
      exact run_findAsking k w es l (i + 1) h3
theorem run_findKey (k : Nat × Nat) (w : World) (es : List MapEntry) (l : List ((Nat × Nat) × Nat)) (h : es.map (fun e => (e.key, e.val)) = l.map (fun e => (ky e.1, vl e.2))) :
    (Instr.findKey 112 (ky k) es).run Try.prog w = .ok ((fndI l k 0).map fun x => (x.1, vl x.2)) w := by
  unfold Instr.findKey
  rw [Sem.run_bind, run_underlying Try.underlying112]
  simp only [Result.andThen_ok]
  cases es with
  | nil => cases l with
    | nil => simp [Instr.findNow, fndI]
    | cons _ _ => simp at h
  | cons e es =>
    have hn : Instr.findNow (TypeDesc.struct #[{ name := "from", type := 21, offset := 0, embedded := false, tag := "", pkgPath := "graft/sieve", byteOffset := 0 }, { name := "by", type := 5, offset := 1, embedded := false, tag := "", pkgPath := "graft/sieve", byteOffset := 4 }]) (ky k) (e :: es) 0 = none := by
      unfold Instr.findNow Instr.sameNow ky; rfl
    rw [hn]
    exact run_findAsking k w (e :: es) l 0 h

theorem zero21 (w : World) : (zeroValue 21).run Try.prog w = .ok (.int .i32 0) w := by kernel_rfl
/-- 'to, ok := m[k]' -/
theorem run_lookup {w : World} {m : Nat} {l : List ((Nat × Nat) × Nat)} (h : MapIs w m l) (k : Nat × Nat) :
    (Instr.lookup 107 (.map (some m)) (ky k) true).run Try.prog w = .ok (.tuple #[vl ((fnd l k).getD 0), .bool (fnd l k).isSome]) w := by
  obtain ⟨es, c, hb, he⟩ := h
  unfold Instr.lookup
  simp only [Sem.run_bind, run_underlying Try.underlying107, Result.andThen_ok, run_getObj_map w m es c hb, Sem.run_pure, check_ky, run_findKey k w _ l he]
  rw [← fndI_fnd l k 0]
  cases fndI l k 0 with
  | none => simp [vl]
  | some x => simp [vl]

theorem fnd_append (l l' : List ((Nat × Nat) × Nat)) (k : Nat × Nat) : fnd (l ++ l') k = (fnd l k).or (fnd l' k) := by
  induction l with
  | nil => simp [fnd]
  | cons e l ih => simp only [List.cons_append, fnd]; split <;> simp [ih]
/-- 'm[k] = v', no entry with this key there. -/
theorem run_update {w : World} {m : Nat} {l : List ((Nat × Nat) × Nat)} (h : MapIs w m l) (k : Nat × Nat) (v : Nat) (hn : fnd l k = none) :
    ∃ o, (Instr.mapUpdate 107 (.map (some m)) (ky k) (vl v)).run Try.prog w = .ok () { w with heap := w.heap.setIfInBounds m o } ∧ MapIs { w with heap := w.heap.setIfInBounds m o } m (l ++ [(k, v)]) := by
  have hlt := h.lt
  obtain ⟨es, c, hb, he⟩ := h
  refine ⟨.map (es.push { key := ky k, val := vl v, born := c }) (c + 1), ?_, _, c + 1, by simp [hlt]; rfl, ?_⟩
  · unfold Instr.mapUpdate
    simp only [Sem.run_bind, run_underlying Try.underlying107, Result.andThen_ok, run_getObj_map w m es c hb, check_ky, run_findKey k w _ l he]
    have : fndI l k 0 = none := by
      have := fndI_fnd l k 0
      rw [hn] at this
      cases hf : fndI l k 0 with
      | none => rfl
      | some x => rw [hf] at this; cases this
    rw [this]
    exact MapKept.run_setObj_map _ hb
  · simp [he]
end Go.Proofs.Ythkaicbkcaiffaa
