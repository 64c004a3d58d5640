/-
  The tree while it grows: what stays true of it. Conditions: none.
-/
import Derived.Test.YthkaicbkcaiffaaK
namespace Go.Proofs.Ythkaicbkcaiffaa
open Go.RowKit

structure Good (T : Tb) : Prop where
  pos : 0 < T.nodes.length
  hit : ∀ i b r, fnd T.next (i, b) = some r → i < T.nodes.length ∧ r < T.nodes.length ∧ (T.nd r).depth = (T.nd i).depth + 1 ∧ (T.nd r).up = i ∧ (T.nd r).by_ = b
  up : ∀ i, i < T.nodes.length → 0 < i → (T.nd i).up < T.nodes.length ∧ (T.nd i).depth = (T.nd (T.nd i).up).depth + 1 ∧ fnd T.next ((T.nd i).up, (T.nd i).by_) = some i
  by_ : ∀ i, i < T.nodes.length → (T.nd i).by_ < 256
  fail : ∀ i, i < T.nodes.length → (T.nd i).fail = 0
  root : (T.nd 0).which = -1 ∧ (T.nd 0).depth = 0
  depth : ∀ i, i < T.nodes.length → (T.nd i).depth ≤ 64
  wh : ∀ i, i < T.nodes.length → -1 ≤ (T.nd i).which ∧ (T.nd i).which < 4096

theorem Good.tb0 : Good Tb0 := by
  refine ⟨by decide, fun i b r h => by simp [Tb0, fnd] at h, fun i h h0 => ?_, fun i h => ?_, fun i h => ?_, ⟨rfl, rfl⟩, fun i h => ?_, fun i h => ?_⟩
  all_goals (simp [Tb0] at h; try subst h)
  · omega
  all_goals decide
theorem Good.wf {T : Tb} (g : Good T) (hm : T.nodes.length ≤ 262145) : WF T :=
  ⟨g.pos, hm, fun k v h => (g.hit k.1 k.2 v h).2.1, fun i hi h0 => by
    rw [g.fail i hi]; exact ⟨g.pos, by have := (g.up i hi h0).2.1; have := g.root.2; omega⟩, g.depth, g.root⟩
theorem Good.tree {T : Tb} (g : Good T) : Tree T :=
  ⟨fun i hi h0 => ⟨(g.up i hi h0).1, (g.up i hi h0).2.1⟩, g.by_, fun i b r h => ⟨(g.hit i b r h).1, (g.hit i b r h).2.1, (g.hit i b r h).2.2.1⟩⟩
theorem Good.fits {T : Tb} {m : Nat} (g : Good T) (hm : T.nodes.length + m ≤ 262145) (h64 : m ≤ 64) : Fits T 0 m :=
  ⟨g.pos, hm, g.tree.hit, by rw [g.root.2]; omega⟩
theorem fnd_grow {T : Tb} {i b : Nat} (k : Nat × Nat) : fnd (T.grow i b).next k = (fnd T.next k).or (if k = (i, b) then some T.nodes.length else none) := by
  simp only [Tb.grow, fnd_append, fnd]
  congr 1
  by_cases e : k = (i, b)
  · subst e; simp
  · simp [e, Ne.symm e]
theorem Good.grow {T : Tb} {i b : Nat} (g : Good T) (hi : i < T.nodes.length) (hf : fnd T.next (i, b) = none) (hb : b < 256) (hd : (T.nd i).depth + 1 ≤ 64) : Good (T.grow i b) := by
  have hlen : (T.grow i b).nodes.length = T.nodes.length + 1 := by simp [Tb.grow]
  have split : ∀ k, k < T.nodes.length + 1 → k < T.nodes.length ∨ k = T.nodes.length := fun k hk => by omega
  have nn : (T.grow i b).nd T.nodes.length = ⟨(T.nd i).depth + 1, 0, -1, i, b⟩ := Tb.nd_grow_new
  refine ⟨by omega, fun j c r h => ?_, fun j hj h0 => ?_, fun j hj => ?_, fun j hj => ?_, by rw [Tb.nd_grow _ g.pos]; exact g.root, fun j hj => ?_, fun j hj => ?_⟩
  · rw [hlen]
    rw [fnd_grow] at h
    cases hq : fnd T.next (j, c) with
    | some r' =>
      rw [hq] at h
      obtain rfl : r' = r := by simpa using h
      obtain ⟨a1, a2, a3, a4, a5⟩ := g.hit _ _ _ hq
      rw [Tb.nd_grow _ a1, Tb.nd_grow _ a2]
      exact ⟨by omega, by omega, a3, a4, a5⟩
    | none =>
      rw [hq, Option.none_or] at h
      split at h
      · rename_i e
        obtain ⟨rfl, rfl⟩ := Prod.mk.inj e
        obtain rfl : T.nodes.length = r := by simpa using h
        rw [nn, Tb.nd_grow _ hi]
        exact ⟨by omega, by omega, rfl, rfl, rfl⟩
      · cases h
  · rw [hlen] at hj ⊢
    rcases split j hj with h | rfl
    · obtain ⟨a1, a2, a3⟩ := g.up j h h0
      rw [Tb.nd_grow _ h, Tb.nd_grow _ a1, fnd_grow, a3]
      exact ⟨by omega, a2, by simp⟩
    · rw [nn, Tb.nd_grow _ hi, fnd_grow]
      simp only [hf]
      exact ⟨by omega, trivial, by simp⟩
  all_goals
    rw [hlen] at hj
    rcases split j hj with h | rfl
  · rw [Tb.nd_grow _ h]; exact g.by_ j h
  · rw [nn]; exact hb
  · rw [Tb.nd_grow _ h]; exact g.fail j h
  · rw [nn]
  · rw [Tb.nd_grow _ h]; exact g.depth j h
  · rw [nn]; exact hd
  · rw [Tb.nd_grow _ h]; exact g.wh j h
  · rw [nn]; exact ⟨Int.le_refl _, by show (-1 : Int) < 4096; decide⟩
theorem Tb.nd_mark {T : Tb} {i : Nat} {k : Int} (j : Nat) (hi : i < T.nodes.length) : (T.mark i k).nd j = if i = j then { T.nd i with which := k } else T.nd j := by
  unfold Tb.mark Tb.nd
  by_cases e : i = j
  · subst e; simp [List.getD, hi]
  · simp [List.getD, e]
theorem Good.mark {T : Tb} {i : Nat} {k : Int} (g : Good T) (hi : i < T.nodes.length) (h0 : 0 < i) (hk : -1 ≤ k ∧ k < 4096) : Good (T.mark i k) := by
  have hlen : (T.mark i k).nodes.length = T.nodes.length := by simp [Tb.mark]
  have hd : ∀ j, ((T.mark i k).nd j).depth = (T.nd j).depth := by intro j; rw [Tb.nd_mark _ hi]; split <;> simp_all
  have hu : ∀ j, ((T.mark i k).nd j).up = (T.nd j).up := by intro j; rw [Tb.nd_mark _ hi]; split <;> simp_all
  have hb : ∀ j, ((T.mark i k).nd j).by_ = (T.nd j).by_ := by intro j; rw [Tb.nd_mark _ hi]; split <;> simp_all
  have hf : ∀ j, ((T.mark i k).nd j).fail = (T.nd j).fail := by intro j; rw [Tb.nd_mark _ hi]; split <;> simp_all
  refine ⟨by rw [hlen]; exact g.pos, fun j c r h => ?_, fun j hj h0 => ?_, fun j hj => ?_, fun j hj => ?_, ?_, fun j hj => ?_, fun j hj => ?_⟩
  · rw [hlen, hd, hd, hu, hb]; exact g.hit j c r h
  · rw [hlen] at hj ⊢; rw [hu, hd, hd, hb]; exact g.up j hj h0
  · rw [hlen] at hj; rw [hb]; exact g.by_ j hj
  · rw [hlen] at hj; rw [hf]; exact g.fail j hj
  · rw [hd]; refine ⟨?_, g.root.2⟩; rw [Tb.nd_mark _ hi, if_neg (by omega)]; exact g.root.1
  · rw [hlen] at hj; rw [hd]; exact g.depth j hj
  · rw [hlen] at hj; rw [Tb.nd_mark _ hi]; split
    · exact hk
    · exact g.wh j hj

/-- What a walk down the tree adds. -/
theorem Good.addL {l : List Nat} : ∀ {T : Tb} {i : Nat}, Good T → i < T.nodes.length → (∀ b ∈ l, b < 256) → (T.nd i).depth + l.length ≤ 64 →
    Good (T.addL i l).1 ∧ (T.addL i l).2 < (T.addL i l).1.nodes.length ∧ ((T.addL i l).1.nd (T.addL i l).2).depth = (T.nd i).depth + l.length ∧ T.nodes.length ≤ (T.addL i l).1.nodes.length ∧ (T.addL i l).1.nodes.length ≤ T.nodes.length + l.length := by
  induction l with
  | nil => intro T i g hi _ _; exact ⟨g, hi, rfl, Nat.le_refl _, Nat.le_refl _⟩
  | cons b l ih =>
    intro T i g hi hb hd
    simp only [List.length_cons] at hd ⊢
    cases hf : fnd T.next (i, b) with
    | some r =>
      rw [Tb.addL_hit hf]
      obtain ⟨_, a2, a3, _⟩ := g.hit _ _ _ hf
      obtain ⟨p1, p2, p3, p4, p5⟩ := ih g a2 (fun x hx => hb x (List.mem_cons_of_mem _ hx)) (by omega)
      exact ⟨p1, p2, by omega, p4, by omega⟩
    | none =>
      rw [Tb.addL_new hf]
      have hlen : (T.grow i b).nodes.length = T.nodes.length + 1 := by simp [Tb.grow]
      have nn : ((T.grow i b).nd T.nodes.length).depth = (T.nd i).depth + 1 := by rw [Tb.nd_grow_new]
      obtain ⟨p1, p2, p3, p4, p5⟩ := ih (g.grow hi hf (hb b List.mem_cons_self) (by omega)) (i := T.nodes.length) (by omega) (fun x hx => hb x (List.mem_cons_of_mem _ hx)) (by omega)
      exact ⟨p1, p2, by omega, by omega, by omega⟩
theorem Good.out {T R : Tb} {l : List Nat} {k : Nat} {ok : Bool} (g : Good T) (hb : ∀ b ∈ l, b < 256) (h1 : 1 ≤ l.length) (h64 : l.length ≤ 64) (hk : k < 4096) (h : T.out l k = (R, ok)) : Good R ∧ R.nodes.length ≤ T.nodes.length + l.length := by
  obtain ⟨p1, p2, p3, p4, p5⟩ := g.addL g.pos hb (by rw [g.root.2]; omega)
  unfold Tb.out at h
  split at h
  · cases h; exact ⟨p1, p5⟩
  · cases h
    refine ⟨p1.mark p2 ?_ (by omega), by simpa [Tb.mark] using p5⟩
    rcases Nat.eq_zero_or_pos (T.addL 0 l).2 with e | e
    · rw [e, p1.root.2, g.root.2] at p3; omega
    · exact e

/-- All patterns, one behind the other; none: one is there already. -/
def addAll (T : Tb) (k : Nat) : List (List Nat) → Option Tb
  | [] => some T
  | p :: ps => match T.out p k with
    | (R, true) => addAll R (k + 1) ps
    | (_, false) => none
/-- The bytes of a string. -/
def bts (s : ByteArray) : List Nat := s.data.toList.map (·.toNat)
theorem bts_len (s : ByteArray) : (bts s).length = s.size := by simp [bts]
theorem bts_lt (s : ByteArray) : ∀ b ∈ bts s, b < 256 := by
  intro b h; simp only [bts, List.mem_map] at h; obtain ⟨x, _, rfl⟩ := h; exact x.toNat_lt
end Go.Proofs.Ythkaicbkcaiffaa
