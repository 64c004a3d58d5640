/-
  The automaton's law in plain words: which strings the tree has, what New answers, what a link is. Conditions: none.
-/
import Derived.Test.YthkaicbkcaiffaaG
namespace Go.Proofs.Ythkaicbkcaiffaa

theorem snocInd {P : List Nat → Prop} (h0 : P []) (h1 : ∀ s b, P s → P (s ++ [b])) (s : List Nat) : P s := by
  rw [← List.reverse_reverse s]
  induction s.reverse with
  | nil => exact h0
  | cons b l ih => rw [List.reverse_cons]; exact h1 _ _ ih

/-- Where a string leads in the tree. -/
def rd (T : Tb) (s : List Nat) : Option Nat := s.foldl (fun o b => o.bind fun i => fnd T.next (i, b)) (some 0)
theorem rd_nil (T : Tb) : rd T [] = some 0 := rfl
theorem rd_snoc (T : Tb) (s : List Nat) (b : Nat) : rd T (s ++ [b]) = (rd T s).bind fun i => fnd T.next (i, b) := by simp [rd, List.foldl_append]
theorem rd_snoc_some {T : Tb} {s : List Nat} {b j : Nat} : rd T (s ++ [b]) = some j ↔ ∃ i, rd T s = some i ∧ fnd T.next (i, b) = some j := by
  rw [rd_snoc]; cases rd T s <;> simp
theorem rd_next {T T' : Tb} (h : T'.next = T.next) (s : List Nat) : rd T' s = rd T s := by unfold rd; rw [h]
theorem rd_pre {T : Tb} {s : List Nat} : ∀ t, (rd T (s ++ t)).isSome → (rd T s).isSome := by
  refine snocInd (by simp) ?_
  intro t b ih h
  rw [← List.append_assoc] at h
  obtain ⟨j, hj⟩ := Option.isSome_iff_exists.1 h
  obtain ⟨i, hi, _⟩ := rd_snoc_some.1 hj
  exact ih (by rw [hi]; rfl)

/-- What the tree's numbers tell of its strings. -/
structure Str (T : Tb) : Prop where
  pos : 0 < T.nodes.length
  root : (T.nd 0).depth = 0
  hit : ∀ i b r, fnd T.next (i, b) = some r → i < T.nodes.length ∧ r < T.nodes.length ∧ (T.nd r).depth = (T.nd i).depth + 1 ∧ (T.nd r).up = i ∧ (T.nd r).by_ = b
  up : ∀ i, i < T.nodes.length → 0 < i → (T.nd i).up < T.nodes.length ∧ (T.nd i).depth = (T.nd (T.nd i).up).depth + 1 ∧ fnd T.next ((T.nd i).up, (T.nd i).by_) = some i
theorem Good.str {T : Tb} (g : Good T) : Str T := ⟨g.pos, g.root.2, g.hit, g.up⟩
theorem Str.lt {T : Tb} (g : Str T) : ∀ (s : List Nat) (i : Nat), rd T s = some i → i < T.nodes.length ∧ (T.nd i).depth = s.length := by
  refine snocInd ?_ ?_
  · intro i h; rw [rd_nil] at h; obtain rfl : 0 = i := by simpa using h
    exact ⟨g.pos, g.root⟩
  · intro s b ih i h
    obtain ⟨j, hj, hf⟩ := rd_snoc_some.1 h
    obtain ⟨_, h2, h3, _⟩ := g.hit _ _ _ hf
    exact ⟨h2, by rw [h3, (ih j hj).2]; simp⟩
theorem Str.inj {T : Tb} (g : Str T) : ∀ (s s' : List Nat) (i : Nat), rd T s = some i → rd T s' = some i → s = s' := by
  refine snocInd ?_ ?_
  · intro s' i h h'
    have h1 := (g.lt _ _ h).2
    have h2 := (g.lt _ _ h').2
    exact (List.length_eq_zero_iff.1 (by rw [← h2, h1]; rfl)).symm
  · intro s b ih s' i h h'
    rcases List.eq_nil_or_concat s' with rfl | ⟨t, c, rfl⟩
    rotate_left
    rw [List.concat_eq_append] at h' ⊢
    rotate_left
    · have h1 := (g.lt _ _ h).2
      have h2 := (g.lt _ _ h').2
      rw [h1] at h2; simp at h2
    · obtain ⟨j, hj, hf⟩ := rd_snoc_some.1 h
      obtain ⟨j', hj', hf'⟩ := rd_snoc_some.1 h'
      obtain ⟨_, _, _, h4, h5⟩ := g.hit _ _ _ hf
      obtain ⟨_, _, _, h4', h5'⟩ := g.hit _ _ _ hf'
      obtain rfl : j = j' := by rw [← h4, ← h4']
      obtain rfl : b = c := by rw [← h5, ← h5']
      rw [ih t j hj hj']
theorem Str.str {T : Tb} (g : Str T) : ∀ (d i : Nat), i < T.nodes.length → (T.nd i).depth = d → ∃ s, rd T s = some i := by
  intro d
  induction d with
  | zero =>
    intro i hi hd
    rcases Nat.eq_zero_or_pos i with rfl | h0
    · exact ⟨[], rfl⟩
    · have := (g.up i hi h0).2.1; omega
  | succ d ih =>
    intro i hi hd
    rcases Nat.eq_zero_or_pos i with rfl | h0
    · rw [g.root] at hd; omega
    · obtain ⟨h1, h2, h3⟩ := g.up i hi h0
      obtain ⟨s, hs⟩ := ih _ h1 (by omega)
      exact ⟨s ++ [(T.nd i).by_], rd_snoc_some.2 ⟨_, hs, h3⟩⟩

theorem rd_grow {T : Tb} (g : Good T) {s0 : List Nat} {i b : Nat} (h0 : rd T s0 = some i) (hf : fnd T.next (i, b) = none) : ∀ (s : List Nat) (j : Nat), rd (T.grow i b) s = some j ↔ rd T s = some j ∨ (s = s0 ++ [b] ∧ j = T.nodes.length) := by
  refine snocInd ?_ ?_
  · intro j; simp [rd_nil]
  · intro s c ih j
    have hn : ∀ x, fnd T.next (T.nodes.length, x) = none := fun x => by
      cases hq : fnd T.next (T.nodes.length, x) with
      | none => rfl
      | some r => have := (g.hit _ _ _ hq).1; omega
    have hi := (g.str.lt _ _ h0).1
    rw [rd_snoc_some, rd_snoc_some]
    constructor
    · rintro ⟨m, hm, hj⟩
      rw [fnd_grow] at hj
      rcases (ih m).1 hm with h | ⟨rfl, rfl⟩
      · cases hq : fnd T.next (m, c) with
        | some r => rw [hq] at hj; obtain rfl : r = j := by simpa using hj
                    exact .inl ⟨m, h, hq⟩
        | none =>
          rw [hq, Option.none_or] at hj
          split at hj
          · rename_i e
            obtain ⟨rfl, rfl⟩ := Prod.mk.inj e
            obtain rfl : T.nodes.length = j := by simpa using hj
            exact .inr ⟨by rw [g.str.inj _ _ _ h h0], rfl⟩
          · cases hj
      · rw [hn, Option.none_or, if_neg (by intro e; have := (Prod.mk.inj e).1; omega)] at hj
        cases hj
    · rintro (⟨m, hm, hj⟩ | ⟨e, rfl⟩)
      · exact ⟨m, (ih m).2 (.inl hm), by rw [fnd_grow, hj]; rfl⟩
      · obtain ⟨rfl, e2⟩ := List.append_inj' e rfl
        obtain rfl : c = b := by simpa using e2
        exact ⟨i, (ih i).2 (.inl h0), by rw [fnd_grow, hf]; simp⟩

/-- What a walk down the tree adds to its strings. -/
theorem rd_addL {l : List Nat} : ∀ {T : Tb} {i : Nat} {s0 : List Nat}, Good T → rd T s0 = some i → (∀ b ∈ l, b < 256) → (T.nd i).depth + l.length ≤ 64 →
    (∀ s j, rd T s = some j → rd (T.addL i l).1 s = some j) ∧ (∀ s, (rd (T.addL i l).1 s).isSome ↔ (rd T s).isSome ∨ ∃ t, t <+: l ∧ s = s0 ++ t) ∧ rd (T.addL i l).1 (s0 ++ l) = some (T.addL i l).2 ∧
    ∀ j, j < (T.addL i l).1.nodes.length → ((T.addL i l).1.nd j).which = if j < T.nodes.length then (T.nd j).which else -1 := by
  induction l with
  | nil =>
    intro T i s0 g h0 _ _
    refine ⟨fun _ _ h => h, fun s => ⟨.inl, ?_⟩, by simpa [Tb.addL] using h0, fun j hj => by simp only [Tb.addL] at hj ⊢; rw [if_pos hj]⟩
    rintro (h | ⟨t, ht, rfl⟩)
    · exact h
    · rw [List.prefix_nil.1 ht, List.append_nil, show (T.addL i []).1 = T from rfl, h0]; rfl
  | cons b l ih =>
    intro T i s0 g h0 hb hd
    simp only [List.length_cons] at hd
    have hi := (g.str.lt _ _ h0).1
    have hpc : ∀ s : List Nat, (∃ t, t <+: b :: l ∧ s = s0 ++ t) ↔ s = s0 ∨ ∃ t, t <+: l ∧ s = s0 ++ [b] ++ t := by
      intro s
      constructor
      · rintro ⟨t, ht, rfl⟩
        rcases List.prefix_cons_iff.1 ht with rfl | ⟨t', rfl, ht'⟩
        · exact .inl (by simp)
        · exact .inr ⟨t', ht', by simp⟩
      · rintro (rfl | ⟨t, ht, rfl⟩)
        · exact ⟨[], List.nil_prefix, by simp⟩
        · exact ⟨b :: t, List.cons_prefix_cons.2 ⟨rfl, ht⟩, by simp⟩
    cases hf : fnd T.next (i, b) with
    | some r =>
      rw [Tb.addL_hit hf]
      have hr : rd T (s0 ++ [b]) = some r := rd_snoc_some.2 ⟨i, h0, hf⟩
      obtain ⟨p1, p2, p3, p4⟩ := ih g hr (fun x hx => hb x (List.mem_cons_of_mem _ hx)) (by have := (g.hit _ _ _ hf).2.2.1; omega)
      refine ⟨p1, fun s => ?_, by simpa using p3, p4⟩
      rw [p2, hpc]
      constructor
      · rintro (h | h)
        · exact .inl h
        · exact .inr (.inr h)
      · rintro (h | rfl | h)
        · exact .inl h
        · exact .inl (by rw [h0]; rfl)
        · exact .inr h
    | none =>
      rw [Tb.addL_new hf]
      have hgr := rd_grow g h0 hf
      have hr : rd (T.grow i b) (s0 ++ [b]) = some T.nodes.length := (hgr _ _).2 (.inr ⟨rfl, rfl⟩)
      have hlen : (T.grow i b).nodes.length = T.nodes.length + 1 := by simp [Tb.grow]
      obtain ⟨p1, p2, p3, p4⟩ := ih (g.grow hi hf (hb b List.mem_cons_self) (by omega)) hr (fun x hx => hb x (List.mem_cons_of_mem _ hx)) (by rw [Tb.nd_grow_new]; simp; omega)
      refine ⟨fun s j h => p1 s j ((hgr s j).2 (.inl h)), fun s => ?_, by simpa using p3, fun j hj => ?_⟩
      · rw [p2, hpc]
        constructor
        · rintro (h | h)
          · obtain ⟨j, hj⟩ := Option.isSome_iff_exists.1 h
            rcases (hgr s j).1 hj with h | ⟨rfl, _⟩
            · exact .inl (by rw [h]; rfl)
            · exact .inr (.inr ⟨[], List.nil_prefix, by simp⟩)
          · exact .inr (.inr h)
        · rintro (h | rfl | h)
          · obtain ⟨j, hj⟩ := Option.isSome_iff_exists.1 h
            exact .inl (by rw [(hgr s j).2 (.inl hj)]; rfl)
          · exact .inl (by rw [(hgr s i).2 (.inl h0)]; rfl)
          · exact .inr h
      · rw [p4 j hj, hlen]
        by_cases e : j < T.nodes.length
        · rw [if_pos (by omega), if_pos e, Tb.nd_grow _ e]
        · by_cases e2 : j < T.nodes.length + 1
          · obtain rfl : j = T.nodes.length := by omega
            rw [if_pos e2, if_neg e, Tb.nd_grow_new]
          · rw [if_neg e2, if_neg e]

/-- The tree of these patterns. -/
structure Tr (T : Tb) (P : List (List Nat)) : Prop where
  mem : ∀ s, (rd T s).isSome ↔ s = [] ∨ ∃ p, p ∈ P ∧ s <+: p
  wh : ∀ s i, rd T s = some i → ∀ k : Nat, (T.nd i).which = (k : Int) ↔ P[k]? = some s
theorem Tr.tb0 : Tr Tb0 [] := by
  refine ⟨snocInd (by simp [rd_nil]) ?_, snocInd ?_ ?_⟩
  · intro s b _
    rw [rd_snoc]; cases rd Tb0 s <;> simp [Tb0, fnd]
  · intro i h k
    rw [rd_nil] at h; obtain rfl : 0 = i := by simpa using h
    simp [Tb0, Tb.nd, nd0]
  · intro s b _ i h
    rw [rd_snoc] at h; cases hq : rd Tb0 s <;> rw [hq] at h <;> simp [Tb0, fnd] at h
/-- A pattern that may be added. -/
def PatOk (p : List Nat) : Prop := 1 ≤ p.length ∧ p.length ≤ 64 ∧ ∀ b ∈ p, b < 256
theorem Tr.out {T R : Tb} {P : List (List Nat)} {p : List Nat} {ok : Bool} (g : Good T) (t : Tr T P) (hp : PatOk p) (hk : P.length < 4096) (h : T.out p P.length = (R, ok)) :
    if ok then p ∉ P ∧ Good R ∧ Tr R (P ++ [p]) else p ∈ P := by
  obtain ⟨h1, h64, hb⟩ := hp
  have g2 := g.out hb h1 h64 hk h
  obtain ⟨q1, q2, q3, q4, q5⟩ := g.addL g.pos hb (by rw [g.root.2]; omega)
  obtain ⟨p1, p2, p3, p4⟩ := rd_addL (T := T) (i := 0) (s0 := []) g rfl hb (by rw [g.root.2]; omega)
  simp only [List.nil_append] at p2 p3
  have hin : ∀ k : Nat, ((T.addL 0 p).1.nd (T.addL 0 p).2).which = (k : Int) ↔ P[k]? = some p := by
    intro k
    rw [p4 _ q2]
    by_cases e : (T.addL 0 p).2 < T.nodes.length
    · rw [if_pos e]
      obtain ⟨s, hs⟩ := g.str.str _ _ e rfl
      obtain rfl : s = p := q1.str.inj _ _ _ (p1 _ _ hs) p3
      exact t.wh s _ hs k
    · rw [if_neg e]
      refine ⟨fun h => by omega, fun h => ?_⟩
      have : (rd T p).isSome := (t.mem p).2 (.inr ⟨p, List.mem_of_getElem? h, List.prefix_rfl⟩)
      obtain ⟨j, hj⟩ := Option.isSome_iff_exists.1 this
      have h2 := p1 _ _ hj
      rw [p3] at h2
      obtain rfl : (T.addL 0 p).2 = j := by simpa using h2
      exact absurd (g.str.lt _ _ hj).1 e
  unfold Tb.out at h
  split at h
  · rename_i e
    cases h
    obtain ⟨k, hk⟩ := Int.eq_ofNat_of_zero_le e
    simp only [Bool.false_eq_true, if_false]
    exact List.mem_of_getElem? ((hin k).1 hk)
  · rename_i e
    cases h
    simp only [if_true]
    have hnot : p ∉ P := fun hm => by
      obtain ⟨k, hk⟩ := List.mem_iff_getElem?.1 hm
      have := (hin k).2 hk
      omega
    refine ⟨hnot, g2.1, fun s => ?_, fun s i hs k => ?_⟩
    · rw [rd_next (show ((T.addL 0 p).1.mark (T.addL 0 p).2 (P.length : Int)).next = (T.addL 0 p).1.next from rfl), p2, t.mem]
      constructor
      · rintro ((h | ⟨x, hx, hp⟩) | ⟨x, hx, rfl⟩)
        · exact .inl h
        · exact .inr ⟨x, by simp [hx], hp⟩
        · exact .inr ⟨p, by simp, hx⟩
      · rintro (h | ⟨x, hx, hp⟩)
        · exact .inl (.inl h)
        · rcases List.mem_append.1 hx with hx | hx
          · exact .inl (.inr ⟨x, hx, hp⟩)
          · obtain rfl : x = p := by simpa using hx
            exact .inr ⟨s, hp, rfl⟩
    · rw [rd_next (show ((T.addL 0 p).1.mark (T.addL 0 p).2 (P.length : Int)).next = (T.addL 0 p).1.next from rfl)] at hs
      rw [Tb.nd_mark _ q2]
      by_cases e2 : (T.addL 0 p).2 = i
      · rw [if_pos e2]
        subst e2
        obtain rfl : s = p := q1.str.inj _ _ _ hs p3
        constructor
        · intro h
          obtain rfl : P.length = k := by have h2 : ((P.length : Nat) : Int) = (k : Int) := h; omega
          simp
        · intro h
          rcases Nat.lt_or_ge k P.length with hl | hl
          · rw [List.getElem?_append_left hl] at h
            exact absurd (List.mem_of_getElem? h) hnot
          · have : k < (P ++ [s]).length := (List.getElem?_eq_some_iff.1 h).1
            obtain rfl : k = P.length := by simp at this; omega
            rfl
      · rw [if_neg e2]
        have hi := q1.str.lt _ _ hs
        have hsp : s ≠ p := by rintro rfl; rw [p3] at hs; exact e2 (by simpa using hs)
        have hP : (P ++ [p])[k]? = some s ↔ P[k]? = some s := by
          rcases Nat.lt_or_ge k P.length with hl | hl
          · rw [List.getElem?_append_left hl]
          · rw [List.getElem?_eq_none hl]
            refine ⟨fun h => ?_, fun h => by cases h⟩
            rw [List.getElem?_append_right hl] at h
            have := List.mem_of_getElem? h
            exact absurd (by simpa using this) hsp
        rw [hP, p4 i hi.1]
        by_cases e3 : i < T.nodes.length
        · rw [if_pos e3]
          obtain ⟨s', hs'⟩ := g.str.str _ _ e3 rfl
          obtain rfl : s' = s := q1.str.inj _ _ _ (p1 _ _ hs') hs
          exact t.wh s' i hs' k
        · rw [if_neg e3]
          refine ⟨fun h => by omega, fun h => ?_⟩
          have : (rd T s).isSome := (t.mem s).2 (.inr ⟨s, List.mem_of_getElem? h, List.prefix_rfl⟩)
          obtain ⟨j, hj⟩ := Option.isSome_iff_exists.1 this
          have h2 := p1 _ _ hj
          rw [hs] at h2
          obtain rfl : i = j := by simpa using h2
          exact absurd (g.str.lt _ _ hj).1 e3

/-- What adding all patterns answers. -/
theorem addAll_tr : ∀ (Q : List (List Nat)) (T : Tb) (P : List (List Nat)), Good T → Tr T P → P.Nodup → (∀ p ∈ Q, PatOk p) → P.length + Q.length ≤ 4096 →
    match addAll T P.length Q with | some R => Good R ∧ Tr R (P ++ Q) ∧ (P ++ Q).Nodup | none => ¬ (P ++ Q).Nodup := by
  intro Q
  induction Q with
  | nil => intro T P g t hn _ _; simp only [addAll, List.append_nil]; exact ⟨g, t, hn⟩
  | cons p Q ih =>
    intro T P g t hn hq hl
    simp only [List.length_cons] at hl
    rcases ho : T.out p P.length with ⟨R, ok⟩
    have h := Tr.out g t (hq p List.mem_cons_self) (by omega) ho
    simp only [addAll, ho]
    cases ok with
    | true =>
      simp only [if_true] at h
      obtain ⟨h1, h2, h3⟩ := h
      have := ih R (P ++ [p]) h2 h3 (List.nodup_append.2 ⟨hn, by simp, fun a ha b hb => by simp at hb; subst hb; rintro rfl; exact h1 ha⟩) (fun x hx => hq x (List.mem_cons_of_mem _ hx)) (by simp; omega)
      simpa using this
    | false =>
      simp only [Bool.false_eq_true, if_false] at h
      intro hd
      have := (List.nodup_append.1 hd).2.2 p h p List.mem_cons_self
      exact this rfl
end Go.Proofs.Ythkaicbkcaiffaa
