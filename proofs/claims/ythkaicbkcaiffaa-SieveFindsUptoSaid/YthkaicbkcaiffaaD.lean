/-
  The automaton's links in plain words: fail is the longest proper end that the tree has; a step keeps the longest end. Conditions: none.
-/
import Derived.Test.YthkaicbkcaiffaaC
namespace Go.Proofs.Ythkaicbkcaiffaa

/-- Node i's link is right. -/
def FailR (T : Tb) (i : Nat) : Prop := ∀ s, rd T s = some i → ∃ t, rd T t = some (T.nd i).fail ∧ t <:+ s ∧ t.length < s.length ∧ ∀ t', t' <:+ s → t'.length < s.length → (rd T t').isSome → t'.length ≤ t.length
/-- Node i is the longest end of D that the tree has. -/
def Best (T : Tb) (D : List Nat) (i : Nat) : Prop := ∃ s, rd T s = some i ∧ s <:+ D ∧ ∀ s', s' <:+ D → (rd T s').isSome → s'.length ≤ s.length

theorem snoc_suffix {s D : List Nat} (b : Nat) (h : s <:+ D) : s ++ [b] <:+ D ++ [b] := by
  obtain ⟨x, rfl⟩ := h; exact ⟨x, by simp⟩
theorem step_best {T : Tb} (g : Str T) {d b i r : Nat} (hf : ∀ j, j < T.nodes.length → 0 < j → (T.nd j).depth ≤ d → FailR T j) (h : Step T b i r) : ∀ s, rd T s = some i → s.length ≤ d → Best T (s ++ [b]) r := by
  induction h with
  | hit h =>
    intro s hs _
    exact ⟨s ++ [b], rd_snoc_some.2 ⟨_, hs, h⟩, List.suffix_rfl, fun s' h _ => h.length_le⟩
  | root h =>
    intro s hs _
    obtain rfl : s = [] := g.inj _ _ _ hs rfl
    refine ⟨[], rfl, List.nil_suffix, fun s' h' hs' => ?_⟩
    rcases List.suffix_concat_iff.1 h' with rfl | ⟨t, rfl, ht⟩
    · simp
    · rw [List.suffix_nil.1 ht, rd_snoc, rd_nil] at hs'
      simp [h] at hs'
  | @back i r h h0 hst ih =>
    intro s hs hd
    obtain ⟨hi, hdi⟩ := g.lt _ _ hs
    obtain ⟨t, t1, t2, t3, t4⟩ := hf i hi (by omega) (by omega) s hs
    obtain ⟨u, u1, u2, u3⟩ := ih t t1 (by omega)
    refine ⟨u, u1, u2.trans (snoc_suffix b t2), fun s' h' hs' => ?_⟩
    rcases List.suffix_concat_iff.1 h' with rfl | ⟨x, rfl, hx⟩
    · simp
    · have hxs := rd_pre _ hs'
      have hlt : x.length < s.length := by
        have := hx.length_le
        rcases Nat.lt_or_ge x.length s.length with q | q
        · exact q
        · obtain rfl := hx.eq_of_length_le q
          rw [rd_snoc, hs] at hs'
          simp [h] at hs'
      have hle := t4 x hx hlt hxs
      exact u3 _ (snoc_suffix b (List.suffix_of_suffix_length_le hx t2 hle)) hs'
theorem best_ext {T : Tb} {s D : List Nat} {b r : Nat} (h : Best T (s ++ [b]) r) (hs : s <:+ D) (hm : ∀ s', s' <:+ D → (rd T s').isSome → s'.length ≤ s.length) : Best T (D ++ [b]) r := by
  obtain ⟨u, u1, u2, u3⟩ := h
  refine ⟨u, u1, u2.trans (snoc_suffix b hs), fun s' h' hs' => ?_⟩
  rcases List.suffix_concat_iff.1 h' with rfl | ⟨x, rfl, hx⟩
  · simp
  · exact u3 _ (snoc_suffix b (List.suffix_of_suffix_length_le hx hs (hm x hx (rd_pre _ hs')))) hs'
theorem best_step {T : Tb} (g : Str T) {D : List Nat} {b i r : Nat} (hf : ∀ j, j < T.nodes.length → 0 < j → FailR T j) (h : Best T D i) (hst : Step T b i r) : Best T (D ++ [b]) r := by
  obtain ⟨s, s1, s2, s3⟩ := h
  exact best_ext (step_best g (d := s.length) (fun j hj h0 _ => hf j hj h0) hst s s1 (Nat.le_refl _)) s2 s3
theorem best_nil {T : Tb} : Best T [] 0 := ⟨[], rfl, List.nil_suffix, fun s' h _ => by rw [List.suffix_nil.1 h]; exact Nat.le_refl _⟩

theorem getD_grown (L : List (List Nat)) (m e : Nat) : (L ++ List.replicate m []).getD e [] = L.getD e [] := by
  simp only [List.getD]
  rcases Nat.lt_or_ge e L.length with h | h
  · rw [List.getElem?_append_left h]
  · rw [List.getElem?_append_right h, List.getElem?_eq_none h, List.getElem?_replicate]; split <;> rfl
/-- Which nodes stand on which level. -/
theorem mem_levs {T : Tb} (n d j : Nat) : j ∈ (levs T n).getD d [] ↔ 0 < j ∧ j < n ∧ (T.nd j).depth = d := by
  induction n generalizing d with
  | zero => simp [levs]
  | succ k ih =>
    unfold levs
    split
    · rename_i e; subst e
      refine ⟨fun h => by simp at h, fun h => by omega⟩
    · rename_i e
      simp only
      by_cases e2 : (T.nd k).depth = d
      · rw [e2, getD_set_eq _ _ _ _ (by simp; omega), getD_grown, List.mem_append, ih]
        simp only [List.mem_singleton]
        constructor
        · rintro (h | rfl)
          · omega
          · exact ⟨by omega, by omega, e2⟩
        · rintro ⟨h1, h2, h3⟩
          by_cases e3 : j = k
          · exact .inr e3
          · exact .inl ⟨h1, by omega, h3⟩
      · rw [getD_set_ne' _ _ _ _ _ e2, getD_grown, ih]
        constructor
        · rintro ⟨h1, h2, h3⟩; exact ⟨h1, by omega, h3⟩
        · rintro ⟨h1, h2, h3⟩
          refine ⟨h1, ?_, h3⟩
          rcases Nat.lt_or_ge j k with q | q
          · exact q
          · obtain rfl : j = k := by omega
            exact absurd h3 e2

/-- Shallow nodes stand ahead. -/
def Sorted (T : Tb) (l : List Nat) : Prop := ∀ l1 i l2, l = l1 ++ i :: l2 → 0 < i ∧ i < T.nodes.length ∧ ∀ j, 0 < j → j < T.nodes.length → (T.nd j).depth < (T.nd i).depth → j ∈ l1
theorem getD_mid {A : List (List Nat)} {x : List Nat} {B : List (List Nat)} : (A ++ x :: B).getD A.length [] = x := by simp [List.getD]
theorem getD_left {A B : List (List Nat)} {e : Nat} (h : e < A.length) : (A ++ B).getD e [] = A.getD e [] := by simp only [List.getD]; rw [List.getElem?_append_left h]
theorem levs_sorted (T : Tb) : Sorted T (levs T T.nodes.length).flatten := by
  intro l1 i l2 h
  have key : ∃ A x y B, levs T T.nodes.length = A ++ (x ++ i :: y) :: B ∧ l1 = A.flatten ++ x := by
    rcases List.flatten_eq_append_iff.1 h with ⟨q1, q2, h1, h2, h3⟩ | ⟨q1, q2, c, q3, q4, h1, h2, h3⟩
    · obtain ⟨p1, p2, p3, h4, h5, h6⟩ := List.flatten_eq_cons_iff.1 h3.symm
      refine ⟨q1 ++ p1, [], p2, p3, by rw [h1, h4]; simp, ?_⟩
      rw [h2, List.flatten_append, List.append_nil, show p1.flatten = [] from List.flatten_eq_nil_iff.2 h5, List.append_nil]
    · obtain ⟨rfl, _⟩ := List.cons.inj h3
      exact ⟨q1, q2, q3, q4, h1, h2⟩
  obtain ⟨A, x, y, B, e1, rfl⟩ := key
  have hi : i ∈ (levs T T.nodes.length).getD A.length [] := by rw [e1, getD_mid]; simp
  obtain ⟨h1, h2, h3⟩ := (mem_levs _ _ _).1 hi
  refine ⟨h1, h2, fun j hj0 hj hd => ?_⟩
  have hm := (mem_levs (T := T) T.nodes.length (T.nd j).depth j).2 ⟨hj0, hj, rfl⟩
  rw [e1, getD_left (by omega)] at hm
  refine List.mem_append_left _ (List.mem_flatten.2 ⟨_, ?_, hm⟩)
  simp only [List.getD]
  rw [List.getElem?_eq_getElem (by omega)]
  exact List.getElem_mem _
theorem levs_all {T : Tb} {i : Nat} (h0 : 0 < i) (hi : i < T.nodes.length) : i ∈ (levs T T.nodes.length).flatten := by
  have hm := (mem_levs (T := T) T.nodes.length (T.nd i).depth i).2 ⟨h0, hi, rfl⟩
  refine List.mem_flatten.2 ⟨_, ?_, hm⟩
  simp only [List.getD] at hm ⊢
  cases hq : (levs T T.nodes.length)[(T.nd i).depth]? with
  | none => rw [hq] at hm; simp at hm
  | some x => exact List.mem_of_getElem? hq

/-- Nothing but links has turned. -/
structure SameBut (T T' : Tb) : Prop where
  next : T'.next = T.next
  len : T'.nodes.length = T.nodes.length
  depth : ∀ k, (T'.nd k).depth = (T.nd k).depth
  up : ∀ k, (T'.nd k).up = (T.nd k).up
  by_ : ∀ k, (T'.nd k).by_ = (T.nd k).by_
  which : ∀ k, (T'.nd k).which = (T.nd k).which
theorem SameBut.refl (T : Tb) : SameBut T T := ⟨rfl, rfl, fun _ => rfl, fun _ => rfl, fun _ => rfl, fun _ => rfl⟩
theorem SameBut.set {T T' : Tb} (h : SameBut T T') {i r : Nat} (hi : i < T.nodes.length) : SameBut T (T'.setFail i r) := by
  have hi' : i < T'.nodes.length := by rw [h.len]; exact hi
  refine ⟨h.next, by simp [Tb.setFail, h.len], fun k => ?_, fun k => ?_, fun k => ?_, fun k => ?_⟩ <;> rw [Tb.nd_setFail hi'] <;> split
  all_goals (try rename_i e; subst e)
  all_goals first | exact h.depth _ | exact h.up _ | exact h.by_ _ | exact h.which _
theorem SameBut.str {T T' : Tb} (h : SameBut T T') (g : Str T) : Str T' := by
  refine ⟨by rw [h.len]; exact g.pos, by rw [h.depth]; exact g.root, fun i b r hq => ?_, fun i hi h0 => ?_⟩
  · rw [h.next] at hq; rw [h.len, h.depth, h.depth, h.up, h.by_]; exact g.hit i b r hq
  · rw [h.len] at hi ⊢; rw [h.up, h.depth, h.depth, h.by_, h.next]; exact g.up i hi h0
theorem failR_one {T : Tb} (g : Str T) {i : Nat} (h0 : 0 < i) (hf : (T.nd i).fail = 0) (hd : (T.nd i).depth ≤ 1) : FailR T i := by
  intro s hs
  have hl := (g.lt _ _ hs).2
  have hs0 : 0 < s.length := by
    rcases Nat.eq_zero_or_pos s.length with e | e
    · rw [List.length_eq_zero_iff.1 e, rd_nil] at hs
      obtain rfl : 0 = i := by simpa using hs
      omega
    · exact e
  exact ⟨[], by rw [hf]; rfl, List.nil_suffix, hs0, fun t' _ h _ => by show t'.length ≤ 0; omega⟩
theorem failR_set {T : Tb} {i r j : Nat} (hi : i < T.nodes.length) (h : FailR T j) (hij : i ≠ j) : FailR (T.setFail i r) j := by
  intro s hs
  rw [rd_next (show (T.setFail i r).next = T.next from rfl)] at hs
  rw [Tb.nd_setFail hi, if_neg hij]
  obtain ⟨t, h1, h2, h3, h4⟩ := h s hs
  exact ⟨t, by rw [rd_next (show (T.setFail i r).next = T.next from rfl)]; exact h1, h2, h3, fun t' a b c => h4 t' a b (by rwa [rd_next (show (T.setFail i r).next = T.next from rfl)] at c)⟩
/-- All links are right behind the linking. -/
theorem lk_right {T : Tb} (g : Str T) (h0 : ∀ i, i < T.nodes.length → (T.nd i).fail = 0) {l : List Nat} {T' : Tb} (h : Lk T l T') : Sorted T l →
    SameBut T T' ∧ (∀ i, i ∈ l → FailR T' i) ∧ (∀ i, 0 < i → i < T.nodes.length → (T.nd i).depth ≤ 1 → FailR T' i ∧ (T'.nd i).fail = 0) := by
  induction h with
  | nil =>
    intro _
    exact ⟨.refl T, fun i hi => by simp at hi, fun i hi0 hi hd => ⟨failR_one g hi0 (h0 i hi) hd, h0 i hi⟩⟩
  | @skip l T' i hl hd ih =>
    intro hs
    obtain ⟨a1, a2, a3⟩ := ih (fun l1 i' l2 e => hs l1 i' (l2 ++ [i]) (by rw [e]; simp))
    obtain ⟨b1, b2, b3⟩ := hs l i [] rfl
    refine ⟨a1, fun j hj => ?_, a3⟩
    rcases List.mem_append.1 hj with hj | hj
    · exact a2 j hj
    · obtain rfl : j = i := by simpa using hj
      exact (a3 j b1 b2 (by rw [← a1.depth]; exact hd)).1
  | @set l T' i r hl hd hst ih =>
    intro hs
    obtain ⟨a1, a2, a3⟩ := ih (fun l1 i' l2 e => hs l1 i' (l2 ++ [i]) (by rw [e]; simp))
    obtain ⟨b1, b2, b3⟩ := hs l i [] rfl
    have g' := a1.str g
    have hi' : i < T'.nodes.length := by rw [a1.len]; exact b2
    have hlow : ∀ j, j < T'.nodes.length → 0 < j → (T'.nd j).depth < (T'.nd i).depth → FailR T' j := fun j hj hj0 hjd => a2 j (b3 j hj0 (by rw [← a1.len]; exact hj) (by rw [← a1.depth, ← a1.depth]; exact hjd))
    obtain ⟨u1, u2, u3⟩ := g'.up i hi' b1
    have hu0 : 0 < (T'.nd i).up := by
      rcases Nat.eq_zero_or_pos (T'.nd i).up with e | e
      · rw [e, g'.root] at u2; omega
      · exact e
    have hown : FailR (T'.setFail i r) i := by
      intro s hs'
      rw [rd_next (show (T'.setFail i r).next = T'.next from rfl)] at hs'
      rw [Tb.nd_setFail hi', if_pos rfl]
      obtain ⟨x, hx⟩ := g'.str _ _ u1 rfl
      obtain rfl : s = x ++ [(T'.nd i).by_] := g'.inj _ _ _ hs' (rd_snoc_some.2 ⟨_, hx, u3⟩)
      have hxl := (g'.lt _ _ hx).2
      obtain ⟨t, t1, t2, t3, t4⟩ := hlow _ u1 hu0 (by omega) x hx
      obtain ⟨v, v1, v2, v3⟩ := step_best g' (d := (T'.nd i).depth - 1) (fun j hj hj0 hjd => hlow j hj hj0 (by omega)) hst t t1 (by omega)
      refine ⟨v, by rw [rd_next (show (T'.setFail i r).next = T'.next from rfl)]; exact v1, v2.trans (snoc_suffix _ t2), by have := v2.length_le; simp at this ⊢; omega, fun t' ht' hl' hs2 => ?_⟩
      rw [rd_next (show (T'.setFail i r).next = T'.next from rfl)] at hs2
      rcases List.suffix_concat_iff.1 ht' with rfl | ⟨y, rfl, hy⟩
      · simp
      · have hyl : y.length < x.length := by simpa using hl'
        exact v3 _ (snoc_suffix _ (List.suffix_of_suffix_length_le hy t2 (t4 y hy hyl (rd_pre _ hs2)))) hs2
    have hall : ∀ j, FailR T' j → FailR (T'.setFail i r) j := fun j hj => by
      by_cases e : i = j
      · subst e; exact hown
      · exact failR_set hi' hj e
    refine ⟨a1.set b2, fun j hj => ?_, fun j hj0 hj hjd => ?_⟩
    · rcases List.mem_append.1 hj with hj | hj
      · exact hall j (a2 j hj)
      · obtain rfl : j = i := by simpa using hj
        exact hown
    · obtain ⟨c1, c2⟩ := a3 j hj0 hj hjd
      refine ⟨hall j c1, ?_⟩
      have hij : i ≠ j := by rintro rfl; rw [← a1.depth] at hjd; omega
      rw [Tb.nd_setFail hi', if_neg hij]; exact c2
end Go.Proofs.Ythkaicbkcaiffaa
