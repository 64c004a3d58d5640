/-
  Rows of the call's own: an append whose source may be nil, a store; the reference's hits shifted: plain laws. Conditions: none.
-/
import Derived.Test.YthkaicbkcaiffaaLd
namespace Go.Proofs.Ythkaicbkcaiffaa
open Go.RowKit

/-- A source that is read: none need lie nowhere. -/
def Src (w : World) (ao : Option Addr) (m : Nat) (news : List Value) : Prop := 0 < m → ∃ ad, ao = some ad ∧ ∀ j u, news[j]? = some u → w.cell? (ad.add j) = some u
theorem run_append_src {P : Program} (w : World) (base : Nat) (t ty e : TypeId) (i : TypeInfo) (z : Value) (size bytes : Nat) (ht : P.underlying t = some (.slice e)) (hi : P.info? e = some i) (hz : i.zero = some z)
    (hsize : i.size = size) (hby : i.bytes = bytes) (hzs : z.cells.size = size) (hsz : 0 < size) (v : Value) (n : Nat) (xs : List Value) (hown : w.ownsRow base e size v n xs)
    (ao : Option Addr) (m c : Nat) (news : List Value) (hl : news.length = m * size) (hsrc : Src w ao m news) (h1 : ∀ u ∈ news, u.oneCell' = true)
    (h63 : n + m ≤ maxLen) (hbytes : (n + m) * bytes ≤ 140737488355328) (hbase : base ≤ w.heap.size) :
    ∃ v' w', (Builtin.append_ #[t, t] ty #[v, .slice ao m c]).run P w = .ok v' w' ∧ w'.ownsRow base e size v' (n + m) (xs ++ news) ∧ w.grownBy w' v.ownBlock ∧ (v'.ownBlock = v.ownBlock ∨ v'.ownBlock = some w.heap.size) := by
  by_cases h0 : 0 < m
  · obtain ⟨ad, rfl, hc⟩ := hsrc h0
    obtain ⟨v', w', h2, h3, h4, _, h5⟩ := run_append_own_at (P := P) w base t ty e i z size bytes ht hi hz hsize hby hzs hsz v n xs hown ad m c news hl hc h1 h63 hbytes hbase
    exact ⟨v', w', h2, h3, h4, h5⟩
  · obtain rfl : m = 0 := by omega
    obtain rfl : news = [] := List.length_eq_zero_iff.1 (by simpa using hl)
    cases ao with
    | some ad =>
      obtain ⟨v', w', h2, h3, h4, _, h5⟩ := run_append_own_at (P := P) w base t ty e i z size bytes ht hi hz hsize hby hzs hsz v n xs hown ad 0 c [] (by simp) (fun j u h => by simp at h) h1 h63 hbytes hbase
      exact ⟨v', w', h2, h3, h4, h5⟩
    | none =>
      refine ⟨v, w, ?_, by simpa using hown, World.grownBy.refl w _, .inl rfl⟩
      rcases hown.2 with ⟨rfl, rfl⟩ | ⟨g, cap, cur, rfl, _, _, hnc, _⟩
      · simp [Builtin.append_, run_underlying ht, sizeOf, typeInfo, hi, Builtin.lenOf, Builtin.firstCells]
      · simp [Builtin.append_, run_underlying ht, sizeOf, typeInfo, hi, Builtin.lenOf, Builtin.firstCells, hnc, storeCells]
theorem own_at {w : World} {base n size g : Nat} {e : TypeId} {v : Value} {xs : List Value} (h : w.ownsRow base e size v n xs) (hg : v.ownBlock = some g) : ∃ c, v = .slice (some ⟨g, 0, none⟩) n c := by
  rcases h.2 with ⟨rfl, _⟩ | ⟨g', cap, cur, rfl, _⟩
  · cases hg
  · obtain rfl : g' = g := by simpa [Value.ownBlock] using hg
    exact ⟨cap, rfl⟩
/-- A store into a row. -/
theorem own_set {w : World} {base n size g cap k : Nat} {e : TypeId} {xs : List Value} (h : w.ownsRow base e size (.slice (some ⟨g, 0, none⟩) n cap) n xs) (u : Value) (_hk : k < n * size) :
    (w.setCell ⟨g, k, none⟩ u).ownsRow base e size (.slice (some ⟨g, 0, none⟩) n cap) n (xs.set k u) := by
  rcases h.2 with ⟨h, _⟩ | ⟨g', cap', cur, hv, hg, hh, hc, hm, hs, ht⟩
  · cases h
  · obtain ⟨rfl, rfl⟩ : g = g' ∧ cap = cap' := by simpa using hv
    have hb : Blk w g e cur := hh
    refine ⟨by rw [List.length_set]; exact h.1, .inr ⟨g, cap, _, rfl, hg, hb.set (i := k) (v := u), hc, hm, by simpa using hs, ?_⟩⟩
    rw [← ht, Array.toList_setIfInBounds, List.take_set]

/-- The last bytes that a stream of D keeps: less than Width of them. -/
def lastOf (wd : Nat) (D : List Nat) : List Nat := D.drop (D.length - (wd - 1))
theorem lastOf_len (wd : Nat) (D : List Nat) : (lastOf wd D).length = min (wd - 1) D.length := by simp [lastOf]; omega
theorem lastOf_mem {wd : Nat} {D : List Nat} {b : Nat} (h : b ∈ lastOf wd D) : b ∈ D := List.mem_of_mem_drop h
theorem lastOf_suffix (wd : Nat) (D : List Nat) : lastOf wd D <:+ D := List.drop_suffix _ _
theorem suffix_len {s t X : List Nat} (h1 : s <:+ X) (h2 : t <:+ X) (h : s.length = t.length) : s = t :=
  (List.suffix_of_suffix_length_le h1 h2 (Nat.le_of_eq h)).eq_of_length h
theorem suffix_append {s t : List Nat} (h : s <:+ t) (l : List Nat) : s ++ l <:+ t ++ l := by
  obtain ⟨r, rfl⟩ := h; rw [List.append_assoc]; exact List.suffix_append _ _
theorem lastOf_append (wd : Nat) (D l : List Nat) : (lastOf wd D ++ l).drop ((lastOf wd D ++ l).length - min (wd - 1) (lastOf wd D ++ l).length) = lastOf wd (D ++ l) := by
  refine suffix_len ((List.drop_suffix _ _).trans (suffix_append (lastOf_suffix wd D) l)) (lastOf_suffix _ _) ?_
  rw [lastOf_len, List.length_drop, List.length_append, List.length_append, lastOf_len]; omega
theorem hitsOf_append (P : List (List Nat)) (wd : Nat) (l1 l2 : List Nat) : ∀ at_ D, hitsOf P wd at_ D (l1 ++ l2) = hitsOf P wd at_ D l1 ++ hitsOf P wd (at_ + l1.length) (D ++ l1) l2 := by
  induction l1 with
  | nil => intro at_ D; simp [hitsOf]
  | cons b l1 ih =>
    intro at_ D
    simp only [List.cons_append, hitsOf, ih, List.append_assoc, List.length_cons, List.nil_append]
    rw [show at_ + 1 + l1.length = at_ + (l1.length + 1) by omega]
theorem endK_last {P : List (List Nat)} {wd : Nat} (hP : ∀ p, p ∈ P → p.length = wd) (D l : List Nat) (hl : 0 < l.length) : endK P (lastOf wd D ++ l) = endK P (D ++ l) := by
  unfold endK
  refine findIdx_congr fun p hp => ?_
  have hs := suffix_append (lastOf_suffix wd D) l
  rw [Bool.eq_iff_iff, List.isSuffixOf_iff_suffix, List.isSuffixOf_iff_suffix]
  refine ⟨fun h => h.trans hs, fun h => List.suffix_of_suffix_length_le h hs ?_⟩
  have h1 := h.length_le
  have h2 := hP p hp
  rw [List.length_append, lastOf_len]
  rw [List.length_append] at h1
  omega
def sh (d : Int) (h : Int × Nat) : Int × Nat := (h.1 + d, h.2)
theorem hitOf_sh (a d : Int) (o : Option Nat) : (hitOf a o).map (sh d) = hitOf (a + d) o := by cases o <;> simp [hitOf, sh]
theorem hitsOf_last {P : List (List Nat)} {wd : Nat} (hP : ∀ p, p ∈ P → p.length = wd) (D : List Nat) (l : List Nat) : ∀ m, (hitsOf P wd ((lastOf wd D).length + m.length) (lastOf wd D ++ m) l).map (sh ((D.length : Int) - (lastOf wd D).length)) = hitsOf P wd (D.length + m.length) (D ++ m) l := by
  induction l with
  | nil => intro m; rfl
  | cons b l ih =>
    intro m
    have h := ih (m ++ [b])
    simp only [hitsOf, List.map_append, hitOf_sh, List.append_assoc]
    rw [endK_last hP D (m ++ [b]) (by simp)]
    rw [List.length_append, List.length_singleton] at h
    rw [Nat.add_assoc, Nat.add_assoc, h]
    congr 2
    omega
theorem hitsOf_short {P : List (List Nat)} {wd : Nat} (h1 : 1 ≤ wd) (hP : ∀ p, p ∈ P → p.length = wd) (D : List Nat) : hitsOf P wd 0 [] (lastOf wd D) = [] := by
  have hl := lastOf_len wd D
  rw [hits_same h1 hP, show (lastOf wd D).length + 1 - wd = 0 by omega]; rfl
/-- What the reference's Feed finds is what the automaton finds. -/
theorem feed_same {P : List (List Nat)} {wd : Nat} (h1 : 1 ≤ wd) (hP : ∀ p, p ∈ P → p.length = wd) (D l : List Nat) :
    (refHits P wd (lastOf wd D ++ l) ((lastOf wd D ++ l).length + 1 - wd)).map (sh ((D.length : Int) - (lastOf wd D).length)) = hitsOf P wd D.length D l := by
  rw [← hits_same h1 hP, hitsOf_append, hitsOf_short h1 hP, List.nil_append, Nat.zero_add, List.nil_append]
  have := hitsOf_last hP D l []
  simpa using this
theorem refHits_place {P : List (List Nat)} {wd : Nat} {l : List Nat} {j : Nat} : ∀ h ∈ refHits P wd l j, 0 ≤ h.1 ∧ h.1 < j := by
  induction j with
  | zero => intro h hh; simp [refHits] at hh
  | succ j ih =>
    intro h hh
    rw [refHits_succ, List.mem_append] at hh
    rcases hh with hh | hh
    · have := ih h hh; omega
    · cases ho : headK P wd (l.drop j) with
      | none => rw [ho] at hh; simp [hitOf] at hh
      | some k => rw [ho] at hh; simp [hitOf] at hh; subst hh; simp; omega
theorem hcs_set (hs : List (Int × Nat)) (i : Nat) (a : Int) (hi : i < hs.length) : (hcs hs).set (i * 2) (.int .i64 a) = hcs (hs.set i (a, (hs.getD i (0, 0)).2)) := by
  induction hs generalizing i with
  | nil => simp at hi
  | cons x l ih =>
    have e : ∀ (y : Int × Nat) l, hcs (y :: l) = .int .i64 y.1 :: .int .i64 (y.2 : Int) :: hcs l := fun _ _ => rfl
    cases i with
    | zero => simp [e]
    | succ i =>
      have := ih i (by simpa using hi)
      rw [show (i + 1) * 2 = i * 2 + 1 + 1 by omega]
      simp only [List.set_cons_succ, e]
      rw [this]; simp
/-- The first j hits shifted. -/
def Mix (hs : List (Int × Nat)) (d : Int) (j : Nat) (hs' : List (Int × Nat)) : Prop := hs'.length = hs.length ∧ ∀ i, i < hs.length → hs'.getD i (0, 0) = if i < j then sh d (hs.getD i (0, 0)) else hs.getD i (0, 0)
theorem Mix.start (hs : List (Int × Nat)) (d : Int) : Mix hs d 0 hs := ⟨rfl, fun i _ => by simp⟩
theorem Mix.step {hs hs' : List (Int × Nat)} {d : Int} {j : Nat} (h : Mix hs d j hs') (hj : j < hs.length) : Mix hs d (j + 1) (hs'.set j ((hs.getD j (0, 0)).1 + d, (hs'.getD j (0, 0)).2)) := by
  refine ⟨by simpa using h.1, fun i hi => ?_⟩
  by_cases e : j = i
  · subst e
    rw [getD_set_eq _ _ _ _ (by rw [h.1]; exact hj), h.2 j hj, if_neg (Nat.lt_irrefl _), if_pos (Nat.lt_succ_self _)]; rfl
  · rw [getD_set_ne' _ _ _ _ _ e, h.2 i hi]
    by_cases e2 : i < j
    · rw [if_pos e2, if_pos (by omega)]
    · rw [if_neg e2, if_neg (by omega)]
theorem Mix.fin {hs hs' : List (Int × Nat)} {d : Int} (h : Mix hs d hs.length hs') : hs' = hs.map (sh d) := by
  apply List.ext_getElem
  · simpa using h.1
  · intro i h1 h2
    have hi : i < hs.length := by simpa using h2
    have := h.2 i hi
    rw [if_pos hi] at this
    simpa [List.getD, hi, h1] using this
end Go.Proofs.Ythkaicbkcaiffaa
