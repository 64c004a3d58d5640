/-
  The automaton as its readers know it, and New's answer in plain words. Conditions: none.
-/
import Derived.Test.YthkaicbkcaiffaaN
import Derived.Test.YthkaicbkcaiffaaD
namespace Go.Proofs.Ythkaicbkcaiffaa

/-- A beginning of a pattern. -/
def Pre (P : List (List Nat)) (s : List Nat) : Prop := s = [] ∨ ∃ p, p ∈ P ∧ s <+: p
/-- k of the last bytes of D may be the first of a hit to come; no more may. -/
def IsHeld (P : List (List Nat)) (wd : Nat) (D : List Nat) (k : Nat) : Prop :=
  (∃ s, s <:+ D ∧ s.length = k ∧ Pre P s) ∧ (k = 0 ∨ k < wd) ∧ ∀ s', s' <:+ D → Pre P s' → s'.length < wd → s'.length ≤ k
theorem IsHeld.unique {P : List (List Nat)} {wd k k' : Nat} {D : List Nat} (h : IsHeld P wd D k) (h' : IsHeld P wd D k') : k = k' := by
  obtain ⟨⟨s, s1, s2, s3⟩, a2, a3⟩ := h
  obtain ⟨⟨t, t1, t2, t3⟩, b2, b3⟩ := h'
  have x1 : k ≤ k' := by
    rcases a2 with e | e
    · omega
    · rw [← s2]; exact b3 s s1 s3 (by omega)
  have x2 : k' ≤ k := by
    rcases b2 with e | e
    · omega
    · rw [← t2]; exact a3 t t1 t3 (by omega)
  omega
/-- Pattern k stands at the end of D. -/
def Ends (P : List (List Nat)) (D : List Nat) (k : Nat) : Prop := ∃ p, P[k]? = some p ∧ p <:+ D
structure Auto (T : Tb) (P : List (List Nat)) (wd : Nat) : Prop where
  wf : WF T
  wh : ∀ i, i < T.nodes.length → -1 ≤ (T.nd i).which ∧ (T.nd i).which < 4096
  lt : ∀ D i, Best T D i → i < T.nodes.length
  nil : Best T [] 0
  step : ∀ D b i r, Best T D i → Step T b i r → Best T (D ++ [b]) r
  which : ∀ D i, Best T D i → ∀ k : Nat, (T.nd i).which = (k : Int) ↔ Ends P D k
  opn : ∀ D i, Best T D i → IsHeld P wd D (T.opn i)

theorem auto_of {T T' : Tb} {P : List (List Nat)} {wd : Nat} (g : Good T) (t : Tr T P) (hP : ∀ p, p ∈ P → p.length = wd ∧ 1 ≤ wd) (lk : Lk T (levs T T.nodes.length).flatten T') (wf : WF T') : Auto T' P wd := by
  obtain ⟨s1, s2, s3⟩ := lk_right g.str g.fail lk (levs_sorted T)
  have g' := s1.str g.str
  have hrd : ∀ s, rd T' s = rd T s := rd_next s1.next
  have hin : ∀ s, (rd T' s).isSome ↔ Pre P s := fun s => by rw [hrd]; exact t.mem s
  have hwh : ∀ s i, rd T' s = some i → ∀ k : Nat, (T'.nd i).which = (k : Int) ↔ P[k]? = some s := fun s i h k => by rw [s1.which]; exact t.wh s i (by rw [← hrd]; exact h) k
  have hr : ∀ j, j < T'.nodes.length → 0 < j → FailR T' j := fun j hj h0 => s2 j (levs_all h0 (by rw [← s1.len]; exact hj))
  have hle : ∀ s, Pre P s → s ≠ [] → s.length ≤ wd := fun s h hne => by
    rcases h with rfl | ⟨p, hp, hs⟩
    · exact absurd rfl hne
    · have := hs.length_le; have := (hP p hp).1; omega
  have hwhole : ∀ s, Pre P s → s.length = wd → 1 ≤ wd → ∃ k, P[k]? = some s := fun s h hl h1 => by
    rcases h with rfl | ⟨p, hp, hs⟩
    · simp at hl; omega
    · obtain rfl := hs.eq_of_length (by rw [hl, (hP p hp).1])
      exact List.mem_iff_getElem?.1 hp
  refine ⟨wf, fun i hi => by rw [s1.which]; exact g.wh i (by rw [← s1.len]; exact hi), fun D i ⟨s, h1, _⟩ => (g'.lt _ _ h1).1, best_nil, fun D b i r h hst => best_step g' hr h hst, fun D i ⟨s, h1, h2, h3⟩ k => ?_, fun D i ⟨s, h1, h2, h3⟩ => ?_⟩
  · rw [hwh s i h1 k]
    constructor
    · intro h; exact ⟨s, h, h2⟩
    · rintro ⟨p, hp, hs⟩
      have hm := List.mem_of_getElem? hp
      obtain ⟨l1, l2⟩ := hP p hm
      have hpp : Pre P p := .inr ⟨p, hm, List.prefix_rfl⟩
      have l3 := h3 p hs ((hin p).2 hpp)
      have hsn : s ≠ [] := by rintro rfl; simp at l3; rw [l3] at l1; simp at l1; omega
      have l4 := hle s ((hin s).1 (by rw [h1]; rfl)) hsn
      obtain rfl : p = s := (List.suffix_of_suffix_length_le hs h2 (by omega)).eq_of_length (by omega)
      exact hp
  · have hl := g'.lt _ _ h1
    have hps : Pre P s := (hin s).1 (by rw [h1]; rfl)
    unfold Tb.opn
    split
    · rename_i h0
      obtain ⟨k, hk⟩ := Int.eq_ofNat_of_zero_le h0
      have hpk := (hwh s i h1 k).1 hk
      obtain ⟨l1, l2⟩ := hP s (List.mem_of_getElem? hpk)
      have hi0 : 0 < i := by
        rcases Nat.eq_zero_or_pos i with e | e
        · rw [e, g'.root] at hl; omega
        · exact e
      obtain ⟨u, u1, u2, u3, u4⟩ := hr i hl.1 hi0 s h1
      have hul := (g'.lt _ _ u1).2
      rw [hul]
      refine ⟨⟨u, u2.trans h2, rfl, (hin u).1 (by rw [u1]; rfl)⟩, .inr (by omega), fun s' h' hp' hlt => ?_⟩
      have hs' := (hin s').2 hp'
      exact u4 s' (List.suffix_of_suffix_length_le h' h2 (h3 s' h' hs')) (by omega) hs'
    · rename_i h0
      rw [hl.2]
      refine ⟨⟨s, h2, rfl, hps⟩, ?_, fun s' h' hp' _ => h3 s' h' ((hin s').2 hp')⟩
      by_cases e : s = []
      · exact .inl (by rw [e]; rfl)
      · have hle' := hle s hps e
        rcases Nat.lt_or_ge s.length wd with q | q
        · exact .inr q
        · have h1s : 1 ≤ s.length := by
            rcases Nat.eq_zero_or_pos s.length with e2 | e2
            · exact absurd (List.length_eq_zero_iff.1 e2) e
            · exact e2
          obtain ⟨k, hk⟩ := hwhole s hps (by omega) (by omega)
          have := (hwh s i h1 k).2 hk
          omega

open Classical in
/-- New's error. -/
noncomputable def newE (ps : List ByteArray) : Nat :=
  if 4096 < ps.length then 1 else if ∃ i, i < ps.length ∧ ¬ lenOk ps (ps.getD i .empty) then 50 else if (ps.map bts).Nodup then 0 else 51
/-- Every string's length is right. -/
theorem pats_ok {ps : List ByteArray} (h : ∀ i, i < ps.length → lenOk ps (ps.getD i .empty)) : ∀ p, p ∈ ps.map bts → p.length = wdOf ps ∧ 1 ≤ wdOf ps ∧ PatOk p := by
  intro p hp
  obtain ⟨x, hx, rfl⟩ := List.mem_map.1 hp
  obtain ⟨i, hi, rfl⟩ := List.mem_iff_getElem.1 hx
  obtain ⟨h1, h2, h3⟩ := h i hi
  have e : ps.getD i .empty = ps[i] := by simp [List.getD, hi]
  rw [e] at h1
  have hb := bts_len ps[i]
  exact ⟨by omega, h2, by omega, by omega, bts_lt _⟩
theorem new_says {ps : List ByteArray} {er : Nat} {o : Option Tb} (h : NewOut ps er o) : er = newE ps ∧ match o with | none => er ≠ 0 | some T => er = 0 ∧ Auto T (ps.map bts) (wdOf ps) := by
  unfold newE
  cases h with
  | long h => rw [if_pos h]; exact ⟨rfl, Nat.one_ne_zero⟩
  | pattern h h2 => rw [if_neg (by omega), if_pos h2]; exact ⟨rfl, Nat.succ_ne_zero 49⟩
  | twice h h2 h3 =>
    have hp := pats_ok h2
    have := addAll_tr (ps.map bts) Tb0 [] Good.tb0 Tr.tb0 List.nodup_nil (fun p q => (hp p q).2.2) (by simp; omega)
    simp only [List.length_nil, h3, List.nil_append] at this
    rw [if_neg (by omega), if_neg (fun ⟨i, hi, hn⟩ => hn (h2 i hi)), if_neg this]; exact ⟨rfl, Nat.succ_ne_zero 50⟩
  | ok h h2 h3 h4 h5 h6 h7 h8 h9 =>
    have hp := pats_ok h2
    have := addAll_tr (ps.map bts) Tb0 [] Good.tb0 Tr.tb0 List.nodup_nil (fun p q => (hp p q).2.2) (by simp; omega)
    simp only [List.length_nil, h3, List.nil_append] at this
    rw [if_neg (by omega), if_neg (fun ⟨i, hi, hn⟩ => hn (h2 i hi)), if_pos this.2.2]
    exact ⟨rfl, rfl, auto_of this.1 this.2.1 (fun p q => ⟨(hp p q).1, (hp p q).2.1⟩) h6 h7⟩
end Go.Proofs.Ythkaicbkcaiffaa
