/-
  cuts: the pieces of data. Conditions: none.
-/
import Derived.Test.YthkaicbkcaiffaaRb
import Derived.WalkSpells
namespace Go.Proofs.Ythkaicbkcaiffaa
open Go.RowKit

theorem info27 : (Try.prog.info? 27).map (fun i => (i.zero, i.size, i.bytes)) = some (some (.slice none 0 0), 1, 24) := by kernel_rfl
def cutsOf : List Nat → List Nat → List (List Nat)
  | L, [] => [L]
  | L, x :: xs => L.take (min (x % 40) L.length) :: cutsOf (L.drop (min (x % 40) L.length)) xs
theorem cutsOf_flat (ls : List Nat) : ∀ L, (cutsOf L ls).flatten = L := by
  induction ls with
  | nil => intro L; simp [cutsOf]
  | cons x xs ih => intro L; simp [cutsOf, ih]
theorem cutsOf_len (ls : List Nat) : ∀ L, (cutsOf L ls).length = ls.length + 1 := by
  induction ls with
  | nil => intro L; simp [cutsOf]
  | cons x xs ih => intro L; simp [cutsOf, ih]
/-- A slice's address is plain, or it has no room. -/
def Form (ao : Option Addr) (c : Nat) : Prop := c = 0 ∨ ∃ b off, ao = some ⟨b, off, none⟩
/-- One piece: a slice value and its bytes. -/
def Piece (w : World) (v : Value) (l : List Nat) : Prop := ∃ ao c, v = .slice ao l.length c ∧ Byt w ao l ∧ l.length ≤ c
/-- The pieces in a row. -/
def Pieces (w : World) (B : Nat) (v : Value) (pcs : List (List Nat)) : Prop :=
  ∃ xs, w.ownsRow B 27 1 v pcs.length xs ∧ ∀ i, i < pcs.length → Piece w (xs.getD i undef) (pcs.getD i [])
theorem Piece.below {w w' : World} {v : Value} {l : List Nat} (h : Piece w v l) (hb : Below w.heap.size w w') : Piece w' v l := by
  obtain ⟨ao, c, h1, h2, h3⟩ := h; exact ⟨ao, c, h1, h2.below hb, h3⟩
theorem Pieces.below {w w' : World} {B : Nat} {v : Value} {pcs : List (List Nat)} (h : Pieces w B v pcs) (hb : Below w.heap.size w w') : Pieces w' B v pcs := by
  obtain ⟨xs, h1, h2⟩ := h
  exact ⟨xs, own_same h1 fun x q => hb.block x (h1.lt x q).2, fun i hi => (h2 i hi).below hb⟩
theorem Pieces.nil (w : World) (B : Nat) : Pieces w B (.slice none 0 0) [] := ⟨[], World.ownsRow_nil _ _ _ _, fun _ hi => absurd hi (Nat.not_lt_zero _)⟩
/-- The cutting: i pieces are cut. -/
def CRel (w0 w : World) (L ls : List Nat) (i : Nat) (u dv : Value) (wr : World) : Prop :=
  ∃ pcs rest ao n c, dv = .slice ao n c ∧ rest.length = n ∧ n ≤ c ∧ Form ao c ∧ Byt w0 ao rest ∧ cutsOf L ls = pcs ++ cutsOf rest (ls.drop i) ∧ pcs.length = i ∧ Below w.heap.size w wr ∧
    ∃ xs, wr.ownsRow w.heap.size 27 1 u i xs ∧ ∀ k, k < i → Piece w0 (xs.getD k undef) (pcs.getD k [])
theorem Byt.take {w : World} {ao : Option Addr} {l : List Nat} (h : Byt w ao l) (k : Nat) : Byt w ao (l.take k) := fun h0 => by
  obtain ⟨b, off, e1, e2, e3⟩ := h (by rw [List.length_take] at h0; omega)
  exact ⟨b, off, e1, e2, e3.take⟩
theorem pieces_snoc {w0 : World} {xs : List Value} {pcs : List (List Nat)} {i c : Nat} {ao : Option Addr} {l : List Nat} (h2 : ∀ k, k < i → Piece w0 (xs.getD k undef) (pcs.getD k [])) (hx : xs.length = i) (hp : pcs.length = i) (hl : Byt w0 ao l) (hc : l.length ≤ c) :
    ∀ k, k < i + 1 → Piece w0 ((xs ++ [Value.slice ao l.length c]).getD k undef) ((pcs ++ [l]).getD k []) := by
  intro k hk
  by_cases e : k = i
  · subst e
    have e1 : (xs ++ [Value.slice ao l.length c]).getD k undef = .slice ao l.length c := by rw [← hx]; simp [List.getD]
    have e2 : (pcs ++ [l]).getD k [] = l := by rw [← hp]; simp [List.getD]
    rw [e1, e2]; exact ⟨ao, c, rfl, hl, hc⟩
  · have e1 : (xs ++ [Value.slice ao l.length c]).getD k undef = xs.getD k undef := by simp only [List.getD]; rw [List.getElem?_append_left (by omega)]
    have e2 : (pcs ++ [l]).getD k [] = pcs.getD k [] := by simp only [List.getD]; rw [List.getElem?_append_left (by omega)]
    rw [e1, e2]; exact h2 k (by omega)
/-- What slicing from 'lo' on leaves. -/
theorem form_drop {w0 : World} {ao a2 : Option Addr} {c lo : Nat} {rest : List Nat} (hF : Form ao c) (hl : Byt w0 ao rest) (hlo : lo ≤ rest.length) (hc : rest.length ≤ c) (h : (c = lo ∧ a2 = ao) ∨ (c ≠ lo ∧ ∃ b off, ao = some ⟨b, off, none⟩ ∧ a2 = some ⟨b, off + lo, none⟩)) :
    Form a2 (c - lo) ∧ Byt w0 a2 (rest.drop lo) := by
  rcases h with ⟨rfl, rfl⟩ | ⟨h1, b, off, rfl, rfl⟩
  · refine ⟨.inl (by omega), fun h0 => ?_⟩
    rw [List.length_drop] at h0; omega
  · refine ⟨.inr ⟨b, off + lo, rfl⟩, fun h0 => ?_⟩
    rw [List.length_drop] at h0
    obtain ⟨b', off', e1, e2, e3⟩ := hl (by omega)
    obtain ⟨rfl, rfl⟩ : b = b' ∧ off = off' := by simpa using e1
    exact ⟨b, off + lo, rfl, e2, e3.drop⟩
theorem crel_step {w0 w wr w3 : World} {L ls rest : List Nat} {pcs : List (List Nat)} {xs : List Value} {i x mn n c g cap2 : Nat} {u : Value} {ao a2 : Option Addr} {o : Obj} (hF : Form ao c) (hl : Byt w0 ao rest) (hr : rest.length = n) (hnc : n ≤ c)
    (hcut : cutsOf L ls = pcs ++ cutsOf rest (ls.drop i)) (hp : pcs.length = i) (hb : Below w.heap.size w wr) (hrow : wr.ownsRow w.heap.size 27 1 u i xs) (h2 : ∀ k, k < i → Piece w0 (xs.getD k undef) (pcs.getD k [])) (hi : i < ls.length) (hx : ls.getD i 0 = x) (hmn : min (x % 40) n = mn)
    (h : (c = mn ∧ a2 = ao) ∨ (c ≠ mn ∧ ∃ b off, ao = some ⟨b, off, none⟩ ∧ a2 = some ⟨b, off + mn, none⟩))
    (hO : w3.ownsRow w.heap.size 27 1 (.slice (some ⟨g, 0, none⟩) (i + 1) cap2) (i + 1) (xs ++ [.slice ao mn c])) (hG : (wr.alloc o).grownBy w3 u.ownBlock) :
    CRel w0 w L ls (i + 1) (.slice (some ⟨g, 0, none⟩) (i + 1) cap2) (.slice a2 (n - mn) (c - mn)) w3 := by
  have hdrop : ls.drop i = x :: ls.drop (i + 1) := by
    rw [List.drop_eq_getElem_cons hi]; congr 1
    rw [← hx]; simp [List.getD, hi]
  have htl : (rest.take mn).length = mn := by simp; omega
  obtain ⟨f1, f2⟩ := form_drop hF hl (by omega) (by omega) h
  refine ⟨pcs ++ [rest.take mn], rest.drop mn, a2, n - mn, c - mn, rfl, by simp [hr], by omega, f1, f2, ?_, by simp [hp], ?_, xs ++ [.slice ao mn c], hO, ?_⟩
  · rw [hcut, hdrop]; simp only [cutsOf, hr, hmn, List.append_assoc, List.singleton_append]
  · exact ((hb.alloc hb.size o)).grown hG (le_alloc hb.size) (fun k hk => (hrow.lt k hk).1)
  · have := pieces_snoc (c := c) h2 (by have := hrow.1; omega) hp (hl.take mn) (by rw [htl]; omega)
    rw [htl] at this; exact this

set_option maxRecDepth 100000 in
set_option maxHeartbeats 2000000 in
theorem cuts_any {w0 w : World} {ao bo : Option Addr} {n c m c' : Nat} {L ls : List Nat} (hn : L.length = n) (hnc : n ≤ c) (hF : Form ao c) (hl : Byt w0 ao L) (hm : ls.length = m) (hls : Byt w bo ls) (hb : ∀ x ∈ ls, x < 256) (hn2 : n ≤ 1048576) (hm2 : m ≤ 1048576) :
    Calls Try.prog 28 #[.slice ao n c, .slice bo m c'] w fun e w' => ∃ v, e = .returned v ∧ Below w.heap.size w w' ∧ ∃ xs, w'.ownsRow w.heap.size 27 1 v (m + 1) xs ∧ ∀ k, k < m + 1 → Piece w0 (xs.getD k undef) ((cutsOf L ls).getD k []) := by
  have hst := Lib.hid (show CRel w0 w L ls 0 (.slice none 0 0) (.slice ao n c) w from ⟨[], L, ao, n, c, rfl, hn, hnc, hF, hl, by simp, rfl, Below.refl _ _, [], World.ownsRow_nil _ _ _ _, fun _ h => absurd h (Nat.not_lt_zero _)⟩)
  have HS := Lib.hid hls
  have HM := Lib.hid hm
  have HB := Lib.hid hb
  have HN := Lib.hid hn
  obtain ⟨i27, a1, a2, a3, a4⟩ := info_parts info27
  clear hls hm hb hn hl hF
  go_enter Try.func28, Try.ntmps28
  go_wp2
  go_loopw [0, 5, 6] (fun dv u i wr => ∃ (j : Nat) (u' dv' : Value), j ≤ m ∧ i = .int .i64 (j : Int) ∧ u' = u ∧ dv' = dv ∧ CRel w0 w L ls j u' dv' wr) (fun _ _ i _ => m - (intOf i).toNat)
  case atStart => exact ⟨0, _, _, by omega, rfl, rfl, rfl, hst.out⟩
  case round =>
    clear hst
    obtain ⟨j, u, dv, hj, rfl, rfl, rfl, hR⟩ := hrel
    obtain ⟨pcs, rest, ao, n', c2, rfl, r1, r2, r3, r4, r5, r6, r7, xs, r8, r9⟩ := hR
    have hn' : n' ≤ 1048576 := by
      have h1 := congrArg (fun l => l.flatten.length) r5
      simp only [cutsOf_flat, List.flatten_append, List.length_append] at h1
      rw [HN.out, r1] at h1; omega
    obtain ⟨uo, uc, rfl⟩ := own_form r8
    have hbs := r7.size
    by_cases hlt : j < m
    · obtain ⟨b, off, rfl, hbl, hc⟩ := HS.out (by rw [HM.out]; omega)
      have hjl : j < ls.length := by rw [HM.out]; exact hlt
      have cx := hc.below r7 hbl j hjl
      obtain ⟨x, hx⟩ : ∃ x, ls.getD j 0 = x := ⟨_, rfl⟩
      have hx256 : x < 256 := by
        rw [← hx]; simp only [List.getD, List.getElem?_eq_getElem hjl, Option.getD_some]; exact HB.out _ (List.getElem_mem _)
      rw [hx] at cx
      obtain ⟨y, hy⟩ : ∃ y, x % 40 = y := ⟨_, rfl⟩
      have hy1 : (x : Int) % 40 = (y : Int) := by omega
      have hy2 : (x : Int).tmod 40 = (y : Int) := by rw [Int.tmod_eq_emod_of_nonneg (by omega)]; exact hy1
      have hy40 : y < 40 := by omega
      have HX := Lib.hid hx
      have HY := Lib.hid hy
      have R1 := Lib.hid r1
      have R3 := Lib.hid r3
      have R4 := Lib.hid r4
      have R5 := Lib.hid r5
      have R6 := Lib.hid r6
      have R7 := Lib.hid r7
      have R8 := Lib.hid r8
      have R9 := Lib.hid r9
      clear hc hx hy r1 r4 r5 r6 r7 r8 r9
      go_upto_if 23 with fail
      go_cut [7] (fun s wx => s = .int .i64 ((min y n' : Nat) : Int) ∧ wr = wx)
      case first =>
        by_cases h0 : n' < y
        · go_wp2
          go_meet
          exact ⟨by rw [Nat.min_eq_right (by omega)], rfl⟩
        · go_wp2
          go_meet
          exact ⟨by rw [Nat.min_eq_left (by omega)], rfl⟩
      case rest =>
        obtain ⟨rfl, rfl⟩ := hcut
        obtain ⟨mn, hmn⟩ : ∃ mn, min y n' = mn := ⟨_, rfl⟩
        rw [hmn]
        have hmn2 : mn ≤ n' := by omega
        have hmn3 : mn ≤ c2 := by omega
        have HMN := Lib.hid (show min (x % 40) n' = mn by rw [HY.out]; exact hmn)
        have hmx : j + 1 ≤ maxLen := by unfold maxLen; omega
        have hby : (j + 1) * 24 ≤ 140737488355328 := by omega
        clear hmn hy1 hy2 cx
        have hpost := Lib.hid (fun a2 g cap2 w3 o h hO hG => crel_step (o := o) (w3 := w3) (g := g) (cap2 := cap2) (a2 := a2) R3.out R4.out R1.out r2 R5.out R6.out R7.out R8.out R9.out hjl HX.out HMN.out h hO hG)
        by_cases hc0 : c2 = 0
        · have hmn0 : mn = 0 := by omega
          have hn0 : n' = 0 := by omega
          subst hmn0
          subst hn0
          subst hc0
          go_wp2_with (first | (at_builtin; refine wpList_append_lies _ (by rfl) (.tmp 26) (.tmp 30) 41 (by rfl) w.heap.size 27 i27 (.slice none 0 0) 1 24 Try.underlying41 a1 a2 a3 a4 (by rfl) (by decide) (.slice uo j uc) j xs (by rfl) (R8.out.alloc _) ⟨wr.heap.size, 0, none⟩ 1 1 [.slice ao 0 0] (by rfl) (by rfl) (fun _ _ hj => alloc_cells _ _ hj) (by intro u hu; simp at hu; subst hu; rfl) (by decide) hmx hby (le_alloc hbs) (wr.heap.size + 1) (size_alloc1 _ _) ?_; intro g cap2 w4 hown hgrow hat hlt3; have HO := Lib.hid hown; have HG := Lib.hid hgrow; clear hown hgrow hat))
          all_goals (go_roundw; case measure => (simp [intOf]; omega))
          all_goals exact ⟨j + 1, _, _, by omega, by go_num, rfl, rfl, hpost.out ao _ _ _ _ (.inl ⟨rfl, rfl⟩) HO.out HG.out⟩
        · obtain ⟨b2, off2, rfl⟩ : ∃ b off, ao = some ⟨b, off, none⟩ := by
            rcases R3.out with h | h
            · exact absurd h hc0
            · exact h
          by_cases hcm : c2 = mn
          · subst hcm
            go_wp2_with (first | (at_builtin; refine wpList_append_lies _ (by rfl) (.tmp 26) (.tmp 30) 41 (by rfl) w.heap.size 27 i27 (.slice none 0 0) 1 24 Try.underlying41 a1 a2 a3 a4 (by rfl) (by decide) (.slice uo j uc) j xs (by rfl) (R8.out.alloc _) ⟨wr.heap.size, 0, none⟩ 1 1 [.slice (some ⟨b2, off2, none⟩) c2 c2] (by rfl) (by rfl) (fun _ _ hj => alloc_cells _ _ hj) (by intro u hu; simp at hu; subst hu; rfl) (by decide) hmx hby (le_alloc hbs) (wr.heap.size + 1) (size_alloc1 _ _) ?_; intro g cap2 w4 hown hgrow hat hlt3; have HO := Lib.hid hown; have HG := Lib.hid hgrow; clear hown hgrow hat))
            all_goals (go_roundw; case measure => (simp [intOf]; omega))
            all_goals
              have h := hpost.out (some ⟨b2, off2, none⟩) _ _ _ _ (.inl ⟨rfl, rfl⟩) HO.out HG.out
              rw [Nat.sub_self, show n' - c2 = 0 by omega] at h
              exact ⟨j + 1, _, _, by omega, by go_num, rfl, rfl, h⟩
          · go_wp2_with (first | (at_builtin; refine wpList_append_lies _ (by rfl) (.tmp 26) (.tmp 30) 41 (by rfl) w.heap.size 27 i27 (.slice none 0 0) 1 24 Try.underlying41 a1 a2 a3 a4 (by rfl) (by decide) (.slice uo j uc) j xs (by rfl) (R8.out.alloc _) ⟨wr.heap.size, 0, none⟩ 1 1 [.slice (some ⟨b2, off2, none⟩) mn c2] (by rfl) (by rfl) (fun _ _ hj => alloc_cells _ _ hj) (by intro u hu; simp at hu; subst hu; rfl) (by decide) hmx hby (le_alloc hbs) (wr.heap.size + 1) (size_alloc1 _ _) ?_; intro g cap2 w4 hown hgrow hat hlt3; have HO := Lib.hid hown; have HG := Lib.hid hgrow; clear hown hgrow hat))
            all_goals (go_roundw; case measure => (simp [intOf]; omega))
            all_goals exact ⟨j + 1, _, _, by omega, by go_num, rfl, rfl, hpost.out _ _ _ _ _ (.inr ⟨hcm, b2, off2, rfl, rfl⟩) HO.out HG.out⟩
    · obtain rfl : j = m := by omega
      have hds : ls.drop j = [] := List.drop_of_length_le (by rw [HM.out]; exact Nat.le_refl _)
      rw [hds] at r5
      have hmx : j + 1 ≤ maxLen := by unfold maxLen; omega
      have hby : (j + 1) * 24 ≤ 140737488355328 := by omega
      have R1 := Lib.hid r1
      have R4 := Lib.hid r4
      have R5 := Lib.hid r5
      have R6 := Lib.hid r6
      have R7 := Lib.hid r7
      have R8 := Lib.hid r8
      have R9 := Lib.hid r9
      clear r1 r3 r4 r5 r6 r7 r8 r9 hds
      go_wp2_with (first | (at_builtin; refine wpList_append_lies _ (by rfl) (.tmp 35) (.tmp 37) 41 (by rfl) w.heap.size 27 i27 (.slice none 0 0) 1 24 Try.underlying41 a1 a2 a3 a4 (by rfl) (by decide) (.slice uo j uc) j xs (by rfl) (R8.out.alloc _) ⟨wr.heap.size, 0, none⟩ 1 1 [.slice ao n' c2] (by rfl) (by rfl) (fun _ _ hj => alloc_cells _ _ hj) (by intro u hu; simp at hu; subst hu; rfl) (by decide) hmx hby (le_alloc hbs) (wr.heap.size + 1) (size_alloc1 _ _) ?_; intro g cap2 w4 hown hgrow hat hlt3; have HO := Lib.hid hown; have HG := Lib.hid hgrow; clear hown hgrow hat))
      all_goals go_ret
      all_goals
        have h := pieces_snoc (c := c2) R9.out (by have := R8.out.1; omega) R6.out R4.out (by rw [R1.out]; exact r2)
        rw [R1.out] at h
        refine ⟨_, rfl, ((R7.out.alloc hbs _)).grown HG.out (le_alloc hbs) (fun k hk => (R8.out.lt k hk).1), _, HO.out, ?_⟩
        rw [R5.out]; exact h
end Go.Proofs.Ythkaicbkcaiffaa
