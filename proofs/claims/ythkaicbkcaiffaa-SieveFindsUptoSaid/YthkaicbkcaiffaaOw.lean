import Derived.Test.YthkaicbkcaiffaaOv
import Derived.Laws.StructEq
import Derived.Outline
namespace Go.Proofs.Ythkaicbkcaiffaa
open Go.RowKit

set_option maxHeartbeats 400000 in
theorem sameHits_true (b off cap b' off' cap' n : Nat) (A W : Nat → Int) (w : World) (hn : n ≤ maxLen) (H : Hits w b off n A W) (H' : Hits w b' off' n A W) :
    Calls Try.prog 16 #[.slice (some ⟨b, off, none⟩) n cap, .slice (some ⟨b', off', none⟩) n cap'] w fun e w' => e = .returned (.bool true) ∧ ∃ m, w' = w.drewN m := by
  unfold maxLen at hn
  go_enter Try.func16, Try.ntmps16
  go_wp2
  go_loopw [5] (fun i wr => ∃ k : Nat, k ≤ n ∧ i = .int .i64 k ∧ ∃ m, wr = w.drewN m) (fun i _ => n - (intOf i).toNat)
  case atStart => exact ⟨0, by omega, rfl, 0, rfl⟩
  case round =>
    obtain ⟨k, hk, rfl, m, rfl⟩ := hrel
    by_cases hlt : k < n
    · have c0 := H.at_ k hlt
      have d0 := H.wh k hlt
      have c1 := H'.at_ k hlt
      have d1 := H'.wh k hlt
      clear H H'
      go_wp2
      go_quiet (fail)
      go_wp2
      go_roundw
      case rel => exact ⟨k + 1, by omega, by go_num, _, rfl⟩
      case measure => simp [intOf]; omega
    · go_wp2
      go_ret
      exact ⟨rfl, m, rfl⟩

def hitCells (A W : Nat → Int) (n : Nat) : List Value := (List.range n).flatMap fun i => [.int .i64 (A i), .int .i64 (W i)]
theorem hitCells_succ (A W : Nat → Int) (n : Nat) : hitCells A W (n + 1) = hitCells A W n ++ [.int .i64 (A n), .int .i64 (W n)] := by
  simp [hitCells, List.range_succ]
theorem hitCells_len (A W : Nat → Int) (n : Nat) : (hitCells A W n).length = n * 2 := by
  induction n with
  | zero => rfl
  | succ n ih => rw [hitCells_succ, List.length_append, ih]; simp; omega
theorem hitCells_get (A W : Nat → Int) (n i : Nat) (h : i < n) : (hitCells A W n)[i * 2]? = some (.int .i64 (A i)) ∧ (hitCells A W n)[i * 2 + 1]? = some (.int .i64 (W i)) := by
  induction n with
  | zero => omega
  | succ n ih =>
    rw [hitCells_succ]
    have hl := hitCells_len A W n
    by_cases e : i = n
    · subst e
      rw [List.getElem?_append_right (by omega), List.getElem?_append_right (by omega), hl]
      simp
    · rw [List.getElem?_append_left (by omega), List.getElem?_append_left (by omega)]
      exact ih (by omega)
theorem hitCells_one (A W : Nat → Int) (n : Nat) : ∀ u ∈ hitCells A W n, u.oneCell' = true := by
  intro u hu
  simp only [hitCells, List.mem_flatMap] at hu
  obtain ⟨i, _, h⟩ := hu
  simp at h
  rcases h with rfl | rfl <;> rfl

/-- What a list of the call's own holds. -/
theorem own_cell {w : World} {base n size : Nat} {e : TypeId} {v : Value} {xs : List Value} (h : w.ownsRow base e size v n xs) (hn : 0 < n) :
    ∃ g cap, v = .slice (some ⟨g, 0, none⟩) n cap ∧ base ≤ g ∧ n ≤ cap ∧ cap ≤ maxLen ∧ g < w.heap.size ∧ ∀ (j : Nat) u, xs[j]? = some u → w.cell? ⟨g, j, none⟩ = some u := by
  obtain ⟨h1, h2⟩ := h
  rcases h2 with ⟨_, h⟩ | ⟨g, cap, cur, hv, hg, hh, hc, hm, hs, ht⟩
  · omega
  refine ⟨g, cap, hv, hg, hc, hm, ?_, fun j u hj => ?_⟩
  · by_cases hb : g < w.heap.size
    · exact hb
    · rw [Array.getElem?_eq_none (by omega)] at hh; cases hh
  · unfold World.cell?
    rw [hh]
    have hjl : j < n * size := by have := (List.getElem?_eq_some_iff.1 hj).1; omega
    rw [← ht, List.getElem?_take_of_lt hjl] at hj
    simpa using hj

theorem Hits.of_cells {w : World} {b n : Nat} {A W : Nat → Int} (hin : ∀ i, i < n → in64 (A i)) (h : ∀ (j : Nat) u, (hitCells A W n)[j]? = some u → w.cell? ⟨b, j, none⟩ = some u) : Hits w b 0 n A W :=
  ⟨fun i hi => by rw [Nat.zero_add]; exact h _ _ (hitCells_get A W n i hi).1, fun i hi => by rw [Nat.zero_add]; exact h _ _ (hitCells_get A W n i hi).2, hin⟩
theorem Hits.cells {w : World} {b off n : Nat} {A W : Nat → Int} (h : Hits w b off n A W) : ∀ (j : Nat) u, (hitCells A W n)[j]? = some u → w.cell? ((⟨b, off, none⟩ : Addr).add j) = some u := by
  intro j u hj
  have hl : j < n * 2 := by have := (List.getElem?_eq_some_iff.1 hj).1; rwa [hitCells_len] at this
  have ha : (⟨b, off, none⟩ : Addr).add j = ⟨b, off + j, none⟩ := by unfold Addr.add; split <;> simp_all
  rw [ha]
  have g := hitCells_get A W n (j / 2) (by omega)
  by_cases e : j % 2 = 0
  · have q : j / 2 * 2 = j := by omega
    rw [q] at g
    have := h.at_ (j / 2) (by omega)
    rw [q] at this
    rw [this, ← g.1, hj]
  · have q : j / 2 * 2 + 1 = j := by omega
    rw [q] at g
    have := h.wh (j / 2) (by omega)
    rw [Nat.add_assoc, q] at this
    rw [this, ← g.2, hj]
theorem Hits.below {w w' : World} {B b off n : Nat} {A W : Nat → Int} (h : Hits w b off n A W) (hb : Below B w w') (hB : b < B) : Hits w' b off n A W :=
  ⟨fun i hi => (hb.cell (p := ⟨b, _, none⟩) hB).trans (h.at_ i hi), fun i hi => (hb.cell (p := ⟨b, _, none⟩) hB).trans (h.wh i hi), h.inA⟩

theorem Hits.drewN {w : World} {b off n : Nat} {A W : Nat → Int} (h : Hits w b off n A W) (m : Nat) : Hits (w.drewN m) b off n A W := ⟨h.at_, h.wh, h.inA⟩
theorem Below.drewN' {B : Nat} {w w' : World} (h : Below B w w') (m : Nat) : Below B w (w'.drewN m) := ⟨h.os, h.tape, h.output, h.size, h.block⟩
theorem info44 : (Try.prog.info? 44).map (fun i => (i.zero, i.size, i.bytes)) = some (some (.agg #[.int .i64 0, .int .i64 0]), 2, 16) := by kernel_rfl

set_option maxHeartbeats 400000 in
theorem law_some (b off n cap : Nat) (A W : Nat → Int) (wd : Int) (w : World) (h0 : 0 < n) (hn : n * 16 ≤ 140737488351232) (hwd : in64 wd) (H : Hits w b off n A W) (hb : b < w.heap.size) :
    Calls Try.prog 3 #[.slice (some ⟨b, off, none⟩) n cap, .int .i64 wd] w fun e w' => e = .returned (.bool true) ∧ Below w.heap.size w w' := by
  obtain ⟨i0, hi, hz0, hz1, hz2⟩ := info_parts info44
  have hnil : w.ownsRow w.heap.size 44 2 (.slice none 0 0) 0 [] := ⟨by simp, .inl ⟨rfl, rfl⟩⟩
  have HH := Lib.hid H
  have HNil := Lib.hid hnil
  clear H hnil
  go_enter Try.func3, Try.ntmps3
  go_wp2_with (first
    | (at_builtin; refine wpList_append_own _ rfl (.tmp 7) (.tmp 8) 22 rfl w.heap.size 44 i0 (.agg #[.int .i64 0, .int .i64 0]) 2 16 Try.underlying22 hi hz0 hz1 hz2 rfl (by decide) _ 0 [] rfl HNil.out ⟨b, off, none⟩ n cap (hitCells A W n) rfl (hitCells_len A W n) HH.out.cells (hitCells_one A W n) (by unfold maxLen; omega) (by omega) (Nat.le_refl _) ?_; intro v' w1 hown hgrow _))
  rw [Nat.zero_add, List.nil_append] at hown
  have hbel : Below w.heap.size w w1 := (Below.refl _ _).grown hgrow (Nat.le_refl _) (fun k h => by cases h)
  obtain ⟨g, gc, rfl, hg, hc, hm, hgl, hcell⟩ := own_cell hown h0
  have H1 := Lib.hid (Hits.of_cells HH.out.inA hcell)
  have H2 := Lib.hid (HH.out.below hbel hb)
  clear hown hgrow hcell
  have HB := Lib.hid hbel
  clear hbel
  have C1 := Lib.hid (overlap_any g 0 n gc A W wd w1 (by unfold maxLen; omega) hwd H1.out)
  refine C1.out.mono ?_
  rintro e w2 ⟨r, rfl, hr, m, rfl⟩
  have HR := Lib.hid hr
  clear hr
  have C2 := Lib.hid (refOverlap_any b off n cap A W wd (w1.drewN m) (by unfold maxLen; omega) hwd (H2.out.drewN m))
  go_wp2_with (first
    | (go_at_call 15; refine C2.out.mono ?_; rintro e w2 ⟨r', rfl, hr', m', rfl⟩; obtain rfl := HR.out.unique hr'; clear hr')
    | (go_at_call 16; refine (sameHits_true g 0 gc b off cap n A W _ (by unfold maxLen; omega) (H1.out.drewN _) (H2.out.drewN _)).mono ?_; rintro e w2 ⟨rfl, m'', rfl⟩))
  go_ret
  exact ⟨rfl, Below.drewN' HB.out _⟩
end Go.Proofs.Ythkaicbkcaiffaa
