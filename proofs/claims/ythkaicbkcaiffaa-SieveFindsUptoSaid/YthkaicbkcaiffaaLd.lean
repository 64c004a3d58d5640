/-
  SieveBegins: the law's walk. Conditions: the sizes are below 2^40.
-/
import Derived.Test.YthkaicbkcaiffaaLc
namespace Go.Proofs.Ythkaicbkcaiffaa
open Go.RowKit

theorem SrcB.of_own {w : World} {base n cap g : Nat} {l m : List Nat} (h : w.ownsRow base 5 1 (.slice (some ⟨g, 0, none⟩) n cap) n ((l ++ m).map fun x : Nat => .int .u8 (x : Int))) : SrcB w g 0 l := by
  obtain ⟨cur, h1, h2, h3⟩ := (row_cells h).2.2.2.2.1
  refine ⟨cur, (0, 0), h1, fun i hi => ?_⟩
  rw [Nat.zero_add]
  have h4 : (cur.toList.take (n * 1))[i]? = some (.int .u8 (l.getD i 0 : Nat)) := by
    rw [h3, List.getElem?_map, List.getElem?_append_left hi]; simp [List.getD, hi]
  have hlt : i < n * 1 := by
    have := (List.getElem?_eq_some_iff.1 h4).1
    rw [List.length_take] at this; omega
  rw [List.getElem?_take_of_lt hlt] at h4
  simpa using h4
theorem own_bytes {w : World} {base n cap g : Nat} {l : List Nat} (h : w.ownsRow base 5 1 (.slice (some ⟨g, 0, none⟩) n cap) n (l.map fun x : Nat => .int .u8 (x : Int))) : ByteCells w g 0 l := by
  have h2 := SrcB.of_own (m := []) (by rw [List.append_nil]; exact h)
  exact h2.cells
theorem refScan_zero {w : World} {base rb : Nat} {ps : List ByteArray} {lv : Value} {F : Nat → Value} (ao : Option Addr) (m c : Nat) (h : RefAt w base rb 0 ps lv F) : Calls Try.prog 24 #[.pointer (some ⟨rb, 0, none⟩), .slice ao m c] w fun e w' => e = .returned (.slice none 0 0) ∧ w' = w := by
  have k2 : w.cell? ⟨rb, 257, none⟩ = some (.int .i64 0) := by obtain ⟨cs, c0, c1, c2, c3⟩ := h.head; exact c0.cell c2
  clear h
  go_enter Try.func24, Try.ntmps24
  go_wp2
  go_ret
  exact ⟨rfl, rfl⟩
theorem hitsOf_nil (wd at_ : Nat) (D l : List Nat) : hitsOf [] wd at_ D l = [] := by
  induction l generalizing at_ D with
  | nil => rfl
  | cons b l ih => simp [hitsOf, endK, hitOf, ih]

theorem ByteCells.drewN {w : World} {b off : Nat} {l : List Nat} (h : ByteCells w b off l) (q : Nat) : ByteCells (w.drewN q) b off l := h
/-- Both scans find the same hits, in rows of their own. -/
def Scans (w : World) (h1 h2 : Value) (hs : List (Int × Nat)) : Prop := (∃ b, w.ownsRow b 44 2 h1 hs.length (hcs hs)) ∧ ∃ b, w.ownsRow b 44 2 h2 hs.length (hcs hs)
theorem sameHits_scans {w : World} {h1 h2 : Value} {hs : List (Int × Nat)} (h : Scans w h1 h2 hs) (hmax : hs.length ≤ 1099511627776) : Calls Try.prog 16 #[h1, h2] w fun e w' => e = .returned (.bool true) ∧ ∃ m, w' = w.drewN m := by
  obtain ⟨⟨b1, r1⟩, b2, r2⟩ := h
  obtain ⟨ao, c, rfl⟩ := own_form r1
  obtain ⟨bo, c', rfl⟩ := own_form r2
  exact sameHits_rows rfl r1 r2 hmax

/-- The program's Scan, whatever the sieve is. -/
theorem scanA {w : World} {ps : List ByteArray} {av bv : Value} {ao : Option Addr} {m c : Nat} {l : List Nat} (h : Pair w ps av bv) (hm : l.length = m) (hl : Dat w ao l) (hb : ∀ b ∈ l, b < 256) (hmax : m < 1099511627776) :
    Calls Try.prog 23 #[av, .slice ao m c] w fun e w' => ∃ hv, e = .returned hv ∧ Below w.heap.size w w' ∧ w'.ownsRow w.heap.size 44 2 hv (if newE ps = 0 then hitsOf (ps.map bts) (wdOf ps) 0 [] l else []).length (hcs (if newE ps = 0 then hitsOf (ps.map bts) (wdOf ps) 0 [] l else [])) := by
  rcases h with ⟨h0, rfl, _⟩ | ⟨h0, b1, b2, sb, tb, mb, nb, cap, T, rb, lv, F, rfl, _, h3, h4, _⟩
  · simp only [if_neg h0]
    exact (scan_nil ao m c w).mono fun e w' ⟨he, hw⟩ => ⟨_, he, hw ▸ Below.refl _ _, World.ownsRow_nil _ _ _ _⟩
  · simp only [if_pos h0]
    exact scan_at h3 h4 (wd_le h0) hm hl hb hmax
theorem scanB {w : World} {ps : List ByteArray} {av bv : Value} {ao : Option Addr} {m c : Nat} {l : List Nat} (h : Pair w ps av bv) (hm : l.length = m) (hmc : m ≤ c) (hl : Byt w ao l) (hb : ∀ b ∈ l, b < 256) (hmax : m < 1099511627776) :
    Calls Try.prog 24 #[bv, .slice ao m c] w fun e w' => ∃ hv, e = .returned hv ∧ Below w.heap.size w w' ∧ w'.ownsRow w.heap.size 44 2 hv (if newE ps = 0 then hitsOf (ps.map bts) (wdOf ps) 0 [] l else []).length (hcs (if newE ps = 0 then hitsOf (ps.map bts) (wdOf ps) 0 [] l else [])) := by
  rcases h with ⟨h0, _, rfl⟩ | ⟨h0, b1, b2, sb, tb, mb, nb, cap, T, rb, lv, F, _, rfl, _, _, h5⟩
  · simp only [if_neg h0]
    exact (refScan_nil ao m c w).mono fun e w' ⟨he, hw⟩ => ⟨_, he, hw ▸ Below.refl _ _, World.ownsRow_nil _ _ _ _⟩
  · simp only [if_pos h0]
    by_cases hz : 0 < ps.length
    · have hw1 := wd_pos h0 hz
      refine (refScan_at h5 hm hmc hb (newE0 h0).1 (wd_le h0) hw1 (newE0 h0).2.2 hmax (fun q => ?_)).mono fun e w' ⟨hv, he, hr⟩ => ⟨hv, he, hr.1, ?_⟩
      · obtain ⟨b, off, e1, _, e2⟩ := hl (by omega)
        exact ⟨b, off, e1, e2⟩
      · have := hr.2
        rw [hits_same hw1 (fun p hp => (pats_ok (newE0 h0).2.1 p hp).1) l, hm]
        exact this
    · obtain ⟨e1, e2⟩ := wd_nil (ps := ps) (by omega)
      rw [e2] at h5
      refine (refScan_zero ao m c h5).mono fun e w' ⟨he, hw⟩ => ⟨_, he, hw ▸ Below.refl _ _, ?_⟩
      rw [e1, show ([] : List ByteArray).map bts = [] from rfl, hitsOf_nil]
      exact World.ownsRow_nil _ _ _ _
theorem lenA {w : World} {ps : List ByteArray} {av bv : Value} (h : Pair w ps av bv) : Calls Try.prog 18 #[av] w fun e w' => e = .returned (.int .i64 ((if newE ps = 0 then ps.length else 0 : Nat) : Int)) ∧ w' = w := by
  rcases h with ⟨h0, rfl, _⟩ | ⟨h0, b1, b2, sb, tb, mb, nb, cap, T, rb, lv, F, rfl, _, h3, h4, _⟩
  · simp only [if_neg h0]; exact len_nil w
  · simp only [if_pos h0]; exact len_at h3
theorem lenB {w : World} {ps : List ByteArray} {av bv : Value} (h : Pair w ps av bv) : Calls Try.prog 19 #[bv] w fun e w' => e = .returned (.int .i64 ((if newE ps = 0 then ps.length else 0 : Nat) : Int)) ∧ w' = w := by
  rcases h with ⟨h0, _, rfl⟩ | ⟨h0, b1, b2, sb, tb, mb, nb, cap, T, rb, lv, F, _, rfl, _, _, h5⟩
  · simp only [if_neg h0]; exact refLen_nil w
  · simp only [if_pos h0]; exact refLen_at h5
theorem widthA {w : World} {ps : List ByteArray} {av bv : Value} (h : Pair w ps av bv) : Calls Try.prog 20 #[av] w fun e w' => e = .returned (.int .i64 ((if newE ps = 0 then wdOf ps else 0 : Nat) : Int)) ∧ w' = w := by
  rcases h with ⟨h0, rfl, _⟩ | ⟨h0, b1, b2, sb, tb, mb, nb, cap, T, rb, lv, F, rfl, _, h3, h4, _⟩
  · simp only [if_neg h0]; exact width_nil w
  · simp only [if_pos h0]; exact width_at h3
theorem widthB {w : World} {ps : List ByteArray} {av bv : Value} (h : Pair w ps av bv) : Calls Try.prog 21 #[bv] w fun e w' => e = .returned (.int .i64 ((if newE ps = 0 then wdOf ps else 0 : Nat) : Int)) ∧ w' = w := by
  rcases h with ⟨h0, _, rfl⟩ | ⟨h0, b1, b2, sb, tb, mb, nb, cap, T, rb, lv, F, _, rfl, _, _, h5⟩
  · simp only [if_neg h0]; exact refWidth_nil w
  · simp only [if_pos h0]; exact refWidth_at h5

set_option maxRecDepth 100000 in
set_option maxHeartbeats 1000000 in
theorem begins_any {w : World} (po ao : Option Addr) (n c m c' : Nat) (ps : List ByteArray) (l : List Nat) (hn : ps.length = n) (hm : l.length = m) (hp : Strs w po ps) (hl : Byt w ao l) (hb : ∀ b ∈ l, b < 256) (hmc : m ≤ c') (hmax : n ≤ 1048576) (hmm : m ≤ 1048576) :
    Calls Try.prog 4 #[.slice po n c, .slice ao m c'] w fun e w' => e = .returned (.bool true) ∧ Below w.heap.size w w' := by
  have HL := Lib.hid hl
  have HM := Lib.hid hm
  have HB := Lib.hid hb
  have C17 := Lib.hid (made_any po n c ps hn hp (by omega))
  obtain ⟨L, hL⟩ : ∃ L : Nat, (if newE ps = 0 then ps.length else 0) = L := ⟨_, rfl⟩
  obtain ⟨Wd, hW⟩ : ∃ L : Nat, (if newE ps = 0 then wdOf ps else 0) = L := ⟨_, rfl⟩
  obtain ⟨hs, hhs⟩ : ∃ hs, (if newE ps = 0 then hitsOf (ps.map bts) (wdOf ps) 0 [] l else []) = hs := ⟨_, rfl⟩
  have hN : hs.length ≤ 1048576 := by
    rw [← hhs]; split
    · exact Nat.le_trans (hitsOf_len _ _ _ _ _) (by omega)
    · simp
  have HLn := Lib.hid hL
  have HWd := Lib.hid hW
  have HHs := Lib.hid hhs
  clear hl hm hb hp hn hL hW hhs
  go_enter Try.func4, Try.ntmps4
  go_wp2_with (first
    | (go_at_call 17; refine C17.out.mono ?_; rintro e w1 ⟨hb1, av, bv, rfl, hP⟩; have HB1 := Lib.hid hb1; have HP := Lib.hid hP; clear hb1 hP)
    | (go_at_call 18; refine (lenA HP.out).mono ?_; rw [HLn.out]; rintro e w' ⟨rfl, rfl⟩)
    | (go_at_call 19; refine (lenB HP.out).mono ?_; rw [HLn.out]; rintro e w' ⟨rfl, rfl⟩)
    | (go_at_call 20; refine (widthA HP.out).mono ?_; rw [HWd.out]; rintro e w' ⟨rfl, rfl⟩)
    | (go_at_call 21; refine (widthB HP.out).mono ?_; rw [HWd.out]; rintro e w' ⟨rfl, rfl⟩)
    | (go_at_call 22; refine (roomy_any ao m c' l HM.out (HL.out.below HB1.out) (by omega)).mono ?_; rintro e w2 ⟨g, cap, rfl, hcap, hrow, hb2⟩; have HC := Lib.hid hcap; have HR := Lib.hid hrow; have HB2 := Lib.hid hb2; clear hcap hrow hb2; have hcap1 : m ≤ cap := (by have := HC.out; omega))
    | (go_at_call 23; refine (scanA (HP.out.below HB2.out) HM.out (fun _ => ⟨g, 0, rfl, SrcB.of_own HR.out⟩) HB.out (by omega)).mono ?_; rw [HHs.out]; rintro e w3 ⟨hv, rfl, hb3, hr3⟩; have HB3 := Lib.hid hb3; have HR3 := Lib.hid hr3; clear hb3 hr3)
    | (go_at_call 24; refine (scanB ((HP.out.below HB2.out).below HB3.out) HM.out hmc (((HL.out.below HB1.out).below HB2.out).below HB3.out) HB.out (by omega)).mono ?_; rw [HHs.out]; rintro e w4 ⟨hv', rfl, hb4, hr4⟩; have HB4 := Lib.hid hb4; have HR4 := Lib.hid hr4; clear hb4 hr4)
    | (go_at_call 16; refine (sameHits_scans (hs := hs) ⟨⟨_, own_same HR3.out fun x q => HB4.out.block x (HR3.out.lt x q).2⟩, _, HR4.out⟩ (by omega)).mono ?_; rintro e w5 ⟨rfl, q, rfl⟩)
    | (go_at_call 25; refine (kept_any g cap ao m c' l HM.out (((((HL.out.below HB1.out).below HB2.out).below HB3.out).below HB4.out).drewN q) ((((own_bytes HR.out).below HB3.out (HR.out.lt g rfl).2).below HB4.out (Nat.lt_of_lt_of_le (HR.out.lt g rfl).2 HB3.out.size)).drewN q) HC.out (by omega)).mono ?_; rintro e w6 ⟨rfl, q', rfl⟩))
  all_goals go_ret
  all_goals refine ⟨rfl, ?_⟩
  all_goals exact Below.drewN' (((HB1.out.trans (HB2.out.mono HB1.out.size)).trans (HB3.out.mono (Nat.le_trans HB1.out.size HB2.out.size))).trans (HB4.out.mono (Nat.le_trans (Nat.le_trans HB1.out.size HB2.out.size) HB3.out.size))) _
end Go.Proofs.Ythkaicbkcaiffaa
