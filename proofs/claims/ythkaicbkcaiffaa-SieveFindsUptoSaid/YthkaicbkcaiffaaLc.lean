/-
  made: the program's sieve and the reference's, of one list of patterns. Conditions: none.
-/
import Derived.Test.YthkaicbkcaiffaaLb
import Derived.Test.YthkaicbkcaiffaaY
import Derived.Test.YthkaicbkcaiffaaV
namespace Go.Proofs.Ythkaicbkcaiffaa
open Go.RowKit

theorem SieveAt.frame {w w' : World} {base sb tb mb nb cap wd n : Nat} {T : Tb} (h : SieveAt w base sb tb mb nb cap wd n T) (hk : ∀ k, base ≤ k → k < w.heap.size → w'.heap[k]? = w.heap[k]?) : SieveAt w' base sb tb mb nb cap wd n T :=
  ⟨(hk sb h.b0 h.head.lt).trans h.head, ⟨(hk tb h.tab.b1 h.tab.head.lt).trans h.tab.head, h.tab.map.of_block (hk mb h.tab.b2 h.tab.map.lt), row_of_block h.tab.row (hk nb (row_cells h.tab.row).1 (row_cells h.tab.row).2.2.2.1), h.tab.b1, h.tab.b2⟩, h.b0⟩
theorem RefAt.frame {w w' : World} {base rb wd : Nat} {ps : List ByteArray} {lv : Value} {F : Nat → Value} (h : RefAt w base rb wd ps lv F) (hk : ∀ k, base ≤ k → k < w.heap.size → w'.heap[k]? = w.heap[k]?) : RefAt w' base rb wd ps lv F := by
  obtain ⟨cs, c0, c1, c2, c3⟩ := h.head
  exact ⟨⟨cs, (hk rb h.b0 c0.lt).trans c0, c1, c2, c3⟩, own_same h.strs fun b q => hk b (h.strs.lt b q).1 (h.strs.lt b q).2, fun b hb' => own_same (h.idx b hb') fun x q => hk x ((h.idx b hb').lt x q).1 ((h.idx b hb').lt x q).2, h.apart, h.b0⟩

theorem newE0 {ps : List ByteArray} (h : newE ps = 0) : ps.length ≤ 4096 ∧ (∀ i, i < ps.length → lenOk ps (ps.getD i .empty)) ∧ (ps.map bts).Nodup := by
  unfold newE at h
  split at h
  · cases h
  · split at h
    · cases h
    · rename_i h1 h2
      split at h
      · rename_i h3
        exact ⟨by omega, fun i hi => Classical.byContradiction fun hn => h2 ⟨i, hi, hn⟩, h3⟩
      · cases h
theorem wd_le {ps : List ByteArray} (h : newE ps = 0) : wdOf ps ≤ 64 := by
  by_cases h0 : 0 < ps.length
  · exact ((newE0 h).2.1 0 h0).2.2
  · have : ps = [] := List.length_eq_zero_iff.1 (by omega)
    subst this; decide
theorem wd_pos {ps : List ByteArray} (h : newE ps = 0) (h0 : 0 < ps.length) : 1 ≤ wdOf ps := ((newE0 h).2.1 0 h0).2.1
theorem wd_nil {ps : List ByteArray} (h0 : ps.length = 0) : ps = [] ∧ wdOf ps = 0 := by
  have : ps = [] := List.length_eq_zero_iff.1 h0
  subst this; exact ⟨rfl, rfl⟩

theorem new_ok {w : World} {ao : Option Addr} {cap n : Nat} {ps : List ByteArray} (hn : ps.length = n) (hs : Strs w ao ps) (h0 : newE ps = 0) :
    Calls Try.prog 37 #[.slice ao n cap] w fun e w' => ∃ sb tb mb nb cap T, e = .returned (.tuple #[.pointer (some ⟨sb, 0, none⟩), .int .i64 0]) ∧ Below w.heap.size w w' ∧ SieveAt w' w.heap.size sb tb mb nb cap (wdOf ps) ps.length T ∧ Auto T (ps.map bts) (wdOf ps) := by
  refine (new_any ao cap n ps hn hs).mono fun e w' ⟨hb, er, o, ho, hm⟩ => ?_
  have hsay := new_says ho
  cases o with
  | none => exact absurd (hsay.1.trans h0) hsay.2
  | some T =>
    obtain ⟨sb, tb, mb, nb, cap, he, hS⟩ := hm
    exact ⟨sb, tb, mb, nb, cap, T, he, hb, hS, hsay.2.2⟩
theorem new_err {w : World} {ao : Option Addr} {cap n : Nat} {ps : List ByteArray} (hn : ps.length = n) (hs : Strs w ao ps) (h0 : newE ps ≠ 0) :
    Calls Try.prog 37 #[.slice ao n cap] w fun e w' => e = .returned (.tuple #[.pointer none, .int .i64 (newE ps : Int)]) ∧ Below w.heap.size w w' := by
  refine (new_any ao cap n ps hn hs).mono fun e w' ⟨hb, er, o, ho, hm⟩ => ?_
  have hsay := new_says ho
  cases o with
  | none => rw [← hsay.1]; exact ⟨hm, hb⟩
  | some T => exact absurd (hsay.1.symm.trans hsay.2.1) h0
theorem ref_ok {w : World} {ao : Option Addr} {cap n : Nat} {ps : List ByteArray} (hn : ps.length = n) (hs : Strs w ao ps) (h0 : newE ps = 0) :
    Calls Try.prog 60 #[.slice ao n cap] w fun e w' => ∃ rb lv F, e = .returned (.tuple #[.pointer (some ⟨rb, 0, none⟩), .int .i64 0]) ∧ Below w.heap.size w w' ∧ RefAt w' w.heap.size rb (wdOf ps) ps lv F := by
  refine (refNew_any ao cap n ps hn hs).mono fun e w' ⟨hb, h⟩ => ?_
  rcases h with ⟨h1, _⟩ | ⟨_, rb, lv, F, he, hR⟩
  · exact absurd h0 h1
  · exact ⟨rb, lv, F, he, hb, hR⟩
theorem ref_err {w : World} {ao : Option Addr} {cap n : Nat} {ps : List ByteArray} (hn : ps.length = n) (hs : Strs w ao ps) (h0 : newE ps ≠ 0) :
    Calls Try.prog 60 #[.slice ao n cap] w fun e w' => e = .returned (.tuple #[.pointer none, .int .i64 (newE ps : Int)]) ∧ Below w.heap.size w w' := by
  refine (refNew_any ao cap n ps hn hs).mono fun e w' ⟨hb, h⟩ => ?_
  rcases h with ⟨_, he⟩ | ⟨h1, _⟩
  · exact ⟨he, hb⟩
  · exact absurd h1 h0

/-- The two sieves of one list; or two nils. -/
def Pair (w : World) (ps : List ByteArray) (av bv : Value) : Prop :=
  (newE ps ≠ 0 ∧ av = .pointer none ∧ bv = .pointer none) ∨
  (newE ps = 0 ∧ ∃ b1 b2 sb tb mb nb cap T rb lv F, av = .pointer (some ⟨sb, 0, none⟩) ∧ bv = .pointer (some ⟨rb, 0, none⟩) ∧ SieveAt w b1 sb tb mb nb cap (wdOf ps) ps.length T ∧ Auto T (ps.map bts) (wdOf ps) ∧ RefAt w b2 rb (wdOf ps) ps lv F)
theorem Pair.below {w w' : World} {ps : List ByteArray} {av bv : Value} (h : Pair w ps av bv) (hb : Below w.heap.size w w') : Pair w' ps av bv := by
  rcases h with h | ⟨h0, b1, b2, sb, tb, mb, nb, cap, T, rb, lv, F, h1, h2, h3, h4, h5⟩
  · exact .inl h
  · exact .inr ⟨h0, b1, b2, sb, tb, mb, nb, cap, T, rb, lv, F, h1, h2, h3.below hb, h4, h5.below hb⟩
theorem Pair.drewN {w : World} {ps : List ByteArray} {av bv : Value} (h : Pair w ps av bv) (q : Nat) : Pair (w.drewN q) ps av bv := h.below (Below.drewN_self w q)
def MadePost (ps : List ByteArray) (w : World) (e : Ending) (w' : World) : Prop := Below w.heap.size w w' ∧ ∃ av bv, e = .returned (.tuple #[av, bv, .bool true]) ∧ Pair w' ps av bv
/-- The writing over of the list: only its block turns. -/
def Own (g n : Nat) (w wr : World) : Prop := (∃ cs, Blk wr g 9 cs ∧ cs.size = n + 2) ∧ Keep w.heap.size (fun k => k = g) w wr

theorem Strs.of_blk {w : World} {g : Nat} {ps : List ByteArray} {l : List Value} (h : Blk w g 9 (ps.map Value.string ++ l).toArray) : Strs w (some ⟨g, 0, none⟩) ps := fun h0 =>
  ⟨g, 0, rfl, h.lt, fun i hi => by
    rw [Nat.zero_add]; exact h.cell (by simp only [List.getElem?_toArray]; rw [List.getElem?_append_left (by simpa using hi)]; simp [List.getD, hi])⟩
theorem Own.start {w : World} {g n : Nat} {cs : Array Value} (h : Blk w g 9 cs) (hs : cs.size = n + 2) : Own g n w w := ⟨⟨cs, h, hs⟩, Keep.refl _ _ _⟩
theorem Own.set {w wr : World} {g n k : Nat} {v : Value} (h : Own g n w wr) : Own g n w (wr.setCell ⟨g, k, none⟩ v) := by
  obtain ⟨⟨cs, h1, h2⟩, h3⟩ := h
  exact ⟨⟨_, h1.set, by simpa using h2⟩, h3.setCell (.inr rfl) _⟩
theorem Own.cell {w wr : World} {g n k : Nat} (h : Own g n w wr) (hk : k < n + 2) : (∃ u, wr.cell? ⟨g, k, none⟩ = some u) ∧ wr.frozen? ⟨g, k, none⟩ = false := by
  obtain ⟨⟨cs, h1, h2⟩, h3⟩ := h
  exact ⟨⟨_, h1.cell (Array.getElem?_eq_getElem (by omega))⟩, h1.free⟩
theorem Own.below {w0 w wr : World} {g n : Nat} (h : Own g n w wr) (hb : Below w0.heap.size w0 w) (hg : w0.heap.size ≤ g) : Below w0.heap.size w0 wr :=
  hb.trans ⟨h.2.os, h.2.tape, h.2.output, h.2.size, fun k hk => h.2.block k (Nat.lt_of_lt_of_le hk hb.size) (by omega)⟩
theorem Own.pair {w wr : World} {g n : Nat} {ps : List ByteArray} {sb tb mb nb cap rb B1 B2 : Nat} {T : Tb} {lv : Value} {F : Nat → Value} (h : Own g n w wr) (h0 : newE ps = 0) (h1 : SieveAt w B1 sb tb mb nb cap (wdOf ps) ps.length T) (h2 : Auto T (ps.map bts) (wdOf ps)) (h3 : RefAt w B2 rb (wdOf ps) ps lv F)
    (g1 : g < B1) (g2 : g < B2) : Pair wr ps (.pointer (some ⟨sb, 0, none⟩)) (.pointer (some ⟨rb, 0, none⟩)) :=
  .inr ⟨h0, B1, B2, sb, tb, mb, nb, cap, T, rb, lv, F, rfl, rfl, h1.frame fun k a b => h.2.block k b (by omega), h2, h3.frame fun k a b => h.2.block k b (by omega)⟩

set_option maxRecDepth 100000 in
set_option maxHeartbeats 1000000 in
theorem made_ok {w : World} (ao : Option Addr) (n c : Nat) (ps : List ByteArray) (hn : ps.length = n) (hl : Strs w ao ps) (hmax : n ≤ 1099511627776) (h0 : newE ps = 0) :
    Calls Try.prog 17 #[.slice ao n c] w (MadePost ps w) := by
  have HL := Lib.hid hl
  have HN := Lib.hid hn
  have H0 := Lib.hid h0
  have C41 := Lib.hid (texts_any ao n c ps hn hl hmax)
  clear hl hn h0
  go_enter Try.func17, Try.ntmps17
  go_wp2_with (first
    | (go_at_call 41; refine C41.out.mono ?_; rintro e w1 ⟨rfl, hblk, hb1⟩; have HBK := Lib.hid hblk; have HB1 := Lib.hid hb1; clear hblk hb1)
    | (go_at_call 37; refine (new_ok HN.out (Strs.of_blk HBK.out) H0.out).mono ?_; rintro e w2 ⟨sb, tb, mb, nb, cap, T, rfl, hb2, hS, hA⟩; have HB2 := Lib.hid hb2; have HS := Lib.hid hS; have HA := Lib.hid hA; clear hb2 hS hA)
    | (go_at_call 60; refine (ref_ok HN.out ((HL.out.below HB1.out).below (HB2.out.mono (Nat.le_refl _))) H0.out).mono ?_; rintro e w3 ⟨rb, lv, F, rfl, hb3, hR⟩; have HB3 := Lib.hid hb3; have HR := Lib.hid hR; clear hb3 hR)
    | (go_at_call 44; have hbk3 := Blk.below (Blk.below HBK.out HB2.out HBK.out.lt) HB3.out (Blk.below HBK.out HB2.out HBK.out.lt).lt; have HBK3 := Lib.hid hbk3; clear hbk3; refine (stood_any w.heap.size ao n (n + 2) c ps HN.out (Strs.of_blk HBK3.out) (((HL.out.below HB1.out).below HB2.out).below HB3.out) (HBK3.out.cell (by rw [← HN.out]; simp)) (Nat.le_refl _) hmax).mono ?_; rintro e w4 ⟨rfl, m, rfl⟩))
  have HO := Lib.hid (Own.start (n := n) (HBK3.out.drewN (n := m)) (by rw [← HN.out]; simp))
  go_loopw [11] (fun i wr => ∃ k : Nat, k ≤ n ∧ i = .int .i64 k ∧ Own w.heap.size n (w3.drewN m) wr) (fun i _ => n - (intOf i).toNat)
  case atStart => exact ⟨0, by omega, rfl, HO.out⟩
  case round =>
    obtain ⟨k, hk, rfl, hO⟩ := hrel
    by_cases hlt : k < n
    · obtain ⟨⟨u, hu⟩, hf⟩ := hO.cell (k := k) (by omega)
      have HO2 := Lib.hid (hO.set (k := k) (v := .string ⟨#[119, 114, 105, 116, 116, 101, 110, 32, 111, 118, 101, 114]⟩))
      clear hO
      go_wp2
      go_roundw
      case rel => exact ⟨k + 1, by omega, by go_num, HO2.out⟩
      case measure => simp [intOf]; omega
    · go_wp2
      go_ret3
      have hw1 : w.heap.size < w1.heap.size := HBK.out.lt
      have hb3 : Below w.heap.size w w3 := (HB1.out.trans (HB2.out.mono (by omega))).trans (HB3.out.mono (by have := HB2.out.size; omega))
      refine ⟨hO.below (Below.drewN' hb3 m) (Nat.le_refl _), _, _, rfl, hO.pair H0.out ((HS.out.below HB3.out).below (Below.drewN_self _ _)) HA.out (HR.out.below (Below.drewN_self _ _)) (by omega) (by have := HB2.out.size; omega)⟩

set_option maxRecDepth 100000 in
set_option maxHeartbeats 1000000 in
theorem made_err {w : World} (ao : Option Addr) (n c : Nat) (ps : List ByteArray) (hn : ps.length = n) (hl : Strs w ao ps) (hmax : n ≤ 1099511627776) (h0 : newE ps ≠ 0) :
    Calls Try.prog 17 #[.slice ao n c] w (MadePost ps w) := by
  have HL := Lib.hid hl
  have HN := Lib.hid hn
  have H0 := Lib.hid h0
  have C41 := Lib.hid (texts_any ao n c ps hn hl hmax)
  obtain ⟨er, her⟩ : ∃ er, newE ps = er := ⟨_, rfl⟩
  have HE := Lib.hid her
  clear hl hn h0 her
  go_enter Try.func17, Try.ntmps17
  go_wp2_with (first
    | (go_at_call 41; refine C41.out.mono ?_; rintro e w1 ⟨rfl, hblk, hb1⟩; have HBK := Lib.hid hblk; have HB1 := Lib.hid hb1; clear hblk hb1)
    | (go_at_call 37; refine (new_err HN.out (Strs.of_blk HBK.out) H0.out).mono ?_; rw [HE.out]; rintro e w2 ⟨rfl, hb2⟩; have HB2 := Lib.hid hb2; clear hb2)
    | (go_at_call 60; refine (ref_err HN.out ((HL.out.below HB1.out).below (HB2.out.mono (Nat.le_refl _))) H0.out).mono ?_; rw [HE.out]; rintro e w3 ⟨rfl, hb3⟩; have HB3 := Lib.hid hb3; clear hb3)
    | (go_at_call 44; have hbk3 := Blk.below (Blk.below HBK.out HB2.out HBK.out.lt) HB3.out (Blk.below HBK.out HB2.out HBK.out.lt).lt; have HBK3 := Lib.hid hbk3; clear hbk3; refine (stood_any w.heap.size ao n (n + 2) c ps HN.out (Strs.of_blk HBK3.out) (((HL.out.below HB1.out).below HB2.out).below HB3.out) (HBK3.out.cell (by rw [← HN.out]; simp)) (Nat.le_refl _) hmax).mono ?_; rintro e w4 ⟨rfl, m, rfl⟩))
  have HO := Lib.hid (Own.start (n := n) (HBK3.out.drewN (n := m)) (by rw [← HN.out]; simp))
  go_loopw [11] (fun i wr => ∃ k : Nat, k ≤ n ∧ i = .int .i64 k ∧ Own w.heap.size n (w3.drewN m) wr) (fun i _ => n - (intOf i).toNat)
  case atStart => exact ⟨0, by omega, rfl, HO.out⟩
  case round =>
    obtain ⟨k, hk, rfl, hO⟩ := hrel
    by_cases hlt : k < n
    · obtain ⟨⟨u, hu⟩, hf⟩ := hO.cell (k := k) (by omega)
      have HO2 := Lib.hid (hO.set (k := k) (v := .string ⟨#[119, 114, 105, 116, 116, 101, 110, 32, 111, 118, 101, 114]⟩))
      clear hO
      go_wp2
      go_roundw
      case rel => exact ⟨k + 1, by omega, by go_num, HO2.out⟩
      case measure => simp [intOf]; omega
    · go_wp2
      go_ret3
      have hw1 : w.heap.size < w1.heap.size := HBK.out.lt
      have hb3 : Below w.heap.size w w3 := (HB1.out.trans (HB2.out.mono (by omega))).trans (HB3.out.mono (by have := HB2.out.size; omega))
      exact ⟨hO.below (Below.drewN' hb3 m) (Nat.le_refl _), _, _, rfl, .inl ⟨H0.out, rfl, rfl⟩⟩
theorem made_any {w : World} (ao : Option Addr) (n c : Nat) (ps : List ByteArray) (hn : ps.length = n) (hl : Strs w ao ps) (hmax : n ≤ 1099511627776) :
    Calls Try.prog 17 #[.slice ao n c] w (MadePost ps w) := by
  by_cases h0 : newE ps = 0
  · exact made_ok ao n c ps hn hl hmax h0
  · exact made_err ao n c ps hn hl hmax h0
end Go.Proofs.Ythkaicbkcaiffaa
