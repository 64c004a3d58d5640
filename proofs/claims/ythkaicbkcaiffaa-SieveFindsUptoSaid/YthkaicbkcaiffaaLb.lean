/-
  kept, texts, stood, sameTexts, sameHits: the laws' helpers. Conditions: none.
-/
import Derived.Test.YthkaicbkcaiffaaL
namespace Go.Proofs.Ythkaicbkcaiffaa
open Go.RowKit

theorem conv_byt {w : World} {ao : Option Addr} {n c : Nat} {l : List Nat} (hn : l.length = n) (h : Byt w ao l) (q : Nat) : (convert 27 9 (.slice ao n c)).run Try.prog (w.drewN q) = .ok (.string (strN l)) (w.drewN q) := by
  by_cases h0 : 0 < n
  · obtain ⟨b, off, rfl, hb, hc⟩ := h (by omega)
    exact run_convert_bytes_arg (P := Try.prog) (w.drewN q) 27 5 Try.underlying27 Try.underlying5 b off n c (l.map fun x : Nat => (x : Int)) (by simp; omega) (fun i hi => by
      rw [show (w.drewN q).cell? ⟨b, off + i, none⟩ = w.cell? ⟨b, off + i, none⟩ from rfl, hc i (by omega)]
      simp [List.getD, show i < l.length by omega]) 9 Try.underlying9
  · obtain rfl : n = 0 := by omega
    obtain rfl : l = [] := List.length_eq_zero_iff.1 hn
    cases ao with
    | none => exact run_convert_bytes_nil (P := Try.prog) (w.drewN q) 27 5 Try.underlying27 Try.underlying5 0 c 9 Try.underlying9
    | some a =>
      rw [run_convert_bytes_string (P := Try.prog) (w.drewN q) 27 9 5 a 0 c Try.underlying27 Try.underlying5 Try.underlying9,
        run_bytesToString (P := Try.prog) (w.drewN q) a 0 c [] (by simp [loadCells, loadCellsFrom])]
      rfl

set_option maxRecDepth 100000 in
set_option maxHeartbeats 400000 in
theorem kept_any {w : World} (g cap : Nat) (ao : Option Addr) (n c : Nat) (l : List Nat) (hn : l.length = n) (hl : Byt w ao l) (hg : ByteCells w g 0 (l ++ [90, 165])) (hcap : n + 2 ≤ cap) (hmax : n ≤ 1099511627776) :
    Calls Try.prog 25 #[.slice (some ⟨g, 0, none⟩) (n + 2) cap, .slice ao n c] w fun e w' => e = .returned (.bool true) ∧ ∃ m, w' = w.drewN m := by
  have k1 := conv_byt (c := c) hn hl
  have k2 := conv_byt (w := w) (ao := some ⟨g, 0, none⟩) (c := cap) hn (fun h0 => ⟨g, 0, rfl, hg.lt' (by simp), fun i hi => by
    have e : List.getD (l ++ [90, 165]) i 0 = l.getD i 0 := by simp only [List.getD]; rw [List.getElem?_append_left hi]
    rw [hg i (by simp; omega), e]⟩)
  have c1 : w.cell? ⟨g, n, none⟩ = some (.int .u8 90) := by have := hg n (by simp; omega); rw [Nat.zero_add] at this; rw [this]; simp [List.getD, ← hn]
  have c2 : w.cell? ⟨g, n + 1, none⟩ = some (.int .u8 165) := by have := hg (n + 1) (by simp; omega); rw [Nat.zero_add] at this; rw [this]; simp [List.getD, ← hn]
  obtain ⟨s, hs⟩ : ∃ s, strN l = s := ⟨_, rfl⟩
  rw [hs] at k1 k2
  have e1 : IntKind.i64.wrap ((n : Int) + 1) = (n : Int) + 1 := IntWalk.i64_in _ (by omega)
  have e2 : ((n : Int) + 1).toNat = n + 1 := by omega
  have e3 : (0 : Int) ≤ (n : Int) + 1 := by omega
  have e4 : (n : Int) + 1 < (n : Int) + 2 := by omega
  have e5 : (n : Int) < (n : Int) + 2 := by omega
  clear hl hg hn hs
  go_enter Try.func25, Try.ntmps25
  go_upto_region 2 with fail
  go_quiet (fail)
  go_wp2
  go_ret
  exact ⟨rfl, _, rfl⟩

set_option maxRecDepth 100000 in
set_option maxHeartbeats 400000 in
theorem sameTexts_any {w : World} (ao bo : Option Addr) (n c c' : Nat) (ps : List ByteArray) (hn : ps.length = n) (ha : Strs w ao ps) (hb : Strs w bo ps) (hmax : n ≤ 1099511627776) :
    Calls Try.prog 69 #[.slice ao n c, .slice bo n c'] w fun e w' => e = .returned (.bool true) ∧ ∃ m, w' = w.drewN m := by
  have HA := Lib.hid ha
  have HB := Lib.hid hb
  have HN := Lib.hid hn
  clear ha hb hn
  go_enter Try.func69, Try.ntmps69
  go_wp2
  go_loopw [5] (fun i wr => ∃ k : Nat, k ≤ n ∧ i = .int .i64 k ∧ ∃ m, wr = w.drewN m) (fun i _ => n - (intOf i).toNat)
  case atStart => exact ⟨0, by omega, rfl, 0, rfl⟩
  case round =>
    obtain ⟨k, hk, rfl, m, rfl⟩ := hrel
    by_cases hlt : k < n
    · obtain ⟨b1, o1, rfl, _, q1⟩ := HA.out (by rw [HN.out]; omega)
      obtain ⟨b2, o2, rfl, _, q2⟩ := HB.out (by rw [HN.out]; omega)
      have c1 := q1 k (by rw [HN.out]; exact hlt)
      have c2 := q2 k (by rw [HN.out]; exact hlt)
      obtain ⟨s, hs⟩ : ∃ s, ps.getD k .empty = s := ⟨_, rfl⟩
      rw [hs] at c1 c2
      clear q1 q2 hs
      go_wp2
      go_quiet (fail)
      go_wp2
      go_roundw
      case rel => exact ⟨k + 1, by omega, by go_num, _, rfl⟩
      case measure => simp [intOf]; omega
    · go_wp2
      go_ret
      exact ⟨rfl, m, rfl⟩

def markS : ByteArray := ⟨#[97, 32, 109, 97, 114, 107]⟩
set_option maxRecDepth 100000 in
set_option maxHeartbeats 400000 in
theorem stood_any {w : World} (g : Nat) (bo : Option Addr) (n c c' : Nat) (ps : List ByteArray) (hn : ps.length = n) (ha : Strs w (some ⟨g, 0, none⟩) ps) (hb : Strs w bo ps) (hm : w.cell? ⟨g, n, none⟩ = some (.string markS)) (hc : n + 2 ≤ c) (hmax : n ≤ 1099511627776) :
    Calls Try.prog 44 #[.slice (some ⟨g, 0, none⟩) n c, .slice bo n c'] w fun e w' => e = .returned (.bool true) ∧ ∃ m, w' = w.drewN m := by
  have C := Lib.hid (sameTexts_any (some ⟨g, 0, none⟩) bo n c c' ps hn ha hb hmax)
  unfold markS at hm
  clear ha hb hn
  go_enter Try.func44, Try.ntmps44
  go_wp2_with (go_at_call 69; refine C.out.mono ?_; rintro e w' ⟨rfl, m, rfl⟩)
  go_ret
  exact ⟨rfl, _, rfl⟩

set_option maxRecDepth 100000 in
set_option maxHeartbeats 2000000 in
theorem texts_any {w : World} (ao : Option Addr) (n c : Nat) (ps : List ByteArray) (hn : ps.length = n) (hl : Strs w ao ps) (hmax : n ≤ 1099511627776) :
    Calls Try.prog 41 #[.slice ao n c] w fun e w' => e = .returned (.slice (some ⟨w.heap.size, 0, none⟩) n (n + 2)) ∧ Blk w' w.heap.size 9 (ps.map Value.string ++ [Value.string markS, Value.string .empty]).toArray ∧ Below w.heap.size w w' := by
  have hmk := run_make_row' (P := Try.prog) 26 9 (.string .empty) 16 Try.underlying26 infoStr rfl .i64 .i64 (n + 2) (by omega) (by omega)
  simp only [show ((n + 2 : Nat) : Int) = (n : Int) + 2 by omega] at hmk
  have hblk : ∀ w : World, Blk (w.alloc (.cells (madeCells #[.string .empty] (n + 2)) 9)) w.heap.size 9 (List.replicate (n + 2) (Value.string .empty)).toArray := fun w => by
    have e : madeCells #[Value.string .empty] (n + 2) = (List.replicate (n + 2) (Value.string .empty)).toArray := by
      apply Array.ext
      · simp [size_madeCells]
      · intro i h1 h2; simp [madeCells, Nat.mod_one]
    rw [← e]; exact Blk.new
  have HB := Lib.hid hblk
  obtain ⟨cs, hcs⟩ : ∃ cs, ps.map Value.string = cs := ⟨_, rfl⟩
  have HCL := Lib.hid (show cs.length = n by rw [← hcs]; simpa using hn)
  have HC := Lib.hid hcs
  have H1 := Lib.hid (show ∀ v ∈ cs, v.oneCell' = true by rw [← hcs]; intro v hv; simp only [List.mem_map] at hv; obtain ⟨x, _, rfl⟩ := hv; rfl)
  have HP := Lib.hid (show 0 < cs.length → ∃ ad, ao = some ad ∧ ∀ j v, cs[j]? = some v → (w.alloc (.cells (madeCells #[.string .empty] (n + 2)) 9)).cell? (ad.add j) = some v by
    intro h0
    rw [HCL.out] at h0
    obtain ⟨b, off, rfl, hb, hcells⟩ := hl (by omega)
    refine ⟨_, rfl, fun j v hj => ?_⟩
    rw [add0, World.cell?_alloc_lt _ _ _ hb]
    rw [← hcs] at hj
    have hjl : j < ps.length := by have := (List.getElem?_eq_some_iff.1 hj).1; simpa using this
    rw [hcells j hjl]
    rw [← hj]; simp [List.getD, hjl])
  have HSP : splice (List.replicate (n + 2) (Value.string .empty)) 0 cs = cs ++ [Value.string .empty, Value.string .empty] := by
    have hl := HCL.out
    unfold splice
    rw [List.take_zero, List.nil_append, Nat.zero_add, hl, List.drop_replicate, show n + 2 - n = 2 by omega]
    rfl
  have HQ := Lib.hid (show ∀ w2 : World, w2.heap[w.heap.size]? = some (.cells (splice (List.replicate (n + 2) (Value.string .empty)) 0 cs).toArray 9 (0, 0)) → Blk w2 w.heap.size 9 (cs ++ [Value.string .empty, Value.string .empty]).toArray from fun w2 h => by rw [HSP] at h; exact h)
  have HZ := Lib.hid (show (cs ++ [Value.string .empty, Value.string .empty]).toArray[n]? = some (.string .empty) by rw [← HCL.out]; simp)
  clear hl hn hblk hcs HSP
  go_enter Try.func41, Try.ntmps41
  go_wp2_with (first | (refine wpList_copy_splice (o := ⟨some 10, _, _, _, _, _⟩) rfl (.tmp 8) (.tmp 9) 26 26 rfl 9 Try.underlying26 size9 (some ⟨w.heap.size, 0, none⟩) ao (n + 2) (n + 2) n c rfl rfl w.heap.size 0 (List.replicate (n + 2) (Value.string .empty)) 9 (HB.out w) cs (by rw [HCL.out]; show n = min n (n + 2); omega) (fun h0 => ⟨rfl, HP.out h0⟩) (by rw [HCL.out]; simp) H1.out w.heap.size w ((Below.refl _ _).alloc (Nat.le_refl _) _) (Nat.le_refl _) ?_; intro w2 HG2 hB2; have HB2 := Lib.hid hB2; clear hB2; have hq := HQ.out w2 HG2.out; have z0 := Blk.cell hq HZ.out; have z1 : w2.frozen? ⟨w.heap.size, n, none⟩ = false := Blk.free hq; clear hq))
  go_ret
  refine ⟨rfl, ?_, HB2.out.setCell (Nat.le_refl _) _⟩
  have h2 := HQ.out w2 HG2.out
  have h3 := h2.set (i := n) (v := .string markS)
  have e : (cs ++ [Value.string .empty, Value.string .empty]).toArray.setIfInBounds n (.string markS) = (ps.map Value.string ++ [Value.string markS, Value.string .empty]).toArray := by
    rw [HC.out]
    have hl := HCL.out
    subst hl
    simp
  rw [e] at h3; exact h3

/-- Two lists of the same hits, each where it lies. -/
theorem hcs_get (hs : List (Int × Nat)) (i : Nat) (hi : i < hs.length) : (hcs hs)[i * 2]? = some (.int .i64 (hs.getD i (0, 0)).1) ∧ (hcs hs)[i * 2 + 1]? = some (.int .i64 ((hs.getD i (0, 0)).2 : Int)) := by
  induction hs generalizing i with
  | nil => simp at hi
  | cons x l ih =>
    cases i with
    | zero => simp [hcs]
    | succ i =>
      obtain ⟨h1, h2⟩ := ih i (by simpa using hi)
      have e : hcs (x :: l) = .int .i64 x.1 :: .int .i64 (x.2 : Int) :: hcs l := rfl
      rw [e, show (i + 1) * 2 = i * 2 + 1 + 1 by omega]
      simpa using ⟨h1, h2⟩
theorem hcs_len (hs : List (Int × Nat)) : (hcs hs).length = hs.length * 2 := by
  induction hs with
  | nil => rfl
  | cons x l ih => have e : hcs (x :: l) = .int .i64 x.1 :: .int .i64 (x.2 : Int) :: hcs l := rfl; rw [e]; simp [ih]; omega
set_option maxRecDepth 100000 in
set_option maxHeartbeats 400000 in
theorem sameHits_rows {w : World} {b1 b2 N : Nat} {ao bo : Option Addr} {c c' : Nat} {hs : List (Int × Nat)} (hN : hs.length = N) (ha : w.ownsRow b1 44 2 (.slice ao N c) N (hcs hs)) (hb : w.ownsRow b2 44 2 (.slice bo N c') N (hcs hs)) (hmax : N ≤ 1099511627776) :
    Calls Try.prog 16 #[.slice ao N c, .slice bo N c'] w fun e w' => e = .returned (.bool true) ∧ ∃ m, w' = w.drewN m := by
  have HA := Lib.hid ha
  have HB := Lib.hid hb
  have HN := Lib.hid hN
  clear ha hb hN
  go_enter Try.func16, Try.ntmps16
  go_wp2
  go_loopw [5] (fun i wr => ∃ k : Nat, k ≤ N ∧ i = .int .i64 k ∧ ∃ m, wr = w.drewN m) (fun i _ => N - (intOf i).toNat)
  case atStart => exact ⟨0, by omega, rfl, 0, rfl⟩
  case round =>
    obtain ⟨k, hk, rfl, m, rfl⟩ := hrel
    by_cases hlt : k < N
    · obtain ⟨g1, rfl⟩ := own_some HA.out (by omega)
      obtain ⟨g2, rfl⟩ := own_some HB.out (by omega)
      obtain ⟨d0, d1⟩ := hcs_get hs k (by rw [HN.out]; exact hlt)
      have c0 := ((row_cells HA.out).2.2.2.2.2 _ _ d0).1
      have c1 := ((row_cells HA.out).2.2.2.2.2 _ _ d1).1
      have c2 := ((row_cells HB.out).2.2.2.2.2 _ _ d0).1
      have c3 := ((row_cells HB.out).2.2.2.2.2 _ _ d1).1
      clear d0 d1
      go_wp2
      go_quiet (fail)
      go_wp2
      go_roundw
      case rel => exact ⟨k + 1, by omega, by go_num, _, rfl⟩
      case measure => simp [intOf]; omega
    · go_wp2
      go_ret
      exact ⟨rfl, m, rfl⟩
end Go.Proofs.Ythkaicbkcaiffaa
